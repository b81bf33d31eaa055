/- Texts that the law's proof stands on: V18, V19, V28, V29. -/
import Derived.Test.YtjbjgddfflbiaaaDoorB6
import Derived.Test.YtjbjgddfflbiaaaDoorB4
import Derived.Test.YtjbjgddfflbiaaaDoorRows
import Derived.Test.YtjbjgddfflbiaaaDoorCards
import Derived.Test.YtjbjgddfflbiaaaDoorTie
import Derived.WalkKit
import Derived.ProofKit
import Derived.OpenShut
import Derived.Deep.DeepHandedRow
import Derived.Lib.LaidTab
import Derived.Lib.ItoaNum
import Derived.Lib.AppendIntMem
set_option linter.unusedVariables false
set_option linter.unusedSimpArgs false
set_option maxRecDepth 100000
set_option maxHeartbeats 16000000
namespace Go.Proofs.YtjbjgddfflbiaaaDoor
open Go Go.RowKit Am

def sumMin : List ByteArray → Nat
  | [] => 0
  | p :: l => min p.size 5000 + sumMin l
theorem sumMin_app : ∀ a b, sumMin (a ++ b) = sumMin a + sumMin b
  | [], b => by simp [sumMin]
  | p :: a, b => by rw [List.cons_append, sumMin, sumMin, sumMin_app a b]; omega
theorem sumMin_succ {ps : List ByteArray} {i : Nat} (h : i < ps.length) : sumMin (ps.take (i + 1)) = sumMin (ps.take i) + min ps[i].size 5000 := by
  rw [List.take_succ_eq_append_getElem h, sumMin_app]; simp [sumMin]
theorem sumMin_le : ∀ l, sumMin l ≤ l.length * 5000
  | [] => by simp [sumMin]
  | p :: l => by have := sumMin_le l; rw [sumMin, List.length_cons]; omega
theorem cat_cons (p : ByteArray) (l : List ByteArray) : (cat (p :: l)).size = p.size + (cat l).size := by
  have h : cat (p :: l) = cat [p] ++ cat l := by rw [← cat_app]; rfl
  rw [cat_size, h, ba_app, List.length_append, cat_one]; rfl
theorem sumMin_small : ∀ l, sumMin l ≤ 1000 → (cat l).size ≤ 1000 ∧ sumMin l = (cat l).size
  | [], _ => ⟨by decide, rfl⟩
  | p :: l, h => by
    rw [sumMin] at h
    obtain ⟨h1, h2⟩ := sumMin_small l (by omega)
    rw [cat_cons, sumMin]
    omega
def allF (ps : List ByteArray) : Nat := ps.length + sumMin ps
def allS : Fspec := fun _ ds r => ∃ ps : List ByteArray, ps.length ≤ 1048576 ∧ ds = [.sl (ps.map encS)] ∧ r = .s (.int .i64 (allF ps))
theorem all_sound {plain : TypeId → Bool} {Γ : FuncId → Option Fspec} {Δ : FuncId → Option Pt} (hE : EnvOk ⟨Tryd.prog, plain, Γ, Δ, fun _ => none, 0⟩) : Sound Tryd.prog 9 allS := by
  refine sound_of_awp hE Tryd.func9 rfl (by kernel_rfl) ?_
  rintro Φ ds r ⟨ps, hp, rfl, rfl⟩
  refine ⟨by simp [Tryd.f9], ?_⟩
  unfold st0
  refine W.out (E := ⟨Tryd.prog, plain, Γ, Δ, Φ, _⟩) ?_
  have hre := encS_rows ps
  refine go trivial ?_
  have c0 : ps.length + sumMin (ps.take 0) = ps.length := rfl
  refine x_loop (fun σ => ∃ (i : Nat), σ.t 0 = .sl (ps.map encS) ∧ σ.t 3 = .s (.int .i64 (ps.length + sumMin (ps.take i) : Nat)) ∧ σ.t 4 = .s (.int .i64 i) ∧ i ≤ ps.length) (fun σ => ps.length - ix (σ.t 4)) ⟨0, (by first | assumption | exact sxa trivial), (by first | assumption | exact sxa trivial), (by first | assumption | exact sxa trivial), (by first | rfl | omega | assumption | (simp [*]; done))⟩ ?_
  rintro t h n ⟨i, h0, h3, h4, hf0⟩
  simp only at h0 h3 h4
  refine go (And.intro h0 (And.intro h3 h4)) ?_
  refine x_condP (sv (And.intro h0 (And.intro h3 h4))) (fun hc => ?_) (fun hc => ?_)
  · have hi : i < ps.length := by omega
    have hsu := sumMin_succ hi
    have hsl := sumMin_le (ps.take i)
    have htl : (ps.take i).length ≤ ps.length := by simp; omega
    generalize hmm : ps[i] = p at *
    have hmn : (if (5000 : Int) < (p.size : Int) then (5000 : Int) else (p.size : Int)) = ((min p.size 5000 : Nat) : Int) := by split <;> omega
    have hm5 : min p.size 5000 ≤ 5000 := by omega
    have hadd : ((ps.length + sumMin (ps.take i) : Nat) : Int) + ((min p.size 5000 : Nat) : Int) = ((ps.length + sumMin (ps.take (i + 1)) : Nat) : Int) := by omega
    generalize min p.size 5000 = mp at *
    clear hsu
    refine go (And.intro h0 (And.intro h3 (And.intro h4 (And.intro hre (And.intro hmm (And.intro hmn hadd)))))) ?_
    (refine ⟨⟨i + 1, ?_, ?_, ?_, ?_⟩, ?_⟩ <;> (first | omega | (dsimp only; omega) | (omega) | exact sxa (And.intro @cast_succ hadd) | exact soa trivial))
  · have ei : i = ps.length := by omega
    subst ei
    rw [List.take_length] at h3
    refine go (And.intro h0 h3) ?_
    refine x_done (x_out (sr (And.intro @Tryd.f9.eq_1 @allF.eq_1)) (by simp) (by simp) rfl)
def awS : Fspec := fun _ ds r => ds = [] ∧ r = .s (.bool true)
theorem aw_0 : hexB (digest (cat [])) = ⟨#[97, 55, 102, 102, 99, 54, 102, 56, 98, 102, 49, 101, 100, 55, 54, 54, 53, 49, 99, 49, 52, 55, 53, 54, 97, 48, 54, 49, 100, 54, 54, 50, 102, 53, 56, 48, 102, 102, 52, 100, 101, 52, 51, 98, 52, 57, 102, 97, 56, 50, 100, 56, 48, 97, 52, 98, 56, 48, 102, 56, 52, 51, 52, 97]⟩ := by
  have h : cat [] = ⟨#[]⟩ := rfl
  rw [h, evalB_eq _ pl0 pad_0 rfl, eval_0]
  rfl
theorem aw_3 : hexB (digest (cat [⟨#[97]⟩, ⟨#[98, 99]⟩])) = ⟨#[51, 97, 57, 56, 53, 100, 97, 55, 52, 102, 101, 50, 50, 53, 98, 50, 48, 52, 53, 99, 49, 55, 50, 100, 54, 98, 100, 51, 57, 48, 98, 100, 56, 53, 53, 102, 48, 56, 54, 101, 51, 101, 57, 100, 53, 50, 53, 98, 52, 54, 98, 102, 101, 50, 52, 53, 49, 49, 52, 51, 49, 53, 51, 50]⟩ := by
  have h : cat [⟨#[97]⟩, ⟨#[98, 99]⟩] = ⟨#[97, 98, 99]⟩ := rfl
  rw [h, evalB_eq _ pl3 pad_3 rfl, eval_3]
  rfl
theorem dig_size (s : ByteArray) : (digest s).size = 32 := by
  show (outL _).length = 32
  simp [outL]
theorem awake_sound {plain : TypeId → Bool} {Γ : FuncId → Option Fspec} {Δ : FuncId → Option Pt} (hE : EnvOk ⟨Tryd.prog, plain, Γ, Δ, fun _ => none, 0⟩) (g_sum : Γ 11 = some sumS) (g_hex : Γ 14 = some hexS) : Sound Tryd.prog 10 awS := by
  refine sound_of_awp hE Tryd.func10 rfl (by kernel_rfl) ?_
  rintro Φ ds r ⟨rfl, rfl⟩
  refine ⟨by simp [Tryd.f10], ?_⟩
  unfold st0
  refine W.out (E := ⟨Tryd.prog, plain, Γ, Δ, Φ, _⟩) ?_
  refine go trivial ?_
  refine x_callN rfl rfl rfl rfl (sv trivial) g_sum (sv trivial) (se trivial) ⟨[], by simp, by decide, rfl, rfl⟩ rfl ?_
  refine go trivial ?_
  refine x_callN rfl rfl rfl rfl (sv trivial) g_hex (sv trivial) (se trivial) ⟨digest (cat []), by rw [dig_size]; omega, rfl, rfl⟩ rfl ?_
  rw [aw_0]
  refine go trivial ?_
  refine x_callN rfl rfl rfl rfl (sv trivial) g_sum (sv trivial) (se trivial) ⟨[⟨#[97]⟩, ⟨#[98, 99]⟩], by simp, by decide, rfl, rfl⟩ rfl ?_
  refine go trivial ?_
  refine x_callN rfl rfl rfl rfl (sv trivial) g_hex (sv trivial) (se trivial) ⟨digest (cat [⟨#[97]⟩, ⟨#[98, 99]⟩]), by rw [dig_size]; omega, rfl, rfl⟩ rfl ?_
  rw [aw_3]
  refine go trivial ?_
  refine x_done (x_out (sr @Tryd.f10.eq_1) (by simp) (by simp) rfl)
def digLawS : Fspec := fun _ ds r => ∃ ps : List ByteArray, ps.length ≤ 1048576 ∧ ds = [.sl (ps.map encS)] ∧ r = .s (.bool true)
theorem digLaw_sound {plain : TypeId → Bool} {Γ : FuncId → Option Fspec} {Δ : FuncId → Option Pt} (hE : EnvOk ⟨Tryd.prog, plain, Γ, Δ, fun _ => none, 0⟩) (g_all : Γ 9 = some allS) (g_sum : Γ 11 = some sumS) (g_rsum : Γ 12 = some sumS) (g_aw : Γ 10 = some awS) : Sound Tryd.prog 3 digLawS := by
  refine sound_of_awp hE Tryd.func3 rfl (by kernel_rfl) ?_
  rintro Φ ds r ⟨ps, hp, rfl, rfl⟩
  refine ⟨by simp [Tryd.f3], ?_⟩
  unfold st0
  refine W.out (E := ⟨Tryd.prog, plain, Γ, Δ, Φ, _⟩) ?_
  refine go trivial ?_
  refine x_callN rfl rfl rfl rfl (sv trivial) g_all (sv trivial) (se trivial) ⟨ps, hp, rfl, rfl⟩ rfl ?_
  refine go trivial ?_
  refine x_condP (sv trivial) (fun hc => ?_) (fun hc => ?_)
  · refine go trivial ?_
    refine x_callN rfl rfl rfl rfl (sv trivial) g_aw (sv trivial) (se trivial) ⟨rfl, rfl⟩ rfl ?_
    refine go trivial ?_
    refine x_done (x_out (sr @Tryd.f3.eq_1) (by simp) (by simp) rfl)
  · have hs : sumMin ps ≤ 1000 := by simp only [allF] at hc; omega
    have hcs := (sumMin_small ps hs).1
    refine go trivial ?_
    refine x_callN rfl rfl rfl rfl (sv trivial) g_sum (sv trivial) (se trivial) ⟨ps, hp, by omega, rfl, rfl⟩ rfl ?_
    refine go trivial ?_
    refine x_callN rfl rfl rfl rfl (sv trivial) g_rsum (sv trivial) (se trivial) ⟨ps, hp, by omega, rfl, rfl⟩ rfl ?_
    refine go trivial ?_
    refine x_callN rfl rfl rfl rfl (sv trivial) g_aw (sv trivial) (se trivial) ⟨rfl, rfl⟩ rfl ?_
    refine go trivial ?_
    refine x_done (x_out (sr @Tryd.f3.eq_1) (by simp) (by simp) rfl)
end Go.Proofs.YtjbjgddfflbiaaaDoor

set_option linter.unusedVariables false
set_option linter.unusedSimpArgs false
set_option maxRecDepth 100000
namespace Go.Proofs.YtjbjgddfflbiaaaDoor
open Go Go.RowKit Am

def plainT (_ : TypeId) : Bool := false
theorem plain_ok : PlainOk Tryd.prog plainT := ⟨(fun T h => Bool.noConfusion h), (fun T h => Bool.noConfusion h)⟩
end Go.Proofs.YtjbjgddfflbiaaaDoor

set_option linter.unusedVariables false
set_option maxRecDepth 100000
namespace Go.Proofs.YtjbjgddfflbiaaaDoor
open Go Go.RowKit Am

theorem env0 : EnvOk ⟨Tryd.prog, plainT, (fun _ => none), (fun _ => none), fun _ => none, 0⟩ := ⟨plain_ok, (fun _ _ h => by cases h), (fun _ _ h => by cases h), by kernel_rfl, (fun _ _ h => by cases h)⟩
def ga0 : FuncId → Option Fspec := fun _ => none
def de0 : FuncId → Option Pt := fun _ => none
theorem ok0_0 : EnvOk ⟨Tryd.prog, plainT, ga0, de0, fun _ => none, 0⟩ := env0
def ga1 : FuncId → Option Fspec := upd ga0 29 (some rotS)
theorem ok1_0 : EnvOk ⟨Tryd.prog, plainT, ga1, de0, fun _ => none, 0⟩ := EnvOk.add ok0_0 (by first | exact rot_sound ok0_0 | exact rot_sound ok0_0 rfl | exact rot_sound ok0_0 rfl rfl | exact rot_sound ok0_0 rfl rfl rfl | exact rot_sound ok0_0 rfl rfl rfl rfl | exact rot_sound ok0_0 rfl rfl rfl rfl rfl | exact rot_sound ok0_0 rfl rfl rfl rfl rfl rfl | exact rot_sound ok0_0 rfl rfl rfl rfl rfl rfl rfl | exact rot_sound ok0_0 rfl rfl rfl rfl rfl rfl rfl rfl | exact rot_sound ok0_0 rfl rfl rfl rfl rfl rfl rfl rfl rfl | exact rot_sound ok0_0 rfl rfl rfl rfl rfl rfl rfl rfl rfl rfl | exact rot_sound ok0_0 rfl rfl rfl rfl rfl rfl rfl rfl rfl rfl rfl | exact rot_sound ok0_0 rfl rfl rfl rfl rfl rfl rfl rfl rfl rfl rfl rfl) (by kernel_rfl)
def ga2 : FuncId → Option Fspec := upd ga1 31 (some rotS)
theorem ok2_0 : EnvOk ⟨Tryd.prog, plainT, ga2, de0, fun _ => none, 0⟩ := EnvOk.add ok1_0 (by first | exact turned_sound ok1_0 | exact turned_sound ok1_0 rfl | exact turned_sound ok1_0 rfl rfl | exact turned_sound ok1_0 rfl rfl rfl | exact turned_sound ok1_0 rfl rfl rfl rfl | exact turned_sound ok1_0 rfl rfl rfl rfl rfl | exact turned_sound ok1_0 rfl rfl rfl rfl rfl rfl | exact turned_sound ok1_0 rfl rfl rfl rfl rfl rfl rfl | exact turned_sound ok1_0 rfl rfl rfl rfl rfl rfl rfl rfl | exact turned_sound ok1_0 rfl rfl rfl rfl rfl rfl rfl rfl rfl | exact turned_sound ok1_0 rfl rfl rfl rfl rfl rfl rfl rfl rfl rfl | exact turned_sound ok1_0 rfl rfl rfl rfl rfl rfl rfl rfl rfl rfl rfl | exact turned_sound ok1_0 rfl rfl rfl rfl rfl rfl rfl rfl rfl rfl rfl rfl) (by kernel_rfl)
def ga3 : FuncId → Option Fspec := upd ga2 27 (some eachS)
theorem ok3_0 : EnvOk ⟨Tryd.prog, plainT, ga3, de0, fun _ => none, 0⟩ := EnvOk.add ok2_0 (by first | exact each_sound ok2_0 | exact each_sound ok2_0 rfl | exact each_sound ok2_0 rfl rfl | exact each_sound ok2_0 rfl rfl rfl | exact each_sound ok2_0 rfl rfl rfl rfl | exact each_sound ok2_0 rfl rfl rfl rfl rfl | exact each_sound ok2_0 rfl rfl rfl rfl rfl rfl | exact each_sound ok2_0 rfl rfl rfl rfl rfl rfl rfl | exact each_sound ok2_0 rfl rfl rfl rfl rfl rfl rfl rfl | exact each_sound ok2_0 rfl rfl rfl rfl rfl rfl rfl rfl rfl | exact each_sound ok2_0 rfl rfl rfl rfl rfl rfl rfl rfl rfl rfl | exact each_sound ok2_0 rfl rfl rfl rfl rfl rfl rfl rfl rfl rfl rfl | exact each_sound ok2_0 rfl rfl rfl rfl rfl rfl rfl rfl rfl rfl rfl rfl) (by kernel_rfl)
def ga4 : FuncId → Option Fspec := upd ga3 28 (some rd1S)
theorem ok4_0 : EnvOk ⟨Tryd.prog, plainT, ga4, de0, fun _ => none, 0⟩ := EnvOk.add ok3_0 (by first | exact rd1_sound ok3_0 | exact rd1_sound ok3_0 rfl | exact rd1_sound ok3_0 rfl rfl | exact rd1_sound ok3_0 rfl rfl rfl | exact rd1_sound ok3_0 rfl rfl rfl rfl | exact rd1_sound ok3_0 rfl rfl rfl rfl rfl | exact rd1_sound ok3_0 rfl rfl rfl rfl rfl rfl | exact rd1_sound ok3_0 rfl rfl rfl rfl rfl rfl rfl | exact rd1_sound ok3_0 rfl rfl rfl rfl rfl rfl rfl rfl | exact rd1_sound ok3_0 rfl rfl rfl rfl rfl rfl rfl rfl rfl | exact rd1_sound ok3_0 rfl rfl rfl rfl rfl rfl rfl rfl rfl rfl | exact rd1_sound ok3_0 rfl rfl rfl rfl rfl rfl rfl rfl rfl rfl rfl | exact rd1_sound ok3_0 rfl rfl rfl rfl rfl rfl rfl rfl rfl rfl rfl rfl) (by kernel_rfl)
def ga5 : FuncId → Option Fspec := upd ga4 30 (some rd2S)
theorem ok5_0 : EnvOk ⟨Tryd.prog, plainT, ga5, de0, fun _ => none, 0⟩ := EnvOk.add ok4_0 (by first | exact rd2_sound ok4_0 | exact rd2_sound ok4_0 rfl | exact rd2_sound ok4_0 rfl rfl | exact rd2_sound ok4_0 rfl rfl rfl | exact rd2_sound ok4_0 rfl rfl rfl rfl | exact rd2_sound ok4_0 rfl rfl rfl rfl rfl | exact rd2_sound ok4_0 rfl rfl rfl rfl rfl rfl | exact rd2_sound ok4_0 rfl rfl rfl rfl rfl rfl rfl | exact rd2_sound ok4_0 rfl rfl rfl rfl rfl rfl rfl rfl | exact rd2_sound ok4_0 rfl rfl rfl rfl rfl rfl rfl rfl rfl | exact rd2_sound ok4_0 rfl rfl rfl rfl rfl rfl rfl rfl rfl rfl | exact rd2_sound ok4_0 rfl rfl rfl rfl rfl rfl rfl rfl rfl rfl rfl | exact rd2_sound ok4_0 rfl rfl rfl rfl rfl rfl rfl rfl rfl rfl rfl rfl) (by kernel_rfl)
def ga6 : FuncId → Option Fspec := upd ga5 19 (some roundS)
theorem ok6_0 : EnvOk ⟨Tryd.prog, plainT, ga6, de0, fun _ => none, 0⟩ := EnvOk.add ok5_0 (by first | exact round_sound ok5_0 | exact round_sound ok5_0 rfl | exact round_sound ok5_0 rfl rfl | exact round_sound ok5_0 rfl rfl rfl | exact round_sound ok5_0 rfl rfl rfl rfl | exact round_sound ok5_0 rfl rfl rfl rfl rfl | exact round_sound ok5_0 rfl rfl rfl rfl rfl rfl | exact round_sound ok5_0 rfl rfl rfl rfl rfl rfl rfl | exact round_sound ok5_0 rfl rfl rfl rfl rfl rfl rfl rfl | exact round_sound ok5_0 rfl rfl rfl rfl rfl rfl rfl rfl rfl | exact round_sound ok5_0 rfl rfl rfl rfl rfl rfl rfl rfl rfl rfl | exact round_sound ok5_0 rfl rfl rfl rfl rfl rfl rfl rfl rfl rfl rfl | exact round_sound ok5_0 rfl rfl rfl rfl rfl rfl rfl rfl rfl rfl rfl rfl) (by kernel_rfl)
def ga7 : FuncId → Option Fspec := upd ga6 18 (some turnsS)
theorem ok7_0 : EnvOk ⟨Tryd.prog, plainT, ga7, de0, fun _ => none, 0⟩ := EnvOk.add ok6_0 (by first | exact turns_sound ok6_0 | exact turns_sound ok6_0 rfl | exact turns_sound ok6_0 rfl rfl | exact turns_sound ok6_0 rfl rfl rfl | exact turns_sound ok6_0 rfl rfl rfl rfl | exact turns_sound ok6_0 rfl rfl rfl rfl rfl | exact turns_sound ok6_0 rfl rfl rfl rfl rfl rfl | exact turns_sound ok6_0 rfl rfl rfl rfl rfl rfl rfl | exact turns_sound ok6_0 rfl rfl rfl rfl rfl rfl rfl rfl | exact turns_sound ok6_0 rfl rfl rfl rfl rfl rfl rfl rfl rfl | exact turns_sound ok6_0 rfl rfl rfl rfl rfl rfl rfl rfl rfl rfl | exact turns_sound ok6_0 rfl rfl rfl rfl rfl rfl rfl rfl rfl rfl rfl | exact turns_sound ok6_0 rfl rfl rfl rfl rfl rfl rfl rfl rfl rfl rfl rfl) (by kernel_rfl)
def ga8 : FuncId → Option Fspec := upd ga7 20 (some turnsS)
theorem ok8_0 : EnvOk ⟨Tryd.prog, plainT, ga8, de0, fun _ => none, 0⟩ := EnvOk.add ok7_0 (by first | exact rturns_sound ok7_0 | exact rturns_sound ok7_0 rfl | exact rturns_sound ok7_0 rfl rfl | exact rturns_sound ok7_0 rfl rfl rfl | exact rturns_sound ok7_0 rfl rfl rfl rfl | exact rturns_sound ok7_0 rfl rfl rfl rfl rfl | exact rturns_sound ok7_0 rfl rfl rfl rfl rfl rfl | exact rturns_sound ok7_0 rfl rfl rfl rfl rfl rfl rfl | exact rturns_sound ok7_0 rfl rfl rfl rfl rfl rfl rfl rfl | exact rturns_sound ok7_0 rfl rfl rfl rfl rfl rfl rfl rfl rfl | exact rturns_sound ok7_0 rfl rfl rfl rfl rfl rfl rfl rfl rfl rfl | exact rturns_sound ok7_0 rfl rfl rfl rfl rfl rfl rfl rfl rfl rfl rfl | exact rturns_sound ok7_0 rfl rfl rfl rfl rfl rfl rfl rfl rfl rfl rfl rfl) (by kernel_rfl)
def ga9 : FuncId → Option Fspec := upd ga8 22 (some roundS)
theorem ok9_0 : EnvOk ⟨Tryd.prog, plainT, ga9, de0, fun _ => none, 0⟩ := EnvOk.add ok8_0 (by first | exact rround_sound ok8_0 | exact rround_sound ok8_0 rfl | exact rround_sound ok8_0 rfl rfl | exact rround_sound ok8_0 rfl rfl rfl | exact rround_sound ok8_0 rfl rfl rfl rfl | exact rround_sound ok8_0 rfl rfl rfl rfl rfl | exact rround_sound ok8_0 rfl rfl rfl rfl rfl rfl | exact rround_sound ok8_0 rfl rfl rfl rfl rfl rfl rfl | exact rround_sound ok8_0 rfl rfl rfl rfl rfl rfl rfl rfl | exact rround_sound ok8_0 rfl rfl rfl rfl rfl rfl rfl rfl rfl | exact rround_sound ok8_0 rfl rfl rfl rfl rfl rfl rfl rfl rfl rfl | exact rround_sound ok8_0 rfl rfl rfl rfl rfl rfl rfl rfl rfl rfl rfl | exact rround_sound ok8_0 rfl rfl rfl rfl rfl rfl rfl rfl rfl rfl rfl rfl) (by kernel_rfl)
def ga10 : FuncId → Option Fspec := upd ga9 17 (some joinS)
theorem ok10_0 : EnvOk ⟨Tryd.prog, plainT, ga10, de0, fun _ => none, 0⟩ := EnvOk.add ok9_0 (join_sound) (by kernel_rfl)
def ga11 : FuncId → Option Fspec := upd ga10 11 (some sumS)
theorem ok11_0 : EnvOk ⟨Tryd.prog, plainT, ga11, de0, fun _ => none, 0⟩ := EnvOk.add ok10_0 (by first | exact sum_sound ok10_0 | exact sum_sound ok10_0 rfl | exact sum_sound ok10_0 rfl rfl | exact sum_sound ok10_0 rfl rfl rfl | exact sum_sound ok10_0 rfl rfl rfl rfl | exact sum_sound ok10_0 rfl rfl rfl rfl rfl | exact sum_sound ok10_0 rfl rfl rfl rfl rfl rfl | exact sum_sound ok10_0 rfl rfl rfl rfl rfl rfl rfl | exact sum_sound ok10_0 rfl rfl rfl rfl rfl rfl rfl rfl | exact sum_sound ok10_0 rfl rfl rfl rfl rfl rfl rfl rfl rfl | exact sum_sound ok10_0 rfl rfl rfl rfl rfl rfl rfl rfl rfl rfl | exact sum_sound ok10_0 rfl rfl rfl rfl rfl rfl rfl rfl rfl rfl rfl | exact sum_sound ok10_0 rfl rfl rfl rfl rfl rfl rfl rfl rfl rfl rfl rfl) (by kernel_rfl)
def ga12 : FuncId → Option Fspec := upd ga11 21 (some rwordsS)
theorem ok12_0 : EnvOk ⟨Tryd.prog, plainT, ga12, de0, fun _ => none, 0⟩ := EnvOk.add ok11_0 (by first | exact rwords_sound ok11_0 | exact rwords_sound ok11_0 rfl | exact rwords_sound ok11_0 rfl rfl | exact rwords_sound ok11_0 rfl rfl rfl | exact rwords_sound ok11_0 rfl rfl rfl rfl | exact rwords_sound ok11_0 rfl rfl rfl rfl rfl | exact rwords_sound ok11_0 rfl rfl rfl rfl rfl rfl | exact rwords_sound ok11_0 rfl rfl rfl rfl rfl rfl rfl | exact rwords_sound ok11_0 rfl rfl rfl rfl rfl rfl rfl rfl | exact rwords_sound ok11_0 rfl rfl rfl rfl rfl rfl rfl rfl rfl | exact rwords_sound ok11_0 rfl rfl rfl rfl rfl rfl rfl rfl rfl rfl | exact rwords_sound ok11_0 rfl rfl rfl rfl rfl rfl rfl rfl rfl rfl rfl | exact rwords_sound ok11_0 rfl rfl rfl rfl rfl rfl rfl rfl rfl rfl rfl rfl) (by kernel_rfl)
def ga13 : FuncId → Option Fspec := upd ga12 13 (some oneS)
theorem ok13_0 : EnvOk ⟨Tryd.prog, plainT, ga13, de0, fun _ => none, 0⟩ := EnvOk.add ok12_0 (by first | exact one_sound ok12_0 | exact one_sound ok12_0 rfl | exact one_sound ok12_0 rfl rfl | exact one_sound ok12_0 rfl rfl rfl | exact one_sound ok12_0 rfl rfl rfl rfl | exact one_sound ok12_0 rfl rfl rfl rfl rfl | exact one_sound ok12_0 rfl rfl rfl rfl rfl rfl | exact one_sound ok12_0 rfl rfl rfl rfl rfl rfl rfl | exact one_sound ok12_0 rfl rfl rfl rfl rfl rfl rfl rfl | exact one_sound ok12_0 rfl rfl rfl rfl rfl rfl rfl rfl rfl | exact one_sound ok12_0 rfl rfl rfl rfl rfl rfl rfl rfl rfl rfl | exact one_sound ok12_0 rfl rfl rfl rfl rfl rfl rfl rfl rfl rfl rfl | exact one_sound ok12_0 rfl rfl rfl rfl rfl rfl rfl rfl rfl rfl rfl rfl) (by kernel_rfl)
def ga14 : FuncId → Option Fspec := upd ga13 12 (some sumS)
theorem ok14_0 : EnvOk ⟨Tryd.prog, plainT, ga14, de0, fun _ => none, 0⟩ := EnvOk.add ok13_0 (by first | exact rsum_sound ok13_0 | exact rsum_sound ok13_0 rfl | exact rsum_sound ok13_0 rfl rfl | exact rsum_sound ok13_0 rfl rfl rfl | exact rsum_sound ok13_0 rfl rfl rfl rfl | exact rsum_sound ok13_0 rfl rfl rfl rfl rfl | exact rsum_sound ok13_0 rfl rfl rfl rfl rfl rfl | exact rsum_sound ok13_0 rfl rfl rfl rfl rfl rfl rfl | exact rsum_sound ok13_0 rfl rfl rfl rfl rfl rfl rfl rfl | exact rsum_sound ok13_0 rfl rfl rfl rfl rfl rfl rfl rfl rfl | exact rsum_sound ok13_0 rfl rfl rfl rfl rfl rfl rfl rfl rfl rfl | exact rsum_sound ok13_0 rfl rfl rfl rfl rfl rfl rfl rfl rfl rfl rfl | exact rsum_sound ok13_0 rfl rfl rfl rfl rfl rfl rfl rfl rfl rfl rfl rfl) (by kernel_rfl)
def ga15 : FuncId → Option Fspec := upd ga14 14 (some hexS)
theorem ok15_0 : EnvOk ⟨Tryd.prog, plainT, ga15, de0, fun _ => none, 0⟩ := EnvOk.add ok14_0 (hex_sound) (by kernel_rfl)
def ga16 : FuncId → Option Fspec := upd ga15 15 (some hexS)
theorem ok16_0 : EnvOk ⟨Tryd.prog, plainT, ga16, de0, fun _ => none, 0⟩ := EnvOk.add ok15_0 (by first | exact rhex_sound ok15_0 | exact rhex_sound ok15_0 rfl | exact rhex_sound ok15_0 rfl rfl | exact rhex_sound ok15_0 rfl rfl rfl | exact rhex_sound ok15_0 rfl rfl rfl rfl | exact rhex_sound ok15_0 rfl rfl rfl rfl rfl | exact rhex_sound ok15_0 rfl rfl rfl rfl rfl rfl | exact rhex_sound ok15_0 rfl rfl rfl rfl rfl rfl rfl | exact rhex_sound ok15_0 rfl rfl rfl rfl rfl rfl rfl rfl | exact rhex_sound ok15_0 rfl rfl rfl rfl rfl rfl rfl rfl rfl | exact rhex_sound ok15_0 rfl rfl rfl rfl rfl rfl rfl rfl rfl rfl | exact rhex_sound ok15_0 rfl rfl rfl rfl rfl rfl rfl rfl rfl rfl rfl | exact rhex_sound ok15_0 rfl rfl rfl rfl rfl rfl rfl rfl rfl rfl rfl rfl) (by kernel_rfl)
def ga17 : FuncId → Option Fspec := upd ga16 9 (some allS)
theorem ok17_0 : EnvOk ⟨Tryd.prog, plainT, ga17, de0, fun _ => none, 0⟩ := EnvOk.add ok16_0 (by first | exact all_sound ok16_0 | exact all_sound ok16_0 rfl | exact all_sound ok16_0 rfl rfl | exact all_sound ok16_0 rfl rfl rfl | exact all_sound ok16_0 rfl rfl rfl rfl | exact all_sound ok16_0 rfl rfl rfl rfl rfl | exact all_sound ok16_0 rfl rfl rfl rfl rfl rfl | exact all_sound ok16_0 rfl rfl rfl rfl rfl rfl rfl | exact all_sound ok16_0 rfl rfl rfl rfl rfl rfl rfl rfl | exact all_sound ok16_0 rfl rfl rfl rfl rfl rfl rfl rfl rfl | exact all_sound ok16_0 rfl rfl rfl rfl rfl rfl rfl rfl rfl rfl | exact all_sound ok16_0 rfl rfl rfl rfl rfl rfl rfl rfl rfl rfl rfl | exact all_sound ok16_0 rfl rfl rfl rfl rfl rfl rfl rfl rfl rfl rfl rfl) (by kernel_rfl)
def ga18 : FuncId → Option Fspec := upd ga17 10 (some awS)
theorem ok18_0 : EnvOk ⟨Tryd.prog, plainT, ga18, de0, fun _ => none, 0⟩ := EnvOk.add ok17_0 (by first | exact awake_sound ok17_0 | exact awake_sound ok17_0 rfl | exact awake_sound ok17_0 rfl rfl | exact awake_sound ok17_0 rfl rfl rfl | exact awake_sound ok17_0 rfl rfl rfl rfl | exact awake_sound ok17_0 rfl rfl rfl rfl rfl | exact awake_sound ok17_0 rfl rfl rfl rfl rfl rfl | exact awake_sound ok17_0 rfl rfl rfl rfl rfl rfl rfl | exact awake_sound ok17_0 rfl rfl rfl rfl rfl rfl rfl rfl | exact awake_sound ok17_0 rfl rfl rfl rfl rfl rfl rfl rfl rfl | exact awake_sound ok17_0 rfl rfl rfl rfl rfl rfl rfl rfl rfl rfl | exact awake_sound ok17_0 rfl rfl rfl rfl rfl rfl rfl rfl rfl rfl rfl | exact awake_sound ok17_0 rfl rfl rfl rfl rfl rfl rfl rfl rfl rfl rfl rfl) (by kernel_rfl)
abbrev gaE := ga18
abbrev deE := de0
theorem okE : EnvOk ⟨Tryd.prog, plainT, gaE, deE, fun _ => none, 0⟩ := ok18_0
end Go.Proofs.YtjbjgddfflbiaaaDoor

set_option linter.unusedVariables false
set_option maxRecDepth 100000
namespace Go.Proofs.YtjbjgddfflbiaaaDoor
open Go Go.RowKit Am Go.ChangeShapes Go.WideShapes Go.ChangeAt

theorem bulk_pos {H : Type} (d : DataW H) : 1 ≤ Rows.uptoBulk d := by
  cases d with
  | lit l => cases l <;> simp [Rows.uptoBulk]
  | _ => simp [Rows.uptoBulk]
def bulk : Bulk where
  bk := Rows.uptoBulk
  bks := Rows.uptoBulkAll
  str := fun b => by simp only [Rows.uptoBulk]
  sl := fun e s => by simp only [Rows.uptoBulk]
  agg := fun e => by simp only [Rows.uptoBulk]
  pos := bulk_pos
  nil := by intro H; simp only [Rows.uptoBulkAll]
  cons := fun d r => by simp only [Rows.uptoBulkAll]
theorem opnStr : Opn bulk Tryd.prog 9 encStr bdStr := .str (by kernel_rfl)
theorem opnU8 : Opn bulk Tryd.prog 5 (encInt .u8) (bdInt .u8) := .int (by kernel_rfl)
theorem opnU16 : Opn bulk Tryd.prog 28 (encInt .u16) (bdInt .u16) := .int (by kernel_rfl)
theorem opnStrs : Opn bulk Tryd.prog 22 (encSl encStr) (bdSl bdStr) := Opn.slice (z := 1) Tryd.underlying22 (by kernel_rfl) (by decide) (fun _ => rfl) opnStr
theorem bdu8 {n : Int} {m : Nat} (h : bdInt .u8 n m) : 0 ≤ n ∧ n ≤ 255 := by
  unfold bdInt at h
  simp [Lit.wf, IntKind.min, IntKind.max, IntKind.bits, IntKind.signed] at h
  omega
theorem bdu16 {n : Int} {m : Nat} (h : bdInt .u16 n m) : 0 ≤ n ∧ n ≤ 65535 := by
  unfold bdInt at h
  simp [Lit.wf, IntKind.min, IntKind.max, IntKind.bits, IntKind.signed] at h
  omega
theorem g_wd : Tryd.prog.globalNamed "voussoir/sha3.words" = some 0 := by kernel_rfl
theorem g_wdT : (Tryd.prog.globals[0]?).map (·.type) = some 45 := by kernel_rfl
abbrev laidL : List (String × DataW Unit) := [("voussoir/sha3.words", Rows.laid_voussoir_sha3_words)]
theorem wd_data : (Rows.laid_voussoir_sha3_words : DataW Unit) = Lib.tabData .u64 shaWords := by kernel_rfl
theorem wdTab {W : World} (h : laidMetH Tryd.prog laidL W) : Lib.TabIs Tryd.prog W "voussoir/sha3.words" .u64 shaWords := by
  have h1 : laidMet Tryd.prog laidL W := h
  rw [laidL, wd_data] at h1
  exact Lib.tabIs_of_head (rest := []) g_wd g_wdT Tryd.underlying45 Tryd.underlying38 (by kernel_rfl) (by kernel_rfl) h1
theorem winv {W : World} (h : laidMetH Tryd.prog laidL W) : ∀ w1, Fr W w1 (fun _ => False) → WInv Tryd.prog w1 := fun w1 h1 => by
  have ht := Lib.tabBelow_of_tabIs (wdTab h) w1 h1.below
  refine ⟨trivial, fun g vs hg => ?_⟩
  unfold gtab at hg
  split at hg
  · rename_i hn
    cases hg
    rw [g_wd] at hn
    cases hn
    refine ⟨fun v hv => ?_, fun j hj => ?_⟩
    · obtain ⟨z, _, rfl⟩ := List.mem_map.1 hv
      rfl
    · have hj' : j < shaWords.length := by simpa using hj
      rw [ht.cell g_wd j hj']
      simp [List.getD_eq_getElem?_getD, hj']
  · cases hg
def tab0 : Obj → Obj
  | .cells _ t frozen => .cells (shaWords.map fun z => Value.int .u64 z).toArray t frozen
  | o => o
noncomputable def laidWorld (os : Os) : World :=
  { World.holding Tryd.prog os ⟨#[], #[], []⟩ with heap := (World.holding Tryd.prog os ⟨#[], #[], []⟩).heap.modify 0 tab0 }
theorem own : ownKnob Tryd.prog.godebug = none := by kernel_rfl
theorem laidOut : laidOutB Tryd.prog = true := by kernel_rfl
theorem strs_of {l : List ByteArray} {m : Nat} (h : bdSl bdStr l m) (hm : m ≤ 1048576) : l.length ≤ 1048576 := by have := h.1; omega
end Go.Proofs.YtjbjgddfflbiaaaDoor
