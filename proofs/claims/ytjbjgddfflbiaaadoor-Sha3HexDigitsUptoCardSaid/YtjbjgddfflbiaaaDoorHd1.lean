/- Texts that the law's proof stands on: V21. -/
import Derived.Test.YtjbjgddfflbiaaaDoorB6
set_option linter.unusedVariables false
set_option linter.unusedSimpArgs false
set_option maxRecDepth 100000
set_option maxHeartbeats 16000000
namespace Go.Proofs.YtjbjgddfflbiaaaDoor
open Go Go.RowKit Am

theorem hexD_lo : ∀ n, n < 16 → n < 10 → (Tryd.hexD n).toNat = 48 + n := by decide +kernel
theorem hexD_hi : ∀ n, n < 16 → ¬ n < 10 → (Tryd.hexD n).toNat = 87 + n := by decide +kernel
def valS : Fspec := fun _ ds r => ∃ n : Nat, n < 16 ∧ ds = [.s (.int .u8 (Tryd.hexD n).toNat)] ∧ r = .s (.int .i64 n)
theorem val_sound {plain : TypeId → Bool} {Γ : FuncId → Option Fspec} {Δ : FuncId → Option Pt} (hE : EnvOk ⟨Tryd.prog, plain, Γ, Δ, fun _ => none, 0⟩) : Sound Tryd.prog 16 valS := by
  refine sound_of_awp hE Tryd.func16 rfl (by kernel_rfl) ?_
  rintro Φ ds r ⟨n, hn, rfl, rfl⟩
  refine ⟨by simp [Tryd.f16], ?_⟩
  unfold st0
  refine W.out (E := ⟨Tryd.prog, plain, Γ, Δ, Φ, _⟩) ?_
  by_cases h : n < 10
  · rw [hexD_lo n hn h]
    have q1 : ((48 : Int) ≤ ((48 + n : Nat) : Int)) = True := eq_true (by omega)
    have q2 : (((48 + n : Nat) : Int) ≤ 57) = True := eq_true (by omega)
    have q3 : ((48 + n : Nat) : Int) - 48 = (n : Int) := by omega
    refine go (And.intro q1 (And.intro q2 q3)) ?_
    refine x_done (x_out (sr @Tryd.f16.eq_1) (by simp) (by simp) rfl)
  · rw [hexD_hi n hn h]
    have q1 : ((48 : Int) ≤ ((87 + n : Nat) : Int)) = True := eq_true (by omega)
    have q2 : (((87 + n : Nat) : Int) ≤ 57) = False := eq_false (by omega)
    have q3 : ((97 : Int) ≤ ((87 + n : Nat) : Int)) = True := eq_true (by omega)
    have q4 : (((87 + n : Nat) : Int) ≤ 102) = True := eq_true (by omega)
    have q5 : ((87 + n : Nat) : Int) - 97 = ((n - 10 : Nat) : Int) := by omega
    have q6 : ((n - 10 : Nat) : Int) + 10 = (n : Int) := by omega
    refine go (And.intro q1 (And.intro q2 (And.intro q3 (And.intro q4 (And.intro q5 q6))))) ?_
    refine x_done (x_out (sr @Tryd.f16.eq_1) (by simp) (by simp) rfl)
theorem hexB_at (s : ByteArray) {i : Nat} (h : i < s.size) : byteAt (hexB s) (2 * i) = Tryd.hexD ((byteAt s i).toNat / 16) ∧ byteAt (hexB s) (2 * i + 1) = Tryd.hexD ((byteAt s i).toNat % 16) := by
  have key : ∀ (l : List UInt8) (i : Nat), i < l.length → (Tryd.hexL l).getD (2 * i) 0 = Tryd.hexD ((l.getD i 0).toNat / 16) ∧ (Tryd.hexL l).getD (2 * i + 1) 0 = Tryd.hexD ((l.getD i 0).toNat % 16) := by
    intro l
    induction l with
    | nil => intro i h; simp at h
    | cons c l ih =>
      intro i h
      rw [show Tryd.hexL (c :: l) = Tryd.hexD (c.toNat / 16) :: Tryd.hexD (c.toNat % 16) :: Tryd.hexL l from rfl]
      cases i with
      | zero => exact ⟨rfl, rfl⟩
      | succ i =>
        have := ih i (by simpa using h)
        rw [show 2 * (i + 1) = 2 * i + 1 + 1 by omega]
        simpa using this
  exact key s.data.toList i h
def hdLawS : Fspec := fun _ ds r => ∃ s : ByteArray, s.size ≤ 1048576 ∧ ds = [.s (.string s)] ∧ r = .s (.bool true)
theorem hexB_size' (s : ByteArray) : (hexB s).size = 2 * s.size := by
  show (Tryd.hexL s.data.toList).length = _
  rw [Tryd.hexL_len]; rfl
theorem hdLaw_sound {plain : TypeId → Bool} {Γ : FuncId → Option Fspec} {Δ : FuncId → Option Pt} (hE : EnvOk ⟨Tryd.prog, plain, Γ, Δ, fun _ => none, 0⟩) (g_hex : Γ 14 = some hexS) (g_val : Γ 16 = some valS) (g_aw : Γ 10 = some awS) : Sound Tryd.prog 8 hdLawS := by
  refine sound_of_awp hE Tryd.func8 rfl (by kernel_rfl) ?_
  rintro Φ ds r ⟨s, hs, rfl, rfl⟩
  refine ⟨by simp [Tryd.f8], ?_⟩
  unfold st0
  refine W.out (E := ⟨Tryd.prog, plain, Γ, Δ, Φ, _⟩) ?_
  by_cases h1 : (300 : Int) < (s.size : Int)
  · refine go h1 ?_
    refine x_callN rfl rfl rfl rfl (sv trivial) g_aw (sv trivial) (se trivial) ⟨rfl, rfl⟩ rfl ?_
    refine go trivial ?_
    refine x_done (x_out (sr @Tryd.f8.eq_1) (by simp) (by simp) rfl)
  have z1 := hexB_size' s
  have z2 : (2 : Int) * (s.size : Int) = ((2 * s.size : Nat) : Int) := by omega
  have z3 : ∀ x : Int, (x == x) = true := fun x => by simp
  refine go h1 ?_
  refine x_callN rfl rfl rfl rfl (sv trivial) g_hex (sv trivial) (se trivial) ⟨s, hs, rfl, rfl⟩ rfl ?_
  have hat := fun i h => hexB_at s (i := i) h
  generalize hexB s = H at *
  refine go (And.intro z1 (And.intro z2 z3)) ?_
  refine x_loop (fun σ => ∃ (i : Nat), σ.t 0 = .s (.string s) ∧ σ.t 3 = .s (.string H) ∧ σ.t 4 = .fn 16 [] ∧ σ.t 5 = .s (.int .i64 i) ∧ i ≤ s.size) (fun σ => s.size - ix (σ.t 5)) ⟨0, (by first | assumption | exact sxa trivial), (by first | assumption | exact sxa trivial), (by first | assumption | exact sxa trivial), (by first | assumption | exact sxa trivial), (by first | rfl | omega | assumption | (simp [*]; done))⟩ ?_
  rintro t h n ⟨i, h0, h3, h4, h5, hf0⟩
  simp only at h0 h3 h4 h5
  refine go (And.intro h0 (And.intro h3 (And.intro h4 h5))) ?_
  refine x_condP (sv (And.intro h0 (And.intro h3 (And.intro h4 h5)))) (fun hc => ?_) (fun hc => ?_)
  · have hi : i < s.size := by omega
    obtain ⟨a1, a2⟩ := hat i hi
    have w1 : (2 : Int) * (i : Int) = ((2 * i : Nat) : Int) := by omega
    have w2 : ((2 * i : Nat) : Int) + 1 = ((2 * i + 1 : Nat) : Int) := by omega
    have w3 : 2 * i < 2 * s.size := by omega
    have w4 : 2 * i + 1 < 2 * s.size := by omega
    have hcl := (byteAt s i).toNat_lt
    generalize hcc : byteAt s i = c at *
    have m1 : c.toNat / 16 < 16 := by omega
    have m2 : c.toNat % 16 < 16 := by omega
    have w5 : (16 : Int) * ((c.toNat / 16 : Nat) : Int) = ((16 * (c.toNat / 16) : Nat) : Int) := by omega
    have w6 : ((16 * (c.toNat / 16) : Nat) : Int) + ((c.toNat % 16 : Nat) : Int) = (c.toNat : Int) := by omega
    refine go (And.intro h0 (And.intro h3 (And.intro h4 (And.intro h5 (And.intro z1 (And.intro w1 (And.intro w2 (And.intro w3 (And.intro w4 (And.intro a1 a2)))))))))) ?_
    refine x_callD rfl rfl rfl rfl rfl (sv trivial) g_val (sv trivial) (se trivial) ⟨c.toNat / 16, m1, rfl, rfl⟩ rfl ?_
    refine go (And.intro h0 (And.intro h3 (And.intro h4 (And.intro h5 (And.intro z1 (And.intro w1 (And.intro w2 (And.intro w3 (And.intro w4 (And.intro w5 (And.intro a1 a2))))))))))) ?_
    refine x_callD rfl rfl rfl rfl rfl (sv trivial) g_val (sv trivial) (se trivial) ⟨c.toNat % 16, m2, rfl, rfl⟩ rfl ?_
    have w7 : ((c.toNat : Int) != (c.toNat : Int)) = false := by simp
    refine go (And.intro h0 (And.intro h3 (And.intro h4 (And.intro h5 (And.intro hi (And.intro hcc (And.intro w6 w7))))))) ?_
    (refine ⟨⟨i + 1, ?_, ?_, ?_, ?_, ?_⟩, ?_⟩ <;> (first | omega | (dsimp only; omega) | (omega) | exact sxa @cast_succ | exact soa trivial))
  · refine go (And.intro h0 (And.intro h3 (And.intro h4 h5))) ?_
    refine x_callN rfl rfl rfl rfl (sv trivial) g_aw (sv trivial) (se trivial) ⟨rfl, rfl⟩ rfl ?_
    refine go trivial ?_
    refine x_done (x_out (sr @Tryd.f8.eq_1) (by simp) (by simp) rfl)
end Go.Proofs.YtjbjgddfflbiaaaDoor
