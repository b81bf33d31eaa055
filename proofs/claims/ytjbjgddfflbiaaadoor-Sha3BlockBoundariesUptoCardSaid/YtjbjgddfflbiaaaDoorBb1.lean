/- Texts that the law's proof stands on: V23. -/
import Derived.Test.YtjbjgddfflbiaaaDoorB7
set_option linter.unusedVariables false
set_option linter.unusedSimpArgs false
set_option maxRecDepth 100000
set_option maxHeartbeats 16000000
namespace Go.Proofs.YtjbjgddfflbiaaaDoor
open Go Go.RowKit Am

def bbLawS : Fspec := fun _ ds r => ∃ c n : Int, 0 ≤ c ∧ c ≤ 255 ∧ 0 ≤ n ∧ n ≤ 65535 ∧ ds = [.s (.int .u8 c), .s (.int .u16 n)] ∧ r = .s (.bool true)
theorem bbLaw_sound {plain : TypeId → Bool} {Γ : FuncId → Option Fspec} {Δ : FuncId → Option Pt} (hE : EnvOk ⟨Tryd.prog, plain, Γ, Δ, fun _ => none, 0⟩) (g_sum : Γ 11 = some sumS) (g_one : Γ 13 = some oneS) (g_aw : Γ 10 = some awS) : Sound Tryd.prog 5 bbLawS := by
  refine sound_of_awp hE Tryd.func5 rfl (by kernel_rfl) ?_
  rintro Φ ds r ⟨c, n, hc0, hc1, hn0, hn1, rfl, rfl⟩
  refine ⟨by simp [Tryd.f5], ?_⟩
  unfold st0
  refine W.out (E := ⟨Tryd.prog, plain, Γ, Δ, Φ, _⟩) ?_
  obtain ⟨m, hm, hm2⟩ : ∃ m : Nat, n.tmod 281 = (m : Int) ∧ m < 281 := by
    have h1 : 0 ≤ n.tmod 281 := Int.tmod_nonneg _ hn0
    have h2 : n.tmod 281 < 281 := Int.tmod_lt_of_pos _ (by omega)
    exact ⟨(n.tmod 281).toNat, by omega, by omega⟩
  obtain ⟨b, hb⟩ : ∃ b : UInt8, c = (b.toNat : Int) := ⟨UInt8.ofNat c.toNat, by rw [UInt8.toNat_ofNat']; omega⟩
  have hrep : List.replicate m [V.s (.int .u8 0)] = (List.replicate m (0 : UInt8)).map encB := by simp [encB]
  refine go hm ?_
  refine x_mslice (m := m) (m' := m) rfl rfl rfl (sv trivial) (sv trivial) (sv trivial) (sv trivial) (by simp [cellsZ, cellOf, flat]; omega) ?_
  have hcz : cellsZ (.int .u8 0) = [V.s (.int .u8 0)] := rfl
  rw [hcz, hrep]
  refine go trivial ?_
  refine x_loop (fun σ => ∃ (i : Nat) (L : List UInt8), σ.t 0 = .s (.int .u8 c) ∧ σ.t 5 = .loc 0 0 m m ∧ σ.t 6 = .s (.int .i64 i) ∧ σ.h 0 = some ⟨1, L.map encB, true⟩ ∧ 0 < σ.n ∧ i ≤ m ∧ L.length = m) (fun σ => m - ix (σ.t 6)) ⟨0, List.replicate m 0, (by first | assumption | exact sxa trivial), (by first | assumption | exact sxa trivial), (by first | assumption | exact sxa trivial), (by first | assumption | exact sxa trivial), (by first | omega | (dsimp only; omega) | exact soa trivial | omega | (simp; done)), (by first | rfl | omega | assumption | (simp [*]; done)), (by first | rfl | omega | assumption | (simp [*]; done))⟩ ?_
  rintro t h n ⟨i, L, h0, h5, h6, hh0, hn1, hf0, hf1⟩
  simp only at h0 h5 h6 hh0 hn1
  have hw : ((L.map encB).set i [V.s (.int .u8 c)]) = (L.set i b).map encB := by rw [List.map_set, hb]
  by_cases hi : i < m
  · have d1 : ((i : Int) < (m : Int)) = True := eq_true (by omega)
    have hi2 : i < L.length := by omega
    have hi3 : (i < L.length) = True := eq_true hi2
    refine go (And.intro h0 (And.intro h5 (And.intro h6 (And.intro hh0 (And.intro d1 (And.intro hi3 (And.intro hw @encB.eq_1))))))) ?_
    have hl2 : (L.set i b).length = m := by rw [List.length_set]; exact hf1
    (refine ⟨⟨i + 1, L.set i b, ?_, ?_, ?_, ?_, ?_, ?_, ?_⟩, ?_⟩ <;> (first | omega | (dsimp only; omega) | (assumption) | exact sxa (And.intro @cast_succ (And.intro hw (And.intro h0 (And.intro h5 h6)))) | exact soa trivial))
  · have d1 : ((i : Int) < (m : Int)) = False := eq_false (by omega)
    have b1 := bytesB L
    have b2 := strB L
    have b3 : (⟨L.toArray⟩ : ByteArray).size ≤ 1048576 := by show L.length ≤ _; omega
    have tk : (L.map encB).take m = L.map encB := List.take_of_length_le (by simp; omega)
    have ln : m ≤ (L.map encB).length := by simp; omega
    generalize hS : (⟨L.toArray⟩ : ByteArray) = S at *
    refine go (And.intro h0 (And.intro h5 (And.intro h6 (And.intro hh0 (And.intro d1 (And.intro tk (And.intro ln (And.intro b1 b2)))))))) ?_
    refine x_callD rfl rfl rfl rfl rfl (sv h5) g_sum (sv h5) (se h5) ⟨[S], by simp, by (rw [cat_one]; omega), rfl, rfl⟩ rfl ?_
    rw [cat_one]
    refine go (And.intro h0 (And.intro h5 (And.intro h6 (And.intro hh0 (And.intro d1 (And.intro tk (And.intro ln (And.intro b1 b2)))))))) ?_
    refine x_callD rfl rfl rfl rfl rfl (sv h5) g_one (sv h5) (se h5) ⟨S, by omega, rfl, rfl⟩ rfl ?_
    refine go (And.intro h0 (And.intro h5 (And.intro h6 (And.intro hh0 (And.intro d1 (And.intro tk (And.intro ln (And.intro b1 b2)))))))) ?_
    refine x_callD rfl rfl rfl rfl rfl (sv trivial) g_aw (sv trivial) (se trivial) ⟨rfl, rfl⟩ rfl ?_
    refine go trivial ?_
    refine x_done (x_out (sr @Tryd.f5.eq_1) (by simp) (by simp) rfl)
end Go.Proofs.YtjbjgddfflbiaaaDoor
