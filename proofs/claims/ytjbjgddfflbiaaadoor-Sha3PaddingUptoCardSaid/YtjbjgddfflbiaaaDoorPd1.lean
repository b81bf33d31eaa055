/- Texts that the law's proof stands on: V22. -/
import Derived.Test.YtjbjgddfflbiaaaDoorB6
set_option linter.unusedVariables false
set_option linter.unusedSimpArgs false
set_option maxRecDepth 100000
set_option maxHeartbeats 16000000
namespace Go.Proofs.YtjbjgddfflbiaaaDoor
open Go Go.RowKit Am

def zpad (s : ByteArray) : Nat → ByteArray
  | 0 => s ++ ⟨#[6]⟩
  | k + 1 => zpad s k ++ ⟨#[0]⟩
theorem zpad_size (s : ByteArray) : ∀ k, (zpad s k).size = s.size + 1 + k
  | 0 => by rw [zpad, ByteArray.size_append]; rfl
  | k + 1 => by rw [zpad, ByteArray.size_append, zpad_size s k]; rfl
def padLawS : Fspec := fun _ ds r => ∃ (s : ByteArray) (n : Int), s.size ≤ 1048576 ∧ 0 ≤ n ∧ n ≤ 255 ∧ ds = [.s (.string s), .s (.int .u8 n)] ∧ r = .s (.bool true)
theorem padLaw_sound {plain : TypeId → Bool} {Γ : FuncId → Option Fspec} {Δ : FuncId → Option Pt} (hE : EnvOk ⟨Tryd.prog, plain, Γ, Δ, fun _ => none, 0⟩) (g_sum : Γ 11 = some sumS) (g_one : Γ 13 = some oneS) (g_aw : Γ 10 = some awS) : Sound Tryd.prog 7 padLawS := by
  refine sound_of_awp hE Tryd.func7 rfl (by kernel_rfl) ?_
  rintro Φ ds r ⟨s, n, hs, hn0, hn1, rfl, rfl⟩
  refine ⟨by simp [Tryd.f7], ?_⟩
  unfold st0
  refine W.out (E := ⟨Tryd.prog, plain, Γ, Δ, Φ, _⟩) ?_
  by_cases h1 : (400 : Int) < (s.size : Int)
  · refine go h1 ?_
    refine x_callN rfl rfl rfl rfl (sv trivial) g_aw (sv trivial) (se trivial) ⟨rfl, rfl⟩ rfl ?_
    refine go trivial ?_
    refine x_done (x_out (sr @Tryd.f7.eq_1) (by simp) (by simp) rfl)
  obtain ⟨m, hm, hm2⟩ : ∃ m : Nat, n.tmod 140 = (m : Int) ∧ m < 140 := by
    have h1 : 0 ≤ n.tmod 140 := Int.tmod_nonneg _ hn0
    have h2 : n.tmod 140 < 140 := Int.tmod_lt_of_pos _ (by omega)
    exact ⟨(n.tmod 140).toNat, by omega, by omega⟩
  have hz1 : (⟨#[6]⟩ : ByteArray).size = 1 := rfl
  have hz2 : (⟨#[0]⟩ : ByteArray).size = 1 := rfl
  have hle : s.size + 1 ≤ 9223372036854775807 := by omega
  have hp0 : s ++ (⟨#[6]⟩ : ByteArray) = zpad s 0 := rfl
  refine go (And.intro h1 (And.intro hz1 (And.intro hle hp0))) ?_
  refine x_loop (fun σ => ∃ (k : Nat), σ.t 0 = .s (.string s) ∧ σ.t 1 = .s (.int .u8 n) ∧ σ.t 5 = .s (.string (zpad s k)) ∧ σ.t 6 = .s (.int .i64 k) ∧ k ≤ m) (fun σ => m - ix (σ.t 6)) ⟨0, (by first | assumption | exact sxa trivial), (by first | assumption | exact sxa trivial), (by first | assumption | exact sxa trivial), (by first | assumption | exact sxa trivial), (by first | rfl | omega | assumption | (simp [*]; done))⟩ ?_
  rintro t h n ⟨k, h0, h1, h5, h6, hf0⟩
  simp only at h0 h1 h5 h6
  refine go (And.intro h0 (And.intro h1 (And.intro h5 (And.intro h6 hm)))) ?_
  refine x_condP (sv (And.intro h0 (And.intro h1 (And.intro h5 (And.intro h6 hm))))) (fun hc => ?_) (fun hc => ?_)
  · have hk : k < m := by omega
    have hsz := zpad_size s k
    have hle2 : (zpad s k).size + 1 ≤ 9223372036854775807 := by omega
    have hps : zpad s k ++ (⟨#[0]⟩ : ByteArray) = zpad s (k + 1) := rfl
    refine go (And.intro h0 (And.intro h1 (And.intro h5 (And.intro h6 (And.intro hz2 (And.intro hle2 hps)))))) ?_
    (refine ⟨⟨k + 1, ?_, ?_, ?_, ?_, ?_⟩, ?_⟩ <;> (first | omega | (dsimp only; omega) | (omega) | exact sxa (And.intro @cast_succ hps) | exact soa trivial))
  · have ek : k = m := by omega
    subst ek
    have hsz := zpad_size s k
    generalize zpad s k = T at *
    skip
    have hT : 1 ≤ T.size := by omega
    have w1 : (T.size : Int) - 1 = ((T.size - 1 : Nat) : Int) := by omega
    have w2 : T.size - 1 < T.size := by omega
    have w3 : T.size - 1 ≤ T.size := by omega
    have q1 := or128 (byteAt T (T.size - 1))
    have b1 := bytesB [byteAt T (T.size - 1) ||| 128]
    have b2 := strB [byteAt T (T.size - 1) ||| 128]
    simp only [List.map_cons, List.map_nil] at b1 b2
    have b3 : (⟨[byteAt T (T.size - 1) ||| 128].toArray⟩ : ByteArray).size = 1 := rfl
    have b4 : (T.extract 0 (T.size - 1)).size = T.size - 1 := by rw [ByteArray.size_extract]; omega
    have b5 : T.size - 1 + 1 ≤ 9223372036854775807 := by omega
    have hU : (T.extract 0 (T.size - 1) ++ (⟨[byteAt T (T.size - 1) ||| 128].toArray⟩ : ByteArray)).size ≤ 1048576 := by rw [ByteArray.size_append, b4, b3]; omega
    have hTT : T.size ≤ 1048576 := by omega
    have c1 := fun x => cat_one x
    refine go (And.intro h0 (And.intro h1 (And.intro h5 (And.intro h6 (And.intro w1 (And.intro w2 (And.intro w3 (And.intro q1 (And.intro b1 (And.intro b2 (And.intro b3 (And.intro b4 b5)))))))))))) ?_
    generalize T.extract 0 (T.size - 1) ++ (⟨[byteAt T (T.size - 1) ||| 128].toArray⟩ : ByteArray) = U at *
    clear w1 w2 w3 q1 b1 b2 b3 b4 b5 c1
    refine x_callN rfl rfl rfl rfl (sv trivial) g_sum (sv trivial) (se trivial) ⟨[s], by simp, by (rw [cat_one]; omega), rfl, rfl⟩ rfl ?_
    rw [cat_one]
    refine go h0 ?_
    refine x_callN rfl rfl rfl rfl (sv h0) g_one (sv h0) (se h0) ⟨s, by omega, rfl, rfl⟩ rfl ?_
    refine go h5 ?_
    refine x_callN rfl rfl rfl rfl (sv h5) g_sum (sv h5) (se h5) ⟨[T], by simp, by (rw [cat_one]; omega), rfl, rfl⟩ rfl ?_
    rw [cat_one]
    refine go h5 ?_
    refine x_callN rfl rfl rfl rfl (sv trivial) g_one (sv trivial) (se trivial) ⟨T, by omega, rfl, rfl⟩ rfl ?_
    refine go trivial ?_
    refine x_callN rfl rfl rfl rfl (sv trivial) g_sum (sv trivial) (se trivial) ⟨[U], by simp, by (rw [cat_one]; omega), rfl, rfl⟩ rfl ?_
    rw [cat_one]
    refine go trivial ?_
    refine x_callN rfl rfl rfl rfl (sv trivial) g_one (sv trivial) (se trivial) ⟨U, by omega, rfl, rfl⟩ rfl ?_
    refine go trivial ?_
    refine x_callN rfl rfl rfl rfl (sv trivial) g_aw (sv trivial) (se trivial) ⟨rfl, rfl⟩ rfl ?_
    refine go trivial ?_
    refine x_done (x_out (sr @Tryd.f7.eq_1) (by simp) (by simp) rfl)
end Go.Proofs.YtjbjgddfflbiaaaDoor
