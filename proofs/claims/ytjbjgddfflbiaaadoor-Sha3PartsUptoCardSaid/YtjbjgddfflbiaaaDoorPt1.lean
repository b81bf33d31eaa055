/- Texts that the law's proof stands on: V24. -/
import Derived.Test.YtjbjgddfflbiaaaDoorB7
set_option linter.unusedVariables false
set_option linter.unusedSimpArgs false
set_option maxRecDepth 100000
set_option maxHeartbeats 16000000
namespace Go.Proofs.YtjbjgddfflbiaaaDoor
open Go Go.RowKit Am

theorem dig32 (s : ByteArray) : (digest s).size = 32 := by
  show (outL _).length = 32
  simp [outL]
theorem ex_list (s : ByteArray) (i k : Nat) : (s.extract i k).data.toList = (s.data.toList.take k).drop i := by
  simp [ByteArray.data_extract, List.drop_take]
theorem cat_two (s : ByteArray) (i : Nat) (h : i ≤ s.size) : cat [s.extract 0 i, s.extract i s.size] = s := by
  have hl : s.data.toList.length = s.size := rfl
  refine ba_ext ?_
  rw [cat_list]
  simp only [List.flatMap_cons, List.flatMap_nil, List.append_nil, ex_list, List.drop_zero]
  rw [← hl, List.take_length, List.take_append_drop]
theorem cat_four (s : ByteArray) (i k : Nat) (h : i ≤ k) (hk : k ≤ s.size) : cat [s.extract 0 i, ⟨#[]⟩, s.extract i k, s.extract k s.size] = s := by
  have hl : s.data.toList.length = s.size := rfl
  have he : (⟨#[]⟩ : ByteArray).data.toList = [] := rfl
  refine ba_ext ?_
  rw [cat_list]
  simp only [List.flatMap_cons, List.flatMap_nil, List.append_nil, ex_list, List.drop_zero, he, List.nil_append]
  rw [← hl, List.take_length, ← List.append_assoc]
  have h1 : s.data.toList.take i ++ (s.data.toList.take k).drop i = s.data.toList.take k := by
    conv => rhs; rw [← List.take_append_drop i (s.data.toList.take k)]
    rw [List.take_take, Nat.min_eq_left h]
  rw [h1, List.take_append_drop]
def partLawS : Fspec := fun _ ds r => ∃ (s : ByteArray) (a b : Int), s.size ≤ 1048576 ∧ 0 ≤ a ∧ a ≤ 65535 ∧ 0 ≤ b ∧ b ≤ 65535 ∧ ds = [.s (.string s), .s (.int .u16 a), .s (.int .u16 b)] ∧ r = .s (.bool true)
theorem partLaw_sound {plain : TypeId → Bool} {Γ : FuncId → Option Fspec} {Δ : FuncId → Option Pt} (hE : EnvOk ⟨Tryd.prog, plain, Γ, Δ, fun _ => none, 0⟩) (g_sum : Γ 11 = some sumS) (g_aw : Γ 10 = some awS) : Sound Tryd.prog 4 partLawS := by
  refine sound_of_awp hE Tryd.func4 rfl (by kernel_rfl) ?_
  rintro Φ ds r ⟨s, a, b, hs, ha0, ha1, hb0, hb1, rfl, rfl⟩
  refine ⟨by simp [Tryd.f4], ?_⟩
  unfold st0
  refine W.out (E := ⟨Tryd.prog, plain, Γ, Δ, Φ, _⟩) ?_
  by_cases h1 : (1000 : Int) < (s.size : Int)
  · refine go h1 ?_
    refine x_callN rfl rfl rfl rfl (sv trivial) g_aw (sv trivial) (se trivial) ⟨rfl, rfl⟩ rfl ?_
    refine go trivial ?_
    refine x_done (x_out (sr @Tryd.f4.eq_1) (by simp) (by simp) rfl)
  obtain ⟨i, hm, hi⟩ : ∃ i : Nat, a.tmod ((s.size : Int) + 1) = (i : Int) ∧ i ≤ s.size := by
    have h1 : 0 ≤ a.tmod ((s.size : Int) + 1) := Int.tmod_nonneg _ ha0
    have h2 : a.tmod ((s.size : Int) + 1) < (s.size : Int) + 1 := Int.tmod_lt_of_pos _ (by omega)
    exact ⟨(a.tmod ((s.size : Int) + 1)).toNat, by omega, by omega⟩
  obtain ⟨j, hm2, hj⟩ : ∃ j : Nat, b.tmod ((s.size : Int) - (i : Int) + 1) = (j : Int) ∧ j ≤ s.size - i := by
    have h1 : 0 ≤ b.tmod ((s.size : Int) - (i : Int) + 1) := Int.tmod_nonneg _ hb0
    have h2 : b.tmod ((s.size : Int) - (i : Int) + 1) < (s.size : Int) - (i : Int) + 1 := Int.tmod_lt_of_pos _ (by omega)
    exact ⟨(b.tmod ((s.size : Int) - (i : Int) + 1)).toNat, by omega, by omega⟩
  obtain ⟨k, hk⟩ : ∃ k : Nat, (i : Int) + (j : Int) = (k : Int) := ⟨i + j, by omega⟩
  have hik : i ≤ k := by omega
  have hks : k ≤ s.size := by omega
  have c2 := cat_two s i hi
  have c4 := cat_four s i k hik hks
  have hd := dig32 s
  refine go (And.intro h1 (And.intro hm (And.intro hm2 hk))) ?_
  refine x_callN rfl rfl rfl rfl (sv trivial) g_sum (sv trivial) (se trivial) ⟨[s], by simp, by (rw [cat_one]; omega), rfl, rfl⟩ rfl ?_
  rw [cat_one]
  have h32 : (((32 : Nat) : Int) == 32) = true := rfl
  have hii : (i : Int) ≤ (s.size : Int) := by omega
  refine go (And.intro hd h32) ?_
  refine x_callD rfl rfl rfl rfl rfl (sv trivial) g_sum (sv trivial) (se trivial) ⟨[s.extract 0 i, s.extract i s.size], by simp, by (rw [c2]; omega), rfl, rfl⟩ rfl ?_
  rw [c2]
  refine go (And.intro hd h32) ?_
  refine x_callD rfl rfl rfl rfl rfl (sv trivial) g_sum (sv trivial) (se trivial) ⟨[s.extract 0 i, ⟨#[]⟩, s.extract i k, s.extract k s.size], by simp, by (rw [c4]; omega), rfl, rfl⟩ rfl ?_
  rw [c4]
  refine go (And.intro hd h32) ?_
  refine x_callD rfl rfl rfl rfl rfl (sv trivial) g_aw (sv trivial) (se trivial) ⟨rfl, rfl⟩ rfl ?_
  refine go trivial ?_
  refine x_done (x_out (sr @Tryd.f4.eq_1) (by simp) (by simp) rfl)
end Go.Proofs.YtjbjgddfflbiaaaDoor
