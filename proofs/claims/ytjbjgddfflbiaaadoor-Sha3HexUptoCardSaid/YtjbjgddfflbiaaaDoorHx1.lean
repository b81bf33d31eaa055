/- Texts that the law's proof stands on: V20. -/
import Derived.Test.YtjbjgddfflbiaaaDoorB6
set_option linter.unusedVariables false
set_option linter.unusedSimpArgs false
set_option maxRecDepth 100000
set_option maxHeartbeats 16000000
namespace Go.Proofs.YtjbjgddfflbiaaaDoor
open Go Go.RowKit Am

theorem hexB_size (s : ByteArray) : (hexB s).size = 2 * s.size := by
  show (Tryd.hexL s.data.toList).length = _
  rw [Tryd.hexL_len]; rfl
theorem hexB_app (s t : ByteArray) : hexB (s ++ t) = hexB s ++ hexB t := by
  refine ba_ext ?_
  rw [ba_app]
  show Tryd.hexL (s ++ t).data.toList = Tryd.hexL _ ++ Tryd.hexL _
  rw [ba_app, Tryd.hexL, List.flatMap_append]
  rfl
theorem hexD_inj : ∀ a, a < 16 → ∀ b, b < 16 → Tryd.hexD a = Tryd.hexD b → a = b := by decide +kernel
theorem hexL_inj : ∀ l m : List UInt8, Tryd.hexL l = Tryd.hexL m → l = m
  | [], [], _ => rfl
  | [], c :: m, h => by simp [Tryd.hexL] at h
  | c :: l, [], h => by simp [Tryd.hexL] at h
  | c :: l, d :: m, h => by
    rw [Tryd.hexL, Tryd.hexL, List.flatMap_cons, List.flatMap_cons] at h
    simp only [List.cons_append, List.nil_append, List.cons.injEq] at h
    obtain ⟨h1, h2, h3⟩ := h
    have hc := c.toNat_lt
    have hd := d.toNat_lt
    have e1 := hexD_inj _ (by omega) _ (by omega) h1
    have e2 := hexD_inj _ (by omega) _ (by omega) h2
    have e3 : c = d := UInt8.toNat_inj.1 (by omega)
    rw [e3, hexL_inj l m h3]
theorem hexB_eq (s t : ByteArray) : ((hexB s).toList == (hexB t).toList) = (s.toList == t.toList) := by
  rw [Bool.eq_iff_iff, beq_iff_eq, beq_iff_eq, ByteArray.toList_eq, ByteArray.toList_eq, ByteArray.toList_eq, ByteArray.toList_eq]
  constructor
  · exact fun h => hexL_inj _ _ h
  · intro h
    show Tryd.hexL s.data.toList = Tryd.hexL t.data.toList
    rw [h]
def hexLawS : Fspec := fun _ ds r => ∃ s t : ByteArray, s.size ≤ 1048576 ∧ t.size ≤ 1048576 ∧ ds = [.s (.string s), .s (.string t)] ∧ r = .s (.bool true)
theorem hexLaw_sound {plain : TypeId → Bool} {Γ : FuncId → Option Fspec} {Δ : FuncId → Option Pt} (hE : EnvOk ⟨Tryd.prog, plain, Γ, Δ, fun _ => none, 0⟩) (g_hex : Γ 14 = some hexS) (g_rhex : Γ 15 = some hexS) (g_aw : Γ 10 = some awS) : Sound Tryd.prog 6 hexLawS := by
  refine sound_of_awp hE Tryd.func6 rfl (by kernel_rfl) ?_
  rintro Φ ds r ⟨s, t, hs, ht, rfl, rfl⟩
  refine ⟨by simp [Tryd.f6], ?_⟩
  unfold st0
  refine W.out (E := ⟨Tryd.prog, plain, Γ, Δ, Φ, _⟩) ?_
  by_cases h1 : (300 : Int) < (s.size : Int)
  · refine go h1 ?_
    refine x_callN rfl rfl rfl rfl (sv trivial) g_aw (sv trivial) (se trivial) ⟨rfl, rfl⟩ rfl ?_
    refine go trivial ?_
    refine x_done (x_out (sr @Tryd.f6.eq_1) (by simp) (by simp) rfl)
  by_cases h2 : (300 : Int) < (t.size : Int)
  · refine go (And.intro h1 h2) ?_
    refine x_callN rfl rfl rfl rfl (sv trivial) g_aw (sv trivial) (se trivial) ⟨rfl, rfl⟩ rfl ?_
    refine go trivial ?_
    refine x_done (x_out (sr @Tryd.f6.eq_1) (by simp) (by simp) rfl)
  have z1 := hexB_size s
  have z2 : (2 : Int) * (s.size : Int) = ((2 * s.size : Nat) : Int) := by omega
  have z3 := hexB_eq s t
  have z4 : ∀ b : Bool, (b == b) = true := fun b => by cases b <;> rfl
  have z5 := hexB_app s t
  have z6 : s.size + t.size ≤ 9223372036854775807 := by omega
  have z7 : 2 * s.size + 2 * t.size ≤ 9223372036854775807 := by omega
  have z8 := hexB_size t
  have z9 : (s ++ t).size ≤ 1048576 := by rw [ByteArray.size_append]; omega
  refine go (And.intro h1 h2) ?_
  refine x_callN rfl rfl rfl rfl (sv trivial) g_hex (sv trivial) (se trivial) ⟨s, hs, rfl, rfl⟩ rfl ?_
  refine go trivial ?_
  refine x_callN rfl rfl rfl rfl (sv trivial) g_hex (sv trivial) (se trivial) ⟨t, ht, rfl, rfl⟩ rfl ?_
  refine go trivial ?_
  refine x_callN rfl rfl rfl rfl (sv trivial) g_rhex (sv trivial) (se trivial) ⟨s, hs, rfl, rfl⟩ rfl ?_
  refine go (And.intro z1 (And.intro z2 (And.intro z3 (And.intro z4 (And.intro z6 z8))))) ?_
  refine x_callN rfl rfl rfl rfl (sv trivial) g_hex (sv trivial) (se trivial) ⟨s ++ t, z9, rfl, rfl⟩ rfl ?_
  rw [z5]
  refine go (And.intro z1 (And.intro z7 z8)) ?_
  refine x_callN rfl rfl rfl rfl (sv trivial) g_aw (sv trivial) (se trivial) ⟨rfl, rfl⟩ rfl ?_
  refine go trivial ?_
  refine x_done (x_out (sr @Tryd.f6.eq_1) (by simp) (by simp) rfl)
end Go.Proofs.YtjbjgddfflbiaaaDoor
