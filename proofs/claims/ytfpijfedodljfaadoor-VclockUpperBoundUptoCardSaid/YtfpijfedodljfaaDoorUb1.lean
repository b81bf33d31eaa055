/- Texts that the law's proof stands on: V47. -/
import Derived.Test.YtfpijfedodljfaaDoorB7
set_option linter.unusedVariables false
set_option linter.unusedSimpArgs false
set_option maxRecDepth 100000
set_option maxHeartbeats 8000000
namespace Go.Proofs.YtfpijfedodljfaaDoor
open Go Go.RowKit Am

theorem vadd_mem {v : List Idt} (h : Val v) {x z : Idt} (hz : z ∈ vaddF v x) : z.a = x.a ∨ ∃ y ∈ v, z.a = y.a := by rw [vadd_addL h] at hz; exact addL_mem hz
theorem merge_mem : ∀ {b a : List Idt}, Val a → Val b → ∀ z ∈ mergeF a b, (∃ y ∈ a, z.a = y.a) ∨ ∃ y ∈ b, z.a = y.a
  | [], a, ha, _, z, hz => .inl ⟨z, hz, rfl⟩
  | x :: b, a, ha, hb, z, hz => by
    rcases merge_mem (vadd_val ha (hb.ok x (by simp))) hb.tail z hz with ⟨y, h1, h2⟩ | ⟨y, h1, h2⟩
    · rcases vadd_mem ha h1 with h3 | ⟨w, h3, h4⟩
      · exact .inr ⟨x, by simp, by rw [h2, h3]⟩
      · exact .inl ⟨w, h3, by rw [h2, h4]⟩
    · exact .inr ⟨y, by simp [h1], h2⟩
theorem imax_comm (m n : Int) : imax m n = imax n m := by unfold imax; split <;> split <;> omega
theorem imax_assoc (m n k : Int) : imax (imax m n) k = imax m (imax n k) := by unfold imax; split <;> split <;> (try split) <;> (try split) <;> omega
def upLawS : Fspec := fun _ ds r => ∃ a b c : List Idt, smV a ∧ smV b ∧ smV c ∧ ds = [encIds a, encIds b, encIds c] ∧ r = .s (.bool true)
theorem upLaw_sound {plain : TypeId → Bool} {Γ : FuncId → Option Fspec} {Δ : FuncId → Option Pt} (hE : EnvOk ⟨Tryd.prog, plain, Γ, Δ, fun _ => none, 0⟩) (g_rgt : Γ 10 = some rgtS) (g_fix : Γ 11 = some fixS) (g_merge : Γ 21 = some mergeS) (g_sameI : Γ 18 = some sameIS) (g_cov : Γ 20 = some covS) (g_cont : Γ 12 = some contS) (g_vchk : Γ 25 = some chkS) : Sound Tryd.prog 8 upLawS := by
  refine sound_of_awp hE Tryd.func8 rfl (by kernel_rfl) ?_
  rintro Φ ds r ⟨a, b, c, ha, hb, hc, rfl, rfl⟩
  refine ⟨by simp [Tryd.f8], ?_⟩
  unfold st0 encIds
  refine W.out (E := ⟨Tryd.prog, plain, Γ, Δ, Φ, _⟩) ?_
  refine go trivial ?_
  refine x_callN rfl rfl rfl rfl (sv trivial) g_rgt (sv trivial) (se trivial) ⟨[a, b, c], by simp, sm3 ha hb hc, rfl, rfl⟩ rfl ?_
  cases hr : rgtF [a, b, c]
  · refine go hr ?_
    refine x_callN rfl rfl rfl rfl (sv trivial) g_fix (sv trivial) (se trivial) ⟨rfl, rfl⟩ rfl ?_
    refine go trivial ?_
    refine x_done (x_out (sr @Tryd.f8.eq_1) (by simp) (by simp) rfl)
  · have va := rgt_all hr a (by simp)
    have vb := rgt_all hr b (by simp)
    have vc := rgt_all hr c (by simp)
    have hal := va.len
    have hbl := vb.len
    have hcl := vc.len
    obtain ⟨m1, m2, m3⟩ := merge_all va.val vb.val
    obtain ⟨n1, n2, n3⟩ := merge_all vb.val va.val
    obtain ⟨p1, p2, p3⟩ := merge_all m1 vc.val
    obtain ⟨q1, q2, q3⟩ := merge_all vb.val vc.val
    obtain ⟨r1, r2, r3⟩ := merge_all va.val q1
    obtain ⟨s1, s2, s3⟩ := merge_all va.val va.val
    have hck : chkF (mergeF a b) = 0 := chk_of_val m1
    have cma : covF (mergeF a b) a = true := (cov_iff m1 va.val).2 fun z => by rw [m3]; exact imax_l
    have cmb : covF (mergeF a b) b = true := (cov_iff m1 vb.val).2 fun z => by rw [m3]; exact imax_r
    have ccm : covF c a = true → covF c b = true → covF c (mergeF a b) = true := fun h1 h2 => (cov_iff vc.val m1).2 fun z => by
      rw [m3]; exact imax_le ((cov_iff vc.val va.val).1 h1 z) ((cov_iff vc.val vb.val).1 h2 z)
    have e1 : mergeF b a = mergeF a b := val_ext n1 m1 fun z => by rw [n3, m3, imax_comm]
    have e2 : mergeF a (mergeF b c) = mergeF (mergeF a b) c := val_ext r1 p1 fun z => by rw [r3, q3, p3, m3, imax_assoc]
    have e3 : mergeF a a = a := val_ext s1 va.val fun z => by rw [s3]; unfold imax; split <;> omega
    have l1 := merge_len b a
    have l2 := merge_len c (mergeF a b)
    have l3 := merge_len c b
    have hms : ∀ x ∈ mergeF a b, x.a.size ≤ 1099511627776 := by
      intro x hx
      rcases merge_mem va.val vb.val x hx with ⟨y, h1, h2⟩ | ⟨y, h1, h2⟩
      · rw [h2]; have := va.siz y h1; omega
      · rw [h2]; have := vb.siz y h1; omega
    clear m2 n2 p2 q2 r2 s2 m3 n3 p3 q3 r3 s3
    have hsame : ∀ v : List Idt, sameIF v v = true := same_refl
    refine go hr ?_
    refine x_callS rfl rfl rfl rfl (sv trivial) g_merge (sv trivial) (se trivial) ⟨a, b, by omega, by omega, rfl, rfl⟩ (by simp) (by simp [touchA, touch]) ?_
    refine go trivial ?_
    refine x_callN rfl rfl rfl rfl (sv trivial) g_vchk (sv trivial) (se trivial) ⟨mergeF a b, by omega, hms, rfl, rfl⟩ rfl ?_
    rw [hck]
    refine go trivial ?_
    refine x_callN rfl rfl rfl rfl (sv trivial) g_cov (sv trivial) (se trivial) ⟨mergeF a b, a, by omega, by omega, rfl, rfl⟩ rfl ?_
    rw [cma]
    refine go trivial ?_
    refine x_callN rfl rfl rfl rfl (sv trivial) g_cov (sv trivial) (se trivial) ⟨mergeF a b, b, by omega, by omega, rfl, rfl⟩ rfl ?_
    rw [cmb]
    refine go trivial ?_
    refine x_callN rfl rfl rfl rfl (sv trivial) g_cov (sv trivial) (se trivial) ⟨c, a, by omega, by omega, rfl, rfl⟩ rfl ?_
    cases hca : covF c a
    · refine go trivial ?_
      refine x_callN rfl rfl rfl rfl (sv trivial) g_fix (sv trivial) (se trivial) ⟨rfl, rfl⟩ rfl ?_
      refine go trivial ?_
      refine x_callS rfl rfl rfl rfl (sv trivial) g_merge (sv trivial) (se trivial) ⟨b, a, by omega, by omega, rfl, rfl⟩ (by simp) (by simp [touchA, touch]) ?_
      rw [e1]
      refine go trivial ?_
      refine x_callN rfl rfl rfl rfl (sv trivial) g_sameI (sv trivial) (se trivial) ⟨mergeF a b, mergeF a b, by omega, by omega, rfl, rfl⟩ rfl ?_
      rw [hsame]
      refine go trivial ?_
      refine x_callS rfl rfl rfl rfl (sv trivial) g_merge (sv trivial) (se trivial) ⟨mergeF a b, c, by omega, by omega, rfl, rfl⟩ (by simp) (by simp [touchA, touch]) ?_
      refine go trivial ?_
      refine x_callS rfl rfl rfl rfl (sv trivial) g_merge (sv trivial) (se trivial) ⟨b, c, by omega, by omega, rfl, rfl⟩ (by simp) (by simp [touchA, touch]) ?_
      refine go trivial ?_
      refine x_callS rfl rfl rfl rfl (sv trivial) g_merge (sv trivial) (se trivial) ⟨a, mergeF b c, by omega, by omega, rfl, rfl⟩ (by simp) (by simp [touchA, touch]) ?_
      rw [e2]
      refine go trivial ?_
      refine x_callN rfl rfl rfl rfl (sv trivial) g_sameI (sv trivial) (se trivial) ⟨mergeF (mergeF a b) c, mergeF (mergeF a b) c, by omega, by omega, rfl, rfl⟩ rfl ?_
      rw [hsame]
      refine go trivial ?_
      refine x_callS rfl rfl rfl rfl (sv trivial) g_merge (sv trivial) (se trivial) ⟨a, a, by omega, by omega, rfl, rfl⟩ (by simp) (by simp [touchA, touch]) ?_
      rw [e3]
      refine go trivial ?_
      refine x_callN rfl rfl rfl rfl (sv trivial) g_sameI (sv trivial) (se trivial) ⟨a, a, by omega, by omega, rfl, rfl⟩ rfl ?_
      rw [hsame]
      refine go trivial ?_
      refine x_done (x_out (sr @Tryd.f8.eq_1) (by simp) (by simp) rfl)
    · cases hcb : covF c b
      · refine go trivial ?_
        refine x_callN rfl rfl rfl rfl (sv trivial) g_cov (sv trivial) (se trivial) ⟨c, b, by omega, by omega, rfl, rfl⟩ rfl ?_
        rw [hcb]
        refine go trivial ?_
        refine x_callN rfl rfl rfl rfl (sv trivial) g_fix (sv trivial) (se trivial) ⟨rfl, rfl⟩ rfl ?_
        refine go trivial ?_
        refine x_callS rfl rfl rfl rfl (sv trivial) g_merge (sv trivial) (se trivial) ⟨b, a, by omega, by omega, rfl, rfl⟩ (by simp) (by simp [touchA, touch]) ?_
        rw [e1]
        refine go trivial ?_
        refine x_callN rfl rfl rfl rfl (sv trivial) g_sameI (sv trivial) (se trivial) ⟨mergeF a b, mergeF a b, by omega, by omega, rfl, rfl⟩ rfl ?_
        rw [hsame]
        refine go trivial ?_
        refine x_callS rfl rfl rfl rfl (sv trivial) g_merge (sv trivial) (se trivial) ⟨mergeF a b, c, by omega, by omega, rfl, rfl⟩ (by simp) (by simp [touchA, touch]) ?_
        refine go trivial ?_
        refine x_callS rfl rfl rfl rfl (sv trivial) g_merge (sv trivial) (se trivial) ⟨b, c, by omega, by omega, rfl, rfl⟩ (by simp) (by simp [touchA, touch]) ?_
        refine go trivial ?_
        refine x_callS rfl rfl rfl rfl (sv trivial) g_merge (sv trivial) (se trivial) ⟨a, mergeF b c, by omega, by omega, rfl, rfl⟩ (by simp) (by simp [touchA, touch]) ?_
        rw [e2]
        refine go trivial ?_
        refine x_callN rfl rfl rfl rfl (sv trivial) g_sameI (sv trivial) (se trivial) ⟨mergeF (mergeF a b) c, mergeF (mergeF a b) c, by omega, by omega, rfl, rfl⟩ rfl ?_
        rw [hsame]
        refine go trivial ?_
        refine x_callS rfl rfl rfl rfl (sv trivial) g_merge (sv trivial) (se trivial) ⟨a, a, by omega, by omega, rfl, rfl⟩ (by simp) (by simp [touchA, touch]) ?_
        rw [e3]
        refine go trivial ?_
        refine x_callN rfl rfl rfl rfl (sv trivial) g_sameI (sv trivial) (se trivial) ⟨a, a, by omega, by omega, rfl, rfl⟩ rfl ?_
        rw [hsame]
        refine go trivial ?_
        refine x_done (x_out (sr @Tryd.f8.eq_1) (by simp) (by simp) rfl)
      · have hcm := ccm hca hcb
        refine go trivial ?_
        refine x_callN rfl rfl rfl rfl (sv trivial) g_cov (sv trivial) (se trivial) ⟨c, b, by omega, by omega, rfl, rfl⟩ rfl ?_
        rw [hcb]
        refine go trivial ?_
        refine x_callN rfl rfl rfl rfl (sv trivial) g_cov (sv trivial) (se trivial) ⟨c, mergeF a b, by omega, by omega, rfl, rfl⟩ rfl ?_
        rw [hcm]
        refine go trivial ?_
        refine x_callN rfl rfl rfl rfl (sv trivial) g_fix (sv trivial) (se trivial) ⟨rfl, rfl⟩ rfl ?_
        refine go trivial ?_
        refine x_callS rfl rfl rfl rfl (sv trivial) g_merge (sv trivial) (se trivial) ⟨b, a, by omega, by omega, rfl, rfl⟩ (by simp) (by simp [touchA, touch]) ?_
        rw [e1]
        refine go trivial ?_
        refine x_callN rfl rfl rfl rfl (sv trivial) g_sameI (sv trivial) (se trivial) ⟨mergeF a b, mergeF a b, by omega, by omega, rfl, rfl⟩ rfl ?_
        rw [hsame]
        refine go trivial ?_
        refine x_callS rfl rfl rfl rfl (sv trivial) g_merge (sv trivial) (se trivial) ⟨mergeF a b, c, by omega, by omega, rfl, rfl⟩ (by simp) (by simp [touchA, touch]) ?_
        refine go trivial ?_
        refine x_callS rfl rfl rfl rfl (sv trivial) g_merge (sv trivial) (se trivial) ⟨b, c, by omega, by omega, rfl, rfl⟩ (by simp) (by simp [touchA, touch]) ?_
        refine go trivial ?_
        refine x_callS rfl rfl rfl rfl (sv trivial) g_merge (sv trivial) (se trivial) ⟨a, mergeF b c, by omega, by omega, rfl, rfl⟩ (by simp) (by simp [touchA, touch]) ?_
        rw [e2]
        refine go trivial ?_
        refine x_callN rfl rfl rfl rfl (sv trivial) g_sameI (sv trivial) (se trivial) ⟨mergeF (mergeF a b) c, mergeF (mergeF a b) c, by omega, by omega, rfl, rfl⟩ rfl ?_
        rw [hsame]
        refine go trivial ?_
        refine x_callS rfl rfl rfl rfl (sv trivial) g_merge (sv trivial) (se trivial) ⟨a, a, by omega, by omega, rfl, rfl⟩ (by simp) (by simp [touchA, touch]) ?_
        rw [e3]
        refine go trivial ?_
        refine x_callN rfl rfl rfl rfl (sv trivial) g_sameI (sv trivial) (se trivial) ⟨a, a, by omega, by omega, rfl, rfl⟩ rfl ?_
        rw [hsame]
        refine go trivial ?_
        refine x_done (x_out (sr @Tryd.f8.eq_1) (by simp) (by simp) rfl)
end Go.Proofs.YtfpijfedodljfaaDoor
