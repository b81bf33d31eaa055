/- Texts that the law's proof stands on: V45. -/
import Derived.Test.YtfpijfedodljfaaDoorB7
set_option linter.unusedVariables false
set_option linter.unusedSimpArgs false
set_option maxRecDepth 100000
set_option maxHeartbeats 8000000
namespace Go.Proofs.YtfpijfedodljfaaDoor
open Go Go.RowKit Am

def cmpI2 (a b : Idt) : Int := orF [cmpB a.a b.a, cmpI a.n b.n]
theorem orF3 (x y z : Int) : orF [x, y, z] = orF [x, orF [y, z]] := by
  simp only [orF]
  split
  · split
    · split <;> simp_all
    · rename_i h; simp [h]
  · rfl
theorem ordI2 : OrdC (fun x : Idt => (x.a, x.n)) cmpI2 := (ordB.comap Idt.a).lex (ordI.comap Idt.n)
theorem cmpE_eq (a b : Edt) : cmpE a b = orF [cmpI a.clock b.clock, cmpI2 a.id b.id] := orF3 _ _ _
theorem ordE : OrdC (fun e : Edt => (e.clock, (e.id.a, e.id.n))) cmpE := by
  have h : OrdC (fun e : Edt => (e.clock, (e.id.a, e.id.n))) (fun a b => orF [cmpI a.clock b.clock, cmpI2 a.id b.id]) := (ordI.comap Edt.clock).lex (ordI2.comap Edt.id)
  have he : (fun a b => orF [cmpI a.clock b.clock, cmpI2 a.id b.id]) = cmpE := by funext a b; exact (cmpE_eq a b).symm
  rwa [he] at h
theorem cmpI_three (x y : Int) : cmpI x y = -1 ∨ cmpI x y = 0 ∨ cmpI x y = 1 := by
  unfold cmpI
  split
  · simp
  · split <;> simp
theorem cmpE_three (a b : Edt) : cmpE a b = -1 ∨ cmpE a b = 0 ∨ cmpE a b = 1 := by
  have h1 := cmpI_three a.clock b.clock
  have h2 := cmpB_three a.id.a b.id.a
  have h3 := cmpI_three a.id.n b.id.n
  simp only [cmpE, orF]
  split
  · split
    · split
      · simp
      · exact h3
    · exact h2
  · exact h1
theorem cmpE_neg (a b : Edt) : cmpE b a = -cmpE a b := by
  have h1 := ordE.an a b
  have h2 := ordE.an b a
  have h3 := cmpE_three a b
  have h4 := cmpE_three b a
  omega
theorem cmpE_cong {a b : Edt} (c : Edt) (h : cmpE a b = 0) : cmpE a c = cmpE b c := by
  have hk := (ordE.z a b).1 h
  simp only [Prod.mk.injEq] at hk
  unfold cmpE
  rw [hk.1, hk.2.1, hk.2.2]
theorem cmpE_min {a b c : Edt} (h1 : cmpE a b ≤ 0) (h2 : cmpE b c ≤ 0) : cmpE a c = if cmpE b c < cmpE a b then cmpE b c else cmpE a b := by
  have t1 := cmpE_three a b
  have t2 := cmpE_three b c
  have t3 := cmpE_three a c
  by_cases e1 : cmpE a b = 0
  · rw [cmpE_cong c e1]
    split <;> omega
  · by_cases e2 : cmpE b c = 0
    · have e3 : cmpE c b = 0 := by have := cmpE_neg b c; omega
      have e4 := cmpE_cong a e3
      have e5 := cmpE_neg a b
      have e6 := cmpE_neg a c
      rw [if_neg (by omega)]
      omega
    · have := ordE.tr a b c (by omega) (by omega)
      rw [if_neg (by omega)]
      omega
def totLawS : Fspec := fun _ ds r => ∃ a b c : Edt, ds = [.agg (encE a), .agg (encE b), .agg (encE c)] ∧ r = .s (.bool true)
theorem totLaw_sound {plain : TypeId → Bool} {Γ : FuncId → Option Fspec} {Δ : FuncId → Option Pt} (hE : EnvOk ⟨Tryd.prog, plain, Γ, Δ, fun _ => none, 0⟩) (hpl : plain 24 = true) (g_fix : Γ 11 = some fixS) (g_cmpE : Γ 28 = some cmpES) (g_cmp : Γ 29 = some cmpES) : Sound Tryd.prog 9 totLawS := by
  refine sound_of_awp hE Tryd.func9 rfl (by kernel_rfl) ?_
  rintro Φ ds r ⟨a, b, c, rfl, rfl⟩
  refine ⟨by simp [Tryd.f9], ?_⟩
  unfold st0
  refine W.out (E := ⟨Tryd.prog, plain, Γ, Δ, Φ, _⟩) ?_
  have hn := cmpE_neg a b
  have ht := cmpE_three a b
  have hz := ordE.z a b
  have hm : cmpE a b ≤ 0 → cmpE b c ≤ 0 → cmpE a c = if cmpE b c < cmpE a b then cmpE b c else cmpE a b := cmpE_min
  have haa : cmpE a a = 0 := (ordE.z a a).2 rfl
  have enc_kind : ∀ x : Edt, encE x = [.s (.string x.id.a), .s (.int .i64 x.id.n), .s (.int .i64 x.clock), .s (.int .i64 x.floor), .sl (x.deps.map encId), .s (.int .i64 x.kind), .s (.string x.node.a), .s (.int .i64 x.node.n), .s (.string x.parent.a), .s (.int .i64 x.parent.n), .s (.bool x.neg), .s (.string x.num), .s (.string x.den), .s (.string x.field), .s (.string x.value), .s (.string x.target.a), .s (.int .i64 x.target.n), .s (.string x.who)] := fun _ => rfl
  refine go @encE.eq_1 ?_
  refine x_callD rfl rfl rfl rfl rfl (sv @encE.eq_1) g_cmpE (sv @encE.eq_1) (se @encE.eq_1) ⟨a, b, rfl, rfl⟩ rfl ?_
  refine go @encE.eq_1 ?_
  refine x_callD rfl rfl rfl rfl rfl (sv @encE.eq_1) g_cmpE (sv @encE.eq_1) (se @encE.eq_1) ⟨b, c, rfl, rfl⟩ rfl ?_
  refine go @encE.eq_1 ?_
  refine x_callN rfl rfl rfl rfl (sv @encE.eq_1) g_cmp (sv @encE.eq_1) (se @encE.eq_1) ⟨a, b, rfl, rfl⟩ rfl ?_
  refine go @encE.eq_1 ?_
  refine x_callN rfl rfl rfl rfl (sv @encE.eq_1) g_cmpE (sv @encE.eq_1) (se @encE.eq_1) ⟨b, a, rfl, rfl⟩ rfl ?_
  rw [hn]
  have wn : IntKind.i64.wrap (0 - cmpE a b) = -cmpE a b := by rw [wrap_id _ (by omega)]; omega
  by_cases hz0 : cmpE a b = 0
  · have hk := hz.1 hz0
    simp only [Prod.mk.injEq] at hk
    have q0 : (cmpE a b == 0) = true := by simpa using hz0
    have q1 : ((a.id.a.toList == b.id.a.toList) && (a.id.n == b.id.n)) = true := by rw [lbeq, hk.2.1, hk.2.2]; simp
    have q2 : (a.clock != b.clock) = false := by rw [hk.1]; simp
    refine go (And.intro @encE.eq_1 (And.intro wn (And.intro q0 (And.intro q1 (And.intro q2 hpl))))) ?_
    have l1 : cmpE a b ≤ 0 := by omega
    · by_cases l2 : cmpE b c ≤ 0
      · have l3 := hm l1 l2
        refine go (And.intro @encE.eq_1 (And.intro l1 l2)) ?_
        refine x_callN rfl rfl rfl rfl (sv @encE.eq_1) g_cmpE (sv @encE.eq_1) (se @encE.eq_1) ⟨a, c, rfl, rfl⟩ rfl ?_
        rw [l3]
        refine go @encE.eq_1 ?_
        refine x_callN rfl rfl rfl rfl (sv trivial) g_fix (sv trivial) (se trivial) ⟨rfl, rfl⟩ rfl ?_
        refine go @encE.eq_1 ?_
        refine x_callN rfl rfl rfl rfl (sv @encE.eq_1) g_cmpE (sv @encE.eq_1) (se @encE.eq_1) ⟨a, a, rfl, rfl⟩ rfl ?_
        rw [haa]
        refine go @encE.eq_1 ?_
        refine x_done (x_out (sr @Tryd.f9.eq_1) (by simp) (by simp) rfl)
      · refine go (And.intro @encE.eq_1 (And.intro l1 l2)) ?_
        refine x_callN rfl rfl rfl rfl (sv trivial) g_fix (sv trivial) (se trivial) ⟨rfl, rfl⟩ rfl ?_
        refine go @encE.eq_1 ?_
        refine x_callN rfl rfl rfl rfl (sv @encE.eq_1) g_cmpE (sv @encE.eq_1) (se @encE.eq_1) ⟨a, a, rfl, rfl⟩ rfl ?_
        rw [haa]
        refine go @encE.eq_1 ?_
        refine x_done (x_out (sr @Tryd.f9.eq_1) (by simp) (by simp) rfl)
  · have q0 : (cmpE a b == 0) = false := by simpa using hz0
    refine go (And.intro @encE.eq_1 (And.intro wn (And.intro q0 hpl))) ?_
    by_cases l1 : cmpE a b ≤ 0
    · by_cases l2 : cmpE b c ≤ 0
      · have l3 := hm l1 l2
        refine go (And.intro @encE.eq_1 (And.intro l1 l2)) ?_
        refine x_callN rfl rfl rfl rfl (sv @encE.eq_1) g_cmpE (sv @encE.eq_1) (se @encE.eq_1) ⟨a, c, rfl, rfl⟩ rfl ?_
        rw [l3]
        refine go @encE.eq_1 ?_
        refine x_callN rfl rfl rfl rfl (sv trivial) g_fix (sv trivial) (se trivial) ⟨rfl, rfl⟩ rfl ?_
        refine go @encE.eq_1 ?_
        refine x_callN rfl rfl rfl rfl (sv @encE.eq_1) g_cmpE (sv @encE.eq_1) (se @encE.eq_1) ⟨a, a, rfl, rfl⟩ rfl ?_
        rw [haa]
        refine go @encE.eq_1 ?_
        refine x_done (x_out (sr @Tryd.f9.eq_1) (by simp) (by simp) rfl)
      · refine go (And.intro @encE.eq_1 (And.intro l1 l2)) ?_
        refine x_callN rfl rfl rfl rfl (sv trivial) g_fix (sv trivial) (se trivial) ⟨rfl, rfl⟩ rfl ?_
        refine go @encE.eq_1 ?_
        refine x_callN rfl rfl rfl rfl (sv @encE.eq_1) g_cmpE (sv @encE.eq_1) (se @encE.eq_1) ⟨a, a, rfl, rfl⟩ rfl ?_
        rw [haa]
        refine go @encE.eq_1 ?_
        refine x_done (x_out (sr @Tryd.f9.eq_1) (by simp) (by simp) rfl)
    · refine go (And.intro @encE.eq_1 l1) ?_
      refine x_callN rfl rfl rfl rfl (sv trivial) g_fix (sv trivial) (se trivial) ⟨rfl, rfl⟩ rfl ?_
      refine go @encE.eq_1 ?_
      refine x_callN rfl rfl rfl rfl (sv @encE.eq_1) g_cmpE (sv @encE.eq_1) (se @encE.eq_1) ⟨a, a, rfl, rfl⟩ rfl ?_
      rw [haa]
      refine go @encE.eq_1 ?_
      refine x_done (x_out (sr @Tryd.f9.eq_1) (by simp) (by simp) rfl)
end Go.Proofs.YtfpijfedodljfaaDoor
