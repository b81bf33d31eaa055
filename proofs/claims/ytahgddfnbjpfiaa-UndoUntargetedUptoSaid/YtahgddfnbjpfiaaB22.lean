/- Texts that the law's proof stands on: V30, V55, V56, AmRg. -/
import Derived.Test.YtahgddfnbjpfiaaB20
import Derived.Test.YtahgddfnbjpfiaaB21
import Derived.OrdersIn
import Derived.RangeFuncNested
import Derived.RangeFuncBound
import Derived.RangeFuncCalls
import Derived.RangeFuncLeaves
import Derived.TacticsInMore
import Derived.LoopNIn
import Derived.LoopIn
import Derived.Test.YtahgddfnbjpfiaaB12
set_option linter.unusedVariables false
set_option linter.unusedSimpArgs false
set_option maxRecDepth 100000
set_option maxHeartbeats 8000000
namespace Go.Proofs.Ytahgddfnbjpfiaa
open Go Go.RowKit Am

def idAt (v : List Idt) (i : Nat) : Idt := v[i]?.getD ⟨⟨#[]⟩, 0⟩
theorem idAt_lt (v : List Idt) {i : Nat} (h : i < v.length) : idAt v i = v[i] := by simp [idAt, h]
def chkAt (v : List Idt) (i : Nat) : Int :=
  if authF (idAt v i).a = false then 7 else if (idAt v i).n < 1 then 2 else
  if (decide (0 < i) && ((idAt v i).a.toList == (idAt v (i - 1)).a.toList)) = true then 8 else
  if (decide (0 < i) && Op.bytesLess (idAt v i).a.toList (idAt v (i - 1)).a.toList) = true then 3 else 0
def chkFrom (v : List Idt) : Nat → Nat → Int
  | 0, _ => 0
  | m + 1, i => if chkAt v i = 0 then chkFrom v m (i + 1) else chkAt v i
def chkF (v : List Idt) : Int := chkFrom v v.length 0
def chkS : Fspec := fun _ ds r => ∃ v : List Idt, v.length ≤ 1099511627776 ∧ (∀ x ∈ v, x.a.size ≤ 1099511627776) ∧ ds = [encIds v] ∧ r = .s (.int .i64 (chkF v))
theorem chk_sound {plain : TypeId → Bool} {Γ : FuncId → Option Fspec} {Δ : FuncId → Option Pt} (hE : EnvOk ⟨Try.prog, plain, Γ, Δ, fun _ => none, 0⟩) (g_auth : Γ 27 = some authS) : Sound Try.prog 28 chkS := by
  refine sound_of_awp hE Try.func28 rfl (by kernel_rfl) ?_
  rintro Φ ds r ⟨v, hv, hs, rfl, rfl⟩
  refine ⟨by simp [Try.f28], ?_⟩
  unfold st0 encIds
  refine W.out (E := ⟨Try.prog, plain, Γ, Δ, Φ, _⟩) ?_
  have hr := encId_rows v
  refine go trivial ?_
  refine x_loop (fun σ => ∃ i : Nat, i ≤ v.length ∧ σ.t 0 = .sl (v.map encId) ∧ σ.t 3 = .s (.int .i64 i) ∧ chkFrom v (v.length - i) i = chkFrom v v.length 0) (fun σ => v.length - ix (σ.t 3)) ⟨0, Nat.zero_le _, (sc trivial), (sc trivial), rfl⟩ ?_
  rintro t h n ⟨i, hi, h0, h3, hf⟩
  simp only at h0 h3
  refine go (And.intro h0 h3) ?_
  refine x_condP (sv trivial) (fun hc => ?_) (fun hc => ?_)
  · have hi' : i < v.length := by omega
    obtain ⟨m, hm⟩ : ∃ m, v.length - i = m + 1 := ⟨v.length - i - 1, by omega⟩
    rw [hm, chkFrom] at hf
    refine go (And.intro h0 (And.intro h3 (And.intro hr @encId.eq_1))) ?_
    refine x_callN rfl rfl rfl rfl (sv trivial) g_auth (sv trivial) (se trivial) ⟨v[i].a, hs _ (List.getElem_mem hi'), rfl, rfl⟩ rfl ?_
    have hat := idAt_lt v hi'
    have bad : ∀ q : Int, chkAt v i = q → q ≠ 0 → chkF v = q := fun q h1 h2 => by rw [h1, if_neg h2] at hf; exact hf.symm
    have good : chkAt v i = 0 → chkFrom v (v.length - (i + 1)) (i + 1) = chkFrom v v.length 0 := fun h1 => by rw [h1, if_pos rfl] at hf; rw [show v.length - (i + 1) = m by omega]; exact hf
    cases a1 : authF v[i].a
    · have hz := bad 7 (by simp [chkAt, hat, a1]) (by decide)
      refine go (And.intro h0 (And.intro h3 (And.intro hr (And.intro @encId.eq_1 a1)))) ?_
      refine x_done (x_out (sr (And.intro @Try.f28.eq_1 hz)) (by simp) (by simp) rfl)
    · by_cases a2 : v[i].n < 1
      · have hz := bad 2 (by simp [chkAt, hat, a1, a2]) (by decide)
        refine go (And.intro h0 (And.intro h3 (And.intro hr (And.intro @encId.eq_1 (And.intro a1 a2))))) ?_
        refine x_done (x_out (sr (And.intro @Try.f28.eq_1 hz)) (by simp) (by simp) rfl)
      · by_cases a3 : 0 < i
        · have a3' : (0 < (i : Int)) = True := by simp; omega
          have ej : (i : Int) - 1 = ((i - 1 : Nat) : Int) := by omega
          have hj' : i - 1 < v.length := by omega
          have hjt := idAt_lt v hj'
          cases a4 : (v[i].a.toList == v[i - 1].a.toList)
          · cases a5 : Op.bytesLess v[i].a.toList v[i - 1].a.toList
            · have hz := good (by simp only [chkAt, hat, hjt, a1, a2, a4, a5]; simp)
              refine go (And.intro h0 (And.intro h3 (And.intro hr (And.intro @encId.eq_1 (And.intro a1 (And.intro a2 (And.intro a3' (And.intro ej (And.intro a4 a5))))))))) ?_
              refine ⟨⟨i + 1, by omega, (sc h0), (sc (And.intro h3 @cast_succ)), hz⟩, ?_⟩
              exact so h3
            · have hz := bad 3 (by simp only [chkAt, hat, hjt, a1, a2, a4, a5]; simp [a3]) (by decide)
              refine go (And.intro h0 (And.intro h3 (And.intro hr (And.intro @encId.eq_1 (And.intro a1 (And.intro a2 (And.intro a3' (And.intro ej (And.intro a4 a5))))))))) ?_
              refine x_done (x_out (sr (And.intro @Try.f28.eq_1 hz)) (by simp) (by simp) rfl)
          · have hz := bad 8 (by simp only [chkAt, hat, hjt, a1, a2, a4]; simp [a3]) (by decide)
            refine go (And.intro h0 (And.intro h3 (And.intro hr (And.intro @encId.eq_1 (And.intro a1 (And.intro a2 (And.intro a3' (And.intro ej a4)))))))) ?_
            refine x_done (x_out (sr (And.intro @Try.f28.eq_1 hz)) (by simp) (by simp) rfl)
        · have a3' : (0 < (i : Int)) = False := by simp; omega
          have hz := good (by simp only [chkAt, hat, a1, a2]; simp [a3])
          refine go (And.intro h0 (And.intro h3 (And.intro hr (And.intro @encId.eq_1 (And.intro a1 (And.intro a2 a3')))))) ?_
          refine ⟨⟨i + 1, by omega, (sc h0), (sc (And.intro h3 @cast_succ)), hz⟩, ?_⟩
          exact so h3
  · have e : i = v.length := by omega
    subst e
    rw [Nat.sub_self, chkFrom] at hf
    have hz : chkF v = 0 := hf.symm
    refine go (And.intro h0 h3) ?_
    refine x_done (x_out (sr (And.intro @Try.f28.eq_1 hz)) (by simp) (by simp) rfl)
end Go.Proofs.Ytahgddfnbjpfiaa

set_option linter.unusedVariables false
set_option linter.unusedSimpArgs false
set_option maxRecDepth 100000
set_option maxHeartbeats 16000000
namespace Go.Proofs.Ytahgddfnbjpfiaa
open Go Go.RowKit Am

structure SmE (e : Edt) : Prop where
  id : e.id.a.size ≤ 1048576
  node : e.node.a.size ≤ 1048576
  parent : e.parent.a.size ≤ 1048576
  target : e.target.a.size ≤ 1048576
  num : e.num.size ≤ 1048576
  den : e.den.size ≤ 1048576
  field : e.field.size ≤ 1048576
  value : e.value.size ≤ 1048576
  who : e.who.size ≤ 1048576
  deps : e.deps.length ≤ 1048576
  dep : ∀ x ∈ e.deps, x.a.size ≤ 1048576
def bId (x : Idt) : Bool := x.a.toList == (⟨#[45]⟩ : ByteArray).toList && x.n == 0
def hsF (k : Int) (zp bp mp mn mt pl wv wf tt : Bool) (tn : Bool) (vt : Bool) : Bool :=
  if (k == 1) = true then (zp || mp) && pl && wv else if (k == 2) = true then mn && ((zp || bp) || mp) && pl else if (k == 3) = true then mn && wf else
  if (k == 4) = true then mt && tt && tn else if (k == 5) = true then vt else true
def hesF (e : Edt) : Bool := hsF e.kind (zId e.parent) (bId e.parent) (mayF e.parent) (mayF e.node) (mayF e.target) (plcF e.neg e.num e.den) (wordF e.value) (wordF e.field) (e.target.a.toList == e.id.a.toList) (decide (e.target.n < e.id.n)) (votF e.id.a e.who)
def hesS : Fspec := fun _ ds r => ∃ e : Edt, SmE e ∧ ds = [.agg (encE e)] ∧ r = .s (.bool (hesF e))
theorem hes_sound {plain : TypeId → Bool} {Γ : FuncId → Option Fspec} {Δ : FuncId → Option Pt} (hE : EnvOk ⟨Try.prog, plain, Γ, Δ, fun _ => none, 0⟩) (hpl : plain 29 = true) (g_may : Γ 37 = some mayS) (g_plc : Γ 38 = some plcS) (g_word : Γ 39 = some wordS) (g_bin : Γ 40 = some binS) (g_votes : Γ 41 = some votesS) : Sound Try.prog 31 hesS := by
  refine sound_of_awp hE Try.func31 rfl (by kernel_rfl) ?_
  rintro Φ ds r ⟨e, hsm, rfl, rfl⟩
  refine ⟨by simp [Try.f31], ?_⟩
  unfold st0 encE
  refine W.out (E := ⟨Try.prog, plain, Γ, Δ, Φ, _⟩) ?_
  have s1 := hsm.node
  have s2 := hsm.parent
  have s3 := hsm.target
  have s4 := hsm.num
  have s5 := hsm.den
  have s6 := hsm.field
  have s7 := hsm.value
  have s8 := hsm.who
  have g2 : (e.parent.a.toList == (⟨#[]⟩ : ByteArray).toList && e.parent.n == 0) = zId e.parent := rfl
  have g3 : (e.parent.a.toList == (⟨#[45]⟩ : ByteArray).toList && e.parent.n == 0) = bId e.parent := rfl
  have ui : ∀ x : Idt, encId x = [.s (.string x.a), .s (.int .i64 x.n)] := fun _ => rfl
  have ur : ∀ m a b, encR m a b = [.s (.bool m), .s (.string a), .s (.string b)] := fun _ _ _ => rfl
  unfold hesF
  cases k1 : (e.kind == 1)
  rotate_left
  · cases zp : zId e.parent
    · refine go (And.intro k1 (And.intro hpl (And.intro g2 zp))) ?_
      refine x_callN rfl rfl rfl rfl (sv ui) g_may (sv ui) (se ui) ⟨e.parent, by omega, rfl, rfl⟩ rfl ?_
      cases mq : mayF e.parent
      · have hz : ∀ a b c d f g h i j, hsF e.kind false a false b c d f g h i j = false := fun _ _ _ _ _ _ _ _ _ => by simp [hsF, k1]
        refine go (And.intro k1 (And.intro hpl (And.intro g2 (And.intro zp mq)))) ?_
        refine x_done (x_out (sr (And.intro @Try.f31.eq_1 hz)) (by simp) (by simp) rfl)
      · refine go (And.intro k1 (And.intro hpl (And.intro g2 (And.intro zp mq)))) ?_
        refine x_callN rfl rfl rfl rfl (sv ur) g_plc (sv ur) (se ur) ⟨e.neg, e.num, e.den, by omega, by omega, rfl, rfl⟩ rfl ?_
        cases pl : plcF e.neg e.num e.den
        · have hz : ∀ a b c d f g h i, hsF e.kind false a true b c false d f g h i = false := fun _ _ _ _ _ _ _ _ => by simp [hsF, k1]
          refine go (And.intro k1 (And.intro hpl (And.intro g2 (And.intro zp (And.intro mq pl))))) ?_
          refine x_done (x_out (sr (And.intro @Try.f31.eq_1 hz)) (by simp) (by simp) rfl)
        refine go (And.intro k1 (And.intro hpl (And.intro g2 (And.intro zp (And.intro mq pl))))) ?_
        refine x_callN rfl rfl rfl rfl (sv trivial) g_word (sv trivial) (se trivial) ⟨e.value, by omega, rfl, rfl⟩ rfl ?_
        have hz : ∀ a b c w f g h i, hsF e.kind false a true b c true w f g h i = w := fun _ _ _ _ _ _ _ _ => by simp [hsF, k1]
        refine go (And.intro k1 (And.intro hpl (And.intro g2 (And.intro zp (And.intro mq pl))))) ?_
        refine x_done (x_out (sr (And.intro @Try.f31.eq_1 hz)) (by simp) (by simp) rfl)
    · refine go (And.intro k1 (And.intro hpl (And.intro g2 zp))) ?_
      refine x_callN rfl rfl rfl rfl (sv ur) g_plc (sv ur) (se ur) ⟨e.neg, e.num, e.den, by omega, by omega, rfl, rfl⟩ rfl ?_
      cases pl : plcF e.neg e.num e.den
      · have hz : ∀ a0 a b c d f g h i, hsF e.kind true a a0 b c false d f g h i = false := fun _ _ _ _ _ _ _ _ _ => by simp [hsF, k1]
        refine go (And.intro k1 (And.intro hpl (And.intro g2 (And.intro zp pl)))) ?_
        refine x_done (x_out (sr (And.intro @Try.f31.eq_1 hz)) (by simp) (by simp) rfl)
      refine go (And.intro k1 (And.intro hpl (And.intro g2 (And.intro zp pl)))) ?_
      refine x_callN rfl rfl rfl rfl (sv trivial) g_word (sv trivial) (se trivial) ⟨e.value, by omega, rfl, rfl⟩ rfl ?_
      have hz : ∀ a0 a b c w f g h i, hsF e.kind true a a0 b c true w f g h i = w := fun _ _ _ _ _ _ _ _ _ => by simp [hsF, k1]
      refine go (And.intro k1 (And.intro hpl (And.intro g2 (And.intro zp pl)))) ?_
      refine x_done (x_out (sr (And.intro @Try.f31.eq_1 hz)) (by simp) (by simp) rfl)
  cases k2 : (e.kind == 2)
  rotate_left
  · refine go (And.intro k1 (And.intro k2 hpl)) ?_
    refine x_callD rfl rfl rfl rfl rfl (sv ui) g_may (sv ui) (se ui) ⟨e.node, by omega, rfl, rfl⟩ rfl ?_
    cases mn : mayF e.node
    · have hz : ∀ a b c d f g h i j l, hsF e.kind a b c false d f g h i j l = false := fun _ _ _ _ _ _ _ _ _ _ => by simp [hsF, k1, k2]
      refine go (And.intro k1 (And.intro k2 (And.intro hpl mn))) ?_
      refine x_done (x_out (sr (And.intro @Try.f31.eq_1 hz)) (by simp) (by simp) rfl)
    cases zp : zId e.parent
    · refine go (And.intro k1 (And.intro k2 (And.intro hpl (And.intro g2 (And.intro zp mn))))) ?_
      refine x_callDS rfl rfl rfl rfl rfl (sv trivial) g_bin (sv trivial) (se trivial) ⟨rfl, rfl⟩ (by simp) (by simp [touchA, touch]) ?_
      cases bp : bId e.parent
      · refine go (And.intro k1 (And.intro k2 (And.intro hpl (And.intro g2 (And.intro g3 (And.intro zp (And.intro bp (And.intro mn ui)))))))) ?_
        refine x_callD rfl rfl rfl rfl rfl (sv ui) g_may (sv ui) (se ui) ⟨e.parent, by omega, rfl, rfl⟩ rfl ?_
        cases mq : mayF e.parent
        · have hz : ∀ a b d f g h i j, hsF e.kind false false false a b d f g h i j = false := fun _ _ _ _ _ _ _ _ => by simp [hsF, k1, k2]
          refine go (And.intro k1 (And.intro k2 (And.intro hpl (And.intro g2 (And.intro g3 (And.intro zp (And.intro bp (And.intro mq mn)))))))) ?_
          refine x_done (x_out (sr (And.intro @Try.f31.eq_1 hz)) (by simp) (by simp) rfl)
        · refine go (And.intro k1 (And.intro k2 (And.intro hpl (And.intro g2 (And.intro g3 (And.intro zp (And.intro bp (And.intro mq mn)))))))) ?_
          refine x_callD rfl rfl rfl rfl rfl (sv ur) g_plc (sv ur) (se ur) ⟨e.neg, e.num, e.den, by omega, by omega, rfl, rfl⟩ rfl ?_
          have hz : ∀ p c d f g h i, hsF e.kind false false true true c p d f g h i = p := fun _ _ _ _ _ _ _ => by simp [hsF, k1, k2]
          refine go (And.intro k1 (And.intro k2 (And.intro hpl (And.intro g2 (And.intro g3 (And.intro zp (And.intro bp (And.intro mq mn)))))))) ?_
          refine x_done (x_out (sr (And.intro @Try.f31.eq_1 hz)) (by simp) (by simp) rfl)
      · refine go (And.intro k1 (And.intro k2 (And.intro hpl (And.intro g2 (And.intro g3 (And.intro zp (And.intro bp (And.intro mn ui)))))))) ?_
        refine x_callD rfl rfl rfl rfl rfl (sv ur) g_plc (sv ur) (se ur) ⟨e.neg, e.num, e.den, by omega, by omega, rfl, rfl⟩ rfl ?_
        have hz : ∀ a1 p c d f g h i, hsF e.kind false true a1 true c p d f g h i = p := fun _ _ _ _ _ _ _ _ => by simp [hsF, k1, k2]
        refine go (And.intro k1 (And.intro k2 (And.intro hpl (And.intro g2 (And.intro g3 (And.intro zp (And.intro bp (And.intro mn ui)))))))) ?_
        refine x_done (x_out (sr (And.intro @Try.f31.eq_1 hz)) (by simp) (by simp) rfl)
    · refine go (And.intro k1 (And.intro k2 (And.intro hpl (And.intro g2 (And.intro zp mn))))) ?_
      refine x_callD rfl rfl rfl rfl rfl (sv ur) g_plc (sv ur) (se ur) ⟨e.neg, e.num, e.den, by omega, by omega, rfl, rfl⟩ rfl ?_
      have hz : ∀ a0 a1 p c d f g h i, hsF e.kind true a0 a1 true c p d f g h i = p := fun _ _ _ _ _ _ _ _ _ => by simp [hsF, k1, k2]
      refine go (And.intro k1 (And.intro k2 (And.intro hpl (And.intro g2 (And.intro zp mn))))) ?_
      refine x_done (x_out (sr (And.intro @Try.f31.eq_1 hz)) (by simp) (by simp) rfl)
  cases k3 : (e.kind == 3)
  rotate_left
  · refine go (And.intro k1 (And.intro k2 (And.intro k3 hpl))) ?_
    refine x_callN rfl rfl rfl rfl (sv ui) g_may (sv ui) (se ui) ⟨e.node, by omega, rfl, rfl⟩ rfl ?_
    cases mn : mayF e.node
    · have hz : ∀ a b c d f g h i j l, hsF e.kind a b c false d f g h i j l = false := fun _ _ _ _ _ _ _ _ _ _ => by simp [hsF, k1, k2, k3]
      refine go (And.intro k1 (And.intro k2 (And.intro k3 (And.intro hpl mn)))) ?_
      refine x_done (x_out (sr (And.intro @Try.f31.eq_1 hz)) (by simp) (by simp) rfl)
    refine go (And.intro k1 (And.intro k2 (And.intro k3 (And.intro hpl mn)))) ?_
    refine x_callN rfl rfl rfl rfl (sv trivial) g_word (sv trivial) (se trivial) ⟨e.field, by omega, rfl, rfl⟩ rfl ?_
    have hz : ∀ a b c d f g w h i j, hsF e.kind a b c true d f g w h i j = w := fun _ _ _ _ _ _ _ _ _ _ => by simp [hsF, k1, k2, k3]
    refine go (And.intro k1 (And.intro k2 (And.intro k3 (And.intro hpl mn)))) ?_
    refine x_done (x_out (sr (And.intro @Try.f31.eq_1 hz)) (by simp) (by simp) rfl)
  cases k4 : (e.kind == 4)
  rotate_left
  · refine go (And.intro k1 (And.intro k2 (And.intro k3 (And.intro k4 hpl)))) ?_
    refine x_callN rfl rfl rfl rfl (sv ui) g_may (sv ui) (se ui) ⟨e.target, by omega, rfl, rfl⟩ rfl ?_
    cases mt : mayF e.target
    · have hz : ∀ a b c d f g h i j l, hsF e.kind a b c d false f g h i j l = false := fun _ _ _ _ _ _ _ _ _ _ => by simp [hsF, k1, k2, k3, k4]
      refine go (And.intro k1 (And.intro k2 (And.intro k3 (And.intro k4 (And.intro hpl mt))))) ?_
      refine x_done (x_out (sr (And.intro @Try.f31.eq_1 hz)) (by simp) (by simp) rfl)
    cases tt : (e.target.a.toList == e.id.a.toList)
    · have hz : ∀ a b c d f g h j l, hsF e.kind a b c d true f g h false j l = false := fun _ _ _ _ _ _ _ _ _ => by simp [hsF, k1, k2, k3, k4]
      refine go (And.intro k1 (And.intro k2 (And.intro k3 (And.intro k4 (And.intro hpl (And.intro mt tt)))))) ?_
      refine x_done (x_out (sr (And.intro @Try.f31.eq_1 hz)) (by simp) (by simp) rfl)
    have hz : ∀ a b c d f g h j l, hsF e.kind a b c d true f g h true j l = j := fun _ _ _ _ _ _ _ _ _ => by simp [hsF, k1, k2, k3, k4]
    refine go (And.intro k1 (And.intro k2 (And.intro k3 (And.intro k4 (And.intro hpl (And.intro mt tt)))))) ?_
    refine x_done (x_out (sr (And.intro @Try.f31.eq_1 hz)) (by simp) (by simp) rfl)
  cases k5 : (e.kind == 5)
  rotate_left
  · refine go (And.intro k1 (And.intro k2 (And.intro k3 (And.intro k4 (And.intro k5 hpl))))) ?_
    refine x_callN rfl rfl rfl rfl (sv trivial) g_votes (sv trivial) (se trivial) ⟨e.id.a, e.who, by omega, rfl, rfl⟩ rfl ?_
    have hz : ∀ a b c d f g h j l q v, hsF e.kind a b c d q f g h l j v = v := fun _ _ _ _ _ _ _ _ _ _ _ => by simp [hsF, k1, k2, k3, k4, k5]
    refine go (And.intro k1 (And.intro k2 (And.intro k3 (And.intro k4 (And.intro k5 hpl))))) ?_
    refine x_done (x_out (sr (And.intro @Try.f31.eq_1 hz)) (by simp) (by simp) rfl)
  have hz : ∀ a b c d f g h j l q v, hsF e.kind a b c d q f g h l j v = true := fun _ _ _ _ _ _ _ _ _ _ _ => by simp [hsF, k1, k2, k3, k4, k5]
  refine go (And.intro k1 (And.intro k2 (And.intro k3 (And.intro k4 (And.intro k5 hpl))))) ?_
  refine x_done (x_out (sr (And.intro @Try.f31.eq_1 hz)) (by simp) (by simp) rfl)
end Go.Proofs.Ytahgddfnbjpfiaa

set_option linter.unusedVariables false
set_option linter.unusedSimpArgs false
set_option maxRecDepth 100000
set_option maxHeartbeats 16000000
namespace Go.Proofs.Ytahgddfnbjpfiaa
open Go Go.RowKit Am

def rngF (e : Edt) : Bool := decide (e.id.n < 1) || decide (1000000000 < e.id.n) || decide (e.clock < e.id.n) || decide (1000000000 < e.clock) || decide (e.floor < 0) || decide (e.clock ≤ e.floor)
def bigF (v : List Idt) : Bool := v.any fun x => decide (1000000000 < x.n)
def chkEF (e : Edt) : Int :=
  if authF e.id.a = false then 7 else if rngF e = true then 2 else if (chkF e.deps != 0) = true then chkF e.deps else if bigF e.deps = true then 2 else
  if (ahdF e.deps e.id.a != e.id.n - 1) = true then 1 else if (decide (e.kind < 1) || decide (6 < e.kind)) = true then 11 else if (e.kind == 3 && decide (2000 < (e.value.size : Int))) = true then 6 else
  if (!rstF e || !hesF e) = true then 1 else 0
def chkES : Fspec := fun _ ds r => ∃ e : Edt, SmE e ∧ ds = [.agg (encE e)] ∧ r = .s (.int .i64 (chkEF e))
theorem chkE_sound {plain : TypeId → Bool} {Γ : FuncId → Option Fspec} {Δ : FuncId → Option Pt} (hE : EnvOk ⟨Try.prog, plain, Γ, Δ, fun _ => none, 0⟩) (g_auth : Γ 27 = some authS) (g_chk : Γ 28 = some chkS) (g_ahead : Γ 29 = some aheadS) (g_rest : Γ 30 = some restS) (g_hes : Γ 31 = some hesS) : Sound Try.prog 17 chkES := by
  refine sound_of_awp hE Try.func17 rfl (by kernel_rfl) ?_
  rintro Φ ds r ⟨e, hsm, rfl, rfl⟩
  refine ⟨by simp [Try.f17], ?_⟩
  unfold st0 encE
  refine W.out (E := ⟨Try.prog, plain, Γ, Δ, Φ, _⟩) ?_
  have s1 := hsm.id
  have s2 := hsm.deps
  have s3 := hsm.dep
  have s4 := hsm.value
  have hr := encId_rows e.deps
  have ui : ∀ v, encIds v = .sl (v.map encId) := fun _ => rfl
  have ue : ∀ x : Idt, encId x = [.s (.string x.a), .s (.int .i64 x.n)] := fun _ => rfl
  refine go trivial ?_
  refine x_callN rfl rfl rfl rfl (sv trivial) g_auth (sv trivial) (se trivial) ⟨e.id.a, by omega, rfl, rfl⟩ rfl ?_
  cases a1 : authF e.id.a
  · have hz : chkEF e = 7 := by simp [chkEF, a1]
    refine go a1 ?_
    refine x_done (x_out (sr (And.intro @Try.f17.eq_1 hz)) (by simp) (by simp) rfl)
  by_cases b0 : e.id.n < 1
  · have hz : chkEF e = 2 := by simp [chkEF, rngF, a1, b0]
    refine go (And.intro a1 b0) ?_
    refine x_done (x_out (sr (And.intro @Try.f17.eq_1 hz)) (by simp) (by simp) rfl)
  by_cases b1 : 1000000000 < e.id.n
  · have hz : chkEF e = 2 := by simp [chkEF, rngF, a1, b0, b1]
    refine go (And.intro a1 (And.intro b0 b1)) ?_
    refine x_done (x_out (sr (And.intro @Try.f17.eq_1 hz)) (by simp) (by simp) rfl)
  by_cases b2 : e.clock < e.id.n
  · have hz : chkEF e = 2 := by simp [chkEF, rngF, a1, b0, b1, b2]
    refine go (And.intro a1 (And.intro b0 (And.intro b1 b2))) ?_
    refine x_done (x_out (sr (And.intro @Try.f17.eq_1 hz)) (by simp) (by simp) rfl)
  by_cases b3 : 1000000000 < e.clock
  · have hz : chkEF e = 2 := by simp [chkEF, rngF, a1, b0, b1, b2, b3]
    refine go (And.intro a1 (And.intro b0 (And.intro b1 (And.intro b2 b3)))) ?_
    refine x_done (x_out (sr (And.intro @Try.f17.eq_1 hz)) (by simp) (by simp) rfl)
  by_cases b4 : e.floor < 0
  · have hz : chkEF e = 2 := by simp [chkEF, rngF, a1, b0, b1, b2, b3, b4]
    refine go (And.intro a1 (And.intro b0 (And.intro b1 (And.intro b2 (And.intro b3 b4))))) ?_
    refine x_done (x_out (sr (And.intro @Try.f17.eq_1 hz)) (by simp) (by simp) rfl)
  by_cases b5 : e.clock ≤ e.floor
  · have hz : chkEF e = 2 := by simp [chkEF, rngF, a1, b0, b1, b2, b3, b4, b5]
    refine go (And.intro a1 (And.intro b0 (And.intro b1 (And.intro b2 (And.intro b3 (And.intro b4 b5)))))) ?_
    refine x_done (x_out (sr (And.intro @Try.f17.eq_1 hz)) (by simp) (by simp) rfl)
  have hrng : rngF e = false := by simp [rngF, b0, b1, b2, b3, b4, b5]
  refine go (And.intro a1 (And.intro b0 (And.intro b1 (And.intro b2 (And.intro b3 (And.intro b4 b5)))))) ?_
  refine x_callS rfl rfl rfl rfl (sv ui) g_chk (sv ui) (se ui) ⟨e.deps, by omega, (fun x hx => by have := s3 x hx; omega), rfl, rfl⟩ (by simp) (by simp [touchA, touch]) ?_
  cases a2 : (chkF e.deps != 0)
  rotate_left
  · have hz : chkEF e = chkF e.deps := by simp only [chkEF, a1, hrng, a2]; simp
    refine go a2 ?_
    refine x_done (x_out (sr (And.intro @Try.f17.eq_1 hz)) (by simp) (by simp) rfl)
  refine go a2 ?_
  refine x_loop (fun σ => ∃ (i : Nat), σ.t 1 = .ptr 0 0 0 ∧ σ.t 53 = .s (.int .i64 e.deps.length) ∧ σ.t 54 = .s (.int .i64 i) ∧ σ.h 0 = some ⟨18, [encE e], true⟩ ∧ i ≤ e.deps.length ∧ bigF (e.deps.drop i) = bigF e.deps) (fun σ => e.deps.length - ix (σ.t 54)) ⟨0, (by first | assumption | exact sxa trivial), (by first | assumption | exact sxa trivial), (by first | assumption | exact sxa trivial), (by first | assumption | exact sxa trivial), (by first | rfl | omega | assumption | (simp [*]; done)), (by first | rfl | omega | assumption | (simp [*]; done))⟩ ?_
  rintro t h n ⟨i, h1, h53, h54, hh0, hf0, hf1⟩
  simp only at h1 h53 h54 hh0
  refine go (And.intro h1 (And.intro h53 (And.intro h54 (And.intro hh0 @encE.eq_1)))) ?_
  refine x_condP (sv (And.intro h1 (And.intro h53 h54))) (fun hc => ?_) (fun hc => ?_)
  · have hi : i < e.deps.length := by omega
    rw [List.drop_eq_getElem_cons hi] at hf1
    have hbc : bigF (e.deps[i] :: e.deps.drop (i + 1)) = (decide (1000000000 < e.deps[i].n) || bigF (e.deps.drop (i + 1))) := rfl
    rw [hbc] at hf1
    by_cases c1 : 1000000000 < e.deps[i].n
    · rw [decide_eq_true c1, Bool.true_or] at hf1
      have hz : chkEF e = 2 := by simp only [chkEF, a1, hrng, a2, ← hf1]; simp
      refine go (And.intro h1 (And.intro h53 (And.intro h54 (And.intro hh0 (And.intro @encE.eq_1 (And.intro hr (And.intro @encId.eq_1 c1))))))) ?_
      refine x_done (x_out (sr (And.intro @Try.f17.eq_1 hz)) (by simp) (by simp) rfl)
    · rw [decide_eq_false c1, Bool.false_or] at hf1
      refine go (And.intro h1 (And.intro h53 (And.intro h54 (And.intro hh0 (And.intro @encE.eq_1 (And.intro hr (And.intro @encId.eq_1 c1))))))) ?_
      (refine ⟨⟨i + 1, ?_, ?_, ?_, ?_, ?_, ?_⟩, ?_⟩ <;> (first | omega | (dsimp only; omega) | (first | omega | assumption | (simp [*]; done)) | exact sxa (And.intro @cast_succ @encE.eq_1) | exact soa trivial))
  · have ee : i = e.deps.length := by omega
    subst ee
    rw [List.drop_length] at hf1
    have hbig : bigF e.deps = false := by rw [← hf1]; rfl
    have hw : (1 : Int) ≤ e.id.n := by omega
    refine go (And.intro h1 (And.intro h53 (And.intro h54 (And.intro hh0 @encE.eq_1)))) ?_
    refine x_callD rfl rfl rfl rfl rfl (sv ui) g_ahead (sv ui) (se ui) ⟨e.deps, e.id.a, by omega, rfl, rfl⟩ rfl ?_
    cases a3 : (ahdF e.deps e.id.a != e.id.n - 1)
    rotate_left
    · have hz : chkEF e = 1 := by simp only [chkEF, a1, hrng, a2, hbig, a3]; simp
      refine go (And.intro h1 (And.intro hh0 (And.intro @encE.eq_1 a3))) ?_
      refine x_done (x_out (sr (And.intro @Try.f17.eq_1 hz)) (by simp) (by simp) rfl)
    by_cases k1 : e.kind < 1
    · have hz : chkEF e = 11 := by simp only [chkEF, a1, hrng, a2, hbig, a3, k1]; simp
      refine go (And.intro h1 (And.intro hh0 (And.intro @encE.eq_1 (And.intro a3 k1)))) ?_
      refine x_done (x_out (sr (And.intro @Try.f17.eq_1 hz)) (by simp) (by simp) rfl)
    by_cases k2 : 6 < e.kind
    · have hz : chkEF e = 11 := by simp only [chkEF, a1, hrng, a2, hbig, a3, k1, k2]; simp
      refine go (And.intro h1 (And.intro hh0 (And.intro @encE.eq_1 (And.intro a3 (And.intro k1 k2))))) ?_
      refine x_done (x_out (sr (And.intro @Try.f17.eq_1 hz)) (by simp) (by simp) rfl)
    have tail : ∀ b : Bool, (e.kind == 3 && decide (2000 < (e.value.size : Int))) = false → chkEF e = if (!rstF e || !hesF e) = true then 1 else 0 := fun b hb => by simp only [chkEF, a1, hrng, a2, hbig, a3, k1, k2, hb]; simp
    cases k3 : (e.kind == 3)
    · have hz := tail true (by simp [k3])
      refine go (And.intro h1 (And.intro hh0 (And.intro @encE.eq_1 (And.intro a3 (And.intro k1 (And.intro k2 k3)))))) ?_
      refine x_callS rfl rfl rfl rfl (sv @encE.eq_1) g_rest (sv @encE.eq_1) (se @encE.eq_1) ⟨e, rfl, rfl⟩ (by simp) (by simp [touchA, touch]) ?_
      cases r1 : rstF e
      · have hz2 : chkEF e = 1 := by rw [hz, r1]; simp
        refine go r1 ?_
        refine x_done (x_out (sr (And.intro @Try.f17.eq_1 hz2)) (by simp) (by simp) rfl)
      refine go (And.intro h1 (And.intro hh0 (And.intro @encE.eq_1 r1))) ?_
      refine x_callS rfl rfl rfl rfl (sv @encE.eq_1) g_hes (sv @encE.eq_1) (se @encE.eq_1) ⟨e, hsm, rfl, rfl⟩ (by simp) (by simp [touchA, touch]) ?_
      cases r2 : hesF e
      · have hz2 : chkEF e = 1 := by rw [hz, r1, r2]; simp
        refine go (And.intro r1 r2) ?_
        refine x_done (x_out (sr (And.intro @Try.f17.eq_1 hz2)) (by simp) (by simp) rfl)
      have hz2 : chkEF e = 0 := by rw [hz, r1, r2]; simp
      refine go (And.intro r1 r2) ?_
      refine x_done (x_out (sr (And.intro @Try.f17.eq_1 hz2)) (by simp) (by simp) rfl)
    · by_cases k4 : 2000 < (e.value.size : Int)
      · have hz : chkEF e = 6 := by simp only [chkEF, a1, hrng, a2, hbig, a3, k1, k2, k3, k4]; simp
        refine go (And.intro h1 (And.intro hh0 (And.intro @encE.eq_1 (And.intro a3 (And.intro k1 (And.intro k2 (And.intro k3 k4))))))) ?_
        refine x_done (x_out (sr (And.intro @Try.f17.eq_1 hz)) (by simp) (by simp) rfl)
      · have hz := tail true (by simp [k3, k4])
        refine go (And.intro h1 (And.intro hh0 (And.intro @encE.eq_1 (And.intro a3 (And.intro k1 (And.intro k2 (And.intro k3 k4))))))) ?_
        refine x_callS rfl rfl rfl rfl (sv @encE.eq_1) g_rest (sv @encE.eq_1) (se @encE.eq_1) ⟨e, rfl, rfl⟩ (by simp) (by simp [touchA, touch]) ?_
        cases r1 : rstF e
        · have hz2 : chkEF e = 1 := by rw [hz, r1]; simp
          refine go r1 ?_
          refine x_done (x_out (sr (And.intro @Try.f17.eq_1 hz2)) (by simp) (by simp) rfl)
        refine go (And.intro h1 (And.intro hh0 (And.intro @encE.eq_1 r1))) ?_
        refine x_callS rfl rfl rfl rfl (sv @encE.eq_1) g_hes (sv @encE.eq_1) (se @encE.eq_1) ⟨e, hsm, rfl, rfl⟩ (by simp) (by simp [touchA, touch]) ?_
        cases r2 : hesF e
        · have hz2 : chkEF e = 1 := by rw [hz, r1, r2]; simp
          refine go (And.intro r1 r2) ?_
          refine x_done (x_out (sr (And.intro @Try.f17.eq_1 hz2)) (by simp) (by simp) rfl)
        have hz2 : chkEF e = 0 := by rw [hz, r1, r2]; simp
        refine go (And.intro r1 r2) ?_
        refine x_done (x_out (sr (And.intro @Try.f17.eq_1 hz2)) (by simp) (by simp) rfl)
end Go.Proofs.Ytahgddfnbjpfiaa

/- An abstract machine over values: what it proves holds within a round of a range over a function, too. -/
set_option linter.unusedVariables false
set_option linter.unusedSimpArgs false
namespace Go.Proofs.Ytahgddfnbjpfiaa.Am
open Go Go.RowKit

/-- Nothing is asked of the machines on the way; the activation stands in a round, or in none. -/
def Fw (r : Option Nat) : Fence := { Fence.wide with round := r }
def noDefer (o : Oper) : Bool := match o.op with
  | .defer _ => false
  | _ => true
theorem rowsIn_of {r : Option Nat} {n : Nat} {P : Program} {row : String} {args : Array Value} {w : World} {R : Value → World → Prop} (h : Go.Rows P row args w R) : RowsIn (Fw r) n P row args w R :=
  fun c cs _ => let ⟨v, w', q, s⟩ := h c cs; ⟨v, w', q, stepsIn_wide.2 s⟩
theorem callsIn_of {r : Option Nat} {n : Nat} {P : Program} {f : FuncId} {args : Array Value} {w : World} {R : Ending → World → Prop} (h : Calls P f args w R) : CallsIn (Fw r) n P f args w R :=
  (callsIn_wide (n := n)).2 h
theorem oper_in {r : Option Nat} {n : Nat} {P : Program} {o : Oper} {a : Act} {w : World} {next : Act → World → Prop} {Q : Exit → Act → World → Prop} (hd : noDefer o = true) (h : o.wp P a w next Q) : o.wpIn (Fw r) n P a w next Q := by
  refine ⟨fun _ _ => trivial, ?_⟩
  rw [Oper.semAt_eq _ _ _ (fun c hc => by rw [noDefer, hc] at hd; cases hd)]
  unfold Oper.wp at h
  generalize (execOp a.eval o).run P w = x at h
  cases x with
  | ok y w' =>
    cases y <;> simp only [Oper.upon, Oper.uponIn] at h ⊢ <;> first
      | exact h
      | exact ⟨fun hh => absurd hh (by simp [Fw, Fence.wide]), callsIn_of h⟩
      | exact ⟨fun hh => absurd hh (by simp [Fw, Fence.wide]), rowsIn_of h⟩
      | exact h.elim
  | halt y w' => cases y <;> simp only [Oper.upon, Oper.uponIn] at h ⊢ <;> first | exact h | exact h.elim
section
variable {r : Option Nat} {n : Nat} {P : Program} {ops : Array Oper} {Q : Exit → Act → World → Prop}
theorem list_in (hQ : ¬ LetsOut Q) : ∀ (l : List Oper) {a : Act} {w : World}, (∀ o ∈ l, noDefer o = true) → wpList P ops Q l a w → wpListIn (Fw r) n P ops Q l a w
  | [], a, w, _, h => h
  | o :: l, a, w, hd, h => by
    unfold wpList at h
    unfold wpListIn
    split at h
    · rename_i hw
      rw [if_pos hw]
      rcases h with h | h
      · exact Oper.wpIn_mono (fun a w hh => list_in hQ l (fun o ho => hd o (by simp [ho])) hh) (oper_in (hd o (by simp)) h)
      · exact absurd h.2 hQ
    · rename_i hw
      rw [if_neg hw]
      exact ⟨fun _ _ => trivial, list_in hQ l (fun o ho => hd o (by simp [ho])) h⟩
theorem region_in {id : Nat} {a : Act} {w : World} (hQ : ¬ LetsOut Q) (hd : ops.toList.all noDefer = true) (h : wpList P ops Q ops.toList a w) : (Code.region id ops false).wpIn (Fw r) n P Q a w :=
  wpIn_region (by rw [List.range_eq_range', ← Array.length_toList, wpOpsIn_eq_wpListIn ops.toList 0 (by simp)]; exact list_in hQ _ (fun o ho => List.all_eq_true.1 hd o ho) h)
theorem op_in (hQ : ¬ LetsOut Q) (hd : ops.toList.all noDefer = true) {i : Nat} {K : Act → World → Prop} {a : Act} {w : World} (h : wpOp P ops Q i K a w) : wpOpIn (Fw r) n P ops Q i K a w := by
  unfold wpOp at h
  unfold wpOpIn
  split at h
  · rename_i hi; rw [hi]; exact h
  · rename_i o hi
    rw [hi]
    have hm : o ∈ ops.toList := by rw [Array.getElem?_eq_some_iff] at hi; obtain ⟨_, rfl⟩ := hi; simp
    simp only
    split at h
    · rename_i hw
      rw [if_pos hw]
      rcases h with h | h
      · exact oper_in (List.all_eq_true.1 hd o hm) h
      · exact absurd h.2 hQ
    · rename_i hw
      rw [if_neg hw]
      exact ⟨fun _ _ => trivial, h⟩
theorem any_in (hQ : ¬ LetsOut Q) (hd : ops.toList.all noDefer = true) : ∀ (u : Nat) (listed : Array Bool) {a : Act} {w : World}, wpAny P .any ops Q u listed a w → wpAnyIn (Fw r) n P .any ops Q u listed a w
  | 0, listed, a, w, h => h
  | u + 1, listed, a, w, h => ⟨h.1, fun i hi => wpOpIn_mono (fun a w hh => any_in hQ hd u _ hh) (op_in hQ hd (h.2 i hi))⟩
theorem draw_in {id : Nat} {a : Act} {w : World} (hm : P.follows .mixedOrders = true) (hQ : ¬ LetsOut Q) (hd : ops.toList.all noDefer = true) (h : wpAny P .any ops Q ops.size (Array.replicate ops.size false) a { w with drawn := w.drawn + 1 }) : (Code.region id ops true).wpIn (Fw r) n P Q a w :=
  wpIn_region_any hm (any_in hQ hd _ _ h)
end
def codeNd : Code → Bool
  | .region _ ops _ => ops.toList.all noDefer
  | .seq x y => codeNd x && codeNd y
  | .cond _ x y => codeNd x && codeNd y
  | .block _ x => codeNd x
  | .loop x => codeNd x
  | _ => true
section
variable {ps : Hp × Mu × World} {E : Env} {c : Cx}
theorem awp_soundIn (hE : EnvOk E) (hc : c.P = E.P) (hΦ : FvOk c E.Φ) {r : Option Nat} {m : Nat} : ∀ (x : Code) {Q : Exit → St → Prop} {Q' : Exit → Act → World → Prop} {σ : St} {μ : Mu} {a : Act} {w : World}, codeOk E.nt x = true → codeNd x = true → ¬ LetsOut Q' → awp E x Q σ → Sim ps E c σ μ a w →
    (∀ e σ μ a w, Q e σ → Sim ps E c σ μ a w → Q' e a w) → x.wpIn (Fw r) m c.P Q' a w := by
  intro x
  induction x with
  | skip => intro Q Q' σ μ a w _ _ _ hk S hQ; exact wpIn_skip (hQ _ _ _ _ _ hk S)
  | region id ops draw =>
    intro Q Q' σ μ a w hok hnd hlo hk S hQ
    simp only [codeOk, List.all_eq_true] at hok
    simp only [codeNd] at hnd
    simp only [awp] at hk
    cases draw with
    | false =>
      simp only [Bool.false_eq_true, if_false] at hk
      exact region_in hlo hnd (ops_sound hE hc hΦ ops (fun σ μ a w => hQ _ σ μ a w) _ (fun o ho => hok o ho) hk S)
    | true =>
      simp only [if_true] at hk
      refine draw_in (by rw [hc]; exact hE.mixed) hlo hnd ?_
      have hb : Below w.heap.size w { w with drawn := w.drawn + 1 } := (Below.refl _ w).drew
      have H2 := S.hs.below hb
      cases hdr : drawOk ops with
      | true =>
        simp only [hdr, if_true] at hk
        exact draw_sound hE hc hΦ hdr (fun o ho => hok o ho) (fun σ μ a w => hQ _ σ μ a w) hk ⟨H2.1, fun i => H2.2.R (S.tm i), S.nt, S.df, S.ex.trans H2.2⟩
      | false =>
        simp only [hdr, Bool.false_eq_true, if_false] at hk
        rcases hk with ⟨hdx, hk⟩ | ⟨hdx, hk⟩ | ⟨hdx, hk⟩
        · exact drawX_sound hE hc hΦ hdx (fun o ho => hok o ho) (fun σ μ a w => hQ _ σ μ a w) hk ⟨H2.1, fun i => H2.2.R (S.tm i), S.nt, S.df, S.ex.trans H2.2⟩
        · exact drawY_sound hE hc hΦ hdx (fun o ho => hok o ho) (fun σ μ a w => hQ _ σ μ a w) hk ⟨H2.1, fun i => H2.2.R (S.tm i), S.nt, S.df, S.ex.trans H2.2⟩
        · exact drawW_sound hE hc hΦ hdx (fun o ho => hok o ho) (fun σ μ a w => hQ _ σ μ a w) hk ⟨H2.1, fun i => H2.2.R (S.tm i), S.nt, S.df, S.ex.trans H2.2⟩
  | seq x y ihx ihy =>
    intro Q Q' σ μ a w hok hnd hlo hk S hQ
    simp only [codeOk, codeNd, Bool.and_eq_true] at hok hnd
    simp only [awp] at hk
    obtain ⟨I, hx, hy⟩ := hk
    refine wpIn_seq (ihx hok.1 hnd.1 (fun ⟨a, w, hq⟩ => hlo ⟨a, w, hq⟩) hx S ?_)
    intro e σ μ a w hq S
    cases e with
    | normal =>
      obtain ⟨σ1, hg, hy⟩ := hy _ hq
      obtain ⟨μ1, S⟩ := gh_sim hg S
      exact ihy hok.2 hnd.2 hlo hy S hQ
    | _ => exact hQ _ _ _ _ _ hq S
  | cond b x y ihx ihy =>
    intro Q Q' σ μ a w hok hnd hlo hk S hQ
    simp only [codeOk, codeNd, Bool.and_eq_true] at hok hnd
    simp only [awp] at hk
    have hb : R c σ.h μ w (ev σ.t b) (a.eval b) := Rp.ev S.tm b
    split at hk
    · rename_i t ht
      rw [ht] at hb
      refine wpIn_cond hb.s_eq.1 ?_
      cases t with
      | true => exact ihx hok.1 hnd.1 hlo (hk.1 rfl) S hQ
      | false => exact ihy hok.2 hnd.2 hlo (hk.2 rfl) S hQ
    · exact hk.elim
  | block id x ih =>
    intro Q Q' σ μ a w hok hnd hlo hk S hQ
    simp only [codeOk] at hok
    simp only [codeNd] at hnd
    simp only [awp] at hk
    refine wpIn_block (ih hok hnd (fun ⟨a, w, hq⟩ => hlo ⟨a, w, hq⟩) hk S ?_)
    intro e σ μ a w hq S
    cases e with
    | exit id' =>
      simp only [blockQ, Exit.inBlock] at hq ⊢
      split
      · rename_i h; rw [if_pos h] at hq; exact hQ _ _ _ _ _ hq S
      · rename_i h; rw [if_neg h] at hq; exact hQ _ _ _ _ _ hq S
    | _ => exact hQ _ _ _ _ _ hq S
  | loop x ih =>
    intro Q Q' σ μ a w hok hnd hlo hk S hQ
    simp only [codeOk] at hok
    simp only [codeNd] at hnd
    simp only [awp] at hk
    obtain ⟨I, m1, σ1, hg, hI, hk⟩ := hk
    obtain ⟨μ1, S⟩ := gh_sim hg S
    have hlo' : ∀ n, ¬ LetsOut (Exit.then (Code.roundsIn (Fw r) m c.P x Q' n) Q') := fun n ⟨a, w, hq⟩ => hlo ⟨a, w, hq⟩
    have key : ∀ (n : Nat) {σ : St} {μ : Mu} {a : Act} {w : World}, I σ → m1 σ < n → Sim ps E c σ μ a w → Code.roundsIn (Fw r) m c.P x Q' n a w := by
      intro n
      induction n with
      | zero => intro σ μ a w _ h; exact absurd h (Nat.not_lt_zero _)
      | succ n ihn =>
        intro σ μ a w hI hm S
        rw [roundsIn_succ]
        refine ih hok hnd (hlo' n) (hk σ hI) S ?_
        intro e σ' μ' a' w' hq S'
        cases e with
        | normal => exact ihn hq.1 (by have := hq.2; omega) S'
        | _ => exact hQ _ _ _ _ _ hq S'
    exact wpIn_loop_rounds (m1 σ1 + 1) (key _ hI (Nat.lt_succ_self _) S)
  | exit id => intro Q Q' σ μ a w _ _ _ hk S hQ; exact wpIn_exit (hQ _ _ _ _ _ hk S)
  | ret => intro Q Q' σ μ a w _ _ _ hk S hQ; exact wpIn_ret (hQ _ _ _ _ _ hk S)
  | _ => intro Q Q' σ μ a w hok; simp [codeOk] at hok
end
end Go.Proofs.Ytahgddfnbjpfiaa.Am
