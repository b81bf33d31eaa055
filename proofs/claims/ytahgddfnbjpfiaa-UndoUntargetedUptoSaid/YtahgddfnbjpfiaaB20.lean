/- Texts that the law's proof stands on: V20, V27, V35, V36, V34, V39. -/
import Derived.Test.YtahgddfnbjpfiaaB19
import Derived.Test.YtahgddfnbjpfiaaB16
set_option linter.unusedVariables false
set_option linter.unusedSimpArgs false
set_option maxRecDepth 100000
set_option maxHeartbeats 16000000
namespace Go.Proofs.Ytahgddfnbjpfiaa
open Go Go.RowKit Am

/-- The canonical form of a rational. -/
def nrS (m : Bool) (a b : ByteArray) : Bool := ratS (m && !decide (vl a = 0)) (vl a) (dnF b)
def nrN (a b : ByteArray) : ByteArray := ratN (vl a) (dnF b)
def nrD (a b : ByteArray) : ByteArray := ratD (vl a) (dnF b)
theorem dnF_pos (b : ByteArray) : dnF b ≠ 0 := by unfold dnF; split <;> omega
theorem dnF_sz (b : ByteArray) : (natB (dnF b)).size ≤ b.size + 1 := by
  unfold dnF
  split
  · exact dig_len_le (by rw [Nat.pow_succ]; have := Nat.pow_pos (n := b.size) (show 0 < 256 by omega); omega)
  · have := natB_sz b; omega
def rnormS : Fspec := fun _ ds r => ∃ (m : Bool) (a b : ByteArray), a.size ≤ 109951162 ∧ b.size ≤ 109951162 ∧ ds = [.agg (encR m a b)] ∧ r = .agg (encR (nrS m a b) (nrN a b) (nrD a b))
theorem rnorm_sound {plain : TypeId → Bool} {Γ : FuncId → Option Fspec} {Δ : FuncId → Option Pt} (hE : EnvOk ⟨Try.prog, plain, Γ, Δ, fun _ => none, 0⟩) (g_above : Γ 50 = some aboveS) (g_below : Γ 51 = some belowS) (g_make : Γ 49 = some makeS) : Sound Try.prog 43 rnormS := by
  refine sound_of_awp hE Try.func43 rfl (by kernel_rfl) ?_
  rintro Φ ds r ⟨m, a, b, ha, hb, rfl, rfl⟩
  refine ⟨by simp [Try.f43], ?_⟩
  unfold st0 encR
  refine W.out (E := ⟨Try.prog, plain, Γ, Δ, Φ, _⟩) ?_
  have e1 : encZ (zv m a) = [.s (.bool (m && !decide (vl a = 0))), .s (.string (natB (vl a)))] := encZ_zv m a
  have e2 : encN (dnF b) = [.s (.bool false), .s (.string (natB (dnF b)))] := rfl
  have z1 := natB_sz a
  have z2 := dnF_sz b
  have hd := dnF_pos b
  have d1 : V.tup [.agg [.s (.bool (nrS m a b)), .s (.string (nrN a b)), .s (.string (nrD a b))], .s (.bool true)] = .tup [.agg (encR (ratS (m && !decide (vl a = 0)) (vl (natB (vl a))) (vl (natB (dnF b)))) (ratN (vl (natB (vl a))) (vl (natB (dnF b)))) (ratD (vl (natB (vl a))) (vl (natB (dnF b))))), .s (.bool true)] := by rw [vl_natB, vl_natB]; rfl
  refine go trivial ?_
  refine x_callD rfl rfl rfl rfl rfl (sv trivial) g_above (sv trivial) (se trivial) ⟨m, a, b, by omega, rfl, rfl⟩ rfl ?_
  rw [e1]
  refine go trivial ?_
  refine x_callD rfl rfl rfl rfl rfl (sv trivial) g_below (sv trivial) (se trivial) ⟨m, a, b, by omega, rfl, rfl⟩ rfl ?_
  rw [e2]
  refine go trivial ?_
  refine x_callDS rfl rfl rfl rfl rfl (sv trivial) g_make (sv trivial) (se trivial) ⟨m && !decide (vl a = 0), natB (vl a), natB (dnF b), by omega, by omega, by rw [vl_natB]; exact hd, rfl, d1⟩ (by simp) (by simp [touchA, touch]) ?_
  refine go trivial ?_
  refine x_done (x_out (sr @Try.f43.eq_1) (by simp) (by simp) rfl)
/-- Do both magnitudes of the canonical form take at most k bytes? -/
def fitF (a b : ByteArray) (k : Nat) : Bool := decide ((nrN a b).size ≤ k) && decide ((nrD a b).size ≤ k)
def fitsS : Fspec := fun _ ds r => ∃ (m : Bool) (a b : ByteArray) (k : Nat), a.size ≤ 109951162 ∧ b.size ≤ 109951162 ∧ ds = [.agg (encR m a b), .s (.int .i64 k)] ∧ r = .s (.bool (fitF a b k))
theorem fits_sound {plain : TypeId → Bool} {Γ : FuncId → Option Fspec} {Δ : FuncId → Option Pt} (hE : EnvOk ⟨Try.prog, plain, Γ, Δ, fun _ => none, 0⟩) (g_norm : Γ 43 = some rnormS) : Sound Try.prog 44 fitsS := by
  refine sound_of_awp hE Try.func44 rfl (by kernel_rfl) ?_
  rintro Φ ds r ⟨m, a, b, k, ha, hb, rfl, rfl⟩
  refine ⟨by simp [Try.f44], ?_⟩
  unfold st0 encR
  refine W.out (E := ⟨Try.prog, plain, Γ, Δ, Φ, _⟩) ?_
  have e1 : encR (nrS m a b) (nrN a b) (nrD a b) = [.s (.bool (nrS m a b)), .s (.string (nrN a b)), .s (.string (nrD a b))] := rfl
  unfold fitF
  refine go trivial ?_
  refine x_callN rfl rfl rfl rfl (sv trivial) g_norm (sv trivial) (se trivial) ⟨m, a, b, by omega, by omega, rfl, rfl⟩ rfl ?_
  rw [e1]
  generalize nrS m a b = x1 at *
  generalize nrN a b = x2 at *
  generalize nrD a b = x3 at *
  by_cases h1 : x2.size ≤ k
  · have c1 : ((x2.size : Int) ≤ (k : Int)) = True := eq_true (by omega)
    have c2 : decide (x2.size ≤ k) = true := decide_eq_true h1
    rw [c2]
    by_cases h2 : x3.size ≤ k
    · have c3 : ((x3.size : Int) ≤ (k : Int)) = True := eq_true (by omega)
      have c4 : decide (x3.size ≤ k) = true := decide_eq_true h2
      rw [c4]
      refine go (And.intro c1 c3) ?_
      refine x_done (x_out (sr @Try.f44.eq_1) (by simp) (by simp) rfl)
    · have c3 : ((x3.size : Int) ≤ (k : Int)) = False := eq_false (by omega)
      have c4 : decide (x3.size ≤ k) = false := decide_eq_false h2
      rw [c4]
      refine go (And.intro c1 c3) ?_
      refine x_done (x_out (sr @Try.f44.eq_1) (by simp) (by simp) rfl)
  · have c1 : ((x2.size : Int) ≤ (k : Int)) = False := eq_false (by omega)
    have c2 : decide (x2.size ≤ k) = false := decide_eq_false h1
    rw [c2]
    refine go c1 ?_
    refine x_done (x_out (sr @Try.f44.eq_1) (by simp) (by simp) rfl)
end Go.Proofs.Ytahgddfnbjpfiaa

set_option linter.unusedVariables false
set_option linter.unusedSimpArgs false
set_option maxRecDepth 100000
set_option maxHeartbeats 4000000
namespace Go.Proofs.Ytahgddfnbjpfiaa
open Go Go.RowKit Am

/-- A byte at a place, as a number. -/
def bAt (s : ByteArray) (i : Nat) : Int := ((byteAt s i).toNat : Int)
def badAt (s : ByteArray) (i : Nat) : Bool := !(decide (97 ≤ bAt s i) && decide (bAt s i ≤ 122)) && (decide (i = 0) || (decide (bAt s i < 48) || decide (57 < bAt s i)))
/-- The first n places from i on are good. -/
def goodFrom (s : ByteArray) : Nat → Nat → Bool
  | 0, _ => true
  | n + 1, i => !badAt s i && goodFrom s n (i + 1)
def authF (s : ByteArray) : Bool := goodFrom s s.size 0 && (decide (0 < (s.size : Int)) && decide ((s.size : Int) ≤ 24))
def authS : Fspec := fun _ ds r => ∃ s : ByteArray, s.size ≤ 1099511627776 ∧ ds = [.s (.string s)] ∧ r = .s (.bool (authF s))
theorem auth_sound {plain : TypeId → Bool} {Γ : FuncId → Option Fspec} {Δ : FuncId → Option Pt} (hE : EnvOk ⟨Try.prog, plain, Γ, Δ, fun _ => none, 0⟩) : Sound Try.prog 27 authS := by
  refine sound_of_awp hE Try.func27 rfl (by kernel_rfl) ?_
  rintro Φ ds r ⟨s, hs, rfl, rfl⟩
  refine ⟨by simp [Try.f27], ?_⟩
  unfold st0
  refine W.out (E := ⟨Try.prog, plain, Γ, Δ, Φ, _⟩) ?_
  refine go trivial ?_
  refine x_loop (fun σ => ∃ i : Nat, i ≤ s.size ∧ σ.t 0 = .s (.string s) ∧ σ.t 3 = .s (.int .i64 i) ∧ goodFrom s (s.size - i) i = goodFrom s s.size 0) (fun σ => s.size - ix (σ.t 3)) ⟨0, Nat.zero_le _, (sc trivial), (sc trivial), rfl⟩ ?_
  rintro t h n ⟨i, hi, h0, h3, hf⟩
  simp only at h0 h3
  refine go (And.intro h0 h3) ?_
  refine x_condP (sv trivial) (fun hc => ?_) (fun hc => ?_)
  · have hi' : i < s.size := by omega
    obtain ⟨m, hm⟩ : ∃ m, s.size - i = m + 1 := ⟨s.size - i - 1, by omega⟩
    rw [hm, goodFrom] at hf
    have e0 : ((i : Int) == 0) = decide (i = 0) := by rw [beq_eq_decide]; simp
    have eb : ((byteAt s i).toNat : Int) = bAt s i := rfl
    by_cases c1 : 97 ≤ bAt s i
    · by_cases c2 : bAt s i ≤ 122
      · have hb : badAt s i = false := by simp [badAt, c1, c2]
        rw [hb] at hf
        refine go (And.intro h0 (And.intro h3 (And.intro e0 (And.intro eb (And.intro c1 c2))))) ?_
        refine ⟨⟨i + 1, by omega, (sc h0), (sc (And.intro h3 @cast_succ)), by rw [show s.size - (i + 1) = m by omega]; simpa using hf⟩, ?_⟩
        exact so h3
      · skip
        by_cases c3 : i = 0
        · have c3' : (i = 0) = True := by simp [c3]
          · have hb : badAt s i = true := by simp [badAt, c1, c2, c3']
            rw [hb] at hf
            have hz : authF s = false := by simp only [authF, ← hf]; rfl
            refine go (And.intro h0 (And.intro h3 (And.intro e0 (And.intro eb (And.intro c1 (And.intro c2 c3')))))) ?_
            refine x_done (x_out (sr (And.intro @Try.f27.eq_1 hz)) (by simp) (by simp) rfl)
        · have c3' : (i = 0) = False := by simp [c3]
          by_cases c4 : bAt s i < 48
          · exact (by omega : False).elim
          · by_cases c5 : 57 < bAt s i
            · have hb : badAt s i = true := by simp [badAt, c1, c2, c3', c4, c5]
              rw [hb] at hf
              have hz : authF s = false := by simp only [authF, ← hf]; rfl
              refine go (And.intro h0 (And.intro h3 (And.intro e0 (And.intro eb (And.intro c1 (And.intro c2 (And.intro c3' (And.intro c4 c5)))))))) ?_
              refine x_done (x_out (sr (And.intro @Try.f27.eq_1 hz)) (by simp) (by simp) rfl)
            · exact (by omega : False).elim
    · skip
      by_cases c3 : i = 0
      · have c3' : (i = 0) = True := by simp [c3]
        · have hb : badAt s i = true := by simp [badAt, c1, c3']
          rw [hb] at hf
          have hz : authF s = false := by simp only [authF, ← hf]; rfl
          refine go (And.intro h0 (And.intro h3 (And.intro e0 (And.intro eb (And.intro c1 c3'))))) ?_
          refine x_done (x_out (sr (And.intro @Try.f27.eq_1 hz)) (by simp) (by simp) rfl)
      · have c3' : (i = 0) = False := by simp [c3]
        by_cases c4 : bAt s i < 48
        · have hb : badAt s i = true := by simp [badAt, c1, c3', c4]
          rw [hb] at hf
          have hz : authF s = false := by simp only [authF, ← hf]; rfl
          refine go (And.intro h0 (And.intro h3 (And.intro e0 (And.intro eb (And.intro c1 (And.intro c3' c4)))))) ?_
          refine x_done (x_out (sr (And.intro @Try.f27.eq_1 hz)) (by simp) (by simp) rfl)
        · by_cases c5 : 57 < bAt s i
          · have hb : badAt s i = true := by simp [badAt, c1, c3', c4, c5]
            rw [hb] at hf
            have hz : authF s = false := by simp only [authF, ← hf]; rfl
            refine go (And.intro h0 (And.intro h3 (And.intro e0 (And.intro eb (And.intro c1 (And.intro c3' (And.intro c4 c5))))))) ?_
            refine x_done (x_out (sr (And.intro @Try.f27.eq_1 hz)) (by simp) (by simp) rfl)
          · have hb : badAt s i = false := by simp [badAt, c1, c3', c4, c5]
            rw [hb] at hf
            refine go (And.intro h0 (And.intro h3 (And.intro e0 (And.intro eb (And.intro c1 (And.intro c3' (And.intro c4 c5))))))) ?_
            refine ⟨⟨i + 1, by omega, (sc h0), (sc (And.intro h3 @cast_succ)), by rw [show s.size - (i + 1) = m by omega]; simpa using hf⟩, ?_⟩
            exact so h3
  · have e : i = s.size := by omega
    subst e
    rw [Nat.sub_self, goodFrom] at hf
    by_cases d1 : 0 < (s.size : Int)
    · refine go (And.intro h0 (And.intro h3 d1)) ?_
      refine x_done (x_out (sr (And.intro @Try.f27.eq_1 (And.intro @authF.eq_1 (And.intro (hf).symm d1)))) (by simp) (by simp) rfl)
    · refine go (And.intro h0 (And.intro h3 d1)) ?_
      refine x_done (x_out (sr (And.intro @Try.f27.eq_1 (And.intro @authF.eq_1 (And.intro (hf).symm d1)))) (by simp) (by simp) rfl)
end Go.Proofs.Ytahgddfnbjpfiaa

set_option linter.unusedVariables false
set_option linter.unusedSimpArgs false
namespace Go.Proofs.Ytahgddfnbjpfiaa
open Go Go.RowKit Am

/-- A comparison that answers xs an order of keys does. -/
structure OrdC {α κ : Type} (key : α → κ) (c : α → α → Int) : Prop where
  z : ∀ a b, c a b = 0 ↔ key a = key b
  an : ∀ a b, c a b < 0 ↔ 0 < c b a
  tr : ∀ a b d, c a b < 0 → c b d < 0 → c a d < 0
namespace OrdC
variable {α κ : Type} {key : α → κ} {c : α → α → Int}
theorem congL (o : OrdC key c) {a b : α} (d : α) (h : key a = key b) (h1 : c b d < 0) : c a d < 0 := by
  have hz := (o.z a b).2 h
  have hz2 := (o.z b a).2 h.symm
  rcases Int.lt_trichotomy (c a d) 0 with h2 | h2 | h2
  · exact h2
  · have := (o.z a d).1 h2
    have := (o.z b d).2 (h.symm.trans this)
    omega
  · have h3 := (o.an d a).2 h2
    have := o.tr b d a h1 h3
    omega
theorem congR (o : OrdC key c) {a b : α} (d : α) (h : key a = key b) (h1 : c d b < 0) : c d a < 0 := by
  have hz2 := (o.z b a).2 h.symm
  rcases Int.lt_trichotomy (c d a) 0 with h2 | h2 | h2
  · exact h2
  · have := (o.z d a).1 h2
    have := (o.z d b).2 (this.trans h)
    omega
  · have h3 := (o.an a d).2 h2
    have := o.tr a d b h3 h1
    have := (o.z a b).2 h
    omega
theorem comap {β : Type} (o : OrdC key c) (f : β → α) : OrdC (fun x => key (f x)) (fun x y => c (f x) (f y)) :=
  ⟨fun a b => o.z _ _, fun a b => o.an _ _, fun a b d => o.tr _ _ _⟩
theorem lex {κ' : Type} {key' : α → κ'} {c' : α → α → Int} (o : OrdC key c) (o' : OrdC key' c') : OrdC (fun x => (key x, key' x)) (fun x y => orF [c x y, c' x y]) := by
  have e : ∀ x y, orF [c x y, c' x y] = if c x y = 0 then c' x y else c x y := by
    intro x y
    simp only [orF]
    split
    · split <;> simp_all
    · rfl
  refine ⟨fun a b => ?_, fun a b => ?_, fun a b d => ?_⟩
  · simp only [e, Prod.mk.injEq, ← o.z, ← o'.z]
    split <;> simp_all
  · have h1 := o.an a b; have h2 := o.an b a; have h3 := o'.an a b
    simp only [e]
    by_cases h : c a b = 0
    · have h4 : c b a = 0 := by omega
      simp [h, h4, h3]
    · have h4 : ¬ c b a = 0 := by omega
      simp [h, h4, h1]
  · simp only [e]
    intro h1 h2
    by_cases ha : c a b = 0
    · rw [if_pos ha] at h1
      by_cases hb : c b d = 0
      · rw [if_pos hb] at h2
        have hk := ((o.z a b).1 ha).trans ((o.z b d).1 hb)
        rw [if_pos ((o.z a d).2 hk)]
        exact o'.tr a b d h1 h2
      · rw [if_neg hb] at h2
        have := o.congL d ((o.z a b).1 ha) h2
        rw [if_neg (by omega)]
        exact this
    · rw [if_neg ha] at h1
      by_cases hb : c b d = 0
      · have := o.congR a ((o.z b d).1 hb).symm h1
        rw [if_neg (by omega)]
        exact this
      · rw [if_neg hb] at h2
        have := o.tr a b d h1 h2
        rw [if_neg (by omega)]
        exact this
end OrdC
theorem cmpBytes_z : ∀ a b : List UInt8, Lib.compareBytes a b = 0 ↔ a = b
  | [], [] => by simp [Lib.compareBytes]
  | [], b :: bs => by simp [Lib.compareBytes]
  | a :: xs, [] => by simp [Lib.compareBytes]
  | a :: xs, b :: bs => by
    simp only [Lib.compareBytes, List.cons.injEq]
    split
    · rename_i h
      have : a ≠ b := by rintro rfl; simp at h
      simp [this]
    · split
      · rename_i h
        have : a ≠ b := by rintro rfl; simp at h
        simp [this]
      · rename_i h1 h2
        have : a = b := UInt8.le_antisymm (UInt8.not_lt.1 h2) (UInt8.not_lt.1 h1)
        simp [this, cmpBytes_z xs bs]
theorem cmpBytes_as : ∀ a b : List UInt8, Lib.compareBytes a b < 0 ↔ 0 < Lib.compareBytes b a
  | [], [] => by simp [Lib.compareBytes]
  | [], b :: bs => by simp [Lib.compareBytes]
  | a :: xs, [] => by simp [Lib.compareBytes]
  | a :: xs, b :: bs => by
    simp only [Lib.compareBytes]
    by_cases h1 : a < b
    · have h2 : ¬ b < a := UInt8.not_lt.2 (UInt8.le_of_lt h1)
      simp [h1, h2]
    · by_cases h2 : b < a
      · simp [h1, h2]
      · simp [h1, h2, cmpBytes_as xs bs]
theorem cmpBytes_tr : ∀ a b d : List UInt8, Lib.compareBytes a b < 0 → Lib.compareBytes b d < 0 → Lib.compareBytes a d < 0
  | _, _, [], _, h => by rename_i b _; cases b <;> simp [Lib.compareBytes] at h
  | [], _, d :: ds, _, _ => by simp [Lib.compareBytes]
  | a :: xs, [], d :: ds, h, _ => by simp [Lib.compareBytes] at h
  | a :: xs, b :: bs, d :: ds, h1, h2 => by
    simp only [Lib.compareBytes] at h1 h2 ⊢
    by_cases hab : a < b
    · by_cases hbd : b < d
      · have : a < d := UInt8.lt_trans hab hbd
        simp [this]
      · by_cases hdb : d < b
        · simp [hbd, hdb] at h2
        · have e : b = d := UInt8.le_antisymm (UInt8.not_lt.1 hdb) (UInt8.not_lt.1 hbd)
          subst e
          simp [hab]
    · by_cases hba : b < a
      · simp [hab, hba] at h1
      · have e : a = b := UInt8.le_antisymm (UInt8.not_lt.1 hba) (UInt8.not_lt.1 hab)
        subst e
        simp only [hab, if_false] at h1
        by_cases had : a < d
        · simp [had]
        · by_cases hda : d < a
          · simp [had, hda] at h2
          · simp only [had, hda, if_false] at h2 ⊢
            exact cmpBytes_tr xs bs ds h1 h2
theorem ordB : OrdC (fun a : ByteArray => a) cmpB := ⟨fun a b => by rw [cmpB, cmpBytes_z]; exact ⟨Go.WideShapes.bytes_inj, fun h => by rw [h]⟩, fun a b => cmpBytes_as _ _, fun a b d => cmpBytes_tr _ _ _⟩
theorem ordI : OrdC (fun a : Int => a) cmpI := ⟨fun a b => by unfold cmpI; constructor <;> intro h <;> (try split at h) <;> (try split at h) <;> (try split) <;> (try split) <;> omega, fun a b => by unfold cmpI; constructor <;> intro h <;> (try split at h) <;> (try split at h) <;> (try split) <;> (try split) <;> omega, fun a b d h1 h2 => by unfold cmpI at *; (try split at h1) <;> (try split at h1) <;> (try split at h2) <;> (try split at h2) <;> (try split) <;> (try split) <;> omega⟩
end Go.Proofs.Ytahgddfnbjpfiaa

set_option linter.unusedVariables false
set_option linter.unusedSimpArgs false
namespace Go.Proofs.Ytahgddfnbjpfiaa
open Go Go.RowKit Am

theorem bsF_eq (c : Nat → Int) (p : Nat) : ∀ (d i j : Nat), j - i ≤ d → i ≤ p → p ≤ j → (∀ k, i ≤ k → k < p → c k < 0) → (∀ k, p ≤ k → k < j → ¬ c k < 0) → bsF c i j = p
  | 0, i, j, hd, h1, h2, _, _ => by
    rw [bsF, if_neg (by omega)]
    omega
  | d + 1, i, j, hd, h1, h2, h3, h4 => by
    rw [bsF]
    split
    · rename_i hij
      split
      · rename_i hc
        have : (i + j) / 2 < p := by
          rcases Nat.lt_or_ge ((i + j) / 2) p with h | h
          · exact h
          · exact absurd hc (h4 _ h (by omega))
        exact bsF_eq c p d _ _ (by omega) (by omega) h2 (fun k k1 k2 => h3 k (by omega) k2) h4
      · rename_i hc
        have : p ≤ (i + j) / 2 := by
          rcases Nat.lt_or_ge ((i + j) / 2) p with h | h
          · exact absurd (h3 _ (by omega) h) hc
          · exact h
        exact bsF_eq c p d _ _ (by omega) h1 this h3 (fun k k1 k2 => h4 k k1 (by omega))
    · omega
theorem bsF_lb (c : Nat → Int) (n : Nat) (mono : ∀ k m, k ≤ m → m < n → c m < 0 → c k < 0) : ∀ (d i j : Nat), j - i ≤ d → i ≤ j → j ≤ n → (∀ k, k < i → c k < 0) → (∀ k, j ≤ k → k < n → ¬ c k < 0) → (∀ k, k < bsF c i j → c k < 0) ∧ (∀ k, bsF c i j ≤ k → k < n → ¬ c k < 0)
  | 0, i, j, hd, h1, h2, h3, h4 => by
    rw [bsF, if_neg (by omega)]
    exact ⟨h3, fun k k1 => h4 k (by omega)⟩
  | d + 1, i, j, hd, h1, h2, h3, h4 => by
    rw [bsF]
    split
    · rename_i hij
      split
      · rename_i hc
        exact bsF_lb c n mono d _ _ (by omega) (by omega) h2 (fun k k1 => mono k _ (by omega) (by omega) hc) h4
      · rename_i hc
        exact bsF_lb c n mono d _ _ (by omega) (by omega) (by omega) h3 (fun k k1 k2 h => hc (mono _ k k1 k2 h))
    · exact ⟨h3, fun k k1 => h4 k (by omega)⟩
theorem lbeq (a b : ByteArray) : (a.toList == b.toList) = decide (a = b) := by
  rw [ByteArray.toList_eq, ByteArray.toList_eq]
  by_cases h : a = b
  · simp [h]
  · have : ¬ a.data.toList = b.data.toList := fun h1 => h (Go.WideShapes.bytes_inj h1)
    rw [beq_eq_false_iff_ne.2 this, decide_eq_false h]
theorem bless : ∀ x y : List UInt8, Op.bytesLess x y = decide (Lib.compareBytes x y < 0)
  | [], [] => by simp [Op.bytesLess, Lib.compareBytes]
  | _ :: _, [] => by simp [Op.bytesLess, Lib.compareBytes]
  | [], _ :: _ => by simp [Op.bytesLess, Lib.compareBytes]
  | a :: x, b :: y => by
    simp only [Op.bytesLess, Lib.compareBytes, bless x y]
    by_cases h1 : a < b
    · simp [h1]
    · by_cases h2 : b < a
      · have : ¬ a = b := by rintro rfl; simp at h2
        simp [h1, h2, this]
      · have : a = b := UInt8.le_antisymm (UInt8.not_lt.1 h2) (UInt8.not_lt.1 h1)
        simp [h1, h2, this]
end Go.Proofs.Ytahgddfnbjpfiaa

set_option linter.unusedVariables false
set_option linter.unusedSimpArgs false
set_option maxRecDepth 100000
set_option maxHeartbeats 8000000
namespace Go.Proofs.Ytahgddfnbjpfiaa
open Go Go.RowKit Am

structure Edt where
  id : Idt
  clock : Int
  floor : Int
  deps : List Idt
  kind : Int
  node : Idt
  parent : Idt
  neg : Bool
  num : ByteArray
  den : ByteArray
  field : ByteArray
  value : ByteArray
  target : Idt
  who : ByteArray
def encE (x : Edt) : List V := [.s (.string x.id.a), .s (.int .i64 x.id.n), .s (.int .i64 x.clock), .s (.int .i64 x.floor), .sl (x.deps.map encId), .s (.int .i64 x.kind), .s (.string x.node.a), .s (.int .i64 x.node.n), .s (.string x.parent.a), .s (.int .i64 x.parent.n), .s (.bool x.neg), .s (.string x.num), .s (.string x.den), .s (.string x.field), .s (.string x.value), .s (.string x.target.a), .s (.int .i64 x.target.n), .s (.string x.who)]
def cmpE (a b : Edt) : Int := orF [cmpI a.clock b.clock, cmpB a.id.a b.id.a, cmpI a.id.n b.id.n]
def cmpES : Fspec := fun _ ds r => ∃ a b : Edt, ds = [.agg (encE a), .agg (encE b)] ∧ r = .s (.int .i64 (cmpE a b))
theorem cmpI_lt {x y : Int} (h : x < y) : cmpI x y = -1 := by simp [cmpI, h]
theorem cmpI_gt {x y : Int} (h : y < x) : cmpI x y = 1 := by have : ¬ x < y := by omega
                                                             simp [cmpI, h, this]
theorem cmpI_eq (x : Int) : cmpI x x = 0 := by simp [cmpI]
theorem cmpL_three : ∀ a b : List UInt8, Lib.compareBytes a b = -1 ∨ Lib.compareBytes a b = 0 ∨ Lib.compareBytes a b = 1
  | [], [] => by simp [Lib.compareBytes]
  | _ :: _, [] => by simp [Lib.compareBytes]
  | [], _ :: _ => by simp [Lib.compareBytes]
  | a :: x, b :: y => by
    simp only [Lib.compareBytes]
    have := cmpL_three x y
    split
    · simp
    · split
      · simp
      · exact this
theorem cmpB_three (a b : ByteArray) : cmpB a b = -1 ∨ cmpB a b = 0 ∨ cmpB a b = 1 := cmpL_three _ _
theorem rcmp_sound {plain : TypeId → Bool} {Γ : FuncId → Option Fspec} {Δ : FuncId → Option Pt} (hE : EnvOk ⟨Try.prog, plain, Γ, Δ, fun _ => none, 0⟩) : Sound Try.prog 18 cmpES := by
  refine sound_of_awp hE Try.func18 rfl (by kernel_rfl) ?_
  rintro Φ ds r ⟨a, b, rfl, rfl⟩
  refine ⟨by simp [Try.f18], ?_⟩
  unfold st0 encE
  refine W.out (E := ⟨Try.prog, plain, Γ, Δ, Φ, _⟩) ?_
  by_cases h1 : a.clock = b.clock
  · have n1 : (a.clock != b.clock) = false := by simp [h1]
    have k1 : cmpI a.clock b.clock = 0 := by rw [h1, cmpI_eq]
    by_cases h2 : a.id.a = b.id.a
    · have n2 : (!(a.id.a.toList == b.id.a.toList)) = false := by rw [lbeq, h2]; simp
      have n2' : (a.id.a.toList == b.id.a.toList) = true := by rw [lbeq, h2]; simp
      have k2 : cmpB a.id.a b.id.a = 0 := (ordB.z _ _).2 h2
      by_cases h3 : a.id.n < b.id.n
      · have hz : cmpE a b = -1 := by simp [cmpE, orF, k1, k2, cmpI_lt h3]
        refine go (And.intro n1 (And.intro n2' h3)) ?_
        refine x_done (x_out (sr (And.intro @Try.f18.eq_1 hz)) (by simp) (by simp) rfl)
      · by_cases h4 : b.id.n < a.id.n
        · have hz : cmpE a b = 1 := by simp [cmpE, orF, k1, k2, cmpI_gt h4]
          refine go (And.intro n1 (And.intro n2' (And.intro h3 h4))) ?_
          refine x_done (x_out (sr (And.intro @Try.f18.eq_1 hz)) (by simp) (by simp) rfl)
        · have hz : cmpE a b = 0 := by
            have : a.id.n = b.id.n := by omega
            simp [cmpE, orF, k1, k2, this, cmpI_eq]
          refine go (And.intro n1 (And.intro n2' (And.intro h3 h4))) ?_
          refine x_done (x_out (sr (And.intro @Try.f18.eq_1 hz)) (by simp) (by simp) rfl)
    · have n2' : (a.id.a.toList == b.id.a.toList) = false := by rw [lbeq]; simp [h2]
      cases h3 : Op.bytesLess a.id.a.toList b.id.a.toList
      · have hz : cmpE a b = 1 := by
          rw [bless, ByteArray.toList_eq, ByteArray.toList_eq] at h3
          have h4 : ¬ cmpB a.id.a b.id.a < 0 := by simpa [cmpB] using h3
          have h5 : ¬ cmpB a.id.a b.id.a = 0 := fun e => h2 ((ordB.z _ _).1 e)
          have h6 := cmpB_three a.id.a b.id.a
          have h7 : cmpB a.id.a b.id.a = 1 := by omega
          simp [cmpE, orF, k1, h7]
        refine go (And.intro n1 (And.intro n2' h3)) ?_
        refine x_done (x_out (sr (And.intro @Try.f18.eq_1 hz)) (by simp) (by simp) rfl)
      · have hz : cmpE a b = -1 := by
          rw [bless, ByteArray.toList_eq, ByteArray.toList_eq] at h3
          have h4 : cmpB a.id.a b.id.a < 0 := by simpa [cmpB] using h3
          have h6 := cmpB_three a.id.a b.id.a
          have h7 : cmpB a.id.a b.id.a = -1 := by omega
          simp [cmpE, orF, k1, h7]
        refine go (And.intro n1 (And.intro n2' h3)) ?_
        refine x_done (x_out (sr (And.intro @Try.f18.eq_1 hz)) (by simp) (by simp) rfl)
  · have n1 : (a.clock != b.clock) = true := by simp [h1]
    by_cases h2 : a.clock < b.clock
    · have hz : cmpE a b = -1 := by simp [cmpE, orF, cmpI_lt h2]
      refine go (And.intro n1 h2) ?_
      refine x_done (x_out (sr (And.intro @Try.f18.eq_1 hz)) (by simp) (by simp) rfl)
    · have hz : cmpE a b = 1 := by
        have h3 : b.clock < a.clock := by omega
        simp [cmpE, orF, cmpI_gt h3]
      refine go (And.intro n1 h2) ?_
      refine x_done (x_out (sr (And.intro @Try.f18.eq_1 hz)) (by simp) (by simp) rfl)
end Go.Proofs.Ytahgddfnbjpfiaa

set_option linter.unusedVariables false
set_option linter.unusedSimpArgs false
set_option maxRecDepth 100000
set_option maxHeartbeats 16000000
namespace Go.Proofs.Ytahgddfnbjpfiaa
open Go Go.RowKit Am

/-- Is a number a valid place? -/
def plcF (m : Bool) (a b : ByteArray) : Bool := ((nrS m a b == m) && ((nrN a b).toList == a.toList) && ((nrD a b).toList == b.toList)) && fitF a b 16
def plcS : Fspec := fun _ ds r => ∃ (m : Bool) (a b : ByteArray), a.size ≤ 109951162 ∧ b.size ≤ 109951162 ∧ ds = [.agg (encR m a b)] ∧ r = .s (.bool (plcF m a b))
theorem plc_sound {plain : TypeId → Bool} {Γ : FuncId → Option Fspec} {Δ : FuncId → Option Pt} (hE : EnvOk ⟨Try.prog, plain, Γ, Δ, fun _ => none, 0⟩) (hpl : plain 32 = true) (g_norm : Γ 43 = some rnormS) (g_fits : Γ 44 = some fitsS) : Sound Try.prog 38 plcS := by
  refine sound_of_awp hE Try.func38 rfl (by kernel_rfl) ?_
  rintro Φ ds r ⟨m, a, b, ha, hb, rfl, rfl⟩
  refine ⟨by simp [Try.f38], ?_⟩
  unfold st0 encR
  refine W.out (E := ⟨Try.prog, plain, Γ, Δ, Φ, _⟩) ?_
  have e1 : encR (nrS m a b) (nrN a b) (nrD a b) = [.s (.bool (nrS m a b)), .s (.string (nrN a b)), .s (.string (nrD a b))] := rfl
  unfold plcF
  refine go trivial ?_
  refine x_callD rfl rfl rfl rfl rfl (sv trivial) g_norm (sv trivial) (se trivial) ⟨m, a, b, by omega, by omega, rfl, rfl⟩ rfl ?_
  rw [e1]
  cases hc : ((nrS m a b == m) && ((nrN a b).toList == a.toList) && ((nrD a b).toList == b.toList))
  · rw [Bool.and_assoc] at hc
    refine go (And.intro hpl hc) ?_
    refine x_done (x_out (sr @Try.f38.eq_1) (by simp) (by simp) rfl)
  · rw [Bool.and_assoc] at hc
    refine go (And.intro hpl hc) ?_
    refine x_callD rfl rfl rfl rfl rfl (sv trivial) g_fits (sv trivial) (se trivial) ⟨m, a, b, 16, by omega, by omega, rfl, rfl⟩ rfl ?_
    refine go (And.intro hpl hc) ?_
    refine x_done (x_out (sr @Try.f38.eq_1) (by simp) (by simp) rfl)
def mayF (x : Idt) : Bool := authF x.a && decide (1 ≤ x.n) && decide (x.n ≤ 1000000000)
def mayS : Fspec := fun _ ds r => ∃ x : Idt, x.a.size ≤ 109951162 ∧ ds = [.agg (encId x)] ∧ r = .s (.bool (mayF x))
theorem may_sound {plain : TypeId → Bool} {Γ : FuncId → Option Fspec} {Δ : FuncId → Option Pt} (hE : EnvOk ⟨Try.prog, plain, Γ, Δ, fun _ => none, 0⟩) (g_auth : Γ 27 = some authS) : Sound Try.prog 37 mayS := by
  refine sound_of_awp hE Try.func37 rfl (by kernel_rfl) ?_
  rintro Φ ds r ⟨x, hx, rfl, rfl⟩
  refine ⟨by simp [Try.f37], ?_⟩
  unfold st0 encId
  refine W.out (E := ⟨Try.prog, plain, Γ, Δ, Φ, _⟩) ?_
  unfold mayF
  refine go trivial ?_
  refine x_callN rfl rfl rfl rfl (sv trivial) g_auth (sv trivial) (se trivial) ⟨x.a, by omega, rfl, rfl⟩ rfl ?_
  cases authF x.a
  · refine go trivial ?_
    refine x_done (x_out (sr @Try.f37.eq_1) (by simp) (by simp) rfl)
  · by_cases h1 : 1 ≤ x.n
    · have c1 : decide (1 ≤ x.n) = true := decide_eq_true h1
      refine go h1 ?_
      refine x_done (x_out (sr (And.intro @Try.f37.eq_1 (And.intro h1 c1))) (by simp) (by simp) rfl)
    · have c1 : decide (1 ≤ x.n) = false := decide_eq_false h1
      refine go h1 ?_
      refine x_done (x_out (sr (And.intro @Try.f37.eq_1 (And.intro h1 c1))) (by simp) (by simp) rfl)
/-- From a place on, letters alone. -/
def letF (s : ByteArray) : Nat → Nat → Bool
  | 0, _ => true
  | n + 1, i => !(decide (bAt s i < 97) || decide (122 < bAt s i)) && letF s n (i + 1)
def wordF (s : ByteArray) : Bool := letF s s.size 0 && (decide (1 ≤ (s.size : Int)) && decide ((s.size : Int) ≤ 24))
def wordS : Fspec := fun _ ds r => ∃ s : ByteArray, s.size ≤ 1099511627776 ∧ ds = [.s (.string s)] ∧ r = .s (.bool (wordF s))
theorem word_sound {plain : TypeId → Bool} {Γ : FuncId → Option Fspec} {Δ : FuncId → Option Pt} (hE : EnvOk ⟨Try.prog, plain, Γ, Δ, fun _ => none, 0⟩) : Sound Try.prog 39 wordS := by
  refine sound_of_awp hE Try.func39 rfl (by kernel_rfl) ?_
  rintro Φ ds r ⟨s, hs, rfl, rfl⟩
  refine ⟨by simp [Try.f39], ?_⟩
  unfold st0
  refine W.out (E := ⟨Try.prog, plain, Γ, Δ, Φ, _⟩) ?_
  refine go trivial ?_
  refine x_loop (fun σ => ∃ (i : Nat), σ.t 0 = .s (.string s) ∧ σ.t 3 = .s (.int .i64 i) ∧ i ≤ s.size ∧ letF s (s.size - i) i = letF s s.size 0) (fun σ => s.size - ix (σ.t 3)) ⟨0, (by first | assumption | exact sxa trivial), (by first | assumption | exact sxa trivial), (by first | rfl | omega | assumption | (simp [*]; done)), (by first | rfl | omega | assumption | (simp [*]; done))⟩ ?_
  rintro t h n ⟨i, h0, h3, hf0, hf1⟩
  simp only at h0 h3
  refine go (And.intro h0 h3) ?_
  refine x_condP (sv (And.intro h0 h3)) (fun hc => ?_) (fun hc => ?_)
  · have hi' : i < s.size := by omega
    obtain ⟨m, hm⟩ : ∃ m, s.size - i = m + 1 := ⟨s.size - i - 1, by omega⟩
    rw [hm, letF] at hf1
    have eb : ((byteAt s i).toNat : Int) = bAt s i := rfl
    have bad : (decide (bAt s i < 97) || decide (122 < bAt s i)) = true → wordF s = false := fun hb => by rw [hb] at hf1; simp only [wordF, ← hf1]; rfl
    have good : (decide (bAt s i < 97) || decide (122 < bAt s i)) = false → letF s (s.size - (i + 1)) (i + 1) = letF s s.size 0 := fun hb => by rw [hb] at hf1; rw [show s.size - (i + 1) = m by omega]; simpa using hf1
    by_cases c1 : bAt s i < 97
    · have hz := bad (by simp [c1])
      refine go (And.intro h0 (And.intro h3 (And.intro eb c1))) ?_
      refine x_done (x_out (sr (And.intro @Try.f39.eq_1 hz)) (by simp) (by simp) rfl)
    · by_cases c2 : 122 < bAt s i
      · have hz := bad (by simp [c2])
        refine go (And.intro h0 (And.intro h3 (And.intro eb (And.intro c1 c2)))) ?_
        refine x_done (x_out (sr (And.intro @Try.f39.eq_1 hz)) (by simp) (by simp) rfl)
      · have hz := good (by simp [c1, c2])
        refine go (And.intro h0 (And.intro h3 (And.intro eb (And.intro c1 c2)))) ?_
        (refine ⟨⟨i + 1, ?_, ?_, ?_, ?_⟩, ?_⟩ <;> (first | omega | (dsimp only; omega) | ((exact hz)) | exact sxa @cast_succ | exact soa trivial))
  · have e : i = s.size := by omega
    subst e
    rw [Nat.sub_self, letF] at hf1
    have hw : wordF s = (decide (1 ≤ (s.size : Int)) && decide ((s.size : Int) ≤ 24)) := by rw [wordF, ← hf1]; rfl
    rw [hw]
    by_cases c1 : 1 ≤ (s.size : Int)
    · have d1 : decide (1 ≤ (s.size : Int)) = true := decide_eq_true c1
      refine go (And.intro h0 (And.intro h3 c1)) ?_
      refine x_done (x_out (sr (And.intro @Try.f39.eq_1 d1)) (by simp) (by simp) rfl)
    · have d1 : decide (1 ≤ (s.size : Int)) = false := decide_eq_false c1
      refine go (And.intro h0 (And.intro h3 c1)) ?_
      refine x_done (x_out (sr (And.intro @Try.f39.eq_1 d1)) (by simp) (by simp) rfl)
def binS : Fspec := fun _ ds r => ds = [] ∧ r = .agg (encId ⟨⟨#[45]⟩, 0⟩)
theorem bin_sound {plain : TypeId → Bool} {Γ : FuncId → Option Fspec} {Δ : FuncId → Option Pt} (hE : EnvOk ⟨Try.prog, plain, Γ, Δ, fun _ => none, 0⟩) : Sound Try.prog 40 binS := by
  refine sound_of_awp hE Try.func40 rfl (by kernel_rfl) ?_
  rintro Φ ds r ⟨rfl, rfl⟩
  refine ⟨by simp [Try.f40], ?_⟩
  unfold st0 encId
  refine W.out (E := ⟨Try.prog, plain, Γ, Δ, Φ, _⟩) ?_
  refine go trivial ?_
  refine x_done (x_out (sr @Try.f40.eq_1) (by simp) (by simp) rfl)
end Go.Proofs.Ytahgddfnbjpfiaa
