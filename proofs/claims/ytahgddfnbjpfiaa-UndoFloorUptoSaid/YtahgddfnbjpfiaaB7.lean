/- Texts that the law's proof stands on: V17, V18, V19, V20, V27, V35, V36, V34, V39, V51, V41, V52, V30, V55, V56. -/
import Derived.Test.YtahgddfnbjpfiaaB6
import Derived.Test.YtahgddfnbjpfiaaB5
set_option linter.unusedVariables false
set_option linter.unusedSimpArgs false
set_option maxRecDepth 100000
set_option maxHeartbeats 16000000
namespace Go.Proofs.Ytahgddfnbjpfiaa
open Go Go.RowKit Am

/-- A number that is not negative, as an integer. -/
def encN (n : Nat) : List Am.V := [.s (.bool false), .s (.string (natB n))]
theorem encN_of (s : ByteArray) : encZ (zv false s) = encN (vl s) := by rw [encZ_zv]; rfl
theorem encN_nat (n : Nat) : encZ (n : Int) = encN n := by
  rw [encZ, decide_eq_false (by omega : ¬ ((n : Int) < 0)), Int.natAbs_natCast]; rfl
theorem vl_false (s : ByteArray) : zv false s = (vl s : Int) := rfl
/-- The quotient of two integers that are not negative. -/
def divIS : Fspec := fun _ ds r => ∃ a b : ByteArray, a.size ≤ 274877906900 ∧ b.size ≤ 274877906900 ∧ vl b ≠ 0 ∧ ds = [.agg [.s (.bool false), .s (.string a)], .agg [.s (.bool false), .s (.string b)]] ∧ r = .tup [.agg (encN (vl a / vl b)), .agg (encN (vl a % vl b)), .s (.bool true)]
theorem divI_sound {plain : TypeId → Bool} {Γ : FuncId → Option Fspec} {Δ : FuncId → Option Pt} (hE : EnvOk ⟨Try.prog, plain, Γ, Δ, fun _ => none, 0⟩) (g_of : Γ 58 = some ofiS) (g_div : Γ 60 = some div1S) (g_sign : Γ 61 = some signiS) : Sound Try.prog 55 divIS := by
  refine sound_of_awp hE Try.func55 rfl (by kernel_rfl) ?_
  rintro Φ ds r ⟨a, b, ha, hb, hz, rfl, rfl⟩
  refine ⟨by simp [Try.f55], ?_⟩
  unfold st0
  refine W.out (E := ⟨Try.prog, plain, Γ, Δ, Φ, _⟩) ?_
  refine go trivial ?_
  have e1 : V.tup [.s (.string (natB (vl a / vl b))), .s (.string (natB (vl a % vl b))), .s (.bool true)] = .tup (if vl b = 0 then [.s (.string ⟨#[]⟩), .s (.string ⟨#[]⟩), .s (.bool false)] else [.s (.string (natB (vl a / vl b))), .s (.string (natB (vl a % vl b))), .s (.bool true)]) := by rw [if_neg hz]
  refine x_callN rfl rfl rfl rfl (sv trivial) g_div (sv trivial) (se trivial) ⟨a, b, by omega, by omega, rfl, e1⟩ rfl ?_
  have hRB := Nat.mod_lt (vl a) (Nat.pos_of_ne_zero hz)
  have hQA := Nat.div_le_self (vl a) (vl b)
  have sR : (natB (vl a % vl b)).size ≤ b.size := dig_len_le (Nat.lt_trans hRB (vl_lt b))
  have sQ : (natB (vl a / vl b)).size ≤ a.size := dig_len_le (Nat.lt_of_le_of_lt hQA (vl_lt a))
  generalize vl a % vl b = r1 at *
  generalize vl a / vl b = q1 at *
  have hf1 : encZ (zv false (natB r1)) = [.s (.bool false), .s (.string (natB r1))] := by rw [encN_of, vl_natB]; rfl
  have hf2 : encZ (zv false (natB q1)) = [.s (.bool false), .s (.string (natB q1))] := by rw [encN_of, vl_natB]; rfl
  have h1 : ((zv false (natB r1)).sign < 0) = False := eq_false (by
    rw [vl_false]
    rcases Nat.eq_zero_or_pos (vl (natB r1)) with h | h
    · rw [h]; decide
    · rw [Int.sign_eq_one_of_pos (by omega)]; decide)
  rw [encN, encN]
  refine go trivial ?_
  refine x_callN rfl rfl rfl rfl (sv trivial) g_of (sv trivial) (se trivial) ⟨false, natB r1, by omega, rfl, rfl⟩ rfl ?_
  rw [hf1]
  refine go trivial ?_
  refine x_callN rfl rfl rfl rfl (sv trivial) g_of (sv trivial) (se trivial) ⟨false, natB q1, by omega, rfl, rfl⟩ rfl ?_
  rw [hf2]
  refine go trivial ?_
  refine x_callN rfl rfl rfl rfl (sv trivial) g_sign (sv trivial) (se trivial) ⟨false, natB r1, by omega, rfl, rfl⟩ rfl ?_
  have z : Zm [5, 4] := ⟨⟩
  refine go h1 ?_
  refine x_done (x_outT (sr @Try.f55.eq_1) rfl)
end Go.Proofs.Ytahgddfnbjpfiaa

set_option linter.unusedVariables false
set_option linter.unusedSimpArgs false
set_option maxRecDepth 100000
set_option maxHeartbeats 16000000
namespace Go.Proofs.Ytahgddfnbjpfiaa
open Go Go.RowKit Am

def encJ (q : Bool × ByteArray) : List Am.V := [.s (.bool q.1), .s (.string q.2)]
theorem encJ_rows (v : List (Bool × ByteArray)) : (∀ r ∈ v.map encJ, r.length = 2) = True := rows_map _ _ _ fun _ => rfl
/-- The greatest common divisor of some magnitudes. -/
def gcdF (L : List (Bool × ByteArray)) : Nat := L.foldl (fun g q => Nat.gcd g (vl q.2)) 0
theorem gcdF_step (L : List (Bool × ByteArray)) (i : Nat) (hi : i < L.length) : gcdF (L.take (i + 1)) = Nat.gcd (gcdF (L.take i)) (vl (L[i]).2) := by
  rw [gcdF, gcdF, List.take_add_one, List.getElem?_eq_getElem hi, List.foldl_append]; rfl
theorem gcd_sz {g : Nat} {s : ByteArray} {m : Nat} (hg : (natB g).size ≤ m) (hs : s.size ≤ m) : (natB (Nat.gcd g (vl s))).size ≤ m := by
  rcases Nat.eq_zero_or_pos (vl s) with h | h
  · rw [h, Nat.gcd_zero_right]; exact hg
  · exact Nat.le_trans (natB_le (Nat.le_of_dvd h (Nat.gcd_dvd_right g (vl s)))) (Nat.le_trans (natB_sz s) hs)
def gcdIS : Fspec := fun _ ds r => ∃ L : List (Bool × ByteArray), L.length ≤ 1099511627776 ∧ (∀ q ∈ L, q.2.size ≤ 1099511627) ∧ ds = [.sl (L.map encJ)] ∧ r = .agg (encN (gcdF L))
theorem gcdI_sound {plain : TypeId → Bool} {Γ : FuncId → Option Fspec} {Δ : FuncId → Option Pt} (hE : EnvOk ⟨Try.prog, plain, Γ, Δ, fun _ => none, 0⟩) (g_of : Γ 58 = some ofiS) (g_gcd : Γ 59 = some gcdS) : Sound Try.prog 54 gcdIS := by
  refine sound_of_awp hE Try.func54 rfl (by kernel_rfl) ?_
  rintro Φ ds r ⟨L, hl, hs, rfl, rfl⟩
  refine ⟨by simp [Try.f54], ?_⟩
  unfold st0
  refine W.out (E := ⟨Try.prog, plain, Γ, Δ, Φ, _⟩) ?_
  have hem : (⟨#[]⟩ : ByteArray) = natB (gcdF (L.take 0)) := by rw [List.take_zero]; exact natB_zero.symm
  have he0 : (natB (gcdF (L.take 0))).size ≤ 1099511627 := by rw [← hem]; decide
  refine go trivial ?_
  refine x_loop (fun σ => ∃ (i : Nat), σ.t 0 = .sl (L.map encJ) ∧ σ.t 2 = .ptr 0 0 0 ∧ σ.t 3 = .s (.string (natB (gcdF (L.take i)))) ∧ σ.t 4 = .s (.int .i64 i) ∧ σ.h 0 = some ⟨2, [[.s (.bool false), .s (.string ⟨#[]⟩)]], true⟩ ∧ 0 < σ.n ∧ i ≤ L.length ∧ (natB (gcdF (L.take i))).size ≤ 1099511627) (fun σ => L.length - ix (σ.t 4)) ⟨0, (by first | assumption | exact sxa trivial), (by first | assumption | exact sxa trivial), (by first | assumption | exact sxa trivial), (by first | assumption | exact sxa trivial), (by first | assumption | exact sxa trivial), (by first | omega | (dsimp only; omega) | exact soa trivial | omega | (simp; done)), (by first | rfl | omega | assumption | (simp [*]; done)), (by first | rfl | omega | assumption | (simp [*]; done))⟩ ?_
  rintro t h n ⟨i, h0, h2, h3, h4, hh0, hn1, hf0, hf1⟩
  simp only at h0 h2 h3 h4 hh0 hn1
  by_cases hi : i < L.length
  · have d1 : ((i : Int) < (L.length : Int)) = True := eq_true (by omega)
    obtain ⟨m0, s0, hq⟩ : ∃ m0 s0, L[i] = (m0, s0) := ⟨_, _, rfl⟩
    have hsi : s0.size ≤ 1099511627 := by have := hs _ (List.getElem_mem hi); rw [hq] at this; exact this
    have hr := encJ_rows L
    have hst := gcdF_step L i hi
    rw [hq] at hst
    have hsz := gcd_sz hf1 hsi
    simp only at hst
    refine go (And.intro h0 (And.intro h2 (And.intro h3 (And.intro h4 (And.intro hh0 (And.intro d1 (And.intro hr (And.intro @encJ.eq_1 hq)))))))) ?_
    refine x_callN rfl rfl rfl rfl (sv (And.intro h0 (And.intro h2 (And.intro h3 (And.intro h4 (And.intro hh0 (And.intro d1 (And.intro hr (And.intro @encJ.eq_1 hq))))))))) g_gcd (sv (And.intro h0 (And.intro h2 (And.intro h3 (And.intro h4 (And.intro hh0 (And.intro d1 (And.intro hr (And.intro @encJ.eq_1 hq))))))))) (se (And.intro h0 (And.intro h2 (And.intro h3 (And.intro h4 (And.intro hh0 (And.intro d1 (And.intro hr (And.intro @encJ.eq_1 hq))))))))) ⟨natB (gcdF (L.take i)), s0, by omega, by omega, rfl, rfl⟩ rfl ?_
    rw [vl_natB, ← hst]
    rw [← hst] at hsz
    refine go (And.intro h0 (And.intro h2 (And.intro h3 (And.intro h4 (And.intro hh0 (And.intro d1 (And.intro hr (And.intro @encJ.eq_1 hq)))))))) ?_
    (refine ⟨⟨i + 1, ?_, ?_, ?_, ?_, ?_, ?_, ?_, ?_⟩, ?_⟩ <;> (first | omega | (dsimp only; omega) | (assumption) | exact sxa (And.intro @cast_succ (And.intro h0 (And.intro h2 (And.intro h3 (And.intro h4 hh0))))) | exact soa trivial))
  · have d1 : ((i : Int) < (L.length : Int)) = False := eq_false (by omega)
    have htk : L.take i = L := List.take_of_length_le (by omega)
    rw [htk] at h3 hf1
    have hx := encN_of (natB (gcdF L))
    rw [vl_natB] at hx
    have hvl := vl_natB (gcdF L)
    refine go (And.intro h0 (And.intro h2 (And.intro h3 (And.intro h4 (And.intro hh0 d1))))) ?_
    refine x_callN rfl rfl rfl rfl (sv (And.intro h0 (And.intro h2 (And.intro h3 (And.intro h4 (And.intro hh0 d1)))))) g_of (sv (And.intro h0 (And.intro h2 (And.intro h3 (And.intro h4 (And.intro hh0 d1)))))) (se (And.intro h0 (And.intro h2 (And.intro h3 (And.intro h4 (And.intro hh0 d1)))))) ⟨false, natB (gcdF L), by omega, rfl, rfl⟩ rfl ?_
    rw [hx, encN]
    refine go (And.intro h0 (And.intro h2 (And.intro h3 (And.intro h4 (And.intro hh0 d1))))) ?_
    refine x_done (x_out (sr (And.intro @Try.f54.eq_1 (And.intro h0 (And.intro h2 (And.intro h3 h4))))) (by simp) (by simp) rfl)
def oneS : Fspec := fun _ ds r => ds = [] ∧ r = .agg (encN 1)
theorem one_sound {plain : TypeId → Bool} {Γ : FuncId → Option Fspec} {Δ : FuncId → Option Pt} (hE : EnvOk ⟨Try.prog, plain, Γ, Δ, fun _ => none, 0⟩) (g_from : Γ 64 = some fromS) : Sound Try.prog 56 oneS := by
  refine sound_of_awp hE Try.func56 rfl (by kernel_rfl) ?_
  rintro Φ ds r ⟨rfl, rfl⟩
  refine ⟨by simp [Try.f56], ?_⟩
  unfold st0
  refine W.out (E := ⟨Try.prog, plain, Γ, Δ, Φ, _⟩) ?_
  have hx := encN_nat 1
  refine go trivial ?_
  refine x_callN rfl rfl rfl rfl (sv trivial) g_from (sv trivial) (se trivial) ⟨1, by omega, rfl, rfl⟩ rfl ?_
  rw [hx, encN]
  refine go trivial ?_
  refine x_done (x_out (sr @Try.f56.eq_1) (by simp) (by simp) rfl)
def aboveS : Fspec := fun _ ds r => ∃ (m : Bool) (a b : ByteArray), a.size ≤ 1099511627 ∧ ds = [.agg [.s (.bool m), .s (.string a), .s (.string b)]] ∧ r = .agg (encZ (zv m a))
theorem above_sound {plain : TypeId → Bool} {Γ : FuncId → Option Fspec} {Δ : FuncId → Option Pt} (hE : EnvOk ⟨Try.prog, plain, Γ, Δ, fun _ => none, 0⟩) (g_norm : Γ 53 = some normiS) : Sound Try.prog 50 aboveS := by
  refine sound_of_awp hE Try.func50 rfl (by kernel_rfl) ?_
  rintro Φ ds r ⟨m, a, b, ha, rfl, rfl⟩
  refine ⟨by simp [Try.f50], ?_⟩
  unfold st0
  refine W.out (E := ⟨Try.prog, plain, Γ, Δ, Φ, _⟩) ?_
  refine go trivial ?_
  refine x_callN rfl rfl rfl rfl (sv trivial) g_norm (sv trivial) (se trivial) ⟨m, a, by omega, rfl, rfl⟩ rfl ?_
  rw [encZ_zv]
  refine go trivial ?_
  refine x_done (x_out (sr @Try.f50.eq_1) (by simp) (by simp) rfl)
/-- A denominator. -/
def dnF (b : ByteArray) : Nat := if vl b = 0 then 1 else vl b
def belowS : Fspec := fun _ ds r => ∃ (m : Bool) (a b : ByteArray), b.size ≤ 1099511627 ∧ ds = [.agg [.s (.bool m), .s (.string a), .s (.string b)]] ∧ r = .agg (encN (dnF b))
theorem below_sound {plain : TypeId → Bool} {Γ : FuncId → Option Fspec} {Δ : FuncId → Option Pt} (hE : EnvOk ⟨Try.prog, plain, Γ, Δ, fun _ => none, 0⟩) (g_norm : Γ 53 = some normiS) (g_one : Γ 56 = some oneS) : Sound Try.prog 51 belowS := by
  refine sound_of_awp hE Try.func51 rfl (by kernel_rfl) ?_
  rintro Φ ds r ⟨m, a, b, hb, rfl, rfl⟩
  refine ⟨by simp [Try.f51], ?_⟩
  unfold st0
  refine W.out (E := ⟨Try.prog, plain, Γ, Δ, Φ, _⟩) ?_
  have hem := natB_empty (vl b)
  refine go trivial ?_
  refine x_callN rfl rfl rfl rfl (sv trivial) g_norm (sv trivial) (se trivial) ⟨false, b, by omega, rfl, rfl⟩ rfl ?_
  have e0 : encN (vl b) = [.s (.bool false), .s (.string (natB (vl b)))] := rfl
  rw [encN_of, e0]
  by_cases hz : vl b = 0
  · have h1 : decide (vl b = 0) = true := decide_eq_true hz
    rw [dnF, if_pos hz]
    refine go (And.intro hem h1) ?_
    refine x_callN rfl rfl rfl rfl (sv trivial) g_one (sv trivial) (se trivial) ⟨rfl, rfl⟩ rfl ?_
    rw [encN]
    refine go (And.intro hem h1) ?_
    refine x_done (x_out (sr @Try.f51.eq_1) (by simp) (by simp) rfl)
  · have h1 : decide (vl b = 0) = false := decide_eq_false hz
    rw [dnF, if_neg hz, e0]
    refine go (And.intro hem h1) ?_
    refine x_done (x_out (sr @Try.f51.eq_1) (by simp) (by simp) rfl)
end Go.Proofs.Ytahgddfnbjpfiaa

set_option linter.unusedVariables false
set_option linter.unusedSimpArgs false
set_option maxRecDepth 100000
set_option maxHeartbeats 16000000
namespace Go.Proofs.Ytahgddfnbjpfiaa
open Go Go.RowKit Am

/-- The number n/d in canonical form (d is not 0). -/
def ratS (ng : Bool) (n d : Nat) : Bool := ng && !decide (n / Nat.gcd n d = 0)
def ratN (n d : Nat) : ByteArray := natB (n / Nat.gcd n d)
def ratD (n d : Nat) : ByteArray := if d / Nat.gcd n d = 1 then ⟨#[]⟩ else natB (d / Nat.gcd n d)
def encR (m : Bool) (a b : ByteArray) : List Am.V := [.s (.bool m), .s (.string a), .s (.string b)]
def makeS : Fspec := fun _ ds r => ∃ (m : Bool) (a : ByteArray) (b : ByteArray), a.size ≤ 1099511627 ∧ b.size ≤ 1099511627 ∧ vl b ≠ 0 ∧
  ds = [.agg [.s (.bool m), .s (.string a)], .agg [.s (.bool false), .s (.string b)]] ∧
  r = .tup [.agg (encR (ratS m (vl a) (vl b)) (ratN (vl a) (vl b)) (ratD (vl a) (vl b))), .s (.bool true)]
theorem natB_inj_one (n : Nat) : ((natB n).toList == (natB 1).toList) = decide (n = 1) := by
  rw [Bool.eq_iff_iff, beq_iff_eq, decide_eq_true_iff, ByteArray.toList_eq, ByteArray.toList_eq]
  constructor
  · intro h
    rw [← vl_natB n, ba_ext h, vl_natB]
  · rintro rfl; rfl
theorem make_sound {plain : TypeId → Bool} {Γ : FuncId → Option Fspec} {Δ : FuncId → Option Pt} (hE : EnvOk ⟨Try.prog, plain, Γ, Δ, fun _ => none, 0⟩) (hpl : plain 75 = true) (g_norm : Γ 53 = some normiS) (g_gcd : Γ 54 = some gcdIS) (g_div : Γ 55 = some divIS) (g_one : Γ 56 = some oneS) : Sound Try.prog 49 makeS := by
  refine sound_of_awp hE Try.func49 rfl (by kernel_rfl) ?_
  rintro Φ ds r ⟨m, a, b, ha, hb, hz, rfl, rfl⟩
  refine ⟨by simp [Try.f49], ?_⟩
  unfold st0
  refine W.out (E := ⟨Try.prog, plain, Γ, Δ, Φ, _⟩) ?_
  have hem := natB_empty (vl b)
  have hd1 : decide (vl b = 0) = false := decide_eq_false hz
  have e1 : encZ (zv m a) = [.s (.bool (m && !decide (vl a = 0))), .s (.string (natB (vl a)))] := encZ_zv m a
  have e2 : encZ (zv false b) = [.s (.bool false), .s (.string (natB (vl b)))] := encN_of b
  have szA := natB_sz a
  have szB := natB_sz b
  generalize hA : vl a = A at *
  generalize hB : vl b = B at *
  have hGp : 0 < Nat.gcd A B := Nat.gcd_pos_of_pos_right A (Nat.pos_of_ne_zero hz)
  have hG : gcdF [(false, natB A), (false, natB B)] = Nat.gcd A B := by simp [gcdF, vl_natB, Nat.gcd_zero_left]
  have sG : (natB (Nat.gcd A B)).size ≤ 1099511627 := Nat.le_trans (natB_le (Nat.le_of_dvd (Nat.pos_of_ne_zero hz) (Nat.gcd_dvd_right A B))) (by omega)
  have hrs : ratS m A B = (m && !decide (A / Nat.gcd A B = 0)) := rfl
  have hrn : ratN A B = natB (A / Nat.gcd A B) := rfl
  have hrd : ratD A B = if B / Nat.gcd A B = 1 then ⟨#[]⟩ else natB (B / Nat.gcd A B) := rfl
  have hA0 : A / Nat.gcd A B = 0 ↔ A = 0 := by
    constructor
    · intro h
      rcases Nat.div_eq_zero_iff.1 h with h | h
      · omega
      · rcases Nat.eq_zero_or_pos A with h0 | h0
        · exact h0
        · exact absurd (Nat.le_of_dvd h0 (Nat.gcd_dvd_left A B)) (by omega)
    · rintro rfl; exact Nat.zero_div _
  have hAd : decide (A = 0) = decide (A / Nat.gcd A B = 0) := by rw [Bool.eq_iff_iff, decide_eq_true_iff, decide_eq_true_iff]; exact hA0.symm
  rw [hAd] at e1
  rw [hrs, hrn, hrd, encR]
  generalize hgg : Nat.gcd A B = G at *
  have hvG := vl_natB G
  have hvA := vl_natB A
  have hvB := vl_natB B
  have hen := natB_empty (A / G)
  have hen1 := natB_inj_one (B / G)
  have f1 : encN G = [.s (.bool false), .s (.string (natB G))] := rfl
  have f2 : encN (A / G) = [.s (.bool false), .s (.string (natB (A / G)))] := rfl
  have f3 : encN (B / G) = [.s (.bool false), .s (.string (natB (B / G)))] := rfl
  have f4 : encN 1 = [.s (.bool false), .s (.string (natB 1))] := rfl
  have f5 : encN (A % G) = [.s (.bool false), .s (.string (natB (A % G)))] := rfl
  have f6 : encN (B % G) = [.s (.bool false), .s (.string (natB (B % G)))] := rfl
  refine go trivial ?_
  refine x_callD rfl rfl rfl rfl rfl (sv trivial) g_norm (sv trivial) (se trivial) ⟨m, a, by omega, rfl, rfl⟩ rfl ?_
  rw [e1]
  refine go trivial ?_
  refine x_callD rfl rfl rfl rfl rfl (sv trivial) g_norm (sv trivial) (se trivial) ⟨false, b, by omega, rfl, rfl⟩ rfl ?_
  rw [e2]
  refine go (And.intro hem hd1) ?_
  refine x_callF rfl rfl rfl rfl (sv (And.intro @encJ.eq_1 (And.intro hem hd1))) g_gcd (sv (And.intro @encJ.eq_1 (And.intro hem hd1))) (se (And.intro @encJ.eq_1 (And.intro hem hd1))) ⟨[(false, natB A), (false, natB B)], by simp, by simp; omega, rfl, rfl⟩ (by simp) (fun h2 hold => ?_)
  rw [hG, f1]
  have hb0 : h2 0 = some ⟨2, [[.s (.bool false), .s (.string (natB A))]], true⟩ := by
    rw [hold 0 (by simp [touchA, touch, upd_at, rowsOf])]
    exact sx trivial
  have hb1 : h2 1 = some ⟨2, [[.s (.bool false), .s (.string (natB B))]], true⟩ := by
    rw [hold 1 (by simp [touchA, touch, upd_at, rowsOf])]
    exact sx trivial
  have hb2 : h2 2 = some ⟨3, [[.s (.bool false), .s (.string ⟨#[]⟩), .s (.string ⟨#[]⟩)]], true⟩ := by
    rw [hold 2 (by simp [touchA, touch, upd_at, rowsOf])]
    exact sx trivial
  clear hold
  have hsg : (!((m && !decide (A / G = 0)) == false)) = (m && !decide (A / G = 0)) := by cases (m && !decide (A / G = 0)) <;> rfl
  rw [hsg]
  have d1 : V.tup [.agg [.s (.bool false), .s (.string (natB (A / G)))], .agg [.s (.bool false), .s (.string (natB (A % G)))], .s (.bool true)] = .tup [.agg (encN (vl (natB A) / vl (natB G))), .agg (encN (vl (natB A) % vl (natB G))), .s (.bool true)] := by rw [hvA, hvG]; rfl
  have d2 : V.tup [.agg [.s (.bool false), .s (.string (natB (B / G)))], .agg [.s (.bool false), .s (.string (natB (B % G)))], .s (.bool true)] = .tup [.agg (encN (vl (natB B) / vl (natB G))), .agg (encN (vl (natB B) % vl (natB G))), .s (.bool true)] := by rw [hvB, hvG]; rfl
  have hG0 : vl (natB G) ≠ 0 := by rw [hvG]; omega
  refine go (And.intro hb0 (And.intro hb1 hb2)) ?_
  refine x_callS rfl rfl rfl rfl (sv (And.intro hb0 (And.intro hb1 hb2))) g_div (sv (And.intro hb0 (And.intro hb1 hb2))) (se (And.intro hb0 (And.intro hb1 hb2))) ⟨natB A, natB G, by omega, by omega, hG0, rfl, d1⟩ (by simp) (by simp [touchA, touch]) ?_
  refine go (And.intro hb0 (And.intro hb1 hb2)) ?_
  refine x_callS rfl rfl rfl rfl (sv (And.intro hb0 (And.intro hb1 hb2))) g_div (sv (And.intro hb0 (And.intro hb1 hb2))) (se (And.intro hb0 (And.intro hb1 hb2))) ⟨natB B, natB G, by omega, by omega, hG0, rfl, d2⟩ (by simp) (by simp [touchA, touch]) ?_
  by_cases hq : A / G = 0
  · have q1 : decide (A / G = 0) = true := decide_eq_true hq
    rw [q1]
    have q2 : (m && !true) = false := by cases m <;> rfl
    rw [q2]
    by_cases hp : B / G = 1
    · have p1 : decide (B / G = 1) = true := decide_eq_true hp
      rw [if_pos hp]
      refine go (And.intro hb0 (And.intro hb1 (And.intro hb2 (And.intro hen (And.intro hen1 (And.intro q1 (And.intro p1 hpl))))))) ?_
      refine x_callD rfl rfl rfl rfl rfl (sv (And.intro hb0 (And.intro hb1 hb2))) g_one (sv (And.intro hb0 (And.intro hb1 hb2))) (se (And.intro hb0 (And.intro hb1 hb2))) ⟨rfl, rfl⟩ rfl ?_
      rw [f4]
      refine go (And.intro hb0 (And.intro hb1 (And.intro hb2 (And.intro hen (And.intro hen1 (And.intro q1 (And.intro p1 hpl))))))) ?_
      refine x_done (x_outT (sr (And.intro @Try.f49.eq_1 (And.intro hb0 (And.intro hb1 hb2)))) rfl)
    · have p1 : decide (B / G = 1) = false := decide_eq_false hp
      rw [if_neg hp]
      refine go (And.intro hb0 (And.intro hb1 (And.intro hb2 (And.intro hen (And.intro hen1 (And.intro q1 (And.intro p1 hpl))))))) ?_
      refine x_callD rfl rfl rfl rfl rfl (sv (And.intro hb0 (And.intro hb1 hb2))) g_one (sv (And.intro hb0 (And.intro hb1 hb2))) (se (And.intro hb0 (And.intro hb1 hb2))) ⟨rfl, rfl⟩ rfl ?_
      rw [f4]
      refine go (And.intro hb0 (And.intro hb1 (And.intro hb2 (And.intro hen (And.intro hen1 (And.intro q1 (And.intro p1 hpl))))))) ?_
      refine x_done (x_outT (sr (And.intro @Try.f49.eq_1 (And.intro hb0 (And.intro hb1 hb2)))) rfl)
  · have q1 : decide (A / G = 0) = false := decide_eq_false hq
    rw [q1]
    have q2 : (m && !false) = m := by cases m <;> rfl
    rw [q2]
    by_cases hp : B / G = 1
    · have p1 : decide (B / G = 1) = true := decide_eq_true hp
      rw [if_pos hp]
      refine go (And.intro hb0 (And.intro hb1 (And.intro hb2 (And.intro hen (And.intro hen1 (And.intro q1 (And.intro p1 hpl))))))) ?_
      refine x_callD rfl rfl rfl rfl rfl (sv (And.intro hb0 (And.intro hb1 hb2))) g_one (sv (And.intro hb0 (And.intro hb1 hb2))) (se (And.intro hb0 (And.intro hb1 hb2))) ⟨rfl, rfl⟩ rfl ?_
      rw [f4]
      refine go (And.intro hb0 (And.intro hb1 (And.intro hb2 (And.intro hen (And.intro hen1 (And.intro q1 (And.intro p1 hpl))))))) ?_
      refine x_done (x_outT (sr (And.intro @Try.f49.eq_1 (And.intro hb0 (And.intro hb1 hb2)))) rfl)
    · have p1 : decide (B / G = 1) = false := decide_eq_false hp
      rw [if_neg hp]
      refine go (And.intro hb0 (And.intro hb1 (And.intro hb2 (And.intro hen (And.intro hen1 (And.intro q1 (And.intro p1 hpl))))))) ?_
      refine x_callD rfl rfl rfl rfl rfl (sv (And.intro hb0 (And.intro hb1 hb2))) g_one (sv (And.intro hb0 (And.intro hb1 hb2))) (se (And.intro hb0 (And.intro hb1 hb2))) ⟨rfl, rfl⟩ rfl ?_
      rw [f4]
      refine go (And.intro hb0 (And.intro hb1 (And.intro hb2 (And.intro hen (And.intro hen1 (And.intro q1 (And.intro p1 hpl))))))) ?_
      refine x_done (x_outT (sr (And.intro @Try.f49.eq_1 (And.intro hb0 (And.intro hb1 hb2)))) rfl)
end Go.Proofs.Ytahgddfnbjpfiaa

set_option linter.unusedVariables false
set_option linter.unusedSimpArgs false
set_option maxRecDepth 100000
set_option maxHeartbeats 16000000
namespace Go.Proofs.Ytahgddfnbjpfiaa
open Go Go.RowKit Am

/-- The canonical form of a rational. -/
def nrS (m : Bool) (a b : ByteArray) : Bool := ratS (m && !decide (vl a = 0)) (vl a) (dnF b)
def nrN (a b : ByteArray) : ByteArray := ratN (vl a) (dnF b)
def nrD (a b : ByteArray) : ByteArray := ratD (vl a) (dnF b)
theorem dnF_pos (b : ByteArray) : dnF b ≠ 0 := by unfold dnF; split <;> omega
theorem dnF_sz (b : ByteArray) : (natB (dnF b)).size ≤ b.size + 1 := by
  unfold dnF
  split
  · exact dig_len_le (by rw [Nat.pow_succ]; have := Nat.pow_pos (n := b.size) (show 0 < 256 by omega); omega)
  · have := natB_sz b; omega
def rnormS : Fspec := fun _ ds r => ∃ (m : Bool) (a b : ByteArray), a.size ≤ 109951162 ∧ b.size ≤ 109951162 ∧ ds = [.agg (encR m a b)] ∧ r = .agg (encR (nrS m a b) (nrN a b) (nrD a b))
theorem rnorm_sound {plain : TypeId → Bool} {Γ : FuncId → Option Fspec} {Δ : FuncId → Option Pt} (hE : EnvOk ⟨Try.prog, plain, Γ, Δ, fun _ => none, 0⟩) (g_above : Γ 50 = some aboveS) (g_below : Γ 51 = some belowS) (g_make : Γ 49 = some makeS) : Sound Try.prog 43 rnormS := by
  refine sound_of_awp hE Try.func43 rfl (by kernel_rfl) ?_
  rintro Φ ds r ⟨m, a, b, ha, hb, rfl, rfl⟩
  refine ⟨by simp [Try.f43], ?_⟩
  unfold st0 encR
  refine W.out (E := ⟨Try.prog, plain, Γ, Δ, Φ, _⟩) ?_
  have e1 : encZ (zv m a) = [.s (.bool (m && !decide (vl a = 0))), .s (.string (natB (vl a)))] := encZ_zv m a
  have e2 : encN (dnF b) = [.s (.bool false), .s (.string (natB (dnF b)))] := rfl
  have z1 := natB_sz a
  have z2 := dnF_sz b
  have hd := dnF_pos b
  have d1 : V.tup [.agg [.s (.bool (nrS m a b)), .s (.string (nrN a b)), .s (.string (nrD a b))], .s (.bool true)] = .tup [.agg (encR (ratS (m && !decide (vl a = 0)) (vl (natB (vl a))) (vl (natB (dnF b)))) (ratN (vl (natB (vl a))) (vl (natB (dnF b)))) (ratD (vl (natB (vl a))) (vl (natB (dnF b))))), .s (.bool true)] := by rw [vl_natB, vl_natB]; rfl
  refine go trivial ?_
  refine x_callD rfl rfl rfl rfl rfl (sv trivial) g_above (sv trivial) (se trivial) ⟨m, a, b, by omega, rfl, rfl⟩ rfl ?_
  rw [e1]
  refine go trivial ?_
  refine x_callD rfl rfl rfl rfl rfl (sv trivial) g_below (sv trivial) (se trivial) ⟨m, a, b, by omega, rfl, rfl⟩ rfl ?_
  rw [e2]
  refine go trivial ?_
  refine x_callDS rfl rfl rfl rfl rfl (sv trivial) g_make (sv trivial) (se trivial) ⟨m && !decide (vl a = 0), natB (vl a), natB (dnF b), by omega, by omega, by rw [vl_natB]; exact hd, rfl, d1⟩ (by simp) (by simp [touchA, touch]) ?_
  refine go trivial ?_
  refine x_done (x_out (sr @Try.f43.eq_1) (by simp) (by simp) rfl)
/-- Do both magnitudes of the canonical form take at most k bytes? -/
def fitF (a b : ByteArray) (k : Nat) : Bool := decide ((nrN a b).size ≤ k) && decide ((nrD a b).size ≤ k)
def fitsS : Fspec := fun _ ds r => ∃ (m : Bool) (a b : ByteArray) (k : Nat), a.size ≤ 109951162 ∧ b.size ≤ 109951162 ∧ ds = [.agg (encR m a b), .s (.int .i64 k)] ∧ r = .s (.bool (fitF a b k))
theorem fits_sound {plain : TypeId → Bool} {Γ : FuncId → Option Fspec} {Δ : FuncId → Option Pt} (hE : EnvOk ⟨Try.prog, plain, Γ, Δ, fun _ => none, 0⟩) (g_norm : Γ 43 = some rnormS) : Sound Try.prog 44 fitsS := by
  refine sound_of_awp hE Try.func44 rfl (by kernel_rfl) ?_
  rintro Φ ds r ⟨m, a, b, k, ha, hb, rfl, rfl⟩
  refine ⟨by simp [Try.f44], ?_⟩
  unfold st0 encR
  refine W.out (E := ⟨Try.prog, plain, Γ, Δ, Φ, _⟩) ?_
  have e1 : encR (nrS m a b) (nrN a b) (nrD a b) = [.s (.bool (nrS m a b)), .s (.string (nrN a b)), .s (.string (nrD a b))] := rfl
  unfold fitF
  refine go trivial ?_
  refine x_callN rfl rfl rfl rfl (sv trivial) g_norm (sv trivial) (se trivial) ⟨m, a, b, by omega, by omega, rfl, rfl⟩ rfl ?_
  rw [e1]
  generalize nrS m a b = x1 at *
  generalize nrN a b = x2 at *
  generalize nrD a b = x3 at *
  by_cases h1 : x2.size ≤ k
  · have c1 : ((x2.size : Int) ≤ (k : Int)) = True := eq_true (by omega)
    have c2 : decide (x2.size ≤ k) = true := decide_eq_true h1
    rw [c2]
    by_cases h2 : x3.size ≤ k
    · have c3 : ((x3.size : Int) ≤ (k : Int)) = True := eq_true (by omega)
      have c4 : decide (x3.size ≤ k) = true := decide_eq_true h2
      rw [c4]
      refine go (And.intro c1 c3) ?_
      refine x_done (x_out (sr @Try.f44.eq_1) (by simp) (by simp) rfl)
    · have c3 : ((x3.size : Int) ≤ (k : Int)) = False := eq_false (by omega)
      have c4 : decide (x3.size ≤ k) = false := decide_eq_false h2
      rw [c4]
      refine go (And.intro c1 c3) ?_
      refine x_done (x_out (sr @Try.f44.eq_1) (by simp) (by simp) rfl)
  · have c1 : ((x2.size : Int) ≤ (k : Int)) = False := eq_false (by omega)
    have c2 : decide (x2.size ≤ k) = false := decide_eq_false h1
    rw [c2]
    refine go c1 ?_
    refine x_done (x_out (sr @Try.f44.eq_1) (by simp) (by simp) rfl)
end Go.Proofs.Ytahgddfnbjpfiaa

set_option linter.unusedVariables false
set_option linter.unusedSimpArgs false
set_option maxRecDepth 100000
set_option maxHeartbeats 4000000
namespace Go.Proofs.Ytahgddfnbjpfiaa
open Go Go.RowKit Am

/-- A byte at a place, as a number. -/
def bAt (s : ByteArray) (i : Nat) : Int := ((byteAt s i).toNat : Int)
def badAt (s : ByteArray) (i : Nat) : Bool := !(decide (97 ≤ bAt s i) && decide (bAt s i ≤ 122)) && (decide (i = 0) || (decide (bAt s i < 48) || decide (57 < bAt s i)))
/-- The first n places from i on are good. -/
def goodFrom (s : ByteArray) : Nat → Nat → Bool
  | 0, _ => true
  | n + 1, i => !badAt s i && goodFrom s n (i + 1)
def authF (s : ByteArray) : Bool := goodFrom s s.size 0 && (decide (0 < (s.size : Int)) && decide ((s.size : Int) ≤ 24))
def authS : Fspec := fun _ ds r => ∃ s : ByteArray, s.size ≤ 1099511627776 ∧ ds = [.s (.string s)] ∧ r = .s (.bool (authF s))
theorem auth_sound {plain : TypeId → Bool} {Γ : FuncId → Option Fspec} {Δ : FuncId → Option Pt} (hE : EnvOk ⟨Try.prog, plain, Γ, Δ, fun _ => none, 0⟩) : Sound Try.prog 27 authS := by
  refine sound_of_awp hE Try.func27 rfl (by kernel_rfl) ?_
  rintro Φ ds r ⟨s, hs, rfl, rfl⟩
  refine ⟨by simp [Try.f27], ?_⟩
  unfold st0
  refine W.out (E := ⟨Try.prog, plain, Γ, Δ, Φ, _⟩) ?_
  refine go trivial ?_
  refine x_loop (fun σ => ∃ i : Nat, i ≤ s.size ∧ σ.t 0 = .s (.string s) ∧ σ.t 3 = .s (.int .i64 i) ∧ goodFrom s (s.size - i) i = goodFrom s s.size 0) (fun σ => s.size - ix (σ.t 3)) ⟨0, Nat.zero_le _, (sc trivial), (sc trivial), rfl⟩ ?_
  rintro t h n ⟨i, hi, h0, h3, hf⟩
  simp only at h0 h3
  refine go (And.intro h0 h3) ?_
  refine x_condP (sv trivial) (fun hc => ?_) (fun hc => ?_)
  · have hi' : i < s.size := by omega
    obtain ⟨m, hm⟩ : ∃ m, s.size - i = m + 1 := ⟨s.size - i - 1, by omega⟩
    rw [hm, goodFrom] at hf
    have e0 : ((i : Int) == 0) = decide (i = 0) := by rw [beq_eq_decide]; simp
    have eb : ((byteAt s i).toNat : Int) = bAt s i := rfl
    by_cases c1 : 97 ≤ bAt s i
    · by_cases c2 : bAt s i ≤ 122
      · have hb : badAt s i = false := by simp [badAt, c1, c2]
        rw [hb] at hf
        refine go (And.intro h0 (And.intro h3 (And.intro e0 (And.intro eb (And.intro c1 c2))))) ?_
        refine ⟨⟨i + 1, by omega, (sc h0), (sc (And.intro h3 @cast_succ)), by rw [show s.size - (i + 1) = m by omega]; simpa using hf⟩, ?_⟩
        exact so h3
      · skip
        by_cases c3 : i = 0
        · have c3' : (i = 0) = True := by simp [c3]
          · have hb : badAt s i = true := by simp [badAt, c1, c2, c3']
            rw [hb] at hf
            have hz : authF s = false := by simp only [authF, ← hf]; rfl
            refine go (And.intro h0 (And.intro h3 (And.intro e0 (And.intro eb (And.intro c1 (And.intro c2 c3')))))) ?_
            refine x_done (x_out (sr (And.intro @Try.f27.eq_1 hz)) (by simp) (by simp) rfl)
        · have c3' : (i = 0) = False := by simp [c3]
          by_cases c4 : bAt s i < 48
          · exact (by omega : False).elim
          · by_cases c5 : 57 < bAt s i
            · have hb : badAt s i = true := by simp [badAt, c1, c2, c3', c4, c5]
              rw [hb] at hf
              have hz : authF s = false := by simp only [authF, ← hf]; rfl
              refine go (And.intro h0 (And.intro h3 (And.intro e0 (And.intro eb (And.intro c1 (And.intro c2 (And.intro c3' (And.intro c4 c5)))))))) ?_
              refine x_done (x_out (sr (And.intro @Try.f27.eq_1 hz)) (by simp) (by simp) rfl)
            · exact (by omega : False).elim
    · skip
      by_cases c3 : i = 0
      · have c3' : (i = 0) = True := by simp [c3]
        · have hb : badAt s i = true := by simp [badAt, c1, c3']
          rw [hb] at hf
          have hz : authF s = false := by simp only [authF, ← hf]; rfl
          refine go (And.intro h0 (And.intro h3 (And.intro e0 (And.intro eb (And.intro c1 c3'))))) ?_
          refine x_done (x_out (sr (And.intro @Try.f27.eq_1 hz)) (by simp) (by simp) rfl)
      · have c3' : (i = 0) = False := by simp [c3]
        by_cases c4 : bAt s i < 48
        · have hb : badAt s i = true := by simp [badAt, c1, c3', c4]
          rw [hb] at hf
          have hz : authF s = false := by simp only [authF, ← hf]; rfl
          refine go (And.intro h0 (And.intro h3 (And.intro e0 (And.intro eb (And.intro c1 (And.intro c3' c4)))))) ?_
          refine x_done (x_out (sr (And.intro @Try.f27.eq_1 hz)) (by simp) (by simp) rfl)
        · by_cases c5 : 57 < bAt s i
          · have hb : badAt s i = true := by simp [badAt, c1, c3', c4, c5]
            rw [hb] at hf
            have hz : authF s = false := by simp only [authF, ← hf]; rfl
            refine go (And.intro h0 (And.intro h3 (And.intro e0 (And.intro eb (And.intro c1 (And.intro c3' (And.intro c4 c5))))))) ?_
            refine x_done (x_out (sr (And.intro @Try.f27.eq_1 hz)) (by simp) (by simp) rfl)
          · have hb : badAt s i = false := by simp [badAt, c1, c3', c4, c5]
            rw [hb] at hf
            refine go (And.intro h0 (And.intro h3 (And.intro e0 (And.intro eb (And.intro c1 (And.intro c3' (And.intro c4 c5))))))) ?_
            refine ⟨⟨i + 1, by omega, (sc h0), (sc (And.intro h3 @cast_succ)), by rw [show s.size - (i + 1) = m by omega]; simpa using hf⟩, ?_⟩
            exact so h3
  · have e : i = s.size := by omega
    subst e
    rw [Nat.sub_self, goodFrom] at hf
    by_cases d1 : 0 < (s.size : Int)
    · refine go (And.intro h0 (And.intro h3 d1)) ?_
      refine x_done (x_out (sr (And.intro @Try.f27.eq_1 (And.intro @authF.eq_1 (And.intro (hf).symm d1)))) (by simp) (by simp) rfl)
    · refine go (And.intro h0 (And.intro h3 d1)) ?_
      refine x_done (x_out (sr (And.intro @Try.f27.eq_1 (And.intro @authF.eq_1 (And.intro (hf).symm d1)))) (by simp) (by simp) rfl)
end Go.Proofs.Ytahgddfnbjpfiaa

set_option linter.unusedVariables false
set_option linter.unusedSimpArgs false
namespace Go.Proofs.Ytahgddfnbjpfiaa
open Go Go.RowKit Am

/-- A comparison that answers xs an order of keys does. -/
structure OrdC {α κ : Type} (key : α → κ) (c : α → α → Int) : Prop where
  z : ∀ a b, c a b = 0 ↔ key a = key b
  an : ∀ a b, c a b < 0 ↔ 0 < c b a
  tr : ∀ a b d, c a b < 0 → c b d < 0 → c a d < 0
namespace OrdC
variable {α κ : Type} {key : α → κ} {c : α → α → Int}
theorem congL (o : OrdC key c) {a b : α} (d : α) (h : key a = key b) (h1 : c b d < 0) : c a d < 0 := by
  have hz := (o.z a b).2 h
  have hz2 := (o.z b a).2 h.symm
  rcases Int.lt_trichotomy (c a d) 0 with h2 | h2 | h2
  · exact h2
  · have := (o.z a d).1 h2
    have := (o.z b d).2 (h.symm.trans this)
    omega
  · have h3 := (o.an d a).2 h2
    have := o.tr b d a h1 h3
    omega
theorem congR (o : OrdC key c) {a b : α} (d : α) (h : key a = key b) (h1 : c d b < 0) : c d a < 0 := by
  have hz2 := (o.z b a).2 h.symm
  rcases Int.lt_trichotomy (c d a) 0 with h2 | h2 | h2
  · exact h2
  · have := (o.z d a).1 h2
    have := (o.z d b).2 (this.trans h)
    omega
  · have h3 := (o.an a d).2 h2
    have := o.tr a d b h3 h1
    have := (o.z a b).2 h
    omega
theorem comap {β : Type} (o : OrdC key c) (f : β → α) : OrdC (fun x => key (f x)) (fun x y => c (f x) (f y)) :=
  ⟨fun a b => o.z _ _, fun a b => o.an _ _, fun a b d => o.tr _ _ _⟩
theorem lex {κ' : Type} {key' : α → κ'} {c' : α → α → Int} (o : OrdC key c) (o' : OrdC key' c') : OrdC (fun x => (key x, key' x)) (fun x y => orF [c x y, c' x y]) := by
  have e : ∀ x y, orF [c x y, c' x y] = if c x y = 0 then c' x y else c x y := by
    intro x y
    simp only [orF]
    split
    · split <;> simp_all
    · rfl
  refine ⟨fun a b => ?_, fun a b => ?_, fun a b d => ?_⟩
  · simp only [e, Prod.mk.injEq, ← o.z, ← o'.z]
    split <;> simp_all
  · have h1 := o.an a b; have h2 := o.an b a; have h3 := o'.an a b
    simp only [e]
    by_cases h : c a b = 0
    · have h4 : c b a = 0 := by omega
      simp [h, h4, h3]
    · have h4 : ¬ c b a = 0 := by omega
      simp [h, h4, h1]
  · simp only [e]
    intro h1 h2
    by_cases ha : c a b = 0
    · rw [if_pos ha] at h1
      by_cases hb : c b d = 0
      · rw [if_pos hb] at h2
        have hk := ((o.z a b).1 ha).trans ((o.z b d).1 hb)
        rw [if_pos ((o.z a d).2 hk)]
        exact o'.tr a b d h1 h2
      · rw [if_neg hb] at h2
        have := o.congL d ((o.z a b).1 ha) h2
        rw [if_neg (by omega)]
        exact this
    · rw [if_neg ha] at h1
      by_cases hb : c b d = 0
      · have := o.congR a ((o.z b d).1 hb).symm h1
        rw [if_neg (by omega)]
        exact this
      · rw [if_neg hb] at h2
        have := o.tr a b d h1 h2
        rw [if_neg (by omega)]
        exact this
end OrdC
theorem cmpBytes_z : ∀ a b : List UInt8, Lib.compareBytes a b = 0 ↔ a = b
  | [], [] => by simp [Lib.compareBytes]
  | [], b :: bs => by simp [Lib.compareBytes]
  | a :: xs, [] => by simp [Lib.compareBytes]
  | a :: xs, b :: bs => by
    simp only [Lib.compareBytes, List.cons.injEq]
    split
    · rename_i h
      have : a ≠ b := by rintro rfl; simp at h
      simp [this]
    · split
      · rename_i h
        have : a ≠ b := by rintro rfl; simp at h
        simp [this]
      · rename_i h1 h2
        have : a = b := UInt8.le_antisymm (UInt8.not_lt.1 h2) (UInt8.not_lt.1 h1)
        simp [this, cmpBytes_z xs bs]
theorem cmpBytes_as : ∀ a b : List UInt8, Lib.compareBytes a b < 0 ↔ 0 < Lib.compareBytes b a
  | [], [] => by simp [Lib.compareBytes]
  | [], b :: bs => by simp [Lib.compareBytes]
  | a :: xs, [] => by simp [Lib.compareBytes]
  | a :: xs, b :: bs => by
    simp only [Lib.compareBytes]
    by_cases h1 : a < b
    · have h2 : ¬ b < a := UInt8.not_lt.2 (UInt8.le_of_lt h1)
      simp [h1, h2]
    · by_cases h2 : b < a
      · simp [h1, h2]
      · simp [h1, h2, cmpBytes_as xs bs]
theorem cmpBytes_tr : ∀ a b d : List UInt8, Lib.compareBytes a b < 0 → Lib.compareBytes b d < 0 → Lib.compareBytes a d < 0
  | _, _, [], _, h => by rename_i b _; cases b <;> simp [Lib.compareBytes] at h
  | [], _, d :: ds, _, _ => by simp [Lib.compareBytes]
  | a :: xs, [], d :: ds, h, _ => by simp [Lib.compareBytes] at h
  | a :: xs, b :: bs, d :: ds, h1, h2 => by
    simp only [Lib.compareBytes] at h1 h2 ⊢
    by_cases hab : a < b
    · by_cases hbd : b < d
      · have : a < d := UInt8.lt_trans hab hbd
        simp [this]
      · by_cases hdb : d < b
        · simp [hbd, hdb] at h2
        · have e : b = d := UInt8.le_antisymm (UInt8.not_lt.1 hdb) (UInt8.not_lt.1 hbd)
          subst e
          simp [hab]
    · by_cases hba : b < a
      · simp [hab, hba] at h1
      · have e : a = b := UInt8.le_antisymm (UInt8.not_lt.1 hba) (UInt8.not_lt.1 hab)
        subst e
        simp only [hab, if_false] at h1
        by_cases had : a < d
        · simp [had]
        · by_cases hda : d < a
          · simp [had, hda] at h2
          · simp only [had, hda, if_false] at h2 ⊢
            exact cmpBytes_tr xs bs ds h1 h2
theorem ordB : OrdC (fun a : ByteArray => a) cmpB := ⟨fun a b => by rw [cmpB, cmpBytes_z]; exact ⟨Go.WideShapes.bytes_inj, fun h => by rw [h]⟩, fun a b => cmpBytes_as _ _, fun a b d => cmpBytes_tr _ _ _⟩
theorem ordI : OrdC (fun a : Int => a) cmpI := ⟨fun a b => by unfold cmpI; constructor <;> intro h <;> (try split at h) <;> (try split at h) <;> (try split) <;> (try split) <;> omega, fun a b => by unfold cmpI; constructor <;> intro h <;> (try split at h) <;> (try split at h) <;> (try split) <;> (try split) <;> omega, fun a b d h1 h2 => by unfold cmpI at *; (try split at h1) <;> (try split at h1) <;> (try split at h2) <;> (try split at h2) <;> (try split) <;> (try split) <;> omega⟩
end Go.Proofs.Ytahgddfnbjpfiaa

set_option linter.unusedVariables false
set_option linter.unusedSimpArgs false
namespace Go.Proofs.Ytahgddfnbjpfiaa
open Go Go.RowKit Am

theorem bsF_eq (c : Nat → Int) (p : Nat) : ∀ (d i j : Nat), j - i ≤ d → i ≤ p → p ≤ j → (∀ k, i ≤ k → k < p → c k < 0) → (∀ k, p ≤ k → k < j → ¬ c k < 0) → bsF c i j = p
  | 0, i, j, hd, h1, h2, _, _ => by
    rw [bsF, if_neg (by omega)]
    omega
  | d + 1, i, j, hd, h1, h2, h3, h4 => by
    rw [bsF]
    split
    · rename_i hij
      split
      · rename_i hc
        have : (i + j) / 2 < p := by
          rcases Nat.lt_or_ge ((i + j) / 2) p with h | h
          · exact h
          · exact absurd hc (h4 _ h (by omega))
        exact bsF_eq c p d _ _ (by omega) (by omega) h2 (fun k k1 k2 => h3 k (by omega) k2) h4
      · rename_i hc
        have : p ≤ (i + j) / 2 := by
          rcases Nat.lt_or_ge ((i + j) / 2) p with h | h
          · exact absurd (h3 _ (by omega) h) hc
          · exact h
        exact bsF_eq c p d _ _ (by omega) h1 this h3 (fun k k1 k2 => h4 k k1 (by omega))
    · omega
theorem bsF_lb (c : Nat → Int) (n : Nat) (mono : ∀ k m, k ≤ m → m < n → c m < 0 → c k < 0) : ∀ (d i j : Nat), j - i ≤ d → i ≤ j → j ≤ n → (∀ k, k < i → c k < 0) → (∀ k, j ≤ k → k < n → ¬ c k < 0) → (∀ k, k < bsF c i j → c k < 0) ∧ (∀ k, bsF c i j ≤ k → k < n → ¬ c k < 0)
  | 0, i, j, hd, h1, h2, h3, h4 => by
    rw [bsF, if_neg (by omega)]
    exact ⟨h3, fun k k1 => h4 k (by omega)⟩
  | d + 1, i, j, hd, h1, h2, h3, h4 => by
    rw [bsF]
    split
    · rename_i hij
      split
      · rename_i hc
        exact bsF_lb c n mono d _ _ (by omega) (by omega) h2 (fun k k1 => mono k _ (by omega) (by omega) hc) h4
      · rename_i hc
        exact bsF_lb c n mono d _ _ (by omega) (by omega) (by omega) h3 (fun k k1 k2 h => hc (mono _ k k1 k2 h))
    · exact ⟨h3, fun k k1 => h4 k (by omega)⟩
theorem lbeq (a b : ByteArray) : (a.toList == b.toList) = decide (a = b) := by
  rw [ByteArray.toList_eq, ByteArray.toList_eq]
  by_cases h : a = b
  · simp [h]
  · have : ¬ a.data.toList = b.data.toList := fun h1 => h (Go.WideShapes.bytes_inj h1)
    rw [beq_eq_false_iff_ne.2 this, decide_eq_false h]
theorem bless : ∀ x y : List UInt8, Op.bytesLess x y = decide (Lib.compareBytes x y < 0)
  | [], [] => by simp [Op.bytesLess, Lib.compareBytes]
  | _ :: _, [] => by simp [Op.bytesLess, Lib.compareBytes]
  | [], _ :: _ => by simp [Op.bytesLess, Lib.compareBytes]
  | a :: x, b :: y => by
    simp only [Op.bytesLess, Lib.compareBytes, bless x y]
    by_cases h1 : a < b
    · simp [h1]
    · by_cases h2 : b < a
      · have : ¬ a = b := by rintro rfl; simp at h2
        simp [h1, h2, this]
      · have : a = b := UInt8.le_antisymm (UInt8.not_lt.1 h2) (UInt8.not_lt.1 h1)
        simp [h1, h2, this]
end Go.Proofs.Ytahgddfnbjpfiaa

set_option linter.unusedVariables false
set_option linter.unusedSimpArgs false
set_option maxRecDepth 100000
set_option maxHeartbeats 8000000
namespace Go.Proofs.Ytahgddfnbjpfiaa
open Go Go.RowKit Am

structure Edt where
  id : Idt
  clock : Int
  floor : Int
  deps : List Idt
  kind : Int
  node : Idt
  parent : Idt
  neg : Bool
  num : ByteArray
  den : ByteArray
  field : ByteArray
  value : ByteArray
  target : Idt
  who : ByteArray
def encE (x : Edt) : List V := [.s (.string x.id.a), .s (.int .i64 x.id.n), .s (.int .i64 x.clock), .s (.int .i64 x.floor), .sl (x.deps.map encId), .s (.int .i64 x.kind), .s (.string x.node.a), .s (.int .i64 x.node.n), .s (.string x.parent.a), .s (.int .i64 x.parent.n), .s (.bool x.neg), .s (.string x.num), .s (.string x.den), .s (.string x.field), .s (.string x.value), .s (.string x.target.a), .s (.int .i64 x.target.n), .s (.string x.who)]
def cmpE (a b : Edt) : Int := orF [cmpI a.clock b.clock, cmpB a.id.a b.id.a, cmpI a.id.n b.id.n]
def cmpES : Fspec := fun _ ds r => ∃ a b : Edt, ds = [.agg (encE a), .agg (encE b)] ∧ r = .s (.int .i64 (cmpE a b))
theorem cmpI_lt {x y : Int} (h : x < y) : cmpI x y = -1 := by simp [cmpI, h]
theorem cmpI_gt {x y : Int} (h : y < x) : cmpI x y = 1 := by have : ¬ x < y := by omega
                                                             simp [cmpI, h, this]
theorem cmpI_eq (x : Int) : cmpI x x = 0 := by simp [cmpI]
theorem cmpL_three : ∀ a b : List UInt8, Lib.compareBytes a b = -1 ∨ Lib.compareBytes a b = 0 ∨ Lib.compareBytes a b = 1
  | [], [] => by simp [Lib.compareBytes]
  | _ :: _, [] => by simp [Lib.compareBytes]
  | [], _ :: _ => by simp [Lib.compareBytes]
  | a :: x, b :: y => by
    simp only [Lib.compareBytes]
    have := cmpL_three x y
    split
    · simp
    · split
      · simp
      · exact this
theorem cmpB_three (a b : ByteArray) : cmpB a b = -1 ∨ cmpB a b = 0 ∨ cmpB a b = 1 := cmpL_three _ _
theorem rcmp_sound {plain : TypeId → Bool} {Γ : FuncId → Option Fspec} {Δ : FuncId → Option Pt} (hE : EnvOk ⟨Try.prog, plain, Γ, Δ, fun _ => none, 0⟩) : Sound Try.prog 18 cmpES := by
  refine sound_of_awp hE Try.func18 rfl (by kernel_rfl) ?_
  rintro Φ ds r ⟨a, b, rfl, rfl⟩
  refine ⟨by simp [Try.f18], ?_⟩
  unfold st0 encE
  refine W.out (E := ⟨Try.prog, plain, Γ, Δ, Φ, _⟩) ?_
  by_cases h1 : a.clock = b.clock
  · have n1 : (a.clock != b.clock) = false := by simp [h1]
    have k1 : cmpI a.clock b.clock = 0 := by rw [h1, cmpI_eq]
    by_cases h2 : a.id.a = b.id.a
    · have n2 : (!(a.id.a.toList == b.id.a.toList)) = false := by rw [lbeq, h2]; simp
      have n2' : (a.id.a.toList == b.id.a.toList) = true := by rw [lbeq, h2]; simp
      have k2 : cmpB a.id.a b.id.a = 0 := (ordB.z _ _).2 h2
      by_cases h3 : a.id.n < b.id.n
      · have hz : cmpE a b = -1 := by simp [cmpE, orF, k1, k2, cmpI_lt h3]
        refine go (And.intro n1 (And.intro n2' h3)) ?_
        refine x_done (x_out (sr (And.intro @Try.f18.eq_1 hz)) (by simp) (by simp) rfl)
      · by_cases h4 : b.id.n < a.id.n
        · have hz : cmpE a b = 1 := by simp [cmpE, orF, k1, k2, cmpI_gt h4]
          refine go (And.intro n1 (And.intro n2' (And.intro h3 h4))) ?_
          refine x_done (x_out (sr (And.intro @Try.f18.eq_1 hz)) (by simp) (by simp) rfl)
        · have hz : cmpE a b = 0 := by
            have : a.id.n = b.id.n := by omega
            simp [cmpE, orF, k1, k2, this, cmpI_eq]
          refine go (And.intro n1 (And.intro n2' (And.intro h3 h4))) ?_
          refine x_done (x_out (sr (And.intro @Try.f18.eq_1 hz)) (by simp) (by simp) rfl)
    · have n2' : (a.id.a.toList == b.id.a.toList) = false := by rw [lbeq]; simp [h2]
      cases h3 : Op.bytesLess a.id.a.toList b.id.a.toList
      · have hz : cmpE a b = 1 := by
          rw [bless, ByteArray.toList_eq, ByteArray.toList_eq] at h3
          have h4 : ¬ cmpB a.id.a b.id.a < 0 := by simpa [cmpB] using h3
          have h5 : ¬ cmpB a.id.a b.id.a = 0 := fun e => h2 ((ordB.z _ _).1 e)
          have h6 := cmpB_three a.id.a b.id.a
          have h7 : cmpB a.id.a b.id.a = 1 := by omega
          simp [cmpE, orF, k1, h7]
        refine go (And.intro n1 (And.intro n2' h3)) ?_
        refine x_done (x_out (sr (And.intro @Try.f18.eq_1 hz)) (by simp) (by simp) rfl)
      · have hz : cmpE a b = -1 := by
          rw [bless, ByteArray.toList_eq, ByteArray.toList_eq] at h3
          have h4 : cmpB a.id.a b.id.a < 0 := by simpa [cmpB] using h3
          have h6 := cmpB_three a.id.a b.id.a
          have h7 : cmpB a.id.a b.id.a = -1 := by omega
          simp [cmpE, orF, k1, h7]
        refine go (And.intro n1 (And.intro n2' h3)) ?_
        refine x_done (x_out (sr (And.intro @Try.f18.eq_1 hz)) (by simp) (by simp) rfl)
  · have n1 : (a.clock != b.clock) = true := by simp [h1]
    by_cases h2 : a.clock < b.clock
    · have hz : cmpE a b = -1 := by simp [cmpE, orF, cmpI_lt h2]
      refine go (And.intro n1 h2) ?_
      refine x_done (x_out (sr (And.intro @Try.f18.eq_1 hz)) (by simp) (by simp) rfl)
    · have hz : cmpE a b = 1 := by
        have h3 : b.clock < a.clock := by omega
        simp [cmpE, orF, cmpI_gt h3]
      refine go (And.intro n1 h2) ?_
      refine x_done (x_out (sr (And.intro @Try.f18.eq_1 hz)) (by simp) (by simp) rfl)
end Go.Proofs.Ytahgddfnbjpfiaa

set_option linter.unusedVariables false
set_option linter.unusedSimpArgs false
set_option maxRecDepth 100000
set_option maxHeartbeats 16000000
namespace Go.Proofs.Ytahgddfnbjpfiaa
open Go Go.RowKit Am

/-- Is a number a valid place? -/
def plcF (m : Bool) (a b : ByteArray) : Bool := ((nrS m a b == m) && ((nrN a b).toList == a.toList) && ((nrD a b).toList == b.toList)) && fitF a b 16
def plcS : Fspec := fun _ ds r => ∃ (m : Bool) (a b : ByteArray), a.size ≤ 109951162 ∧ b.size ≤ 109951162 ∧ ds = [.agg (encR m a b)] ∧ r = .s (.bool (plcF m a b))
theorem plc_sound {plain : TypeId → Bool} {Γ : FuncId → Option Fspec} {Δ : FuncId → Option Pt} (hE : EnvOk ⟨Try.prog, plain, Γ, Δ, fun _ => none, 0⟩) (hpl : plain 32 = true) (g_norm : Γ 43 = some rnormS) (g_fits : Γ 44 = some fitsS) : Sound Try.prog 38 plcS := by
  refine sound_of_awp hE Try.func38 rfl (by kernel_rfl) ?_
  rintro Φ ds r ⟨m, a, b, ha, hb, rfl, rfl⟩
  refine ⟨by simp [Try.f38], ?_⟩
  unfold st0 encR
  refine W.out (E := ⟨Try.prog, plain, Γ, Δ, Φ, _⟩) ?_
  have e1 : encR (nrS m a b) (nrN a b) (nrD a b) = [.s (.bool (nrS m a b)), .s (.string (nrN a b)), .s (.string (nrD a b))] := rfl
  unfold plcF
  refine go trivial ?_
  refine x_callD rfl rfl rfl rfl rfl (sv trivial) g_norm (sv trivial) (se trivial) ⟨m, a, b, by omega, by omega, rfl, rfl⟩ rfl ?_
  rw [e1]
  cases hc : ((nrS m a b == m) && ((nrN a b).toList == a.toList) && ((nrD a b).toList == b.toList))
  · rw [Bool.and_assoc] at hc
    refine go (And.intro hpl hc) ?_
    refine x_done (x_out (sr @Try.f38.eq_1) (by simp) (by simp) rfl)
  · rw [Bool.and_assoc] at hc
    refine go (And.intro hpl hc) ?_
    refine x_callD rfl rfl rfl rfl rfl (sv trivial) g_fits (sv trivial) (se trivial) ⟨m, a, b, 16, by omega, by omega, rfl, rfl⟩ rfl ?_
    refine go (And.intro hpl hc) ?_
    refine x_done (x_out (sr @Try.f38.eq_1) (by simp) (by simp) rfl)
def mayF (x : Idt) : Bool := authF x.a && decide (1 ≤ x.n) && decide (x.n ≤ 1000000000)
def mayS : Fspec := fun _ ds r => ∃ x : Idt, x.a.size ≤ 109951162 ∧ ds = [.agg (encId x)] ∧ r = .s (.bool (mayF x))
theorem may_sound {plain : TypeId → Bool} {Γ : FuncId → Option Fspec} {Δ : FuncId → Option Pt} (hE : EnvOk ⟨Try.prog, plain, Γ, Δ, fun _ => none, 0⟩) (g_auth : Γ 27 = some authS) : Sound Try.prog 37 mayS := by
  refine sound_of_awp hE Try.func37 rfl (by kernel_rfl) ?_
  rintro Φ ds r ⟨x, hx, rfl, rfl⟩
  refine ⟨by simp [Try.f37], ?_⟩
  unfold st0 encId
  refine W.out (E := ⟨Try.prog, plain, Γ, Δ, Φ, _⟩) ?_
  unfold mayF
  refine go trivial ?_
  refine x_callN rfl rfl rfl rfl (sv trivial) g_auth (sv trivial) (se trivial) ⟨x.a, by omega, rfl, rfl⟩ rfl ?_
  cases authF x.a
  · refine go trivial ?_
    refine x_done (x_out (sr @Try.f37.eq_1) (by simp) (by simp) rfl)
  · by_cases h1 : 1 ≤ x.n
    · have c1 : decide (1 ≤ x.n) = true := decide_eq_true h1
      refine go h1 ?_
      refine x_done (x_out (sr (And.intro @Try.f37.eq_1 (And.intro h1 c1))) (by simp) (by simp) rfl)
    · have c1 : decide (1 ≤ x.n) = false := decide_eq_false h1
      refine go h1 ?_
      refine x_done (x_out (sr (And.intro @Try.f37.eq_1 (And.intro h1 c1))) (by simp) (by simp) rfl)
/-- From a place on, letters alone. -/
def letF (s : ByteArray) : Nat → Nat → Bool
  | 0, _ => true
  | n + 1, i => !(decide (bAt s i < 97) || decide (122 < bAt s i)) && letF s n (i + 1)
def wordF (s : ByteArray) : Bool := letF s s.size 0 && (decide (1 ≤ (s.size : Int)) && decide ((s.size : Int) ≤ 24))
def wordS : Fspec := fun _ ds r => ∃ s : ByteArray, s.size ≤ 1099511627776 ∧ ds = [.s (.string s)] ∧ r = .s (.bool (wordF s))
theorem word_sound {plain : TypeId → Bool} {Γ : FuncId → Option Fspec} {Δ : FuncId → Option Pt} (hE : EnvOk ⟨Try.prog, plain, Γ, Δ, fun _ => none, 0⟩) : Sound Try.prog 39 wordS := by
  refine sound_of_awp hE Try.func39 rfl (by kernel_rfl) ?_
  rintro Φ ds r ⟨s, hs, rfl, rfl⟩
  refine ⟨by simp [Try.f39], ?_⟩
  unfold st0
  refine W.out (E := ⟨Try.prog, plain, Γ, Δ, Φ, _⟩) ?_
  refine go trivial ?_
  refine x_loop (fun σ => ∃ (i : Nat), σ.t 0 = .s (.string s) ∧ σ.t 3 = .s (.int .i64 i) ∧ i ≤ s.size ∧ letF s (s.size - i) i = letF s s.size 0) (fun σ => s.size - ix (σ.t 3)) ⟨0, (by first | assumption | exact sxa trivial), (by first | assumption | exact sxa trivial), (by first | rfl | omega | assumption | (simp [*]; done)), (by first | rfl | omega | assumption | (simp [*]; done))⟩ ?_
  rintro t h n ⟨i, h0, h3, hf0, hf1⟩
  simp only at h0 h3
  refine go (And.intro h0 h3) ?_
  refine x_condP (sv (And.intro h0 h3)) (fun hc => ?_) (fun hc => ?_)
  · have hi' : i < s.size := by omega
    obtain ⟨m, hm⟩ : ∃ m, s.size - i = m + 1 := ⟨s.size - i - 1, by omega⟩
    rw [hm, letF] at hf1
    have eb : ((byteAt s i).toNat : Int) = bAt s i := rfl
    have bad : (decide (bAt s i < 97) || decide (122 < bAt s i)) = true → wordF s = false := fun hb => by rw [hb] at hf1; simp only [wordF, ← hf1]; rfl
    have good : (decide (bAt s i < 97) || decide (122 < bAt s i)) = false → letF s (s.size - (i + 1)) (i + 1) = letF s s.size 0 := fun hb => by rw [hb] at hf1; rw [show s.size - (i + 1) = m by omega]; simpa using hf1
    by_cases c1 : bAt s i < 97
    · have hz := bad (by simp [c1])
      refine go (And.intro h0 (And.intro h3 (And.intro eb c1))) ?_
      refine x_done (x_out (sr (And.intro @Try.f39.eq_1 hz)) (by simp) (by simp) rfl)
    · by_cases c2 : 122 < bAt s i
      · have hz := bad (by simp [c2])
        refine go (And.intro h0 (And.intro h3 (And.intro eb (And.intro c1 c2)))) ?_
        refine x_done (x_out (sr (And.intro @Try.f39.eq_1 hz)) (by simp) (by simp) rfl)
      · have hz := good (by simp [c1, c2])
        refine go (And.intro h0 (And.intro h3 (And.intro eb (And.intro c1 c2)))) ?_
        (refine ⟨⟨i + 1, ?_, ?_, ?_, ?_⟩, ?_⟩ <;> (first | omega | (dsimp only; omega) | ((exact hz)) | exact sxa @cast_succ | exact soa trivial))
  · have e : i = s.size := by omega
    subst e
    rw [Nat.sub_self, letF] at hf1
    have hw : wordF s = (decide (1 ≤ (s.size : Int)) && decide ((s.size : Int) ≤ 24)) := by rw [wordF, ← hf1]; rfl
    rw [hw]
    by_cases c1 : 1 ≤ (s.size : Int)
    · have d1 : decide (1 ≤ (s.size : Int)) = true := decide_eq_true c1
      refine go (And.intro h0 (And.intro h3 c1)) ?_
      refine x_done (x_out (sr (And.intro @Try.f39.eq_1 d1)) (by simp) (by simp) rfl)
    · have d1 : decide (1 ≤ (s.size : Int)) = false := decide_eq_false c1
      refine go (And.intro h0 (And.intro h3 c1)) ?_
      refine x_done (x_out (sr (And.intro @Try.f39.eq_1 d1)) (by simp) (by simp) rfl)
def binS : Fspec := fun _ ds r => ds = [] ∧ r = .agg (encId ⟨⟨#[45]⟩, 0⟩)
theorem bin_sound {plain : TypeId → Bool} {Γ : FuncId → Option Fspec} {Δ : FuncId → Option Pt} (hE : EnvOk ⟨Try.prog, plain, Γ, Δ, fun _ => none, 0⟩) : Sound Try.prog 40 binS := by
  refine sound_of_awp hE Try.func40 rfl (by kernel_rfl) ?_
  rintro Φ ds r ⟨rfl, rfl⟩
  refine ⟨by simp [Try.f40], ?_⟩
  unfold st0 encId
  refine W.out (E := ⟨Try.prog, plain, Γ, Δ, Φ, _⟩) ?_
  refine go trivial ?_
  refine x_done (x_out (sr @Try.f40.eq_1) (by simp) (by simp) rfl)
end Go.Proofs.Ytahgddfnbjpfiaa

set_option linter.unusedVariables false
set_option linter.unusedSimpArgs false
set_option maxRecDepth 100000
set_option maxHeartbeats 8000000
namespace Go.Proofs.Ytahgddfnbjpfiaa
open Go Go.RowKit Am

abbrev encS (x : ByteArray) : List Am.V := [.s (.string x)]
/-- The names from one place on: what is left to look at, the place, where the name began, the names so far. -/
def nmF (s : ByteArray) : Nat → Nat → Nat → List ByteArray → List ByteArray × Bool
  | 0, _, _, out => (out, true)
  | m + 1, i, fr, out => if (decide ((i : Int) < (s.size : Int)) && !(bAt s i == 44)) = true then nmF s m (i + 1) fr out else
      if authF (s.extract fr i) = false then ([], false) else
      if (decide (0 < out.length) && !Op.bytesLess (out.getLastD ⟨#[]⟩).toList (s.extract fr i).toList) = true then ([], false) else nmF s m (i + 1) (i + 1) (out ++ [s.extract fr i])
def namesF (s : ByteArray) : List ByteArray × Bool := nmF s (s.size + 1) 0 0 []
def namesS : Fspec := fun _ ds r => ∃ s : ByteArray, s.size ≤ 1048576 ∧ ds = [.s (.string s)] ∧ r = .tup [.sl ((namesF s).1.map encS), .s (.bool (namesF s).2)]
theorem okRowsS (l : List ByteArray) : okRows 1 (l.map encS) := okRows_map encS l 1 fun a => ⟨rfl, by simp [encS, cellish]⟩
theorem deepS (l : List ByteArray) : ∀ r ∈ l.map encS, ∀ q ∈ r, deepc q = true := deep_map encS l fun a => by simp [encS, deepc]
theorem encS_rows (v : List ByteArray) : (∀ r ∈ v.map encS, r.length = 1) = True := rows_map _ _ _ fun _ => rfl
theorem snocS (l : List ByteArray) (x : ByteArray) : (l ++ [x]).map encS = l.map encS ++ [encS x] := by simp
theorem lastS {out : List ByteArray} (h : 0 < out.length) (sp : List (List Am.V)) : (out.map encS ++ sp).getD (out.length - 1) [] = [.s (.string (out.getLastD ⟨#[]⟩))] := by
  rw [List.getD_eq_getElem?_getD, List.getElem?_append_left (by simp; omega), List.getElem?_map, List.getElem?_eq_getElem (by omega)]
  rw [List.getLastD_eq_getLast?, List.getLast?_eq_getElem?, List.getElem?_eq_getElem (by omega)]
  rfl
theorem names_sound {plain : TypeId → Bool} {Γ : FuncId → Option Fspec} {Δ : FuncId → Option Pt} (hE : EnvOk ⟨Try.prog, plain, Γ, Δ, fun _ => none, 0⟩) (g_auth : Γ 27 = some authS) : Sound Try.prog 45 namesS := by
  refine sound_of_awp hE Try.func45 rfl (by kernel_rfl) ?_
  rintro Φ ds r ⟨s, hs, rfl, rfl⟩
  refine ⟨by simp [Try.f45], ?_⟩
  unfold st0
  refine W.out (E := ⟨Try.prog, plain, Γ, Δ, Φ, _⟩) ?_
  refine go trivial ?_
  refine x_loop (fun σ => ∃ (i : Nat) (fr : Nat) (b : Nat) (cap : Nat) (out : List ByteArray) (sp : List (List Am.V)), σ.t 0 = .s (.string s) ∧ σ.t 4 = .loc b 0 out.length cap ∧ σ.t 5 = .s (.int .i64 fr) ∧ σ.t 6 = .s (.int .i64 i) ∧ σ.h b = some ⟨1, out.map encS ++ sp, true⟩ ∧ b < σ.n ∧ i ≤ s.size + 1 ∧ fr ≤ i ∧ out.length ≤ cap ∧ cap ≤ out.length + sp.length ∧ out.length ≤ i ∧ nmF s (s.size + 1 - i) i fr out = namesF s) (fun σ => s.size + 1 - ix (σ.t 6)) ⟨0, 0, 0, 0, [], [], (by first | assumption | exact sxa trivial), (by first | assumption | exact sxa trivial), (by first | assumption | exact sxa trivial), (by first | assumption | exact sxa trivial), (by first | assumption | exact sxa trivial), (by first | omega | (dsimp only; omega) | exact soa trivial | omega | (simp; done)), (by first | rfl | omega | assumption | (simp [*]; done)), (by first | rfl | omega | assumption | (simp [*]; done)), (by first | rfl | omega | assumption | (simp [*]; done)), (by first | rfl | omega | assumption | (simp [*]; done)), (by first | rfl | omega | assumption | (simp [*]; done)), (by first | rfl | omega | assumption | (simp [*]; done))⟩ ?_
  rintro t h n ⟨i, fr, b, cap, out, sp, h0, h4, h5, h6, hhb, hn1, hf0, hf1, hf2, hf3, hf4, hf5⟩
  simp only at h0 h4 h5 h6 hhb hn1
  refine go (And.intro h0 (And.intro h4 (And.intro h5 h6))) ?_
  refine x_condP (sv (And.intro h0 (And.intro h4 (And.intro h5 h6)))) (fun hc => ?_) (fun hc => ?_)
  · have hi : i ≤ s.size := by omega
    obtain ⟨m, hm⟩ : ∃ m, s.size + 1 - i = m + 1 := ⟨s.size - i, by omega⟩
    rw [hm, nmF] at hf5
    have hm2 : s.size + 1 - (i + 1) = m := by omega
    have eb : ((byteAt s i).toNat : Int) = bAt s i := rfl
    have e1 : (b = n) = False := by simp <;> omega
    have e2 : (b = n + 1) = False := by simp <;> omega
    have e3 : (n = b) = False := by simp <;> omega
    have hl : ∀ x : ByteArray, (out ++ [x]).length = out.length + 1 := fun x => by simp
    have hgo : nmF s m (i + 1) (i + 1) (out ++ [s.extract fr i]) = namesF s → nmF s (s.size + 1 - (i + 1)) (i + 1) (i + 1) (out ++ [s.extract fr i]) = namesF s := fun h => by rw [hm2]; exact h
    by_cases c0 : (decide ((i : Int) < (s.size : Int)) && !(bAt s i == 44)) = true
    · rw [if_pos c0] at hf5
      rw [Bool.and_eq_true, decide_eq_true_eq] at c0
      obtain ⟨c1, c2⟩ := c0
      have c3 : (bAt s i != 44) = true := by simpa [bne] using c2
      have hz : nmF s (s.size + 1 - (i + 1)) (i + 1) fr out = namesF s := by rw [hm2]; exact hf5
      clear hf5
      refine go (And.intro h0 (And.intro h4 (And.intro h5 (And.intro h6 (And.intro c1 (And.intro eb c3)))))) ?_
      (refine ⟨⟨i + 1, fr, b, cap, out, sp, ?_, ?_, ?_, ?_, ?_, ?_, ?_, ?_, ?_, ?_, ?_, ?_⟩, ?_⟩ <;> (first | omega | (dsimp only; omega) | (first | omega | assumption | (simp [*]; done)) | exact sxa @cast_succ | exact soa trivial))
    · rw [if_neg c0] at hf5
      by_cases c1 : (i : Int) < (s.size : Int)
      · have c3 : (bAt s i != 44) = false := by simpa [bne, c1] using c0
        have hsz : fr ≤ i ∧ i ≤ s.size := ⟨by omega, hi⟩
        obtain ⟨x, hx⟩ : ∃ x, x = s.extract fr i := ⟨_, rfl⟩
        have hxs : x.size ≤ 1048576 := by rw [hx, ByteArray.size_extract]; omega
        rw [← hx] at hf5 hgo
        refine go (And.intro h0 (And.intro h4 (And.intro h5 (And.intro h6 (And.intro eb (And.intro c1 (And.intro c3 (And.intro hsz (hx).symm)))))))) ?_
        refine x_callN rfl rfl rfl rfl (sv trivial) g_auth (sv trivial) (se trivial) ⟨x, by omega, rfl, rfl⟩ rfl ?_
        cases c4 : authF x
        · rw [c4, if_pos rfl] at hf5
          refine go (And.intro h0 (And.intro h4 (And.intro h5 (And.intro h6 (And.intro eb (And.intro c1 (And.intro c3 (hx).symm))))))) ?_
          rw [← hf5]
          refine x_done (x_outT (sr @Try.f45.eq_1) (se trivial))
        · rw [c4, if_neg (by decide)] at hf5
          by_cases c5 : 0 < out.length
          · have c5' : (0 : Int) < (out.length : Int) := by omega
            have ej : (out.length : Int) - 1 = ((out.length - 1 : Nat) : Int) := by omega
            have hlast := lastS c5 sp
            generalize out.getLastD ⟨#[]⟩ = y at *
            have hb1 : (out.length - 1 < (out.map encS ++ sp).length) = True := by simp; omega
            cases c6 : Op.bytesLess y.toList x.toList
            · rw [c6, if_pos (by simp [c5])] at hf5
              refine go (And.intro h0 (And.intro h4 (And.intro h5 (And.intro h6 (And.intro hhb (And.intro eb (And.intro c1 (And.intro c3 (And.intro (hx).symm (And.intro c5' (And.intro ej (And.intro hlast (And.intro hb1 c6))))))))))))) ?_
              rw [← hf5]
              refine x_done (x_outT (sr @Try.f45.eq_1) (se trivial))
            · rw [c6, if_neg (by simp)] at hf5
              have hfin := hgo hf5
              clear hf5 hgo
              refine go (And.intro h0 (And.intro h4 (And.intro h5 (And.intro h6 (And.intro hhb (And.intro eb (And.intro c1 (And.intro c3 (And.intro (hx).symm (And.intro c5' (And.intro ej (And.intro hlast (And.intro hb1 c6))))))))))))) ?_
              refine x_appendO rfl rfl rfl rfl rfl rfl (sv (And.intro h4 (And.intro hhb (And.intro @encS.eq_1 (And.intro e1 (And.intro e2 e3)))))) (by decide) (sc (And.intro h4 (And.intro hhb (And.intro @encS.eq_1 (And.intro e1 (And.intro e2 e3)))))) (sv (And.intro h4 (And.intro hhb (And.intro @encS.eq_1 (And.intro e1 (And.intro e2 e3)))))) (sx (And.intro h4 (And.intro hhb (And.intro @encS.eq_1 (And.intro e1 (And.intro e2 e3)))))) (by first | rfl | (simp; done) | (simp [spare_len]; omega)) (by first | omega | (simp; done) | (simp [spare_len]; omega)) (by first | omega | (simp; done) | (simp [spare_len]; omega)) (sx (And.intro h4 (And.intro hhb (And.intro @encS.eq_1 (And.intro e1 (And.intro e2 e3)))))) (okRowsS [x]) (by first | omega | (simp; done) | (simp [spare_len]; omega)) (fun cap' hcap' => ?_)
              refine go (And.intro h0 (And.intro h4 (And.intro h5 (And.intro h6 (And.intro hhb (And.intro @encS.eq_1 (And.intro e1 (And.intro e2 e3)))))))) ?_
              have hc2 : out.length + 1 ≤ cap' := hcap'
              have hs1 := spare_len 1 (cap' - (out.length + 1))
              (refine ⟨⟨i + 1, i + 1, n + 1, cap', out ++ [x], spare 1 (cap' - (out.length + 1)), ?_, ?_, ?_, ?_, ?_, ?_, ?_, ?_, ?_, ?_, ?_, ?_⟩, ?_⟩ <;> (first | omega | (dsimp only; omega) | (first | omega | assumption | (simp [*]; done)) | exact sxa (And.intro @cast_succ (And.intro @encS.eq_1 (And.intro hl (And.intro @snocS (And.intro e1 (And.intro e2 e3)))))) | exact soa trivial))
          · have c5' : ¬ (0 : Int) < (out.length : Int) := by omega
            rw [if_neg (by simp [c5])] at hf5
            have hfin := hgo hf5
            clear hf5 hgo
            refine go (And.intro h0 (And.intro h4 (And.intro h5 (And.intro h6 (And.intro hhb (And.intro eb (And.intro c1 (And.intro c3 (And.intro (hx).symm c5'))))))))) ?_
            refine x_appendO rfl rfl rfl rfl rfl rfl (sv (And.intro h4 (And.intro hhb (And.intro @encS.eq_1 (And.intro e1 (And.intro e2 e3)))))) (by decide) (sc (And.intro h4 (And.intro hhb (And.intro @encS.eq_1 (And.intro e1 (And.intro e2 e3)))))) (sv (And.intro h4 (And.intro hhb (And.intro @encS.eq_1 (And.intro e1 (And.intro e2 e3)))))) (sx (And.intro h4 (And.intro hhb (And.intro @encS.eq_1 (And.intro e1 (And.intro e2 e3)))))) (by first | rfl | (simp; done) | (simp [spare_len]; omega)) (by first | omega | (simp; done) | (simp [spare_len]; omega)) (by first | omega | (simp; done) | (simp [spare_len]; omega)) (sx (And.intro h4 (And.intro hhb (And.intro @encS.eq_1 (And.intro e1 (And.intro e2 e3)))))) (okRowsS [x]) (by first | omega | (simp; done) | (simp [spare_len]; omega)) (fun cap' hcap' => ?_)
            refine go (And.intro h0 (And.intro h4 (And.intro h5 (And.intro h6 (And.intro hhb (And.intro @encS.eq_1 (And.intro e1 (And.intro e2 e3)))))))) ?_
            have hc2 : out.length + 1 ≤ cap' := hcap'
            have hs1 := spare_len 1 (cap' - (out.length + 1))
            (refine ⟨⟨i + 1, i + 1, n + 1, cap', out ++ [x], spare 1 (cap' - (out.length + 1)), ?_, ?_, ?_, ?_, ?_, ?_, ?_, ?_, ?_, ?_, ?_, ?_⟩, ?_⟩ <;> (first | omega | (dsimp only; omega) | (first | omega | assumption | (simp [*]; done)) | exact sxa (And.intro @cast_succ (And.intro @encS.eq_1 (And.intro hl (And.intro @snocS (And.intro e1 (And.intro e2 e3)))))) | exact soa trivial))
      · skip
        have hsz : fr ≤ i ∧ i ≤ s.size := ⟨by omega, hi⟩
        obtain ⟨x, hx⟩ : ∃ x, x = s.extract fr i := ⟨_, rfl⟩
        have hxs : x.size ≤ 1048576 := by rw [hx, ByteArray.size_extract]; omega
        rw [← hx] at hf5 hgo
        refine go (And.intro h0 (And.intro h4 (And.intro h5 (And.intro h6 (And.intro eb (And.intro c1 (And.intro hsz (hx).symm))))))) ?_
        refine x_callN rfl rfl rfl rfl (sv trivial) g_auth (sv trivial) (se trivial) ⟨x, by omega, rfl, rfl⟩ rfl ?_
        cases c4 : authF x
        · rw [c4, if_pos rfl] at hf5
          refine go (And.intro h0 (And.intro h4 (And.intro h5 (And.intro h6 (And.intro eb (And.intro c1 (hx).symm)))))) ?_
          rw [← hf5]
          refine x_done (x_outT (sr @Try.f45.eq_1) (se trivial))
        · rw [c4, if_neg (by decide)] at hf5
          by_cases c5 : 0 < out.length
          · have c5' : (0 : Int) < (out.length : Int) := by omega
            have ej : (out.length : Int) - 1 = ((out.length - 1 : Nat) : Int) := by omega
            have hlast := lastS c5 sp
            generalize out.getLastD ⟨#[]⟩ = y at *
            have hb1 : (out.length - 1 < (out.map encS ++ sp).length) = True := by simp; omega
            cases c6 : Op.bytesLess y.toList x.toList
            · rw [c6, if_pos (by simp [c5])] at hf5
              refine go (And.intro h0 (And.intro h4 (And.intro h5 (And.intro h6 (And.intro hhb (And.intro eb (And.intro c1 (And.intro (hx).symm (And.intro c5' (And.intro ej (And.intro hlast (And.intro hb1 c6)))))))))))) ?_
              rw [← hf5]
              refine x_done (x_outT (sr @Try.f45.eq_1) (se trivial))
            · rw [c6, if_neg (by simp)] at hf5
              have hfin := hgo hf5
              clear hf5 hgo
              refine go (And.intro h0 (And.intro h4 (And.intro h5 (And.intro h6 (And.intro hhb (And.intro eb (And.intro c1 (And.intro (hx).symm (And.intro c5' (And.intro ej (And.intro hlast (And.intro hb1 c6)))))))))))) ?_
              refine x_appendO rfl rfl rfl rfl rfl rfl (sv (And.intro h4 (And.intro hhb (And.intro @encS.eq_1 (And.intro e1 (And.intro e2 e3)))))) (by decide) (sc (And.intro h4 (And.intro hhb (And.intro @encS.eq_1 (And.intro e1 (And.intro e2 e3)))))) (sv (And.intro h4 (And.intro hhb (And.intro @encS.eq_1 (And.intro e1 (And.intro e2 e3)))))) (sx (And.intro h4 (And.intro hhb (And.intro @encS.eq_1 (And.intro e1 (And.intro e2 e3)))))) (by first | rfl | (simp; done) | (simp [spare_len]; omega)) (by first | omega | (simp; done) | (simp [spare_len]; omega)) (by first | omega | (simp; done) | (simp [spare_len]; omega)) (sx (And.intro h4 (And.intro hhb (And.intro @encS.eq_1 (And.intro e1 (And.intro e2 e3)))))) (okRowsS [x]) (by first | omega | (simp; done) | (simp [spare_len]; omega)) (fun cap' hcap' => ?_)
              refine go (And.intro h0 (And.intro h4 (And.intro h5 (And.intro h6 (And.intro hhb (And.intro @encS.eq_1 (And.intro e1 (And.intro e2 e3)))))))) ?_
              have hc2 : out.length + 1 ≤ cap' := hcap'
              have hs1 := spare_len 1 (cap' - (out.length + 1))
              (refine ⟨⟨i + 1, i + 1, n + 1, cap', out ++ [x], spare 1 (cap' - (out.length + 1)), ?_, ?_, ?_, ?_, ?_, ?_, ?_, ?_, ?_, ?_, ?_, ?_⟩, ?_⟩ <;> (first | omega | (dsimp only; omega) | (first | omega | assumption | (simp [*]; done)) | exact sxa (And.intro @cast_succ (And.intro @encS.eq_1 (And.intro hl (And.intro @snocS (And.intro e1 (And.intro e2 e3)))))) | exact soa trivial))
          · have c5' : ¬ (0 : Int) < (out.length : Int) := by omega
            rw [if_neg (by simp [c5])] at hf5
            have hfin := hgo hf5
            clear hf5 hgo
            refine go (And.intro h0 (And.intro h4 (And.intro h5 (And.intro h6 (And.intro hhb (And.intro eb (And.intro c1 (And.intro (hx).symm c5')))))))) ?_
            refine x_appendO rfl rfl rfl rfl rfl rfl (sv (And.intro h4 (And.intro hhb (And.intro @encS.eq_1 (And.intro e1 (And.intro e2 e3)))))) (by decide) (sc (And.intro h4 (And.intro hhb (And.intro @encS.eq_1 (And.intro e1 (And.intro e2 e3)))))) (sv (And.intro h4 (And.intro hhb (And.intro @encS.eq_1 (And.intro e1 (And.intro e2 e3)))))) (sx (And.intro h4 (And.intro hhb (And.intro @encS.eq_1 (And.intro e1 (And.intro e2 e3)))))) (by first | rfl | (simp; done) | (simp [spare_len]; omega)) (by first | omega | (simp; done) | (simp [spare_len]; omega)) (by first | omega | (simp; done) | (simp [spare_len]; omega)) (sx (And.intro h4 (And.intro hhb (And.intro @encS.eq_1 (And.intro e1 (And.intro e2 e3)))))) (okRowsS [x]) (by first | omega | (simp; done) | (simp [spare_len]; omega)) (fun cap' hcap' => ?_)
            refine go (And.intro h0 (And.intro h4 (And.intro h5 (And.intro h6 (And.intro hhb (And.intro @encS.eq_1 (And.intro e1 (And.intro e2 e3)))))))) ?_
            have hc2 : out.length + 1 ≤ cap' := hcap'
            have hs1 := spare_len 1 (cap' - (out.length + 1))
            (refine ⟨⟨i + 1, i + 1, n + 1, cap', out ++ [x], spare 1 (cap' - (out.length + 1)), ?_, ?_, ?_, ?_, ?_, ?_, ?_, ?_, ?_, ?_, ?_, ?_⟩, ?_⟩ <;> (first | omega | (dsimp only; omega) | (first | omega | assumption | (simp [*]; done)) | exact sxa (And.intro @cast_succ (And.intro @encS.eq_1 (And.intro hl (And.intro @snocS (And.intro e1 (And.intro e2 e3)))))) | exact soa trivial))
  · have e : i = s.size + 1 := by omega
    subst e
    rw [Nat.sub_self, nmF] at hf5
    rw [← hf5]
    have tk : (out.map encS ++ sp).take out.length = out.map encS := List.take_left' (by simp)
    have ln : (out.length ≤ (out.map encS ++ sp).length) = True := by simp
    have hx1 : ∀ h d, allO (allO (expo h d)) (out.map encS) = some (out.map encS) := fun h d => allO_rows h d (deepS out)
    refine go (And.intro h0 (And.intro h4 (And.intro h5 h6))) ?_
    refine x_done (x_outT (sr (And.intro @Try.f45.eq_1 h4)) (se (And.intro hhb (And.intro tk (And.intro ln hx1)))))
end Go.Proofs.Ytahgddfnbjpfiaa

set_option linter.unusedVariables false
set_option linter.unusedSimpArgs false
set_option maxRecDepth 100000
set_option maxHeartbeats 8000000
namespace Go.Proofs.Ytahgddfnbjpfiaa
open Go Go.RowKit Am

theorem encE_rows (v : List Edt) : (∀ r ∈ v.map encE, r.length = 18) = True := rows_map _ _ _ fun _ => rfl
theorem okRowsE (l : List Edt) : okRows 18 (l.map encE) := okRows_map encE l 18 fun a => ⟨rfl, by simp [encE, cellish]⟩
/-- Is an undo effective on an edit? -/
def undF (u e : Edt) : Bool := (u.id.a.toList == e.id.a.toList) && decide (1 ≤ e.kind) && decide (e.kind ≤ 4) && contF u.deps e.id && decide (u.floor < e.clock)
def undS : Fspec := fun _ ds r => ∃ u e : Edt, u.deps.length ≤ 1099511627776 ∧ ds = [.agg (encE u), .agg (encE e)] ∧ r = .s (.bool (undF u e))
theorem und_sound {plain : TypeId → Bool} {Γ : FuncId → Option Fspec} {Δ : FuncId → Option Pt} (hE : EnvOk ⟨Try.prog, plain, Γ, Δ, fun _ => none, 0⟩) (g_cont : Γ 34 = some contS) : Sound Try.prog 22 undS := by
  refine sound_of_awp hE Try.func22 rfl (by kernel_rfl) ?_
  rintro Φ ds r ⟨u, e, hd, rfl, rfl⟩
  refine ⟨by simp [Try.f22], ?_⟩
  unfold st0 encE
  refine W.out (E := ⟨Try.prog, plain, Γ, Δ, Φ, _⟩) ?_
  cases h1 : (u.id.a.toList == e.id.a.toList)
  · have hz : undF u e = false := by simp [undF, h1]
    refine go h1 ?_
    refine x_done (x_out (sr (And.intro @Try.f22.eq_1 hz)) (by simp) (by simp) rfl)
  by_cases h2 : 1 ≤ e.kind
  · by_cases h3 : e.kind ≤ 4
    · refine go (And.intro h1 (And.intro h2 h3)) ?_
      refine x_callN rfl rfl rfl rfl (sv (And.intro h1 (And.intro h2 h3))) g_cont (sv (And.intro h1 (And.intro h2 h3))) (se (And.intro h1 (And.intro h2 h3))) ⟨u.deps, e.id, hd, rfl, rfl⟩ rfl ?_
      cases h4 : contF u.deps e.id
      · have hz : undF u e = false := by simp [undF, h4]
        refine go (And.intro h1 (And.intro h2 (And.intro h3 h4))) ?_
        refine x_done (x_out (sr (And.intro @Try.f22.eq_1 hz)) (by simp) (by simp) rfl)
      · have hz : undF u e = decide (u.floor < e.clock) := by simp [undF, h1, h2, h3, h4]
        refine go (And.intro h1 (And.intro h2 (And.intro h3 h4))) ?_
        refine x_done (x_out (sr (And.intro @Try.f22.eq_1 hz)) (by simp) (by simp) rfl)
    · have hz : undF u e = false := by simp [undF, h3]
      refine go (And.intro h1 (And.intro h2 h3)) ?_
      refine x_done (x_out (sr (And.intro @Try.f22.eq_1 hz)) (by simp) (by simp) rfl)
  · have hz : undF u e = false := by simp [undF, h2]
    refine go (And.intro h1 h2) ?_
    refine x_done (x_out (sr (And.intro @Try.f22.eq_1 hz)) (by simp) (by simp) rfl)
def und1S : Fspec := fun _ ds r => ∃ u e : Edt, u.deps.length ≤ 1099511627776 ∧ ds = [.agg (encE u), .pc (encE e)] ∧ r = .s (.bool (undF u e))
theorem und1_sound {plain : TypeId → Bool} {Γ : FuncId → Option Fspec} {Δ : FuncId → Option Pt} (hE : EnvOk ⟨Try.prog, plain, Γ, Δ, fun _ => none, 0⟩) (g_und : Γ 22 = some undS) : Sound Try.prog 21 und1S := by
  refine sound_of_awp hE Try.func21 rfl (by kernel_rfl) ?_
  rintro Φ ds r ⟨u, e, hd, rfl, rfl⟩
  refine ⟨by simp [Try.f21], ?_⟩
  unfold st0 encE
  refine W.out (E := ⟨Try.prog, plain, Γ, Δ, Φ, _⟩) ?_
  refine go trivial ?_
  refine x_callN rfl rfl rfl rfl (sv @encE.eq_1) g_und (sv @encE.eq_1) (se @encE.eq_1) ⟨u, e, hd, rfl, rfl⟩ rfl ?_
  refine go trivial ?_
  refine x_done (x_out (sr @Try.f21.eq_1) (by simp) (by simp) rfl)
def idxF {α : Type} (p : α → Bool) : List α → Nat → Int
  | [], _ => -1
  | x :: l, k => if p x then (k : Int) else idxF p l (k + 1)
theorem idx_any {α : Type} (p : α → Bool) : ∀ (l : List α) (k : Nat), decide (0 ≤ idxF p l k) = l.any p
  | [], k => by simp [idxF]
  | x :: l, k => by
    rw [idxF, List.any_cons]
    cases hp : p x
    · simp only [Bool.false_eq_true, if_false, Bool.false_or]; exact idx_any p l (k + 1)
    · simp
def idxS {α : Type} (enc : α → List V) : Fspec := fun Φ ds r => ∃ (v : List α) (p : α → Bool) (S : List V → Value → Prop), v.length ≤ 1099511627776 ∧ ds = [.sl (v.map enc), .fv 1] ∧ Φ 1 = some S ∧ (∀ x ∈ v, S [.agg (enc x)] (.bool (p x))) ∧ r = .s (.int .i64 (idxF p v 0))
theorem idx_sound {plain : TypeId → Bool} {Γ : FuncId → Option Fspec} {Δ : FuncId → Option Pt} (hE : EnvOk ⟨Try.prog, plain, Γ, Δ, fun _ => none, 0⟩) : Sound Try.prog 33 (idxS encE) := by
  refine sound_of_awp hE Try.func33 rfl (by kernel_rfl) ?_
  rintro Φ ds r ⟨v, p, S, hv, rfl, hS, hp, rfl⟩
  refine ⟨by simp [Try.f33], ?_⟩
  unfold st0
  refine W.out (E := ⟨Try.prog, plain, Γ, Δ, Φ, _⟩) ?_
  have hr := encE_rows v
  refine go trivial ?_
  refine x_loop (fun σ => ∃ (i : Nat), σ.t 0 = .sl (v.map encE) ∧ σ.t 1 = .fv 1 ∧ σ.t 7 = .s (.int .i64 v.length) ∧ σ.t 8 = .s (.int .i64 i) ∧ i ≤ v.length ∧ idxF p (v.drop i) i = idxF p v 0) (fun σ => v.length - ix (σ.t 8)) ⟨0, (by first | assumption | exact sxa trivial), (by first | assumption | exact sxa trivial), (by first | assumption | exact sxa trivial), (by first | assumption | exact sxa trivial), (by first | rfl | omega | assumption | (simp [*]; done)), (by first | rfl | omega | assumption | (simp [*]; done))⟩ ?_
  rintro t h n ⟨i, h0, h1, h7, h8, hf0, hf1⟩
  simp only at h0 h1 h7 h8
  refine go (And.intro h0 (And.intro h1 (And.intro h7 h8))) ?_
  refine x_condP (sv (And.intro h0 (And.intro h1 (And.intro h7 h8)))) (fun hc => ?_) (fun hc => ?_)
  · have hi' : i < v.length := by omega
    rw [List.drop_eq_getElem_cons hi', idxF] at hf1
    refine go (And.intro h0 (And.intro h1 (And.intro h7 (And.intro h8 (And.intro hr @encE.eq_1))))) ?_
    refine x_callV rfl rfl rfl rfl (sv @encE.eq_1) hS (sv @encE.eq_1) (se @encE.eq_1) rfl (hp _ (List.getElem_mem hi')) ?_
    cases hb : p v[i]
    · rw [hb] at hf1
      refine go (And.intro h0 (And.intro h1 (And.intro h7 (And.intro h8 (And.intro hr (And.intro @encE.eq_1 hb)))))) ?_
      (refine ⟨⟨i + 1, ?_, ?_, ?_, ?_, ?_, ?_⟩, ?_⟩ <;> (first | omega | (dsimp only; omega) | ((simpa using hf1)) | exact sxa @cast_succ | exact soa trivial))
    · rw [hb] at hf1
      have hf' : idxF p v 0 = i := by rw [← hf1]; rfl
      refine go (And.intro h0 (And.intro h1 (And.intro h7 (And.intro h8 (And.intro hr (And.intro @encE.eq_1 hb)))))) ?_
      refine x_done (x_out (sr (And.intro @Try.f33.eq_1 hf')) (by simp) (by simp) rfl)
  · have e : i = v.length := by omega
    subst e
    rw [List.drop_length] at hf1
    have hf' : idxF p v 0 = -1 := by rw [← hf1]; rfl
    refine go (And.intro h0 (And.intro h1 (And.intro h7 h8))) ?_
    refine x_done (x_out (sr (And.intro @Try.f33.eq_1 hf')) (by simp) (by simp) rfl)
def cfS {α : Type} (enc : α → List V) : Fspec := fun Φ ds r => ∃ (v : List α) (p : α → Bool) (S : List V → Value → Prop), v.length ≤ 1099511627776 ∧ ds = [.sl (v.map enc), .fv 1] ∧ Φ 1 = some S ∧ (∀ x ∈ v, S [.agg (enc x)] (.bool (p x))) ∧ r = .s (.bool (v.any p))
theorem cf_sound {plain : TypeId → Bool} {Γ : FuncId → Option Fspec} {Δ : FuncId → Option Pt} (hE : EnvOk ⟨Try.prog, plain, Γ, Δ, fun _ => none, 0⟩) (g_idx : Γ 33 = some (idxS encE)) : Sound Try.prog 20 (cfS encE) := by
  refine sound_of_awp hE Try.func20 rfl (by kernel_rfl) ?_
  rintro Φ ds r ⟨v, p, S, hv, rfl, hS, hp, rfl⟩
  refine ⟨by simp [Try.f20], ?_⟩
  unfold st0
  refine W.out (E := ⟨Try.prog, plain, Γ, Δ, Φ, _⟩) ?_
  refine go trivial ?_
  refine x_callN rfl rfl rfl rfl (sv trivial) g_idx (sv trivial) (se trivial) ⟨v, p, S, hv, rfl, (by simp only [phi, List.getElem?_cons_succ, List.getElem?_cons_zero]; exact hS), hp, rfl⟩ rfl ?_
  rw [← idx_any p v 0]
  refine go trivial ?_
  refine x_done (x_out (sr @Try.f20.eq_1) (by simp) (by simp) rfl)
end Go.Proofs.Ytahgddfnbjpfiaa

set_option linter.unusedVariables false
set_option linter.unusedSimpArgs false
set_option maxRecDepth 100000
set_option maxHeartbeats 16000000
namespace Go.Proofs.Ytahgddfnbjpfiaa
open Go Go.RowKit Am

theorem nm_len (s : ByteArray) : ∀ (m i fr : Nat) (out : List ByteArray), (nmF s m i fr out).1.length ≤ out.length + m
  | 0, i, fr, out => by simp [nmF]
  | m + 1, i, fr, out => by
    rw [nmF]
    split
    · have := nm_len s m (i + 1) fr out; omega
    · split
      · simp
      · split
        · simp
        · have := nm_len s m (i + 1) (i + 1) (out ++ [s.extract fr i]); simp at this; omega
theorem names_len (s : ByteArray) : (namesF s).1.length ≤ s.size + 1 := by have := nm_len s (s.size + 1) 0 0 []; simpa [namesF] using this
def votF (a s : ByteArray) : Bool := if (namesF s).1.any (fun x => x.toList == a.toList) then false else (namesF s).2
def votesS : Fspec := fun _ ds r => ∃ a s : ByteArray, s.size ≤ 1048576 ∧ ds = [.s (.string a), .s (.string s)] ∧ r = .s (.bool (votF a s))
theorem votes_sound {plain : TypeId → Bool} {Γ : FuncId → Option Fspec} {Δ : FuncId → Option Pt} (hE : EnvOk ⟨Try.prog, plain, Γ, Δ, fun _ => none, 0⟩) (g_names : Γ 45 = some namesS) : Sound Try.prog 41 votesS := by
  refine sound_of_awp hE Try.func41 rfl (by kernel_rfl) ?_
  rintro Φ ds r ⟨a, s, hs, rfl, rfl⟩
  refine ⟨by simp [Try.f41], ?_⟩
  unfold st0
  refine W.out (E := ⟨Try.prog, plain, Γ, Δ, Φ, _⟩) ?_
  refine go trivial ?_
  refine x_callS rfl rfl rfl rfl (sv trivial) g_names (sv trivial) (se trivial) ⟨s, hs, rfl, rfl⟩ (by simp) (by simp [touchA, touch]) ?_
  have hlen := names_len s
  unfold votF
  generalize hl : (namesF s).1 = l at *
  generalize hok : (namesF s).2 = ok at *
  have hr := encS_rows l
  refine go trivial ?_
  refine x_loop (fun σ => ∃ (i : Nat), σ.t 0 = .s (.string a) ∧ σ.t 5 = .sl (l.map encS) ∧ σ.t 6 = .s (.bool ok) ∧ σ.t 14 = .s (.int .i64 l.length) ∧ σ.t 15 = .s (.int .i64 i) ∧ i ≤ l.length ∧ (l.drop i).any (fun x => x.toList == a.toList) = l.any (fun x => x.toList == a.toList)) (fun σ => l.length - ix (σ.t 15)) ⟨0, (by first | assumption | exact sxa trivial), (by first | assumption | exact sxa trivial), (by first | assumption | exact sxa trivial), (by first | assumption | exact sxa trivial), (by first | assumption | exact sxa trivial), (by first | rfl | omega | assumption | (simp [*]; done)), (by first | rfl | omega | assumption | (simp [*]; done))⟩ ?_
  rintro t h n ⟨i, h0, h5, h6, h14, h15, hf0, hf1⟩
  simp only at h0 h5 h6 h14 h15
  refine go (And.intro h0 (And.intro h5 (And.intro h6 (And.intro h14 h15)))) ?_
  refine x_condP (sv (And.intro h0 (And.intro h5 (And.intro h6 (And.intro h14 h15))))) (fun hc => ?_) (fun hc => ?_)
  · have hi : i < l.length := by omega
    rw [List.drop_eq_getElem_cons hi, List.any_cons] at hf1
    cases c1 : (l[i].toList == a.toList)
    · rw [c1, Bool.false_or] at hf1
      refine go (And.intro h0 (And.intro h5 (And.intro h6 (And.intro h14 (And.intro h15 (And.intro hr c1)))))) ?_
      (refine ⟨⟨i + 1, ?_, ?_, ?_, ?_, ?_, ?_, ?_⟩, ?_⟩ <;> (first | omega | (dsimp only; omega) | (first | omega | assumption | (simp [*]; done)) | exact sxa @cast_succ | exact soa trivial))
    · rw [c1, Bool.true_or] at hf1
      refine go (And.intro h0 (And.intro h5 (And.intro h6 (And.intro h14 (And.intro h15 (And.intro hr c1)))))) ?_
      rw [← hf1]
      refine x_done (x_out (sr @Try.f41.eq_1) (by simp) (by simp) rfl)
  · have e : i = l.length := by omega
    subst e
    rw [List.drop_length] at hf1
    refine go (And.intro h0 (And.intro h5 (And.intro h6 (And.intro h14 h15)))) ?_
    rw [← hf1]
    refine x_done (x_out (sr (And.intro @Try.f41.eq_1 h6)) (by simp) (by simp) rfl)
/-- How far a vector knows an author. -/
def ahdF : List Idt → ByteArray → Int
  | [], _ => 0
  | x :: v, a => if x.a.toList == a.toList then x.n else ahdF v a
def aheadS : Fspec := fun _ ds r => ∃ (v : List Idt) (a : ByteArray), v.length ≤ 1099511627776 ∧ ds = [encIds v, .s (.string a)] ∧ r = .s (.int .i64 (ahdF v a))
theorem ahead_sound {plain : TypeId → Bool} {Γ : FuncId → Option Fspec} {Δ : FuncId → Option Pt} (hE : EnvOk ⟨Try.prog, plain, Γ, Δ, fun _ => none, 0⟩) : Sound Try.prog 29 aheadS := by
  refine sound_of_awp hE Try.func29 rfl (by kernel_rfl) ?_
  rintro Φ ds r ⟨v, a, hv, rfl, rfl⟩
  refine ⟨by simp [Try.f29], ?_⟩
  unfold st0 encIds
  refine W.out (E := ⟨Try.prog, plain, Γ, Δ, Φ, _⟩) ?_
  have hr := encId_rows v
  refine go trivial ?_
  refine x_loop (fun σ => ∃ (i : Nat), σ.t 0 = .sl (v.map encId) ∧ σ.t 1 = .s (.string a) ∧ σ.t 7 = .s (.int .i64 v.length) ∧ σ.t 8 = .s (.int .i64 i) ∧ i ≤ v.length ∧ ahdF (v.drop i) a = ahdF v a) (fun σ => v.length - ix (σ.t 8)) ⟨0, (by first | assumption | exact sxa trivial), (by first | assumption | exact sxa trivial), (by first | assumption | exact sxa trivial), (by first | assumption | exact sxa trivial), (by first | rfl | omega | assumption | (simp [*]; done)), (by first | rfl | omega | assumption | (simp [*]; done))⟩ ?_
  rintro t h n ⟨i, h0, h1, h7, h8, hf0, hf1⟩
  simp only at h0 h1 h7 h8
  refine go (And.intro h0 (And.intro h1 (And.intro h7 h8))) ?_
  refine x_condP (sv (And.intro h0 (And.intro h1 (And.intro h7 h8)))) (fun hc => ?_) (fun hc => ?_)
  · have hi : i < v.length := by omega
    rw [List.drop_eq_getElem_cons hi, ahdF] at hf1
    cases c1 : (v[i].a.toList == a.toList)
    · rw [c1] at hf1
      simp only [Bool.false_eq_true, if_false] at hf1
      refine go (And.intro h0 (And.intro h1 (And.intro h7 (And.intro h8 (And.intro hr (And.intro c1 @encId.eq_1)))))) ?_
      (refine ⟨⟨i + 1, ?_, ?_, ?_, ?_, ?_, ?_⟩, ?_⟩ <;> (first | omega | (dsimp only; omega) | (first | omega | assumption | (simp [*]; done)) | exact sxa @cast_succ | exact soa trivial))
    · rw [c1, if_pos rfl] at hf1
      refine go (And.intro h0 (And.intro h1 (And.intro h7 (And.intro h8 (And.intro hr (And.intro c1 @encId.eq_1)))))) ?_
      rw [← hf1]
      refine x_done (x_out (sr @Try.f29.eq_1) (by simp) (by simp) rfl)
  · have e : i = v.length := by omega
    subst e
    rw [List.drop_length, ahdF] at hf1
    refine go (And.intro h0 (And.intro h1 (And.intro h7 h8))) ?_
    rw [← hf1]
    refine x_done (x_out (sr @Try.f29.eq_1) (by simp) (by simp) rfl)
/-- Is an id the empty one? -/
def zId (x : Idt) : Bool := x.a.toList == (⟨#[]⟩ : ByteArray).toList && x.n == 0
def rsF (k : Int) (node parent pl field value target who : Bool) : Bool :=
  if (k == 1) = true then node && field && target && who else if (k == 2) = true then field && value && target && who else if (k == 3) = true then parent && pl && target && who else
  if (k == 4) = true then node && parent && pl && field && value && who else if (k == 5) = true then node && parent && pl && field && value && target else node && parent && pl && field && value && target && who
def rstF (e : Edt) : Bool := rsF e.kind (zId e.node) (zId e.parent) (e.neg == false && (e.num.toList == (⟨#[]⟩ : ByteArray).toList && e.den.toList == (⟨#[]⟩ : ByteArray).toList)) (e.field.toList == (⟨#[]⟩ : ByteArray).toList) (e.value.toList == (⟨#[]⟩ : ByteArray).toList) (zId e.target) (e.who.toList == (⟨#[]⟩ : ByteArray).toList)
def restS : Fspec := fun _ ds r => ∃ e : Edt, ds = [.agg (encE e)] ∧ r = .s (.bool (rstF e))
theorem rest_sound {plain : TypeId → Bool} {Γ : FuncId → Option Fspec} {Δ : FuncId → Option Pt} (hE : EnvOk ⟨Try.prog, plain, Γ, Δ, fun _ => none, 0⟩) (hpl : plain 29 = true) (hpr : plain 32 = true) : Sound Try.prog 30 restS := by
  refine sound_of_awp hE Try.func30 rfl (by kernel_rfl) ?_
  rintro Φ ds r ⟨e, rfl, rfl⟩
  refine ⟨by simp [Try.f30], ?_⟩
  unfold st0 encE
  refine W.out (E := ⟨Try.prog, plain, Γ, Δ, Φ, _⟩) ?_
  have g1 : (e.node.a.toList == (⟨#[]⟩ : ByteArray).toList && e.node.n == 0) = zId e.node := rfl
  have g2 : (e.parent.a.toList == (⟨#[]⟩ : ByteArray).toList && e.parent.n == 0) = zId e.parent := rfl
  have g3 : (e.target.a.toList == (⟨#[]⟩ : ByteArray).toList && e.target.n == 0) = zId e.target := rfl
  unfold rstF
  refine go (And.intro hpl (And.intro hpr (And.intro g1 (And.intro g2 g3)))) ?_
  generalize zId e.node = node at *
  generalize zId e.parent = parent at *
  generalize zId e.target = target at *
  generalize (e.neg == false && (e.num.toList == (⟨#[]⟩ : ByteArray).toList && e.den.toList == (⟨#[]⟩ : ByteArray).toList)) = pl at *
  generalize (e.field.toList == (⟨#[]⟩ : ByteArray).toList) = field at *
  generalize (e.value.toList == (⟨#[]⟩ : ByteArray).toList) = value at *
  generalize (e.who.toList == (⟨#[]⟩ : ByteArray).toList) = who at *
  generalize e.kind = k at *
  cases k1 : (k == 1)
  rotate_left
  · skip
    cases node
    · have hz : rsF k false parent pl field value target who = false := by simp [rsF, k1]
      refine go k1 ?_
      refine x_done (x_out (sr (And.intro @Try.f30.eq_1 hz)) (by simp) (by simp) rfl)
    cases field
    · have hz : rsF k true parent pl false value target who = false := by simp [rsF, k1]
      refine go k1 ?_
      refine x_done (x_out (sr (And.intro @Try.f30.eq_1 hz)) (by simp) (by simp) rfl)
    cases target
    · have hz : rsF k true parent pl true value false who = false := by simp [rsF, k1]
      refine go k1 ?_
      refine x_done (x_out (sr (And.intro @Try.f30.eq_1 hz)) (by simp) (by simp) rfl)
    have hz : rsF k true parent pl true value true who = who := by simp [rsF, k1]
    refine go k1 ?_
    refine x_done (x_out (sr (And.intro @Try.f30.eq_1 hz)) (by simp) (by simp) rfl)
  cases k2 : (k == 2)
  rotate_left
  · skip
    cases field
    · have hz : rsF k node parent pl false value target who = false := by simp [rsF, k1, k2]
      refine go (And.intro k1 k2) ?_
      refine x_done (x_out (sr (And.intro @Try.f30.eq_1 hz)) (by simp) (by simp) rfl)
    cases value
    · have hz : rsF k node parent pl true false target who = false := by simp [rsF, k1, k2]
      refine go (And.intro k1 k2) ?_
      refine x_done (x_out (sr (And.intro @Try.f30.eq_1 hz)) (by simp) (by simp) rfl)
    cases target
    · have hz : rsF k node parent pl true true false who = false := by simp [rsF, k1, k2]
      refine go (And.intro k1 k2) ?_
      refine x_done (x_out (sr (And.intro @Try.f30.eq_1 hz)) (by simp) (by simp) rfl)
    have hz : rsF k node parent pl true true true who = who := by simp [rsF, k1, k2]
    refine go (And.intro k1 k2) ?_
    refine x_done (x_out (sr (And.intro @Try.f30.eq_1 hz)) (by simp) (by simp) rfl)
  cases k3 : (k == 3)
  rotate_left
  · skip
    cases parent
    · have hz : rsF k node false pl field value target who = false := by simp [rsF, k1, k2, k3]
      refine go (And.intro k1 (And.intro k2 k3)) ?_
      refine x_done (x_out (sr (And.intro @Try.f30.eq_1 hz)) (by simp) (by simp) rfl)
    cases pl
    · have hz : rsF k node true false field value target who = false := by simp [rsF, k1, k2, k3]
      refine go (And.intro k1 (And.intro k2 k3)) ?_
      refine x_done (x_out (sr (And.intro @Try.f30.eq_1 hz)) (by simp) (by simp) rfl)
    cases target
    · have hz : rsF k node true true field value false who = false := by simp [rsF, k1, k2, k3]
      refine go (And.intro k1 (And.intro k2 k3)) ?_
      refine x_done (x_out (sr (And.intro @Try.f30.eq_1 hz)) (by simp) (by simp) rfl)
    have hz : rsF k node true true field value true who = who := by simp [rsF, k1, k2, k3]
    refine go (And.intro k1 (And.intro k2 k3)) ?_
    refine x_done (x_out (sr (And.intro @Try.f30.eq_1 hz)) (by simp) (by simp) rfl)
  cases k4 : (k == 4)
  rotate_left
  · skip
    cases node
    · have hz : rsF k false parent pl field value target who = false := by simp [rsF, k1, k2, k3, k4]
      refine go (And.intro k1 (And.intro k2 (And.intro k3 k4))) ?_
      refine x_done (x_out (sr (And.intro @Try.f30.eq_1 hz)) (by simp) (by simp) rfl)
    cases parent
    · have hz : rsF k true false pl field value target who = false := by simp [rsF, k1, k2, k3, k4]
      refine go (And.intro k1 (And.intro k2 (And.intro k3 k4))) ?_
      refine x_done (x_out (sr (And.intro @Try.f30.eq_1 hz)) (by simp) (by simp) rfl)
    cases pl
    · have hz : rsF k true true false field value target who = false := by simp [rsF, k1, k2, k3, k4]
      refine go (And.intro k1 (And.intro k2 (And.intro k3 k4))) ?_
      refine x_done (x_out (sr (And.intro @Try.f30.eq_1 hz)) (by simp) (by simp) rfl)
    cases field
    · have hz : rsF k true true true false value target who = false := by simp [rsF, k1, k2, k3, k4]
      refine go (And.intro k1 (And.intro k2 (And.intro k3 k4))) ?_
      refine x_done (x_out (sr (And.intro @Try.f30.eq_1 hz)) (by simp) (by simp) rfl)
    cases value
    · have hz : rsF k true true true true false target who = false := by simp [rsF, k1, k2, k3, k4]
      refine go (And.intro k1 (And.intro k2 (And.intro k3 k4))) ?_
      refine x_done (x_out (sr (And.intro @Try.f30.eq_1 hz)) (by simp) (by simp) rfl)
    have hz : rsF k true true true true true target who = who := by simp [rsF, k1, k2, k3, k4]
    refine go (And.intro k1 (And.intro k2 (And.intro k3 k4))) ?_
    refine x_done (x_out (sr (And.intro @Try.f30.eq_1 hz)) (by simp) (by simp) rfl)
  cases k5 : (k == 5)
  rotate_left
  · skip
    cases node
    · have hz : rsF k false parent pl field value target who = false := by simp [rsF, k1, k2, k3, k4, k5]
      refine go (And.intro k1 (And.intro k2 (And.intro k3 (And.intro k4 k5)))) ?_
      refine x_done (x_out (sr (And.intro @Try.f30.eq_1 hz)) (by simp) (by simp) rfl)
    cases parent
    · have hz : rsF k true false pl field value target who = false := by simp [rsF, k1, k2, k3, k4, k5]
      refine go (And.intro k1 (And.intro k2 (And.intro k3 (And.intro k4 k5)))) ?_
      refine x_done (x_out (sr (And.intro @Try.f30.eq_1 hz)) (by simp) (by simp) rfl)
    cases pl
    · have hz : rsF k true true false field value target who = false := by simp [rsF, k1, k2, k3, k4, k5]
      refine go (And.intro k1 (And.intro k2 (And.intro k3 (And.intro k4 k5)))) ?_
      refine x_done (x_out (sr (And.intro @Try.f30.eq_1 hz)) (by simp) (by simp) rfl)
    cases field
    · have hz : rsF k true true true false value target who = false := by simp [rsF, k1, k2, k3, k4, k5]
      refine go (And.intro k1 (And.intro k2 (And.intro k3 (And.intro k4 k5)))) ?_
      refine x_done (x_out (sr (And.intro @Try.f30.eq_1 hz)) (by simp) (by simp) rfl)
    cases value
    · have hz : rsF k true true true true false target who = false := by simp [rsF, k1, k2, k3, k4, k5]
      refine go (And.intro k1 (And.intro k2 (And.intro k3 (And.intro k4 k5)))) ?_
      refine x_done (x_out (sr (And.intro @Try.f30.eq_1 hz)) (by simp) (by simp) rfl)
    have hz : rsF k true true true true true target who = target := by simp [rsF, k1, k2, k3, k4, k5]
    refine go (And.intro k1 (And.intro k2 (And.intro k3 (And.intro k4 k5)))) ?_
    refine x_done (x_out (sr (And.intro @Try.f30.eq_1 hz)) (by simp) (by simp) rfl)
  cases node
  · have hz : rsF k false parent pl field value target who = false := by simp [rsF, k1, k2, k3, k4, k5]
    refine go (And.intro k1 (And.intro k2 (And.intro k3 (And.intro k4 k5)))) ?_
    refine x_done (x_out (sr (And.intro @Try.f30.eq_1 hz)) (by simp) (by simp) rfl)
  cases parent
  · have hz : rsF k true false pl field value target who = false := by simp [rsF, k1, k2, k3, k4, k5]
    refine go (And.intro k1 (And.intro k2 (And.intro k3 (And.intro k4 k5)))) ?_
    refine x_done (x_out (sr (And.intro @Try.f30.eq_1 hz)) (by simp) (by simp) rfl)
  cases pl
  · have hz : rsF k true true false field value target who = false := by simp [rsF, k1, k2, k3, k4, k5]
    refine go (And.intro k1 (And.intro k2 (And.intro k3 (And.intro k4 k5)))) ?_
    refine x_done (x_out (sr (And.intro @Try.f30.eq_1 hz)) (by simp) (by simp) rfl)
  cases field
  · have hz : rsF k true true true false value target who = false := by simp [rsF, k1, k2, k3, k4, k5]
    refine go (And.intro k1 (And.intro k2 (And.intro k3 (And.intro k4 k5)))) ?_
    refine x_done (x_out (sr (And.intro @Try.f30.eq_1 hz)) (by simp) (by simp) rfl)
  cases value
  · have hz : rsF k true true true true false target who = false := by simp [rsF, k1, k2, k3, k4, k5]
    refine go (And.intro k1 (And.intro k2 (And.intro k3 (And.intro k4 k5)))) ?_
    refine x_done (x_out (sr (And.intro @Try.f30.eq_1 hz)) (by simp) (by simp) rfl)
  cases target
  · have hz : rsF k true true true true true false who = false := by simp [rsF, k1, k2, k3, k4, k5]
    refine go (And.intro k1 (And.intro k2 (And.intro k3 (And.intro k4 k5)))) ?_
    refine x_done (x_out (sr (And.intro @Try.f30.eq_1 hz)) (by simp) (by simp) rfl)
  have hz : rsF k true true true true true true who = who := by simp [rsF, k1, k2, k3, k4, k5]
  refine go (And.intro k1 (And.intro k2 (And.intro k3 (And.intro k4 k5)))) ?_
  refine x_done (x_out (sr (And.intro @Try.f30.eq_1 hz)) (by simp) (by simp) rfl)
end Go.Proofs.Ytahgddfnbjpfiaa

set_option linter.unusedVariables false
set_option linter.unusedSimpArgs false
set_option maxRecDepth 100000
set_option maxHeartbeats 8000000
namespace Go.Proofs.Ytahgddfnbjpfiaa
open Go Go.RowKit Am

def idAt (v : List Idt) (i : Nat) : Idt := v[i]?.getD ⟨⟨#[]⟩, 0⟩
theorem idAt_lt (v : List Idt) {i : Nat} (h : i < v.length) : idAt v i = v[i] := by simp [idAt, h]
def chkAt (v : List Idt) (i : Nat) : Int :=
  if authF (idAt v i).a = false then 7 else if (idAt v i).n < 1 then 2 else
  if (decide (0 < i) && ((idAt v i).a.toList == (idAt v (i - 1)).a.toList)) = true then 8 else
  if (decide (0 < i) && Op.bytesLess (idAt v i).a.toList (idAt v (i - 1)).a.toList) = true then 3 else 0
def chkFrom (v : List Idt) : Nat → Nat → Int
  | 0, _ => 0
  | m + 1, i => if chkAt v i = 0 then chkFrom v m (i + 1) else chkAt v i
def chkF (v : List Idt) : Int := chkFrom v v.length 0
def chkS : Fspec := fun _ ds r => ∃ v : List Idt, v.length ≤ 1099511627776 ∧ (∀ x ∈ v, x.a.size ≤ 1099511627776) ∧ ds = [encIds v] ∧ r = .s (.int .i64 (chkF v))
theorem chk_sound {plain : TypeId → Bool} {Γ : FuncId → Option Fspec} {Δ : FuncId → Option Pt} (hE : EnvOk ⟨Try.prog, plain, Γ, Δ, fun _ => none, 0⟩) (g_auth : Γ 27 = some authS) : Sound Try.prog 28 chkS := by
  refine sound_of_awp hE Try.func28 rfl (by kernel_rfl) ?_
  rintro Φ ds r ⟨v, hv, hs, rfl, rfl⟩
  refine ⟨by simp [Try.f28], ?_⟩
  unfold st0 encIds
  refine W.out (E := ⟨Try.prog, plain, Γ, Δ, Φ, _⟩) ?_
  have hr := encId_rows v
  refine go trivial ?_
  refine x_loop (fun σ => ∃ i : Nat, i ≤ v.length ∧ σ.t 0 = .sl (v.map encId) ∧ σ.t 3 = .s (.int .i64 i) ∧ chkFrom v (v.length - i) i = chkFrom v v.length 0) (fun σ => v.length - ix (σ.t 3)) ⟨0, Nat.zero_le _, (sc trivial), (sc trivial), rfl⟩ ?_
  rintro t h n ⟨i, hi, h0, h3, hf⟩
  simp only at h0 h3
  refine go (And.intro h0 h3) ?_
  refine x_condP (sv trivial) (fun hc => ?_) (fun hc => ?_)
  · have hi' : i < v.length := by omega
    obtain ⟨m, hm⟩ : ∃ m, v.length - i = m + 1 := ⟨v.length - i - 1, by omega⟩
    rw [hm, chkFrom] at hf
    refine go (And.intro h0 (And.intro h3 (And.intro hr @encId.eq_1))) ?_
    refine x_callN rfl rfl rfl rfl (sv trivial) g_auth (sv trivial) (se trivial) ⟨v[i].a, hs _ (List.getElem_mem hi'), rfl, rfl⟩ rfl ?_
    have hat := idAt_lt v hi'
    have bad : ∀ q : Int, chkAt v i = q → q ≠ 0 → chkF v = q := fun q h1 h2 => by rw [h1, if_neg h2] at hf; exact hf.symm
    have good : chkAt v i = 0 → chkFrom v (v.length - (i + 1)) (i + 1) = chkFrom v v.length 0 := fun h1 => by rw [h1, if_pos rfl] at hf; rw [show v.length - (i + 1) = m by omega]; exact hf
    cases a1 : authF v[i].a
    · have hz := bad 7 (by simp [chkAt, hat, a1]) (by decide)
      refine go (And.intro h0 (And.intro h3 (And.intro hr (And.intro @encId.eq_1 a1)))) ?_
      refine x_done (x_out (sr (And.intro @Try.f28.eq_1 hz)) (by simp) (by simp) rfl)
    · by_cases a2 : v[i].n < 1
      · have hz := bad 2 (by simp [chkAt, hat, a1, a2]) (by decide)
        refine go (And.intro h0 (And.intro h3 (And.intro hr (And.intro @encId.eq_1 (And.intro a1 a2))))) ?_
        refine x_done (x_out (sr (And.intro @Try.f28.eq_1 hz)) (by simp) (by simp) rfl)
      · by_cases a3 : 0 < i
        · have a3' : (0 < (i : Int)) = True := by simp; omega
          have ej : (i : Int) - 1 = ((i - 1 : Nat) : Int) := by omega
          have hj' : i - 1 < v.length := by omega
          have hjt := idAt_lt v hj'
          cases a4 : (v[i].a.toList == v[i - 1].a.toList)
          · cases a5 : Op.bytesLess v[i].a.toList v[i - 1].a.toList
            · have hz := good (by simp only [chkAt, hat, hjt, a1, a2, a4, a5]; simp)
              refine go (And.intro h0 (And.intro h3 (And.intro hr (And.intro @encId.eq_1 (And.intro a1 (And.intro a2 (And.intro a3' (And.intro ej (And.intro a4 a5))))))))) ?_
              refine ⟨⟨i + 1, by omega, (sc h0), (sc (And.intro h3 @cast_succ)), hz⟩, ?_⟩
              exact so h3
            · have hz := bad 3 (by simp only [chkAt, hat, hjt, a1, a2, a4, a5]; simp [a3]) (by decide)
              refine go (And.intro h0 (And.intro h3 (And.intro hr (And.intro @encId.eq_1 (And.intro a1 (And.intro a2 (And.intro a3' (And.intro ej (And.intro a4 a5))))))))) ?_
              refine x_done (x_out (sr (And.intro @Try.f28.eq_1 hz)) (by simp) (by simp) rfl)
          · have hz := bad 8 (by simp only [chkAt, hat, hjt, a1, a2, a4]; simp [a3]) (by decide)
            refine go (And.intro h0 (And.intro h3 (And.intro hr (And.intro @encId.eq_1 (And.intro a1 (And.intro a2 (And.intro a3' (And.intro ej a4)))))))) ?_
            refine x_done (x_out (sr (And.intro @Try.f28.eq_1 hz)) (by simp) (by simp) rfl)
        · have a3' : (0 < (i : Int)) = False := by simp; omega
          have hz := good (by simp only [chkAt, hat, a1, a2]; simp [a3])
          refine go (And.intro h0 (And.intro h3 (And.intro hr (And.intro @encId.eq_1 (And.intro a1 (And.intro a2 a3')))))) ?_
          refine ⟨⟨i + 1, by omega, (sc h0), (sc (And.intro h3 @cast_succ)), hz⟩, ?_⟩
          exact so h3
  · have e : i = v.length := by omega
    subst e
    rw [Nat.sub_self, chkFrom] at hf
    have hz : chkF v = 0 := hf.symm
    refine go (And.intro h0 h3) ?_
    refine x_done (x_out (sr (And.intro @Try.f28.eq_1 hz)) (by simp) (by simp) rfl)
end Go.Proofs.Ytahgddfnbjpfiaa

set_option linter.unusedVariables false
set_option linter.unusedSimpArgs false
set_option maxRecDepth 100000
set_option maxHeartbeats 16000000
namespace Go.Proofs.Ytahgddfnbjpfiaa
open Go Go.RowKit Am

structure SmE (e : Edt) : Prop where
  id : e.id.a.size ≤ 1048576
  node : e.node.a.size ≤ 1048576
  parent : e.parent.a.size ≤ 1048576
  target : e.target.a.size ≤ 1048576
  num : e.num.size ≤ 1048576
  den : e.den.size ≤ 1048576
  field : e.field.size ≤ 1048576
  value : e.value.size ≤ 1048576
  who : e.who.size ≤ 1048576
  deps : e.deps.length ≤ 1048576
  dep : ∀ x ∈ e.deps, x.a.size ≤ 1048576
def bId (x : Idt) : Bool := x.a.toList == (⟨#[45]⟩ : ByteArray).toList && x.n == 0
def hsF (k : Int) (zp bp mp mn mt pl wv wf tt : Bool) (tn : Bool) (vt : Bool) : Bool :=
  if (k == 1) = true then (zp || mp) && pl && wv else if (k == 2) = true then mn && ((zp || bp) || mp) && pl else if (k == 3) = true then mn && wf else
  if (k == 4) = true then mt && tt && tn else if (k == 5) = true then vt else true
def hesF (e : Edt) : Bool := hsF e.kind (zId e.parent) (bId e.parent) (mayF e.parent) (mayF e.node) (mayF e.target) (plcF e.neg e.num e.den) (wordF e.value) (wordF e.field) (e.target.a.toList == e.id.a.toList) (decide (e.target.n < e.id.n)) (votF e.id.a e.who)
def hesS : Fspec := fun _ ds r => ∃ e : Edt, SmE e ∧ ds = [.agg (encE e)] ∧ r = .s (.bool (hesF e))
theorem hes_sound {plain : TypeId → Bool} {Γ : FuncId → Option Fspec} {Δ : FuncId → Option Pt} (hE : EnvOk ⟨Try.prog, plain, Γ, Δ, fun _ => none, 0⟩) (hpl : plain 29 = true) (g_may : Γ 37 = some mayS) (g_plc : Γ 38 = some plcS) (g_word : Γ 39 = some wordS) (g_bin : Γ 40 = some binS) (g_votes : Γ 41 = some votesS) : Sound Try.prog 31 hesS := by
  refine sound_of_awp hE Try.func31 rfl (by kernel_rfl) ?_
  rintro Φ ds r ⟨e, hsm, rfl, rfl⟩
  refine ⟨by simp [Try.f31], ?_⟩
  unfold st0 encE
  refine W.out (E := ⟨Try.prog, plain, Γ, Δ, Φ, _⟩) ?_
  have s1 := hsm.node
  have s2 := hsm.parent
  have s3 := hsm.target
  have s4 := hsm.num
  have s5 := hsm.den
  have s6 := hsm.field
  have s7 := hsm.value
  have s8 := hsm.who
  have g2 : (e.parent.a.toList == (⟨#[]⟩ : ByteArray).toList && e.parent.n == 0) = zId e.parent := rfl
  have g3 : (e.parent.a.toList == (⟨#[45]⟩ : ByteArray).toList && e.parent.n == 0) = bId e.parent := rfl
  have ui : ∀ x : Idt, encId x = [.s (.string x.a), .s (.int .i64 x.n)] := fun _ => rfl
  have ur : ∀ m a b, encR m a b = [.s (.bool m), .s (.string a), .s (.string b)] := fun _ _ _ => rfl
  unfold hesF
  cases k1 : (e.kind == 1)
  rotate_left
  · cases zp : zId e.parent
    · refine go (And.intro k1 (And.intro hpl (And.intro g2 zp))) ?_
      refine x_callN rfl rfl rfl rfl (sv ui) g_may (sv ui) (se ui) ⟨e.parent, by omega, rfl, rfl⟩ rfl ?_
      cases mq : mayF e.parent
      · have hz : ∀ a b c d f g h i j, hsF e.kind false a false b c d f g h i j = false := fun _ _ _ _ _ _ _ _ _ => by simp [hsF, k1]
        refine go (And.intro k1 (And.intro hpl (And.intro g2 (And.intro zp mq)))) ?_
        refine x_done (x_out (sr (And.intro @Try.f31.eq_1 hz)) (by simp) (by simp) rfl)
      · refine go (And.intro k1 (And.intro hpl (And.intro g2 (And.intro zp mq)))) ?_
        refine x_callN rfl rfl rfl rfl (sv ur) g_plc (sv ur) (se ur) ⟨e.neg, e.num, e.den, by omega, by omega, rfl, rfl⟩ rfl ?_
        cases pl : plcF e.neg e.num e.den
        · have hz : ∀ a b c d f g h i, hsF e.kind false a true b c false d f g h i = false := fun _ _ _ _ _ _ _ _ => by simp [hsF, k1]
          refine go (And.intro k1 (And.intro hpl (And.intro g2 (And.intro zp (And.intro mq pl))))) ?_
          refine x_done (x_out (sr (And.intro @Try.f31.eq_1 hz)) (by simp) (by simp) rfl)
        refine go (And.intro k1 (And.intro hpl (And.intro g2 (And.intro zp (And.intro mq pl))))) ?_
        refine x_callN rfl rfl rfl rfl (sv trivial) g_word (sv trivial) (se trivial) ⟨e.value, by omega, rfl, rfl⟩ rfl ?_
        have hz : ∀ a b c w f g h i, hsF e.kind false a true b c true w f g h i = w := fun _ _ _ _ _ _ _ _ => by simp [hsF, k1]
        refine go (And.intro k1 (And.intro hpl (And.intro g2 (And.intro zp (And.intro mq pl))))) ?_
        refine x_done (x_out (sr (And.intro @Try.f31.eq_1 hz)) (by simp) (by simp) rfl)
    · refine go (And.intro k1 (And.intro hpl (And.intro g2 zp))) ?_
      refine x_callN rfl rfl rfl rfl (sv ur) g_plc (sv ur) (se ur) ⟨e.neg, e.num, e.den, by omega, by omega, rfl, rfl⟩ rfl ?_
      cases pl : plcF e.neg e.num e.den
      · have hz : ∀ a0 a b c d f g h i, hsF e.kind true a a0 b c false d f g h i = false := fun _ _ _ _ _ _ _ _ _ => by simp [hsF, k1]
        refine go (And.intro k1 (And.intro hpl (And.intro g2 (And.intro zp pl)))) ?_
        refine x_done (x_out (sr (And.intro @Try.f31.eq_1 hz)) (by simp) (by simp) rfl)
      refine go (And.intro k1 (And.intro hpl (And.intro g2 (And.intro zp pl)))) ?_
      refine x_callN rfl rfl rfl rfl (sv trivial) g_word (sv trivial) (se trivial) ⟨e.value, by omega, rfl, rfl⟩ rfl ?_
      have hz : ∀ a0 a b c w f g h i, hsF e.kind true a a0 b c true w f g h i = w := fun _ _ _ _ _ _ _ _ _ => by simp [hsF, k1]
      refine go (And.intro k1 (And.intro hpl (And.intro g2 (And.intro zp pl)))) ?_
      refine x_done (x_out (sr (And.intro @Try.f31.eq_1 hz)) (by simp) (by simp) rfl)
  cases k2 : (e.kind == 2)
  rotate_left
  · refine go (And.intro k1 (And.intro k2 hpl)) ?_
    refine x_callD rfl rfl rfl rfl rfl (sv ui) g_may (sv ui) (se ui) ⟨e.node, by omega, rfl, rfl⟩ rfl ?_
    cases mn : mayF e.node
    · have hz : ∀ a b c d f g h i j l, hsF e.kind a b c false d f g h i j l = false := fun _ _ _ _ _ _ _ _ _ _ => by simp [hsF, k1, k2]
      refine go (And.intro k1 (And.intro k2 (And.intro hpl mn))) ?_
      refine x_done (x_out (sr (And.intro @Try.f31.eq_1 hz)) (by simp) (by simp) rfl)
    cases zp : zId e.parent
    · refine go (And.intro k1 (And.intro k2 (And.intro hpl (And.intro g2 (And.intro zp mn))))) ?_
      refine x_callDS rfl rfl rfl rfl rfl (sv trivial) g_bin (sv trivial) (se trivial) ⟨rfl, rfl⟩ (by simp) (by simp [touchA, touch]) ?_
      cases bp : bId e.parent
      · refine go (And.intro k1 (And.intro k2 (And.intro hpl (And.intro g2 (And.intro g3 (And.intro zp (And.intro bp (And.intro mn ui)))))))) ?_
        refine x_callD rfl rfl rfl rfl rfl (sv ui) g_may (sv ui) (se ui) ⟨e.parent, by omega, rfl, rfl⟩ rfl ?_
        cases mq : mayF e.parent
        · have hz : ∀ a b d f g h i j, hsF e.kind false false false a b d f g h i j = false := fun _ _ _ _ _ _ _ _ => by simp [hsF, k1, k2]
          refine go (And.intro k1 (And.intro k2 (And.intro hpl (And.intro g2 (And.intro g3 (And.intro zp (And.intro bp (And.intro mq mn)))))))) ?_
          refine x_done (x_out (sr (And.intro @Try.f31.eq_1 hz)) (by simp) (by simp) rfl)
        · refine go (And.intro k1 (And.intro k2 (And.intro hpl (And.intro g2 (And.intro g3 (And.intro zp (And.intro bp (And.intro mq mn)))))))) ?_
          refine x_callD rfl rfl rfl rfl rfl (sv ur) g_plc (sv ur) (se ur) ⟨e.neg, e.num, e.den, by omega, by omega, rfl, rfl⟩ rfl ?_
          have hz : ∀ p c d f g h i, hsF e.kind false false true true c p d f g h i = p := fun _ _ _ _ _ _ _ => by simp [hsF, k1, k2]
          refine go (And.intro k1 (And.intro k2 (And.intro hpl (And.intro g2 (And.intro g3 (And.intro zp (And.intro bp (And.intro mq mn)))))))) ?_
          refine x_done (x_out (sr (And.intro @Try.f31.eq_1 hz)) (by simp) (by simp) rfl)
      · refine go (And.intro k1 (And.intro k2 (And.intro hpl (And.intro g2 (And.intro g3 (And.intro zp (And.intro bp (And.intro mn ui)))))))) ?_
        refine x_callD rfl rfl rfl rfl rfl (sv ur) g_plc (sv ur) (se ur) ⟨e.neg, e.num, e.den, by omega, by omega, rfl, rfl⟩ rfl ?_
        have hz : ∀ a1 p c d f g h i, hsF e.kind false true a1 true c p d f g h i = p := fun _ _ _ _ _ _ _ _ => by simp [hsF, k1, k2]
        refine go (And.intro k1 (And.intro k2 (And.intro hpl (And.intro g2 (And.intro g3 (And.intro zp (And.intro bp (And.intro mn ui)))))))) ?_
        refine x_done (x_out (sr (And.intro @Try.f31.eq_1 hz)) (by simp) (by simp) rfl)
    · refine go (And.intro k1 (And.intro k2 (And.intro hpl (And.intro g2 (And.intro zp mn))))) ?_
      refine x_callD rfl rfl rfl rfl rfl (sv ur) g_plc (sv ur) (se ur) ⟨e.neg, e.num, e.den, by omega, by omega, rfl, rfl⟩ rfl ?_
      have hz : ∀ a0 a1 p c d f g h i, hsF e.kind true a0 a1 true c p d f g h i = p := fun _ _ _ _ _ _ _ _ _ => by simp [hsF, k1, k2]
      refine go (And.intro k1 (And.intro k2 (And.intro hpl (And.intro g2 (And.intro zp mn))))) ?_
      refine x_done (x_out (sr (And.intro @Try.f31.eq_1 hz)) (by simp) (by simp) rfl)
  cases k3 : (e.kind == 3)
  rotate_left
  · refine go (And.intro k1 (And.intro k2 (And.intro k3 hpl))) ?_
    refine x_callN rfl rfl rfl rfl (sv ui) g_may (sv ui) (se ui) ⟨e.node, by omega, rfl, rfl⟩ rfl ?_
    cases mn : mayF e.node
    · have hz : ∀ a b c d f g h i j l, hsF e.kind a b c false d f g h i j l = false := fun _ _ _ _ _ _ _ _ _ _ => by simp [hsF, k1, k2, k3]
      refine go (And.intro k1 (And.intro k2 (And.intro k3 (And.intro hpl mn)))) ?_
      refine x_done (x_out (sr (And.intro @Try.f31.eq_1 hz)) (by simp) (by simp) rfl)
    refine go (And.intro k1 (And.intro k2 (And.intro k3 (And.intro hpl mn)))) ?_
    refine x_callN rfl rfl rfl rfl (sv trivial) g_word (sv trivial) (se trivial) ⟨e.field, by omega, rfl, rfl⟩ rfl ?_
    have hz : ∀ a b c d f g w h i j, hsF e.kind a b c true d f g w h i j = w := fun _ _ _ _ _ _ _ _ _ _ => by simp [hsF, k1, k2, k3]
    refine go (And.intro k1 (And.intro k2 (And.intro k3 (And.intro hpl mn)))) ?_
    refine x_done (x_out (sr (And.intro @Try.f31.eq_1 hz)) (by simp) (by simp) rfl)
  cases k4 : (e.kind == 4)
  rotate_left
  · refine go (And.intro k1 (And.intro k2 (And.intro k3 (And.intro k4 hpl)))) ?_
    refine x_callN rfl rfl rfl rfl (sv ui) g_may (sv ui) (se ui) ⟨e.target, by omega, rfl, rfl⟩ rfl ?_
    cases mt : mayF e.target
    · have hz : ∀ a b c d f g h i j l, hsF e.kind a b c d false f g h i j l = false := fun _ _ _ _ _ _ _ _ _ _ => by simp [hsF, k1, k2, k3, k4]
      refine go (And.intro k1 (And.intro k2 (And.intro k3 (And.intro k4 (And.intro hpl mt))))) ?_
      refine x_done (x_out (sr (And.intro @Try.f31.eq_1 hz)) (by simp) (by simp) rfl)
    cases tt : (e.target.a.toList == e.id.a.toList)
    · have hz : ∀ a b c d f g h j l, hsF e.kind a b c d true f g h false j l = false := fun _ _ _ _ _ _ _ _ _ => by simp [hsF, k1, k2, k3, k4]
      refine go (And.intro k1 (And.intro k2 (And.intro k3 (And.intro k4 (And.intro hpl (And.intro mt tt)))))) ?_
      refine x_done (x_out (sr (And.intro @Try.f31.eq_1 hz)) (by simp) (by simp) rfl)
    have hz : ∀ a b c d f g h j l, hsF e.kind a b c d true f g h true j l = j := fun _ _ _ _ _ _ _ _ _ => by simp [hsF, k1, k2, k3, k4]
    refine go (And.intro k1 (And.intro k2 (And.intro k3 (And.intro k4 (And.intro hpl (And.intro mt tt)))))) ?_
    refine x_done (x_out (sr (And.intro @Try.f31.eq_1 hz)) (by simp) (by simp) rfl)
  cases k5 : (e.kind == 5)
  rotate_left
  · refine go (And.intro k1 (And.intro k2 (And.intro k3 (And.intro k4 (And.intro k5 hpl))))) ?_
    refine x_callN rfl rfl rfl rfl (sv trivial) g_votes (sv trivial) (se trivial) ⟨e.id.a, e.who, by omega, rfl, rfl⟩ rfl ?_
    have hz : ∀ a b c d f g h j l q v, hsF e.kind a b c d q f g h l j v = v := fun _ _ _ _ _ _ _ _ _ _ _ => by simp [hsF, k1, k2, k3, k4, k5]
    refine go (And.intro k1 (And.intro k2 (And.intro k3 (And.intro k4 (And.intro k5 hpl))))) ?_
    refine x_done (x_out (sr (And.intro @Try.f31.eq_1 hz)) (by simp) (by simp) rfl)
  have hz : ∀ a b c d f g h j l q v, hsF e.kind a b c d q f g h l j v = true := fun _ _ _ _ _ _ _ _ _ _ _ => by simp [hsF, k1, k2, k3, k4, k5]
  refine go (And.intro k1 (And.intro k2 (And.intro k3 (And.intro k4 (And.intro k5 hpl))))) ?_
  refine x_done (x_out (sr (And.intro @Try.f31.eq_1 hz)) (by simp) (by simp) rfl)
end Go.Proofs.Ytahgddfnbjpfiaa

set_option linter.unusedVariables false
set_option linter.unusedSimpArgs false
set_option maxRecDepth 100000
set_option maxHeartbeats 16000000
namespace Go.Proofs.Ytahgddfnbjpfiaa
open Go Go.RowKit Am

def rngF (e : Edt) : Bool := decide (e.id.n < 1) || decide (1000000000 < e.id.n) || decide (e.clock < e.id.n) || decide (1000000000 < e.clock) || decide (e.floor < 0) || decide (e.clock ≤ e.floor)
def bigF (v : List Idt) : Bool := v.any fun x => decide (1000000000 < x.n)
def chkEF (e : Edt) : Int :=
  if authF e.id.a = false then 7 else if rngF e = true then 2 else if (chkF e.deps != 0) = true then chkF e.deps else if bigF e.deps = true then 2 else
  if (ahdF e.deps e.id.a != e.id.n - 1) = true then 1 else if (decide (e.kind < 1) || decide (6 < e.kind)) = true then 11 else if (e.kind == 3 && decide (2000 < (e.value.size : Int))) = true then 6 else
  if (!rstF e || !hesF e) = true then 1 else 0
def chkES : Fspec := fun _ ds r => ∃ e : Edt, SmE e ∧ ds = [.agg (encE e)] ∧ r = .s (.int .i64 (chkEF e))
theorem chkE_sound {plain : TypeId → Bool} {Γ : FuncId → Option Fspec} {Δ : FuncId → Option Pt} (hE : EnvOk ⟨Try.prog, plain, Γ, Δ, fun _ => none, 0⟩) (g_auth : Γ 27 = some authS) (g_chk : Γ 28 = some chkS) (g_ahead : Γ 29 = some aheadS) (g_rest : Γ 30 = some restS) (g_hes : Γ 31 = some hesS) : Sound Try.prog 17 chkES := by
  refine sound_of_awp hE Try.func17 rfl (by kernel_rfl) ?_
  rintro Φ ds r ⟨e, hsm, rfl, rfl⟩
  refine ⟨by simp [Try.f17], ?_⟩
  unfold st0 encE
  refine W.out (E := ⟨Try.prog, plain, Γ, Δ, Φ, _⟩) ?_
  have s1 := hsm.id
  have s2 := hsm.deps
  have s3 := hsm.dep
  have s4 := hsm.value
  have hr := encId_rows e.deps
  have ui : ∀ v, encIds v = .sl (v.map encId) := fun _ => rfl
  have ue : ∀ x : Idt, encId x = [.s (.string x.a), .s (.int .i64 x.n)] := fun _ => rfl
  refine go trivial ?_
  refine x_callN rfl rfl rfl rfl (sv trivial) g_auth (sv trivial) (se trivial) ⟨e.id.a, by omega, rfl, rfl⟩ rfl ?_
  cases a1 : authF e.id.a
  · have hz : chkEF e = 7 := by simp [chkEF, a1]
    refine go a1 ?_
    refine x_done (x_out (sr (And.intro @Try.f17.eq_1 hz)) (by simp) (by simp) rfl)
  by_cases b0 : e.id.n < 1
  · have hz : chkEF e = 2 := by simp [chkEF, rngF, a1, b0]
    refine go (And.intro a1 b0) ?_
    refine x_done (x_out (sr (And.intro @Try.f17.eq_1 hz)) (by simp) (by simp) rfl)
  by_cases b1 : 1000000000 < e.id.n
  · have hz : chkEF e = 2 := by simp [chkEF, rngF, a1, b0, b1]
    refine go (And.intro a1 (And.intro b0 b1)) ?_
    refine x_done (x_out (sr (And.intro @Try.f17.eq_1 hz)) (by simp) (by simp) rfl)
  by_cases b2 : e.clock < e.id.n
  · have hz : chkEF e = 2 := by simp [chkEF, rngF, a1, b0, b1, b2]
    refine go (And.intro a1 (And.intro b0 (And.intro b1 b2))) ?_
    refine x_done (x_out (sr (And.intro @Try.f17.eq_1 hz)) (by simp) (by simp) rfl)
  by_cases b3 : 1000000000 < e.clock
  · have hz : chkEF e = 2 := by simp [chkEF, rngF, a1, b0, b1, b2, b3]
    refine go (And.intro a1 (And.intro b0 (And.intro b1 (And.intro b2 b3)))) ?_
    refine x_done (x_out (sr (And.intro @Try.f17.eq_1 hz)) (by simp) (by simp) rfl)
  by_cases b4 : e.floor < 0
  · have hz : chkEF e = 2 := by simp [chkEF, rngF, a1, b0, b1, b2, b3, b4]
    refine go (And.intro a1 (And.intro b0 (And.intro b1 (And.intro b2 (And.intro b3 b4))))) ?_
    refine x_done (x_out (sr (And.intro @Try.f17.eq_1 hz)) (by simp) (by simp) rfl)
  by_cases b5 : e.clock ≤ e.floor
  · have hz : chkEF e = 2 := by simp [chkEF, rngF, a1, b0, b1, b2, b3, b4, b5]
    refine go (And.intro a1 (And.intro b0 (And.intro b1 (And.intro b2 (And.intro b3 (And.intro b4 b5)))))) ?_
    refine x_done (x_out (sr (And.intro @Try.f17.eq_1 hz)) (by simp) (by simp) rfl)
  have hrng : rngF e = false := by simp [rngF, b0, b1, b2, b3, b4, b5]
  refine go (And.intro a1 (And.intro b0 (And.intro b1 (And.intro b2 (And.intro b3 (And.intro b4 b5)))))) ?_
  refine x_callS rfl rfl rfl rfl (sv ui) g_chk (sv ui) (se ui) ⟨e.deps, by omega, (fun x hx => by have := s3 x hx; omega), rfl, rfl⟩ (by simp) (by simp [touchA, touch]) ?_
  cases a2 : (chkF e.deps != 0)
  rotate_left
  · have hz : chkEF e = chkF e.deps := by simp only [chkEF, a1, hrng, a2]; simp
    refine go a2 ?_
    refine x_done (x_out (sr (And.intro @Try.f17.eq_1 hz)) (by simp) (by simp) rfl)
  refine go a2 ?_
  refine x_loop (fun σ => ∃ (i : Nat), σ.t 1 = .ptr 0 0 0 ∧ σ.t 53 = .s (.int .i64 e.deps.length) ∧ σ.t 54 = .s (.int .i64 i) ∧ σ.h 0 = some ⟨18, [encE e], true⟩ ∧ i ≤ e.deps.length ∧ bigF (e.deps.drop i) = bigF e.deps) (fun σ => e.deps.length - ix (σ.t 54)) ⟨0, (by first | assumption | exact sxa trivial), (by first | assumption | exact sxa trivial), (by first | assumption | exact sxa trivial), (by first | assumption | exact sxa trivial), (by first | rfl | omega | assumption | (simp [*]; done)), (by first | rfl | omega | assumption | (simp [*]; done))⟩ ?_
  rintro t h n ⟨i, h1, h53, h54, hh0, hf0, hf1⟩
  simp only at h1 h53 h54 hh0
  refine go (And.intro h1 (And.intro h53 (And.intro h54 (And.intro hh0 @encE.eq_1)))) ?_
  refine x_condP (sv (And.intro h1 (And.intro h53 h54))) (fun hc => ?_) (fun hc => ?_)
  · have hi : i < e.deps.length := by omega
    rw [List.drop_eq_getElem_cons hi] at hf1
    have hbc : bigF (e.deps[i] :: e.deps.drop (i + 1)) = (decide (1000000000 < e.deps[i].n) || bigF (e.deps.drop (i + 1))) := rfl
    rw [hbc] at hf1
    by_cases c1 : 1000000000 < e.deps[i].n
    · rw [decide_eq_true c1, Bool.true_or] at hf1
      have hz : chkEF e = 2 := by simp only [chkEF, a1, hrng, a2, ← hf1]; simp
      refine go (And.intro h1 (And.intro h53 (And.intro h54 (And.intro hh0 (And.intro @encE.eq_1 (And.intro hr (And.intro @encId.eq_1 c1))))))) ?_
      refine x_done (x_out (sr (And.intro @Try.f17.eq_1 hz)) (by simp) (by simp) rfl)
    · rw [decide_eq_false c1, Bool.false_or] at hf1
      refine go (And.intro h1 (And.intro h53 (And.intro h54 (And.intro hh0 (And.intro @encE.eq_1 (And.intro hr (And.intro @encId.eq_1 c1))))))) ?_
      (refine ⟨⟨i + 1, ?_, ?_, ?_, ?_, ?_, ?_⟩, ?_⟩ <;> (first | omega | (dsimp only; omega) | (first | omega | assumption | (simp [*]; done)) | exact sxa (And.intro @cast_succ @encE.eq_1) | exact soa trivial))
  · have ee : i = e.deps.length := by omega
    subst ee
    rw [List.drop_length] at hf1
    have hbig : bigF e.deps = false := by rw [← hf1]; rfl
    have hw : (1 : Int) ≤ e.id.n := by omega
    refine go (And.intro h1 (And.intro h53 (And.intro h54 (And.intro hh0 @encE.eq_1)))) ?_
    refine x_callD rfl rfl rfl rfl rfl (sv ui) g_ahead (sv ui) (se ui) ⟨e.deps, e.id.a, by omega, rfl, rfl⟩ rfl ?_
    cases a3 : (ahdF e.deps e.id.a != e.id.n - 1)
    rotate_left
    · have hz : chkEF e = 1 := by simp only [chkEF, a1, hrng, a2, hbig, a3]; simp
      refine go (And.intro h1 (And.intro hh0 (And.intro @encE.eq_1 a3))) ?_
      refine x_done (x_out (sr (And.intro @Try.f17.eq_1 hz)) (by simp) (by simp) rfl)
    by_cases k1 : e.kind < 1
    · have hz : chkEF e = 11 := by simp only [chkEF, a1, hrng, a2, hbig, a3, k1]; simp
      refine go (And.intro h1 (And.intro hh0 (And.intro @encE.eq_1 (And.intro a3 k1)))) ?_
      refine x_done (x_out (sr (And.intro @Try.f17.eq_1 hz)) (by simp) (by simp) rfl)
    by_cases k2 : 6 < e.kind
    · have hz : chkEF e = 11 := by simp only [chkEF, a1, hrng, a2, hbig, a3, k1, k2]; simp
      refine go (And.intro h1 (And.intro hh0 (And.intro @encE.eq_1 (And.intro a3 (And.intro k1 k2))))) ?_
      refine x_done (x_out (sr (And.intro @Try.f17.eq_1 hz)) (by simp) (by simp) rfl)
    have tail : ∀ b : Bool, (e.kind == 3 && decide (2000 < (e.value.size : Int))) = false → chkEF e = if (!rstF e || !hesF e) = true then 1 else 0 := fun b hb => by simp only [chkEF, a1, hrng, a2, hbig, a3, k1, k2, hb]; simp
    cases k3 : (e.kind == 3)
    · have hz := tail true (by simp [k3])
      refine go (And.intro h1 (And.intro hh0 (And.intro @encE.eq_1 (And.intro a3 (And.intro k1 (And.intro k2 k3)))))) ?_
      refine x_callS rfl rfl rfl rfl (sv @encE.eq_1) g_rest (sv @encE.eq_1) (se @encE.eq_1) ⟨e, rfl, rfl⟩ (by simp) (by simp [touchA, touch]) ?_
      cases r1 : rstF e
      · have hz2 : chkEF e = 1 := by rw [hz, r1]; simp
        refine go r1 ?_
        refine x_done (x_out (sr (And.intro @Try.f17.eq_1 hz2)) (by simp) (by simp) rfl)
      refine go (And.intro h1 (And.intro hh0 (And.intro @encE.eq_1 r1))) ?_
      refine x_callS rfl rfl rfl rfl (sv @encE.eq_1) g_hes (sv @encE.eq_1) (se @encE.eq_1) ⟨e, hsm, rfl, rfl⟩ (by simp) (by simp [touchA, touch]) ?_
      cases r2 : hesF e
      · have hz2 : chkEF e = 1 := by rw [hz, r1, r2]; simp
        refine go (And.intro r1 r2) ?_
        refine x_done (x_out (sr (And.intro @Try.f17.eq_1 hz2)) (by simp) (by simp) rfl)
      have hz2 : chkEF e = 0 := by rw [hz, r1, r2]; simp
      refine go (And.intro r1 r2) ?_
      refine x_done (x_out (sr (And.intro @Try.f17.eq_1 hz2)) (by simp) (by simp) rfl)
    · by_cases k4 : 2000 < (e.value.size : Int)
      · have hz : chkEF e = 6 := by simp only [chkEF, a1, hrng, a2, hbig, a3, k1, k2, k3, k4]; simp
        refine go (And.intro h1 (And.intro hh0 (And.intro @encE.eq_1 (And.intro a3 (And.intro k1 (And.intro k2 (And.intro k3 k4))))))) ?_
        refine x_done (x_out (sr (And.intro @Try.f17.eq_1 hz)) (by simp) (by simp) rfl)
      · have hz := tail true (by simp [k3, k4])
        refine go (And.intro h1 (And.intro hh0 (And.intro @encE.eq_1 (And.intro a3 (And.intro k1 (And.intro k2 (And.intro k3 k4))))))) ?_
        refine x_callS rfl rfl rfl rfl (sv @encE.eq_1) g_rest (sv @encE.eq_1) (se @encE.eq_1) ⟨e, rfl, rfl⟩ (by simp) (by simp [touchA, touch]) ?_
        cases r1 : rstF e
        · have hz2 : chkEF e = 1 := by rw [hz, r1]; simp
          refine go r1 ?_
          refine x_done (x_out (sr (And.intro @Try.f17.eq_1 hz2)) (by simp) (by simp) rfl)
        refine go (And.intro h1 (And.intro hh0 (And.intro @encE.eq_1 r1))) ?_
        refine x_callS rfl rfl rfl rfl (sv @encE.eq_1) g_hes (sv @encE.eq_1) (se @encE.eq_1) ⟨e, hsm, rfl, rfl⟩ (by simp) (by simp [touchA, touch]) ?_
        cases r2 : hesF e
        · have hz2 : chkEF e = 1 := by rw [hz, r1, r2]; simp
          refine go (And.intro r1 r2) ?_
          refine x_done (x_out (sr (And.intro @Try.f17.eq_1 hz2)) (by simp) (by simp) rfl)
        have hz2 : chkEF e = 0 := by rw [hz, r1, r2]; simp
        refine go (And.intro r1 r2) ?_
        refine x_done (x_out (sr (And.intro @Try.f17.eq_1 hz2)) (by simp) (by simp) rfl)
end Go.Proofs.Ytahgddfnbjpfiaa
