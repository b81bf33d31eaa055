/- Texts that the law's proof stands on: V11, V12, V13, V14, V15, V17, V18, V19. -/
import Derived.Test.YtahgddfnbjpfiaaB18
set_option linter.unusedVariables false
set_option linter.unusedSimpArgs false
set_option maxRecDepth 100000
set_option maxHeartbeats 16000000
namespace Go.Proofs.Ytahgddfnbjpfiaa
open Go Go.RowKit Am

def ofS : Fspec := fun _ ds r => ∃ n : Nat, n < 18446744073709551616 ∧ ds = [.s (.int .u64 n)] ∧ r = .s (.string (natB n))
theorem of_sound {plain : TypeId → Bool} {Γ : FuncId → Option Fspec} {Δ : FuncId → Option Pt} (hE : EnvOk ⟨Try.prog, plain, Γ, Δ, fun _ => none, 0⟩) : Sound Try.prog 71 ofS := by
  refine sound_of_awp hE Try.func71 rfl (by kernel_rfl) ?_
  rintro Φ ds r ⟨N, hN, rfl, rfl⟩
  refine ⟨by simp [Try.f71], ?_⟩
  unfold st0
  refine W.out (E := ⟨Try.prog, plain, Γ, Δ, Φ, _⟩) ?_
  refine go trivial ?_
  have hd8 : (dig N).length ≤ 8 := dig_len_le (by omega)
  have hl0 : (([] : List UInt8).map encB) = [] := rfl
  have hln0 : ([] : List UInt8).length = 0 := rfl
  refine x_loop (fun σ => ∃ (m : Nat) (L : List UInt8) (k : Nat) (q : Nat) (cq : Nat) (sq : List (List Am.V)), σ.t 0 = .s (.int .u64 m) ∧ σ.t 3 = .loc q 0 k cq ∧ σ.h q = some ⟨1, L.map encB ++ sq, true⟩ ∧ q < σ.n ∧ L.length = k ∧ k ≤ cq ∧ cq ≤ k + sq.length ∧ m ≤ N ∧ dig N = L ++ dig m) (fun σ => ix1 (σ.t 0)) ⟨N, [], 0, 0, _, [], (by first | assumption | exact sxa trivial), (by first | assumption | exact sxa trivial), (by first | assumption | exact sxa trivial), (by first | omega | (dsimp only; omega) | exact soa trivial | omega | (simp; done)), (by first | rfl | omega | assumption | (simp [*]; done)), (by first | rfl | omega | assumption | (simp [*]; done)), (by first | rfl | omega | assumption | (simp [*]; done)), (by first | rfl | omega | assumption | (simp [*]; done)), (by first | rfl | omega | assumption | (simp [*]; done))⟩ ?_
  rintro t h n ⟨m, L, k, q, cq, sq, h0, h3, hhq, hn1, hf0, hf1, hf2, hf3, hf4⟩
  simp only at h0 h3 hhq hn1
  by_cases hm : m = 0
  · have d1 : ((0 : Int) < (m : Int)) = False := eq_false (by omega)
    have hLd : dig N = L := by rw [hf4, hm, dig_zero, List.append_nil]
    have tk : (L.map encB ++ sq).take k = L.map encB := List.take_left' (by simpa using hf0)
    have ln : k ≤ (L.map encB ++ sq).length := by simp; omega
    have b1 := bytesB L
    have b2 := strB L
    have hnb : natB N = ⟨L.toArray⟩ := by rw [natB, hLd]
    rw [hnb]
    refine go (And.intro h0 (And.intro h3 (And.intro hhq (And.intro d1 (And.intro tk (And.intro ln (And.intro b1 b2))))))) ?_
    refine x_done (x_out (sr @Try.f71.eq_1) (by simp) (by simp) rfl)
  have d1 : ((0 : Int) < (m : Int)) = True := eq_true (by omega)
  have hdm : dig N = (L ++ [UInt8.ofNat m]) ++ dig (m / 256) := by rw [hf4, dig_pos hm]; simp
  have hk8 : k + 1 ≤ 8 := by
    have h2 := congrArg List.length hdm
    simp only [List.length_append, List.length_cons, List.length_nil] at h2
    omega
  have hls : (L ++ [UInt8.ofNat m]).map encB = L.map encB ++ [encB (UInt8.ofNat m)] := by simp
  have hml : (L.map encB).length = k := by simpa using hf0
  have e1 : (q = n) = False := by simp; omega
  have e2 : (q = n + 1) = False := by simp; omega
  have e3 : (n = q) = False := by simp; omega
  have e4 : (n + 1 = q) = False := by simp; omega
  have z2 : (m : Int).tmod 256 = ((m % 256 : Nat) : Int) := rfl
  have z3 : (m : Int).tdiv 256 = ((m / 256 : Nat) : Int) := rfl
  have z4 := wrap8 (m % 256)
  have z5 : UInt8.ofNat (m % 256) = UInt8.ofNat m := UInt8.toNat_inj.1 (by simp)
  have hln : (L ++ [UInt8.ofNat m]).length = k + 1 := by simp; omega
  have hms : ix1 (.s (.int .u64 ((m / 256 : Nat) : Int))) < ix1 (.s (.int .u64 (m : Int))) := by simp only [ix1]; omega
  rw [z5] at z4
  refine go (And.intro h0 (And.intro h3 (And.intro z2 (And.intro z3 (And.intro z4 d1))))) ?_
  refine x_appendO rfl rfl rfl rfl rfl rfl (sv (And.intro h3 (And.intro hhq (And.intro hml (And.intro e1 (And.intro e2 (And.intro e3 e4))))))) (by decide) (sc (And.intro h3 (And.intro hhq (And.intro hml (And.intro e1 (And.intro e2 (And.intro e3 e4))))))) (sv (And.intro h3 (And.intro hhq (And.intro hml (And.intro e1 (And.intro e2 (And.intro e3 e4))))))) (sx (And.intro h3 (And.intro hhq (And.intro hml (And.intro e1 (And.intro e2 (And.intro e3 e4))))))) (by first | rfl | (simp; done) | (simp [spare_len]; omega)) (by first | omega | (simp; done) | (simp [spare_len]; omega)) (by first | omega | (simp; done) | (simp [spare_len]; omega)) (sx (And.intro h3 (And.intro hhq (And.intro hml (And.intro e1 (And.intro e2 (And.intro e3 e4))))))) (okRowB (UInt8.ofNat m)) (by first | omega | (simp; done) | (simp [spare_len]; omega)) (fun cap' hcap' => ?_)
  refine go (And.intro h0 (And.intro h3 (And.intro z2 (And.intro z3 (And.intro e1 (And.intro e2 (And.intro e3 e4))))))) ?_
  have hc2 : k + 1 ≤ cap' := hcap'
  have hc3 : cap' ≤ k + 1 + (spare 1 (cap' - (k + 1))).length := by simp only [spare_len]; omega
  have hc4 : m / 256 ≤ N := by omega
  clear z2 z4 z5
  (refine ⟨⟨m / 256, L ++ [UInt8.ofNat m], k + 1, n + 1, cap', spare 1 (cap' - (k + 1)), ?_, ?_, ?_, ?_, ?_, ?_, ?_, ?_, ?_⟩, ?_⟩ <;> (first | omega | (dsimp only; omega) | (assumption) | exact sxa (And.intro @cast_succ (And.intro hls (And.intro e1 (And.intro e2 (And.intro e3 e4))))) | exact soa trivial))
end Go.Proofs.Ytahgddfnbjpfiaa

set_option linter.unusedVariables false
set_option linter.unusedSimpArgs false
set_option maxRecDepth 100000
set_option maxHeartbeats 16000000
namespace Go.Proofs.Ytahgddfnbjpfiaa
open Go Go.RowKit Am

/-- The integer of a sign and a magnitude. -/
def zv (ng : Bool) (s : ByteArray) : Int := if ng then -(vl s : Int) else (vl s : Int)
/-- An integer in canonical form. -/
def encZ (z : Int) : List Am.V := [.s (.bool (decide (z < 0))), .s (.string (natB z.natAbs))]
theorem encZ_zv (ng : Bool) (s : ByteArray) : encZ (zv ng s) = [.s (.bool (ng && !decide (vl s = 0))), .s (.string (natB (vl s)))] := by
  cases ng
  · have h1 : zv false s = (vl s : Int) := rfl
    have h2 : decide ((vl s : Int) < 0) = false := decide_eq_false (by omega)
    rw [encZ, h1, h2]; rfl
  · have h1 : zv true s = -(vl s : Int) := rfl
    have h2 : decide (-(vl s : Int) < 0) = !decide (vl s = 0) := by
      by_cases h : vl s = 0
      · rw [h]; rfl
      · rw [decide_eq_true (by omega : -(vl s : Int) < 0), decide_eq_false h]; rfl
    rw [encZ, h1, h2, show (-(vl s : Int)).natAbs = vl s by omega]; rfl
def ofiS : Fspec := fun _ ds r => ∃ (ng : Bool) (a : ByteArray), a.size ≤ 1099511627776 ∧ ds = [.s (.bool ng), .s (.string a)] ∧ r = .agg (encZ (zv ng a))
theorem ofi_sound {plain : TypeId → Bool} {Γ : FuncId → Option Fspec} {Δ : FuncId → Option Pt} (hE : EnvOk ⟨Try.prog, plain, Γ, Δ, fun _ => none, 0⟩) (g_norm : Γ 65 = some normS) : Sound Try.prog 58 ofiS := by
  refine sound_of_awp hE Try.func58 rfl (by kernel_rfl) ?_
  rintro Φ ds r ⟨ng, a, ha, rfl, rfl⟩
  refine ⟨by simp [Try.f58], ?_⟩
  unfold st0
  refine W.out (E := ⟨Try.prog, plain, Γ, Δ, Φ, _⟩) ?_
  have hem := natB_empty (vl a)
  rw [encZ_zv]
  refine go trivial ?_
  refine x_callN rfl rfl rfl rfl (sv trivial) g_norm (sv trivial) (se trivial) ⟨a, ha, rfl, rfl⟩ rfl ?_
  cases ng
  · refine go trivial ?_
    refine x_done (x_out (sr @Try.f58.eq_1) (by simp) (by simp) rfl)
  by_cases hz : vl a = 0
  · have h1 : decide (vl a = 0) = true := decide_eq_true hz
    rw [h1]
    refine go (And.intro hem h1) ?_
    refine x_done (x_out (sr @Try.f58.eq_1) (by simp) (by simp) rfl)
  · have h1 : decide (vl a = 0) = false := decide_eq_false hz
    rw [h1]
    refine go (And.intro hem h1) ?_
    refine x_done (x_out (sr @Try.f58.eq_1) (by simp) (by simp) rfl)
def normiS : Fspec := fun _ ds r => ∃ (ng : Bool) (a : ByteArray), a.size ≤ 1099511627776 ∧ ds = [.agg [.s (.bool ng), .s (.string a)]] ∧ r = .agg (encZ (zv ng a))
theorem normi_sound {plain : TypeId → Bool} {Γ : FuncId → Option Fspec} {Δ : FuncId → Option Pt} (hE : EnvOk ⟨Try.prog, plain, Γ, Δ, fun _ => none, 0⟩) (g_of : Γ 58 = some ofiS) : Sound Try.prog 53 normiS := by
  refine sound_of_awp hE Try.func53 rfl (by kernel_rfl) ?_
  rintro Φ ds r ⟨ng, a, ha, rfl, rfl⟩
  refine ⟨by simp [Try.f53], ?_⟩
  unfold st0
  refine W.out (E := ⟨Try.prog, plain, Γ, Δ, Φ, _⟩) ?_
  refine go trivial ?_
  refine x_callN rfl rfl rfl rfl (sv trivial) g_of (sv trivial) (se trivial) ⟨ng, a, ha, rfl, rfl⟩ rfl ?_
  rw [encZ_zv]
  refine go trivial ?_
  refine x_done (x_out (sr @Try.f53.eq_1) (by simp) (by simp) rfl)
def negiS : Fspec := fun _ ds r => ∃ (ng : Bool) (a : ByteArray), a.size ≤ 1099511627776 ∧ ds = [.agg [.s (.bool ng), .s (.string a)]] ∧ r = .agg (encZ (-(zv ng a)))
theorem zv_not (ng : Bool) (a : ByteArray) : zv (!ng) a = -(zv ng a) := by cases ng <;> simp [zv]
theorem negi_sound {plain : TypeId → Bool} {Γ : FuncId → Option Fspec} {Δ : FuncId → Option Pt} (hE : EnvOk ⟨Try.prog, plain, Γ, Δ, fun _ => none, 0⟩) (g_of : Γ 58 = some ofiS) : Sound Try.prog 70 negiS := by
  refine sound_of_awp hE Try.func70 rfl (by kernel_rfl) ?_
  rintro Φ ds r ⟨ng, a, ha, rfl, rfl⟩
  refine ⟨by simp [Try.f70], ?_⟩
  unfold st0
  refine W.out (E := ⟨Try.prog, plain, Γ, Δ, Φ, _⟩) ?_
  rw [← zv_not]
  refine go trivial ?_
  refine x_callN rfl rfl rfl rfl (sv trivial) g_of (sv trivial) (se trivial) ⟨!ng, a, ha, rfl, rfl⟩ rfl ?_
  rw [encZ_zv]
  refine go trivial ?_
  refine x_done (x_out (sr @Try.f70.eq_1) (by simp) (by simp) rfl)
def signiS : Fspec := fun _ ds r => ∃ (ng : Bool) (a : ByteArray), a.size ≤ 1099511627776 ∧ ds = [.agg [.s (.bool ng), .s (.string a)]] ∧ r = .s (.int .i64 (zv ng a).sign)
theorem signi_sound {plain : TypeId → Bool} {Γ : FuncId → Option Fspec} {Δ : FuncId → Option Pt} (hE : EnvOk ⟨Try.prog, plain, Γ, Δ, fun _ => none, 0⟩) (g_norm : Γ 65 = some normS) : Sound Try.prog 61 signiS := by
  refine sound_of_awp hE Try.func61 rfl (by kernel_rfl) ?_
  rintro Φ ds r ⟨ng, a, ha, rfl, rfl⟩
  refine ⟨by simp [Try.f61], ?_⟩
  unfold st0
  refine W.out (E := ⟨Try.prog, plain, Γ, Δ, Φ, _⟩) ?_
  have hem := natB_empty (vl a)
  refine go trivial ?_
  refine x_callN rfl rfl rfl rfl (sv trivial) g_norm (sv trivial) (se trivial) ⟨a, ha, rfl, rfl⟩ rfl ?_
  by_cases hz : vl a = 0
  · have h1 : decide (vl a = 0) = true := decide_eq_true hz
    have hs : (zv ng a).sign = 0 := by cases ng <;> simp [zv, hz]
    rw [hs]
    refine go (And.intro hem h1) ?_
    refine x_done (x_out (sr @Try.f61.eq_1) (by simp) (by simp) rfl)
  have h1 : decide (vl a = 0) = false := decide_eq_false hz
  cases ng
  · have hs : (zv false a).sign = 1 := Int.sign_eq_one_of_pos (by show (0 : Int) < (vl a : Int); omega)
    rw [hs]
    refine go (And.intro hem h1) ?_
    refine x_done (x_out (sr @Try.f61.eq_1) (by simp) (by simp) rfl)
  · have hs : (zv true a).sign = -1 := Int.sign_eq_neg_one_of_neg (by show -(vl a : Int) < 0; omega)
    rw [hs]
    refine go (And.intro hem h1) ?_
    refine x_done (x_out (sr @Try.f61.eq_1) (by simp) (by simp) rfl)
end Go.Proofs.Ytahgddfnbjpfiaa

set_option linter.unusedVariables false
set_option linter.unusedSimpArgs false
set_option maxRecDepth 100000
set_option maxHeartbeats 16000000
namespace Go.Proofs.Ytahgddfnbjpfiaa
open Go Go.RowKit Am

theorem natB_add_sz (a b : ByteArray) {k : Nat} (ha : a.size ≤ k) (hb : b.size ≤ k) : (natB (vl a + vl b)).size ≤ k + 1 := dig_len_le (by
  have h1 := Nat.lt_of_lt_of_le (vl_lt a) (Nat.pow_le_pow_right (by omega : 0 < 256) ha)
  have h2 := Nat.lt_of_lt_of_le (vl_lt b) (Nat.pow_le_pow_right (by omega : 0 < 256) hb)
  rw [Nat.pow_succ]
  omega)
theorem natB_sub_sz (a b : ByteArray) {k : Nat} (ha : a.size ≤ k) : (natB (vl a - vl b)).size ≤ k := dig_len_le (by
  have h1 := Nat.lt_of_lt_of_le (vl_lt a) (Nat.pow_le_pow_right (by omega : 0 < 256) ha)
  omega)
def addiS : Fspec := fun _ ds r => ∃ (m : Bool) (a : ByteArray) (k : Bool) (b : ByteArray), a.size ≤ 1099511627700 ∧ b.size ≤ 1099511627700 ∧ ds = [.agg [.s (.bool m), .s (.string a)], .agg [.s (.bool k), .s (.string b)]] ∧ r = .agg (encZ (zv m a + zv k b))
theorem addi_sound {plain : TypeId → Bool} {Γ : FuncId → Option Fspec} {Δ : FuncId → Option Pt} (hE : EnvOk ⟨Try.prog, plain, Γ, Δ, fun _ => none, 0⟩) (g_of : Γ 58 = some ofiS) (g_add : Γ 69 = some add1S) (g_sub : Γ 68 = some sub1S) : Sound Try.prog 62 addiS := by
  refine sound_of_awp hE Try.func62 rfl (by kernel_rfl) ?_
  rintro Φ ds r ⟨m, a, k, b, ha, hb, rfl, rfl⟩
  refine ⟨by simp [Try.f62], ?_⟩
  unfold st0
  refine W.out (E := ⟨Try.prog, plain, Γ, Δ, Φ, _⟩) ?_
  have sz1 := natB_add_sz a b ha hb
  have sz2 := natB_sub_sz a b ha
  have sz3 := natB_sub_sz b a hb
  by_cases hmk : m = k
  · subst hmk
    have h1 : (m == m) = true := by simp
    have hz : zv m a + zv m b = zv m (natB (vl a + vl b)) := by cases m <;> simp [zv, vl_natB] <;> omega
    rw [hz]
    refine go h1 ?_
    refine x_callD rfl rfl rfl rfl rfl (sv trivial) g_add (sv trivial) (se trivial) ⟨a, b, by omega, by omega, rfl, rfl⟩ rfl ?_
    refine go h1 ?_
    refine x_callD rfl rfl rfl rfl rfl (sv trivial) g_of (sv trivial) (se trivial) ⟨m, natB (vl a + vl b), by omega, rfl, rfl⟩ rfl ?_
    rw [encZ_zv]
    refine go h1 ?_
    refine x_done (x_out (sr @Try.f62.eq_1) (by simp) (by simp) rfl)
  have h1 : (m == k) = false := by simp [hmk]
  refine go h1 ?_
  by_cases hlt : vl a < vl b
  · have hz : zv m a + zv k b = zv k (natB (vl b - vl a)) := by cases m <;> cases k <;> simp [zv, vl_natB] at hmk ⊢ <;> omega
    rw [hz]
    have e1 : V.tup [.s (.string ⟨#[]⟩), .s (.bool false)] = V.tup (if vl a < vl b then [.s (.string ⟨#[]⟩), .s (.bool false)] else [.s (.string (natB (vl a - vl b))), .s (.bool true)]) := by rw [if_pos hlt]
    have e2 : V.tup [.s (.string (natB (vl b - vl a))), .s (.bool true)] = V.tup (if vl b < vl a then [.s (.string ⟨#[]⟩), .s (.bool false)] else [.s (.string (natB (vl b - vl a))), .s (.bool true)]) := by rw [if_neg (by omega)]
    refine x_callN rfl rfl rfl rfl (sv trivial) g_sub (sv trivial) (se trivial) ⟨a, b, by omega, by omega, rfl, e1⟩ rfl ?_
    refine go h1 ?_
    refine x_callN rfl rfl rfl rfl (sv trivial) g_sub (sv trivial) (se trivial) ⟨b, a, by omega, by omega, rfl, e2⟩ rfl ?_
    refine go h1 ?_
    refine x_callN rfl rfl rfl rfl (sv trivial) g_of (sv trivial) (se trivial) ⟨k, natB (vl b - vl a), by omega, rfl, rfl⟩ rfl ?_
    rw [encZ_zv]
    refine go h1 ?_
    refine x_done (x_out (sr @Try.f62.eq_1) (by simp) (by simp) rfl)
  · have hz : zv m a + zv k b = zv m (natB (vl a - vl b)) := by cases m <;> cases k <;> simp [zv, vl_natB] at hmk ⊢ <;> omega
    rw [hz]
    have e1 : V.tup [.s (.string (natB (vl a - vl b))), .s (.bool true)] = V.tup (if vl a < vl b then [.s (.string ⟨#[]⟩), .s (.bool false)] else [.s (.string (natB (vl a - vl b))), .s (.bool true)]) := by rw [if_neg hlt]
    refine x_callN rfl rfl rfl rfl (sv trivial) g_sub (sv trivial) (se trivial) ⟨a, b, by omega, by omega, rfl, e1⟩ rfl ?_
    refine go h1 ?_
    refine x_callN rfl rfl rfl rfl (sv trivial) g_of (sv trivial) (se trivial) ⟨m, natB (vl a - vl b), by omega, rfl, rfl⟩ rfl ?_
    rw [encZ_zv]
    refine go h1 ?_
    refine x_done (x_out (sr @Try.f62.eq_1) (by simp) (by simp) rfl)
end Go.Proofs.Ytahgddfnbjpfiaa

set_option linter.unusedVariables false
set_option linter.unusedSimpArgs false
set_option maxRecDepth 100000
set_option maxHeartbeats 16000000
namespace Go.Proofs.Ytahgddfnbjpfiaa
open Go Go.RowKit Am

theorem zv_enc (z : Int) : zv (decide (z < 0)) (natB z.natAbs) = z := by
  rw [zv, vl_natB]
  by_cases h : z < 0
  · rw [if_pos (decide_eq_true h)]; omega
  · rw [if_neg (by simp [h])]; omega
theorem zv_sz (k : Bool) (b : ByteArray) : (natB (zv k b).natAbs).size ≤ b.size := by
  have h : (zv k b).natAbs = vl b := by cases k <;> simp [zv]
  rw [h]; exact natB_sz b
theorem zvn_sz (k : Bool) (b : ByteArray) : (natB (-(zv k b)).natAbs).size ≤ b.size := by rw [Int.natAbs_neg]; exact zv_sz k b
def subiS : Fspec := fun _ ds r => ∃ (m : Bool) (a : ByteArray) (k : Bool) (b : ByteArray), a.size ≤ 1099511627700 ∧ b.size ≤ 1099511627700 ∧ ds = [.agg [.s (.bool m), .s (.string a)], .agg [.s (.bool k), .s (.string b)]] ∧ r = .agg (encZ (zv m a - zv k b))
theorem subi_sound {plain : TypeId → Bool} {Γ : FuncId → Option Fspec} {Δ : FuncId → Option Pt} (hE : EnvOk ⟨Try.prog, plain, Γ, Δ, fun _ => none, 0⟩) (g_neg : Γ 70 = some negiS) (g_add : Γ 62 = some addiS) : Sound Try.prog 63 subiS := by
  refine sound_of_awp hE Try.func63 rfl (by kernel_rfl) ?_
  rintro Φ ds r ⟨m, a, k, b, ha, hb, rfl, rfl⟩
  refine ⟨by simp [Try.f63], ?_⟩
  unfold st0
  refine W.out (E := ⟨Try.prog, plain, Γ, Δ, Φ, _⟩) ?_
  have sz := zvn_sz k b
  have hz : V.agg (encZ (zv m a - zv k b)) = V.agg (encZ (zv m a + zv (decide (-(zv k b) < 0)) (natB (-(zv k b)).natAbs))) := by rw [zv_enc, Int.sub_eq_add_neg]
  have hf : encZ (zv m a - zv k b) = [.s (.bool (decide ((zv m a - zv k b) < 0))), .s (.string (natB (zv m a - zv k b).natAbs))] := rfl
  refine go trivial ?_
  refine x_callD rfl rfl rfl rfl rfl (sv trivial) g_neg (sv trivial) (se trivial) ⟨k, b, by omega, rfl, rfl⟩ rfl ?_
  refine go trivial ?_
  refine x_callD rfl rfl rfl rfl rfl (sv trivial) g_add (sv trivial) (se trivial) ⟨m, a, decide (-(zv k b) < 0), natB (-(zv k b)).natAbs, ha, by omega, rfl, hz⟩ rfl ?_
  rw [hf]
  refine go trivial ?_
  refine x_done (x_out (sr @Try.f63.eq_1) (by simp) (by simp) rfl)
end Go.Proofs.Ytahgddfnbjpfiaa

set_option linter.unusedVariables false
set_option linter.unusedSimpArgs false
set_option maxRecDepth 100000
set_option maxHeartbeats 16000000
namespace Go.Proofs.Ytahgddfnbjpfiaa
open Go Go.RowKit Am

def fromS : Fspec := fun _ ds r => ∃ n : Nat, n < 9223372036854775808 ∧ ds = [.s (.int .i64 n)] ∧ r = .agg (encZ (n : Int))
theorem from_sound {plain : TypeId → Bool} {Γ : FuncId → Option Fspec} {Δ : FuncId → Option Pt} (hE : EnvOk ⟨Try.prog, plain, Γ, Δ, fun _ => none, 0⟩) (g_of : Γ 58 = some ofiS) (g_o : Γ 71 = some ofS) : Sound Try.prog 64 fromS := by
  refine sound_of_awp hE Try.func64 rfl (by kernel_rfl) ?_
  rintro Φ ds r ⟨n, hn, rfl, rfl⟩
  refine ⟨by simp [Try.f64], ?_⟩
  unfold st0
  refine W.out (E := ⟨Try.prog, plain, Γ, Δ, Φ, _⟩) ?_
  have h1 : ((n : Int) < 0) = False := eq_false (by omega)
  have hw : IntKind.u64.wrap (n : Int) = (n : Int) := by
    show (n : Int) % 18446744073709551616 = n
    omega
  have hsz : (natB n).size ≤ 8 := dig_len_le (by omega)
  have hz : (n : Int) = zv false (natB n) := by simp [zv, vl_natB]
  have hr : encZ (n : Int) = encZ (zv false (natB n)) := by rw [← hz]
  rw [hr]
  refine go (And.intro h1 hw) ?_
  refine x_callN rfl rfl rfl rfl (sv trivial) g_o (sv trivial) (se trivial) ⟨n, by omega, rfl, rfl⟩ rfl ?_
  refine go (And.intro h1 hw) ?_
  refine x_callN rfl rfl rfl rfl (sv trivial) g_of (sv trivial) (se trivial) ⟨false, natB n, by omega, rfl, rfl⟩ rfl ?_
  rw [encZ_zv]
  refine go trivial ?_
  refine x_done (x_out (sr @Try.f64.eq_1) (by simp) (by simp) rfl)
end Go.Proofs.Ytahgddfnbjpfiaa

set_option linter.unusedVariables false
set_option linter.unusedSimpArgs false
set_option maxRecDepth 100000
set_option maxHeartbeats 16000000
namespace Go.Proofs.Ytahgddfnbjpfiaa
open Go Go.RowKit Am

/-- A number that is not negative, as an integer. -/
def encN (n : Nat) : List Am.V := [.s (.bool false), .s (.string (natB n))]
theorem encN_of (s : ByteArray) : encZ (zv false s) = encN (vl s) := by rw [encZ_zv]; rfl
theorem encN_nat (n : Nat) : encZ (n : Int) = encN n := by
  rw [encZ, decide_eq_false (by omega : ¬ ((n : Int) < 0)), Int.natAbs_natCast]; rfl
theorem vl_false (s : ByteArray) : zv false s = (vl s : Int) := rfl
/-- The quotient of two integers that are not negative. -/
def divIS : Fspec := fun _ ds r => ∃ a b : ByteArray, a.size ≤ 274877906900 ∧ b.size ≤ 274877906900 ∧ vl b ≠ 0 ∧ ds = [.agg [.s (.bool false), .s (.string a)], .agg [.s (.bool false), .s (.string b)]] ∧ r = .tup [.agg (encN (vl a / vl b)), .agg (encN (vl a % vl b)), .s (.bool true)]
theorem divI_sound {plain : TypeId → Bool} {Γ : FuncId → Option Fspec} {Δ : FuncId → Option Pt} (hE : EnvOk ⟨Try.prog, plain, Γ, Δ, fun _ => none, 0⟩) (g_of : Γ 58 = some ofiS) (g_div : Γ 60 = some div1S) (g_sign : Γ 61 = some signiS) : Sound Try.prog 55 divIS := by
  refine sound_of_awp hE Try.func55 rfl (by kernel_rfl) ?_
  rintro Φ ds r ⟨a, b, ha, hb, hz, rfl, rfl⟩
  refine ⟨by simp [Try.f55], ?_⟩
  unfold st0
  refine W.out (E := ⟨Try.prog, plain, Γ, Δ, Φ, _⟩) ?_
  refine go trivial ?_
  have e1 : V.tup [.s (.string (natB (vl a / vl b))), .s (.string (natB (vl a % vl b))), .s (.bool true)] = .tup (if vl b = 0 then [.s (.string ⟨#[]⟩), .s (.string ⟨#[]⟩), .s (.bool false)] else [.s (.string (natB (vl a / vl b))), .s (.string (natB (vl a % vl b))), .s (.bool true)]) := by rw [if_neg hz]
  refine x_callN rfl rfl rfl rfl (sv trivial) g_div (sv trivial) (se trivial) ⟨a, b, by omega, by omega, rfl, e1⟩ rfl ?_
  have hRB := Nat.mod_lt (vl a) (Nat.pos_of_ne_zero hz)
  have hQA := Nat.div_le_self (vl a) (vl b)
  have sR : (natB (vl a % vl b)).size ≤ b.size := dig_len_le (Nat.lt_trans hRB (vl_lt b))
  have sQ : (natB (vl a / vl b)).size ≤ a.size := dig_len_le (Nat.lt_of_le_of_lt hQA (vl_lt a))
  generalize vl a % vl b = r1 at *
  generalize vl a / vl b = q1 at *
  have hf1 : encZ (zv false (natB r1)) = [.s (.bool false), .s (.string (natB r1))] := by rw [encN_of, vl_natB]; rfl
  have hf2 : encZ (zv false (natB q1)) = [.s (.bool false), .s (.string (natB q1))] := by rw [encN_of, vl_natB]; rfl
  have h1 : ((zv false (natB r1)).sign < 0) = False := eq_false (by
    rw [vl_false]
    rcases Nat.eq_zero_or_pos (vl (natB r1)) with h | h
    · rw [h]; decide
    · rw [Int.sign_eq_one_of_pos (by omega)]; decide)
  rw [encN, encN]
  refine go trivial ?_
  refine x_callN rfl rfl rfl rfl (sv trivial) g_of (sv trivial) (se trivial) ⟨false, natB r1, by omega, rfl, rfl⟩ rfl ?_
  rw [hf1]
  refine go trivial ?_
  refine x_callN rfl rfl rfl rfl (sv trivial) g_of (sv trivial) (se trivial) ⟨false, natB q1, by omega, rfl, rfl⟩ rfl ?_
  rw [hf2]
  refine go trivial ?_
  refine x_callN rfl rfl rfl rfl (sv trivial) g_sign (sv trivial) (se trivial) ⟨false, natB r1, by omega, rfl, rfl⟩ rfl ?_
  have z : Zm [5, 4] := ⟨⟩
  refine go h1 ?_
  refine x_done (x_outT (sr @Try.f55.eq_1) rfl)
end Go.Proofs.Ytahgddfnbjpfiaa

set_option linter.unusedVariables false
set_option linter.unusedSimpArgs false
set_option maxRecDepth 100000
set_option maxHeartbeats 16000000
namespace Go.Proofs.Ytahgddfnbjpfiaa
open Go Go.RowKit Am

def encJ (q : Bool × ByteArray) : List Am.V := [.s (.bool q.1), .s (.string q.2)]
theorem encJ_rows (v : List (Bool × ByteArray)) : (∀ r ∈ v.map encJ, r.length = 2) = True := rows_map _ _ _ fun _ => rfl
/-- The greatest common divisor of some magnitudes. -/
def gcdF (L : List (Bool × ByteArray)) : Nat := L.foldl (fun g q => Nat.gcd g (vl q.2)) 0
theorem gcdF_step (L : List (Bool × ByteArray)) (i : Nat) (hi : i < L.length) : gcdF (L.take (i + 1)) = Nat.gcd (gcdF (L.take i)) (vl (L[i]).2) := by
  rw [gcdF, gcdF, List.take_add_one, List.getElem?_eq_getElem hi, List.foldl_append]; rfl
theorem gcd_sz {g : Nat} {s : ByteArray} {m : Nat} (hg : (natB g).size ≤ m) (hs : s.size ≤ m) : (natB (Nat.gcd g (vl s))).size ≤ m := by
  rcases Nat.eq_zero_or_pos (vl s) with h | h
  · rw [h, Nat.gcd_zero_right]; exact hg
  · exact Nat.le_trans (natB_le (Nat.le_of_dvd h (Nat.gcd_dvd_right g (vl s)))) (Nat.le_trans (natB_sz s) hs)
def gcdIS : Fspec := fun _ ds r => ∃ L : List (Bool × ByteArray), L.length ≤ 1099511627776 ∧ (∀ q ∈ L, q.2.size ≤ 1099511627) ∧ ds = [.sl (L.map encJ)] ∧ r = .agg (encN (gcdF L))
theorem gcdI_sound {plain : TypeId → Bool} {Γ : FuncId → Option Fspec} {Δ : FuncId → Option Pt} (hE : EnvOk ⟨Try.prog, plain, Γ, Δ, fun _ => none, 0⟩) (g_of : Γ 58 = some ofiS) (g_gcd : Γ 59 = some gcdS) : Sound Try.prog 54 gcdIS := by
  refine sound_of_awp hE Try.func54 rfl (by kernel_rfl) ?_
  rintro Φ ds r ⟨L, hl, hs, rfl, rfl⟩
  refine ⟨by simp [Try.f54], ?_⟩
  unfold st0
  refine W.out (E := ⟨Try.prog, plain, Γ, Δ, Φ, _⟩) ?_
  have hem : (⟨#[]⟩ : ByteArray) = natB (gcdF (L.take 0)) := by rw [List.take_zero]; exact natB_zero.symm
  have he0 : (natB (gcdF (L.take 0))).size ≤ 1099511627 := by rw [← hem]; decide
  refine go trivial ?_
  refine x_loop (fun σ => ∃ (i : Nat), σ.t 0 = .sl (L.map encJ) ∧ σ.t 2 = .ptr 0 0 0 ∧ σ.t 3 = .s (.string (natB (gcdF (L.take i)))) ∧ σ.t 4 = .s (.int .i64 i) ∧ σ.h 0 = some ⟨2, [[.s (.bool false), .s (.string ⟨#[]⟩)]], true⟩ ∧ 0 < σ.n ∧ i ≤ L.length ∧ (natB (gcdF (L.take i))).size ≤ 1099511627) (fun σ => L.length - ix (σ.t 4)) ⟨0, (by first | assumption | exact sxa trivial), (by first | assumption | exact sxa trivial), (by first | assumption | exact sxa trivial), (by first | assumption | exact sxa trivial), (by first | assumption | exact sxa trivial), (by first | omega | (dsimp only; omega) | exact soa trivial | omega | (simp; done)), (by first | rfl | omega | assumption | (simp [*]; done)), (by first | rfl | omega | assumption | (simp [*]; done))⟩ ?_
  rintro t h n ⟨i, h0, h2, h3, h4, hh0, hn1, hf0, hf1⟩
  simp only at h0 h2 h3 h4 hh0 hn1
  by_cases hi : i < L.length
  · have d1 : ((i : Int) < (L.length : Int)) = True := eq_true (by omega)
    obtain ⟨m0, s0, hq⟩ : ∃ m0 s0, L[i] = (m0, s0) := ⟨_, _, rfl⟩
    have hsi : s0.size ≤ 1099511627 := by have := hs _ (List.getElem_mem hi); rw [hq] at this; exact this
    have hr := encJ_rows L
    have hst := gcdF_step L i hi
    rw [hq] at hst
    have hsz := gcd_sz hf1 hsi
    simp only at hst
    refine go (And.intro h0 (And.intro h2 (And.intro h3 (And.intro h4 (And.intro hh0 (And.intro d1 (And.intro hr (And.intro @encJ.eq_1 hq)))))))) ?_
    refine x_callN rfl rfl rfl rfl (sv (And.intro h0 (And.intro h2 (And.intro h3 (And.intro h4 (And.intro hh0 (And.intro d1 (And.intro hr (And.intro @encJ.eq_1 hq))))))))) g_gcd (sv (And.intro h0 (And.intro h2 (And.intro h3 (And.intro h4 (And.intro hh0 (And.intro d1 (And.intro hr (And.intro @encJ.eq_1 hq))))))))) (se (And.intro h0 (And.intro h2 (And.intro h3 (And.intro h4 (And.intro hh0 (And.intro d1 (And.intro hr (And.intro @encJ.eq_1 hq))))))))) ⟨natB (gcdF (L.take i)), s0, by omega, by omega, rfl, rfl⟩ rfl ?_
    rw [vl_natB, ← hst]
    rw [← hst] at hsz
    refine go (And.intro h0 (And.intro h2 (And.intro h3 (And.intro h4 (And.intro hh0 (And.intro d1 (And.intro hr (And.intro @encJ.eq_1 hq)))))))) ?_
    (refine ⟨⟨i + 1, ?_, ?_, ?_, ?_, ?_, ?_, ?_, ?_⟩, ?_⟩ <;> (first | omega | (dsimp only; omega) | (assumption) | exact sxa (And.intro @cast_succ (And.intro h0 (And.intro h2 (And.intro h3 (And.intro h4 hh0))))) | exact soa trivial))
  · have d1 : ((i : Int) < (L.length : Int)) = False := eq_false (by omega)
    have htk : L.take i = L := List.take_of_length_le (by omega)
    rw [htk] at h3 hf1
    have hx := encN_of (natB (gcdF L))
    rw [vl_natB] at hx
    have hvl := vl_natB (gcdF L)
    refine go (And.intro h0 (And.intro h2 (And.intro h3 (And.intro h4 (And.intro hh0 d1))))) ?_
    refine x_callN rfl rfl rfl rfl (sv (And.intro h0 (And.intro h2 (And.intro h3 (And.intro h4 (And.intro hh0 d1)))))) g_of (sv (And.intro h0 (And.intro h2 (And.intro h3 (And.intro h4 (And.intro hh0 d1)))))) (se (And.intro h0 (And.intro h2 (And.intro h3 (And.intro h4 (And.intro hh0 d1)))))) ⟨false, natB (gcdF L), by omega, rfl, rfl⟩ rfl ?_
    rw [hx, encN]
    refine go (And.intro h0 (And.intro h2 (And.intro h3 (And.intro h4 (And.intro hh0 d1))))) ?_
    refine x_done (x_out (sr (And.intro @Try.f54.eq_1 (And.intro h0 (And.intro h2 (And.intro h3 h4))))) (by simp) (by simp) rfl)
def oneS : Fspec := fun _ ds r => ds = [] ∧ r = .agg (encN 1)
theorem one_sound {plain : TypeId → Bool} {Γ : FuncId → Option Fspec} {Δ : FuncId → Option Pt} (hE : EnvOk ⟨Try.prog, plain, Γ, Δ, fun _ => none, 0⟩) (g_from : Γ 64 = some fromS) : Sound Try.prog 56 oneS := by
  refine sound_of_awp hE Try.func56 rfl (by kernel_rfl) ?_
  rintro Φ ds r ⟨rfl, rfl⟩
  refine ⟨by simp [Try.f56], ?_⟩
  unfold st0
  refine W.out (E := ⟨Try.prog, plain, Γ, Δ, Φ, _⟩) ?_
  have hx := encN_nat 1
  refine go trivial ?_
  refine x_callN rfl rfl rfl rfl (sv trivial) g_from (sv trivial) (se trivial) ⟨1, by omega, rfl, rfl⟩ rfl ?_
  rw [hx, encN]
  refine go trivial ?_
  refine x_done (x_out (sr @Try.f56.eq_1) (by simp) (by simp) rfl)
def aboveS : Fspec := fun _ ds r => ∃ (m : Bool) (a b : ByteArray), a.size ≤ 1099511627 ∧ ds = [.agg [.s (.bool m), .s (.string a), .s (.string b)]] ∧ r = .agg (encZ (zv m a))
theorem above_sound {plain : TypeId → Bool} {Γ : FuncId → Option Fspec} {Δ : FuncId → Option Pt} (hE : EnvOk ⟨Try.prog, plain, Γ, Δ, fun _ => none, 0⟩) (g_norm : Γ 53 = some normiS) : Sound Try.prog 50 aboveS := by
  refine sound_of_awp hE Try.func50 rfl (by kernel_rfl) ?_
  rintro Φ ds r ⟨m, a, b, ha, rfl, rfl⟩
  refine ⟨by simp [Try.f50], ?_⟩
  unfold st0
  refine W.out (E := ⟨Try.prog, plain, Γ, Δ, Φ, _⟩) ?_
  refine go trivial ?_
  refine x_callN rfl rfl rfl rfl (sv trivial) g_norm (sv trivial) (se trivial) ⟨m, a, by omega, rfl, rfl⟩ rfl ?_
  rw [encZ_zv]
  refine go trivial ?_
  refine x_done (x_out (sr @Try.f50.eq_1) (by simp) (by simp) rfl)
/-- A denominator. -/
def dnF (b : ByteArray) : Nat := if vl b = 0 then 1 else vl b
def belowS : Fspec := fun _ ds r => ∃ (m : Bool) (a b : ByteArray), b.size ≤ 1099511627 ∧ ds = [.agg [.s (.bool m), .s (.string a), .s (.string b)]] ∧ r = .agg (encN (dnF b))
theorem below_sound {plain : TypeId → Bool} {Γ : FuncId → Option Fspec} {Δ : FuncId → Option Pt} (hE : EnvOk ⟨Try.prog, plain, Γ, Δ, fun _ => none, 0⟩) (g_norm : Γ 53 = some normiS) (g_one : Γ 56 = some oneS) : Sound Try.prog 51 belowS := by
  refine sound_of_awp hE Try.func51 rfl (by kernel_rfl) ?_
  rintro Φ ds r ⟨m, a, b, hb, rfl, rfl⟩
  refine ⟨by simp [Try.f51], ?_⟩
  unfold st0
  refine W.out (E := ⟨Try.prog, plain, Γ, Δ, Φ, _⟩) ?_
  have hem := natB_empty (vl b)
  refine go trivial ?_
  refine x_callN rfl rfl rfl rfl (sv trivial) g_norm (sv trivial) (se trivial) ⟨false, b, by omega, rfl, rfl⟩ rfl ?_
  have e0 : encN (vl b) = [.s (.bool false), .s (.string (natB (vl b)))] := rfl
  rw [encN_of, e0]
  by_cases hz : vl b = 0
  · have h1 : decide (vl b = 0) = true := decide_eq_true hz
    rw [dnF, if_pos hz]
    refine go (And.intro hem h1) ?_
    refine x_callN rfl rfl rfl rfl (sv trivial) g_one (sv trivial) (se trivial) ⟨rfl, rfl⟩ rfl ?_
    rw [encN]
    refine go (And.intro hem h1) ?_
    refine x_done (x_out (sr @Try.f51.eq_1) (by simp) (by simp) rfl)
  · have h1 : decide (vl b = 0) = false := decide_eq_false hz
    rw [dnF, if_neg hz, e0]
    refine go (And.intro hem h1) ?_
    refine x_done (x_out (sr @Try.f51.eq_1) (by simp) (by simp) rfl)
end Go.Proofs.Ytahgddfnbjpfiaa

set_option linter.unusedVariables false
set_option linter.unusedSimpArgs false
set_option maxRecDepth 100000
set_option maxHeartbeats 16000000
namespace Go.Proofs.Ytahgddfnbjpfiaa
open Go Go.RowKit Am

/-- The number n/d in canonical form (d is not 0). -/
def ratS (ng : Bool) (n d : Nat) : Bool := ng && !decide (n / Nat.gcd n d = 0)
def ratN (n d : Nat) : ByteArray := natB (n / Nat.gcd n d)
def ratD (n d : Nat) : ByteArray := if d / Nat.gcd n d = 1 then ⟨#[]⟩ else natB (d / Nat.gcd n d)
def encR (m : Bool) (a b : ByteArray) : List Am.V := [.s (.bool m), .s (.string a), .s (.string b)]
def makeS : Fspec := fun _ ds r => ∃ (m : Bool) (a : ByteArray) (b : ByteArray), a.size ≤ 1099511627 ∧ b.size ≤ 1099511627 ∧ vl b ≠ 0 ∧
  ds = [.agg [.s (.bool m), .s (.string a)], .agg [.s (.bool false), .s (.string b)]] ∧
  r = .tup [.agg (encR (ratS m (vl a) (vl b)) (ratN (vl a) (vl b)) (ratD (vl a) (vl b))), .s (.bool true)]
theorem natB_inj_one (n : Nat) : ((natB n).toList == (natB 1).toList) = decide (n = 1) := by
  rw [Bool.eq_iff_iff, beq_iff_eq, decide_eq_true_iff, ByteArray.toList_eq, ByteArray.toList_eq]
  constructor
  · intro h
    rw [← vl_natB n, ba_ext h, vl_natB]
  · rintro rfl; rfl
theorem make_sound {plain : TypeId → Bool} {Γ : FuncId → Option Fspec} {Δ : FuncId → Option Pt} (hE : EnvOk ⟨Try.prog, plain, Γ, Δ, fun _ => none, 0⟩) (hpl : plain 75 = true) (g_norm : Γ 53 = some normiS) (g_gcd : Γ 54 = some gcdIS) (g_div : Γ 55 = some divIS) (g_one : Γ 56 = some oneS) : Sound Try.prog 49 makeS := by
  refine sound_of_awp hE Try.func49 rfl (by kernel_rfl) ?_
  rintro Φ ds r ⟨m, a, b, ha, hb, hz, rfl, rfl⟩
  refine ⟨by simp [Try.f49], ?_⟩
  unfold st0
  refine W.out (E := ⟨Try.prog, plain, Γ, Δ, Φ, _⟩) ?_
  have hem := natB_empty (vl b)
  have hd1 : decide (vl b = 0) = false := decide_eq_false hz
  have e1 : encZ (zv m a) = [.s (.bool (m && !decide (vl a = 0))), .s (.string (natB (vl a)))] := encZ_zv m a
  have e2 : encZ (zv false b) = [.s (.bool false), .s (.string (natB (vl b)))] := encN_of b
  have szA := natB_sz a
  have szB := natB_sz b
  generalize hA : vl a = A at *
  generalize hB : vl b = B at *
  have hGp : 0 < Nat.gcd A B := Nat.gcd_pos_of_pos_right A (Nat.pos_of_ne_zero hz)
  have hG : gcdF [(false, natB A), (false, natB B)] = Nat.gcd A B := by simp [gcdF, vl_natB, Nat.gcd_zero_left]
  have sG : (natB (Nat.gcd A B)).size ≤ 1099511627 := Nat.le_trans (natB_le (Nat.le_of_dvd (Nat.pos_of_ne_zero hz) (Nat.gcd_dvd_right A B))) (by omega)
  have hrs : ratS m A B = (m && !decide (A / Nat.gcd A B = 0)) := rfl
  have hrn : ratN A B = natB (A / Nat.gcd A B) := rfl
  have hrd : ratD A B = if B / Nat.gcd A B = 1 then ⟨#[]⟩ else natB (B / Nat.gcd A B) := rfl
  have hA0 : A / Nat.gcd A B = 0 ↔ A = 0 := by
    constructor
    · intro h
      rcases Nat.div_eq_zero_iff.1 h with h | h
      · omega
      · rcases Nat.eq_zero_or_pos A with h0 | h0
        · exact h0
        · exact absurd (Nat.le_of_dvd h0 (Nat.gcd_dvd_left A B)) (by omega)
    · rintro rfl; exact Nat.zero_div _
  have hAd : decide (A = 0) = decide (A / Nat.gcd A B = 0) := by rw [Bool.eq_iff_iff, decide_eq_true_iff, decide_eq_true_iff]; exact hA0.symm
  rw [hAd] at e1
  rw [hrs, hrn, hrd, encR]
  generalize hgg : Nat.gcd A B = G at *
  have hvG := vl_natB G
  have hvA := vl_natB A
  have hvB := vl_natB B
  have hen := natB_empty (A / G)
  have hen1 := natB_inj_one (B / G)
  have f1 : encN G = [.s (.bool false), .s (.string (natB G))] := rfl
  have f2 : encN (A / G) = [.s (.bool false), .s (.string (natB (A / G)))] := rfl
  have f3 : encN (B / G) = [.s (.bool false), .s (.string (natB (B / G)))] := rfl
  have f4 : encN 1 = [.s (.bool false), .s (.string (natB 1))] := rfl
  have f5 : encN (A % G) = [.s (.bool false), .s (.string (natB (A % G)))] := rfl
  have f6 : encN (B % G) = [.s (.bool false), .s (.string (natB (B % G)))] := rfl
  refine go trivial ?_
  refine x_callD rfl rfl rfl rfl rfl (sv trivial) g_norm (sv trivial) (se trivial) ⟨m, a, by omega, rfl, rfl⟩ rfl ?_
  rw [e1]
  refine go trivial ?_
  refine x_callD rfl rfl rfl rfl rfl (sv trivial) g_norm (sv trivial) (se trivial) ⟨false, b, by omega, rfl, rfl⟩ rfl ?_
  rw [e2]
  refine go (And.intro hem hd1) ?_
  refine x_callF rfl rfl rfl rfl (sv (And.intro @encJ.eq_1 (And.intro hem hd1))) g_gcd (sv (And.intro @encJ.eq_1 (And.intro hem hd1))) (se (And.intro @encJ.eq_1 (And.intro hem hd1))) ⟨[(false, natB A), (false, natB B)], by simp, by simp; omega, rfl, rfl⟩ (by simp) (fun h2 hold => ?_)
  rw [hG, f1]
  have hb0 : h2 0 = some ⟨2, [[.s (.bool false), .s (.string (natB A))]], true⟩ := by
    rw [hold 0 (by simp [touchA, touch, upd_at, rowsOf])]
    exact sx trivial
  have hb1 : h2 1 = some ⟨2, [[.s (.bool false), .s (.string (natB B))]], true⟩ := by
    rw [hold 1 (by simp [touchA, touch, upd_at, rowsOf])]
    exact sx trivial
  have hb2 : h2 2 = some ⟨3, [[.s (.bool false), .s (.string ⟨#[]⟩), .s (.string ⟨#[]⟩)]], true⟩ := by
    rw [hold 2 (by simp [touchA, touch, upd_at, rowsOf])]
    exact sx trivial
  clear hold
  have hsg : (!((m && !decide (A / G = 0)) == false)) = (m && !decide (A / G = 0)) := by cases (m && !decide (A / G = 0)) <;> rfl
  rw [hsg]
  have d1 : V.tup [.agg [.s (.bool false), .s (.string (natB (A / G)))], .agg [.s (.bool false), .s (.string (natB (A % G)))], .s (.bool true)] = .tup [.agg (encN (vl (natB A) / vl (natB G))), .agg (encN (vl (natB A) % vl (natB G))), .s (.bool true)] := by rw [hvA, hvG]; rfl
  have d2 : V.tup [.agg [.s (.bool false), .s (.string (natB (B / G)))], .agg [.s (.bool false), .s (.string (natB (B % G)))], .s (.bool true)] = .tup [.agg (encN (vl (natB B) / vl (natB G))), .agg (encN (vl (natB B) % vl (natB G))), .s (.bool true)] := by rw [hvB, hvG]; rfl
  have hG0 : vl (natB G) ≠ 0 := by rw [hvG]; omega
  refine go (And.intro hb0 (And.intro hb1 hb2)) ?_
  refine x_callS rfl rfl rfl rfl (sv (And.intro hb0 (And.intro hb1 hb2))) g_div (sv (And.intro hb0 (And.intro hb1 hb2))) (se (And.intro hb0 (And.intro hb1 hb2))) ⟨natB A, natB G, by omega, by omega, hG0, rfl, d1⟩ (by simp) (by simp [touchA, touch]) ?_
  refine go (And.intro hb0 (And.intro hb1 hb2)) ?_
  refine x_callS rfl rfl rfl rfl (sv (And.intro hb0 (And.intro hb1 hb2))) g_div (sv (And.intro hb0 (And.intro hb1 hb2))) (se (And.intro hb0 (And.intro hb1 hb2))) ⟨natB B, natB G, by omega, by omega, hG0, rfl, d2⟩ (by simp) (by simp [touchA, touch]) ?_
  by_cases hq : A / G = 0
  · have q1 : decide (A / G = 0) = true := decide_eq_true hq
    rw [q1]
    have q2 : (m && !true) = false := by cases m <;> rfl
    rw [q2]
    by_cases hp : B / G = 1
    · have p1 : decide (B / G = 1) = true := decide_eq_true hp
      rw [if_pos hp]
      refine go (And.intro hb0 (And.intro hb1 (And.intro hb2 (And.intro hen (And.intro hen1 (And.intro q1 (And.intro p1 hpl))))))) ?_
      refine x_callD rfl rfl rfl rfl rfl (sv (And.intro hb0 (And.intro hb1 hb2))) g_one (sv (And.intro hb0 (And.intro hb1 hb2))) (se (And.intro hb0 (And.intro hb1 hb2))) ⟨rfl, rfl⟩ rfl ?_
      rw [f4]
      refine go (And.intro hb0 (And.intro hb1 (And.intro hb2 (And.intro hen (And.intro hen1 (And.intro q1 (And.intro p1 hpl))))))) ?_
      refine x_done (x_outT (sr (And.intro @Try.f49.eq_1 (And.intro hb0 (And.intro hb1 hb2)))) rfl)
    · have p1 : decide (B / G = 1) = false := decide_eq_false hp
      rw [if_neg hp]
      refine go (And.intro hb0 (And.intro hb1 (And.intro hb2 (And.intro hen (And.intro hen1 (And.intro q1 (And.intro p1 hpl))))))) ?_
      refine x_callD rfl rfl rfl rfl rfl (sv (And.intro hb0 (And.intro hb1 hb2))) g_one (sv (And.intro hb0 (And.intro hb1 hb2))) (se (And.intro hb0 (And.intro hb1 hb2))) ⟨rfl, rfl⟩ rfl ?_
      rw [f4]
      refine go (And.intro hb0 (And.intro hb1 (And.intro hb2 (And.intro hen (And.intro hen1 (And.intro q1 (And.intro p1 hpl))))))) ?_
      refine x_done (x_outT (sr (And.intro @Try.f49.eq_1 (And.intro hb0 (And.intro hb1 hb2)))) rfl)
  · have q1 : decide (A / G = 0) = false := decide_eq_false hq
    rw [q1]
    have q2 : (m && !false) = m := by cases m <;> rfl
    rw [q2]
    by_cases hp : B / G = 1
    · have p1 : decide (B / G = 1) = true := decide_eq_true hp
      rw [if_pos hp]
      refine go (And.intro hb0 (And.intro hb1 (And.intro hb2 (And.intro hen (And.intro hen1 (And.intro q1 (And.intro p1 hpl))))))) ?_
      refine x_callD rfl rfl rfl rfl rfl (sv (And.intro hb0 (And.intro hb1 hb2))) g_one (sv (And.intro hb0 (And.intro hb1 hb2))) (se (And.intro hb0 (And.intro hb1 hb2))) ⟨rfl, rfl⟩ rfl ?_
      rw [f4]
      refine go (And.intro hb0 (And.intro hb1 (And.intro hb2 (And.intro hen (And.intro hen1 (And.intro q1 (And.intro p1 hpl))))))) ?_
      refine x_done (x_outT (sr (And.intro @Try.f49.eq_1 (And.intro hb0 (And.intro hb1 hb2)))) rfl)
    · have p1 : decide (B / G = 1) = false := decide_eq_false hp
      rw [if_neg hp]
      refine go (And.intro hb0 (And.intro hb1 (And.intro hb2 (And.intro hen (And.intro hen1 (And.intro q1 (And.intro p1 hpl))))))) ?_
      refine x_callD rfl rfl rfl rfl rfl (sv (And.intro hb0 (And.intro hb1 hb2))) g_one (sv (And.intro hb0 (And.intro hb1 hb2))) (se (And.intro hb0 (And.intro hb1 hb2))) ⟨rfl, rfl⟩ rfl ?_
      rw [f4]
      refine go (And.intro hb0 (And.intro hb1 (And.intro hb2 (And.intro hen (And.intro hen1 (And.intro q1 (And.intro p1 hpl))))))) ?_
      refine x_done (x_outT (sr (And.intro @Try.f49.eq_1 (And.intro hb0 (And.intro hb1 hb2)))) rfl)
end Go.Proofs.Ytahgddfnbjpfiaa
