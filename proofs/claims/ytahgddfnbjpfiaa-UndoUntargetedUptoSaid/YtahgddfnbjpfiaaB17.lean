/- Texts that the law's proof stands on: V1, V2, V3, V4, V5. -/
import Derived.Test.YtahgddfnbjpfiaaB15
set_option linter.unusedVariables false
set_option linter.unusedSimpArgs false
namespace Go.Proofs.Ytahgddfnbjpfiaa
open Go Go.RowKit Am

/-- The number that bytes stand for, the least first. -/
def val : List UInt8 → Nat
  | [] => 0
  | c :: l => c.toNat + 256 * val l
/-- The bytes of a number, as many as it needs. -/
def dig (n : Nat) : List UInt8 := if h : n = 0 then [] else UInt8.ofNat n :: dig (n / 256)
termination_by n
decreasing_by omega
theorem dig_zero : dig 0 = [] := by rw [dig]; rfl
theorem dig_pos {n : Nat} (h : n ≠ 0) : dig n = UInt8.ofNat n :: dig (n / 256) := by
  conv => lhs; rw [dig]
  rw [dif_neg h]
theorem val_app : ∀ a b, val (a ++ b) = val a + 256 ^ a.length * val b
  | [], b => by simp [val]
  | c :: a, b => by
    rw [List.cons_append, val, val, val_app a b, List.length_cons, Nat.pow_succ]
    rw [Nat.mul_add, ← Nat.mul_assoc, Nat.mul_comm 256 (256 ^ a.length)]
    omega
theorem val_lt : ∀ l, val l < 256 ^ l.length
  | [] => by simp [val]
  | c :: l => by
    have h1 := val_lt l
    have h2 := c.toNat_lt
    rw [val, List.length_cons, Nat.pow_succ]
    omega
theorem val_dig (n : Nat) : val (dig n) = n := by
  induction n using Nat.strongRecOn with
  | ind n ih =>
    by_cases h : n = 0
    · subst h; rw [dig_zero]; rfl
    · rw [dig_pos h, val, ih (n / 256) (by omega)]
      simp
      omega
/-- No zero byte at the end. -/
def Can (l : List UInt8) : Prop := ∀ h : l ≠ [], l.getLast h ≠ 0
theorem can_nil : Can [] := fun h => absurd rfl h
theorem can_cons {c : UInt8} {l : List UInt8} (h : Can (c :: l)) : Can l := fun hl => by
  have := h (by simp)
  rwa [List.getLast_cons hl] at this
theorem can_pos : ∀ {l : List UInt8}, Can l → l ≠ [] → val l ≠ 0
  | [], _, h => absurd rfl h
  | [c], hc, _ => by
    have h1 : c ≠ 0 := hc (by simp)
    intro h2
    apply h1
    apply UInt8.toNat_inj.1
    simp [val] at h2
    exact h2
  | c :: d :: l, hc, _ => by
    have h1 := can_pos (can_cons hc) (by simp)
    rw [val]
    omega
theorem dig_val : ∀ {l : List UInt8}, Can l → dig (val l) = l
  | [], _ => dig_zero
  | c :: l, hc => by
    have h0 := can_pos hc (by simp)
    rw [dig_pos h0]
    have h1 := c.toNat_lt
    have h2 : val (c :: l) / 256 = val l := by rw [val]; omega
    have h3 : UInt8.ofNat (val (c :: l)) = c := by
      apply UInt8.toNat_inj.1
      rw [val]
      simp
    rw [h2, h3, dig_val (can_cons hc)]
theorem can_dig (n : Nat) : Can (dig n) := by
  induction n using Nat.strongRecOn with
  | ind n ih =>
    by_cases h : n = 0
    · subst h; rw [dig_zero]; exact can_nil
    · rw [dig_pos h]
      intro hne
      by_cases h2 : n / 256 = 0
      · have h3 : dig (n / 256) = [] := by rw [h2, dig_zero]
        have h4 : UInt8.ofNat n ≠ 0 := by
          intro e
          have := congrArg UInt8.toNat e
          simp at this
          omega
        simp only [h3, List.getLast_singleton]
        exact h4
      · have h3 : dig (n / 256) ≠ [] := by rw [dig_pos h2]; simp
        rw [List.getLast_cons h3]
        exact ih (n / 256) (by omega) h3
theorem dig_inj {a b : Nat} (h : dig a = dig b) : a = b := by rw [← val_dig a, ← val_dig b, h]
theorem dig_len_lt {a b : Nat} (h : (dig a).length < (dig b).length) : a < b := by
  have h1 := val_lt (dig a)
  rw [val_dig] at h1
  rcases Nat.lt_or_ge a b with h2 | h2
  · exact h2
  · exfalso
    have hne : dig b ≠ [] := by intro e; rw [e] at h; simp at h
    have h3 : 256 ^ ((dig b).length - 1) ≤ b := by
      have e : dig b = (dig b).dropLast ++ [(dig b).getLast hne] := (List.dropLast_concat_getLast hne).symm
      have h4 : val (dig b) = val (dig b).dropLast + 256 ^ (dig b).dropLast.length * val [(dig b).getLast hne] := by
        conv => lhs; rw [e]
        rw [val_app]
      rw [val_dig] at h4
      have h5 : 1 ≤ val [(dig b).getLast hne] := by
        have h6 := can_dig b hne
        simp only [val, Nat.mul_zero, Nat.add_zero]
        rcases Nat.eq_zero_or_pos ((dig b).getLast hne).toNat with h7 | h7
        · exact absurd (UInt8.toNat_inj.1 (by rw [h7]; rfl)) h6
        · exact h7
      have h8 : (dig b).dropLast.length = (dig b).length - 1 := by simp
      rw [h8] at h4
      calc 256 ^ ((dig b).length - 1) = 256 ^ ((dig b).length - 1) * 1 := by omega
        _ ≤ 256 ^ ((dig b).length - 1) * val [(dig b).getLast hne] := Nat.mul_le_mul_left _ h5
        _ ≤ b := by omega
    have h4 : 256 ^ (dig a).length ≤ 256 ^ ((dig b).length - 1) := Nat.pow_le_pow_right (by omega) (by omega)
    omega
/-- Strings of bytes. -/
def vl (s : ByteArray) : Nat := val s.data.toList
def natB (n : Nat) : ByteArray := ⟨(dig n).toArray⟩
theorem vl_natB (n : Nat) : vl (natB n) = n := val_dig n
theorem natB_list (n : Nat) : (natB n).data.toList = dig n := rfl
theorem natB_size (n : Nat) : (natB n).size = (dig n).length := rfl
theorem ba_ext {a b : ByteArray} (h : a.data.toList = b.data.toList) : a = b := by
  cases a; cases b
  simp at h
  rw [ByteArray.mk.injEq]
  exact h
theorem natB_of {s : ByteArray} (h : Can s.data.toList) : natB (vl s) = s := ba_ext (dig_val h)
/-- Dropping zero bytes at the end. -/
theorem val_take_zero {l : List UInt8} {n : Nat} (h : n < l.length) (hz : l[n] = 0) : val (l.take (n + 1)) = val (l.take n) := by
  rw [List.take_succ_eq_append_getElem h, val_app, hz]
  simp [val]
theorem can_take {l : List UInt8} {n : Nat} (h : n < l.length) (hz : l[n] ≠ 0) : Can (l.take (n + 1)) := fun hne => by
  have e : l.take (n + 1) = l.take n ++ [l[n]] := List.take_succ_eq_append_getElem h
  have : (l.take (n + 1)).getLast hne = l[n] := by simp only [e, List.getLast_append, List.getLast_singleton]; simp
  rw [this]; exact hz
theorem val_split (l : List UInt8) (i : Nat) : val l = val (l.take i) + 256 ^ (l.take i).length * val (l.drop i) := by
  rw [← val_app, List.take_append_drop]
theorem val_drop {l : List UInt8} {i : Nat} : val (l.drop i) = (l.getD i 0).toNat + 256 * val (l.drop (i + 1)) := by
  by_cases h : i < l.length
  · rw [List.drop_eq_getElem_cons h, val, List.getD_eq_getElem?_getD, List.getElem?_eq_getElem h]; rfl
  · rw [List.drop_of_length_le (by omega), List.drop_of_length_le (by omega), List.getD_eq_getElem?_getD, List.getElem?_eq_none (by omega)]; rfl
end Go.Proofs.Ytahgddfnbjpfiaa

set_option linter.unusedVariables false
set_option linter.unusedSimpArgs false
set_option maxRecDepth 100000
set_option maxHeartbeats 16000000
namespace Go.Proofs.Ytahgddfnbjpfiaa
open Go Go.RowKit Am

theorem list_len (s : ByteArray) : s.data.toList.length = s.size := rfl
theorem byteAt_get {s : ByteArray} {i : Nat} (h : i < s.data.toList.length) : byteAt s i = s.data.toList[i] := by
  rw [byteAt, List.getD_eq_getElem?_getD, List.getElem?_eq_getElem h]; rfl
theorem byteAt_out {s : ByteArray} {i : Nat} (h : s.size ≤ i) : byteAt s i = 0 := by
  rw [byteAt, List.getD_eq_getElem?_getD, List.getElem?_eq_none (by rw [list_len]; exact h)]; rfl
theorem extract_list (s : ByteArray) (a b : Nat) : (s.extract a b).data.toList = (s.data.toList.drop a).take (b - a) := by
  rw [ByteArray.data_extract, Array.toList_extract]
theorem extract0 {s : ByteArray} {n : Nat} : (s.extract 0 n).data.toList = s.data.toList.take n := by rw [extract_list]; simp
def normS : Fspec := fun _ ds r => ∃ s : ByteArray, s.size ≤ 1099511627776 ∧ ds = [.s (.string s)] ∧ r = .s (.string (natB (vl s)))
theorem norm_sound {plain : TypeId → Bool} {Γ : FuncId → Option Fspec} {Δ : FuncId → Option Pt} (hE : EnvOk ⟨Try.prog, plain, Γ, Δ, fun _ => none, 0⟩) : Sound Try.prog 65 normS := by
  refine sound_of_awp hE Try.func65 rfl (by kernel_rfl) ?_
  rintro Φ ds r ⟨s, hs, rfl, rfl⟩
  refine ⟨by simp [Try.f65], ?_⟩
  unfold st0
  refine W.out (E := ⟨Try.prog, plain, Γ, Δ, Φ, _⟩) ?_
  have hv0 : val (s.data.toList.take s.size) = vl s := by rw [← list_len, List.take_length]; rfl
  refine go trivial ?_
  refine x_loop (fun σ => ∃ (n : Nat), σ.t 0 = .s (.string s) ∧ σ.t 3 = .s (.int .i64 n) ∧ n ≤ s.size ∧ val (s.data.toList.take n) = vl s) (fun σ => ix (σ.t 3)) ⟨s.size, (by first | assumption | exact sxa trivial), (by first | assumption | exact sxa trivial), (by first | rfl | omega | assumption | (simp [*]; done)), (by first | rfl | omega | assumption | (simp [*]; done))⟩ ?_
  rintro t h n ⟨n, h0, h3, hf0, hf1⟩
  simp only at h0 h3
  have h3o := h3
  by_cases hz : n = 0
  · subst hz
    have hd : natB (vl s) = s.extract 0 0 := by
      rw [← hf1]
      refine ba_ext ?_
      rw [natB_list, extract0]
      exact dig_val can_nil
    refine go (And.intro h0 h3) ?_
    refine x_done (x_out (sr (And.intro @Try.f65.eq_1 hd)) (by simp) (by simp) rfl)
  · have hl : n - 1 < s.data.toList.length := by rw [list_len]; omega
    have z1 : (n : Int) - 1 = ((n - 1 : Nat) : Int) := by omega
    have z2 : (0 < (n : Int)) = True := eq_true (by omega)
    have z3 : n - 1 < s.size := by omega
    have hc := byteAt_get hl
    have en : n - 1 + 1 = n := by omega
    generalize hcq : byteAt s (n - 1) = c at *
    cases hq : ((c.toNat : Int) == 0)
    · have hc0 : s.data.toList[n - 1] ≠ 0 := by
        rw [← hc]
        intro e
        rw [e] at hq
        simp at hq
      have hcan := can_take hl hc0
      rw [en] at hcan
      have hd : natB (vl s) = s.extract 0 n := by
        rw [← hf1]
        refine ba_ext ?_
        rw [natB_list, extract0]
        exact dig_val hcan
      refine go (And.intro h0 (And.intro h3 (And.intro z1 (And.intro z2 (And.intro z3 (And.intro hcq (And.intro hq hf0))))))) ?_
      refine x_done (x_out (sr (And.intro @Try.f65.eq_1 hd)) (by simp) (by simp) rfl)
    · have hc0 : s.data.toList[n - 1] = 0 := by
        rw [← hc]
        apply UInt8.toNat_inj.1
        have : (c.toNat : Int) = 0 := by simpa using hq
        simp
        omega
      have hvt := val_take_zero hl hc0
      rw [en, hf1] at hvt
      refine go (And.intro h0 (And.intro h3 (And.intro z1 (And.intro z2 (And.intro z3 (And.intro hcq hq)))))) ?_
      (refine ⟨⟨n - 1, ?_, ?_, ?_, ?_⟩, ?_⟩ <;> (first | omega | (dsimp only; omega) | ((exact hvt.symm)) | exact sxa @cast_succ | exact soa trivial))
end Go.Proofs.Ytahgddfnbjpfiaa

set_option linter.unusedVariables false
set_option linter.unusedSimpArgs false
set_option maxRecDepth 100000
set_option maxHeartbeats 16000000
namespace Go.Proofs.Ytahgddfnbjpfiaa
open Go Go.RowKit Am

def atS : Fspec := fun _ ds r => ∃ (s : ByteArray) (i : Nat), s.size ≤ 1099511627776 ∧ i ≤ 2199023255552 ∧ ds = [.s (.string s), .s (.int .i64 i)] ∧ r = .s (.int .i64 (byteAt s i).toNat)
theorem at_sound {plain : TypeId → Bool} {Γ : FuncId → Option Fspec} {Δ : FuncId → Option Pt} (hE : EnvOk ⟨Try.prog, plain, Γ, Δ, fun _ => none, 0⟩) : Sound Try.prog 73 atS := by
  refine sound_of_awp hE Try.func73 rfl (by kernel_rfl) ?_
  rintro Φ ds r ⟨s, i, hs, hi, rfl, rfl⟩
  refine ⟨by simp [Try.f73], ?_⟩
  unfold st0
  refine W.out (E := ⟨Try.prog, plain, Γ, Δ, Φ, _⟩) ?_
  by_cases h : i < s.size
  · have h1 : ((i : Int) < (s.size : Int)) = True := eq_true (by omega)
    have hcl := (byteAt s i).toNat_lt
    generalize hcq : byteAt s i = c at *
    refine go (And.intro h (And.intro h1 hcq)) ?_
    refine x_done (x_out (sr @Try.f73.eq_1) (by simp) (by simp) rfl)
  · have h1 : ((i : Int) < (s.size : Int)) = False := eq_false (by omega)
    have h2 : byteAt s i = 0 := byteAt_out (by omega)
    rw [h2]
    refine go h1 ?_
    refine x_done (x_out (sr @Try.f73.eq_1) (by simp) (by simp) rfl)
/-- Which of two numbers is greater: from the last byte down. -/
def cmpN (a b : Nat) : Int := if a < b then -1 else if a = b then 0 else 1
theorem val_lt_at : ∀ {l m : List UInt8} {i : Nat} (hl : i < l.length) (hm : i < m.length), l.length = m.length → l.drop (i + 1) = m.drop (i + 1) → l[i].toNat < m[i].toNat → val l < val m := by
  intro l m i hl hm hlen hd hlt
  have e1 := val_split l i
  have e2 := val_split m i
  have g1 : (l.take i).length = i := by simp; omega
  have g2 : (m.take i).length = i := by simp; omega
  have h1 := val_lt (l.take i)
  rw [g1] at e1 h1
  rw [g2] at e2
  rw [List.drop_eq_getElem_cons hl, val, hd] at e1
  rw [List.drop_eq_getElem_cons hm, val] at e2
  generalize val (m.drop (i + 1)) = x at *
  have h2 : 256 ^ i * (l[i].toNat + 256 * x) + 256 ^ i ≤ 256 ^ i * (m[i].toNat + 256 * x) := by
    rw [← Nat.mul_succ]
    exact Nat.mul_le_mul_left _ (by omega)
  omega
def ix1 : Am.V → Nat
  | .s (.int _ n) => (n + 1).toNat
  | _ => 0
def cmpS : Fspec := fun _ ds r => ∃ a b : ByteArray, a.size ≤ 1099511627776 ∧ b.size ≤ 1099511627776 ∧ ds = [.s (.string a), .s (.string b)] ∧ r = .s (.int .i64 (cmpN (vl a) (vl b)))
theorem dig_size {s : ByteArray} : (dig (vl s)).length ≤ s.size := by
  rcases Nat.lt_or_ge s.size (dig (vl s)).length with h | h
  · exfalso
    have h1 : vl s < 256 ^ s.size := val_lt s.data.toList
    have hne : dig (vl s) ≠ [] := by intro e; rw [e] at h; simp at h
    have e : dig (vl s) = (dig (vl s)).dropLast ++ [(dig (vl s)).getLast hne] := (List.dropLast_concat_getLast hne).symm
    have h4 : val (dig (vl s)) = val (dig (vl s)).dropLast + 256 ^ (dig (vl s)).dropLast.length * val [(dig (vl s)).getLast hne] := by
      conv => lhs; rw [e]
      rw [val_app]
    rw [val_dig] at h4
    have h5 : 1 ≤ val [(dig (vl s)).getLast hne] := by
      have h6 := can_dig (vl s) hne
      simp only [val, Nat.mul_zero, Nat.add_zero]
      rcases Nat.eq_zero_or_pos ((dig (vl s)).getLast hne).toNat with h7 | h7
      · exact absurd (UInt8.toNat_inj.1 (by rw [h7]; rfl)) h6
      · exact h7
    have h8 : (dig (vl s)).dropLast.length = (dig (vl s)).length - 1 := by simp
    rw [h8] at h4
    have h9 : 256 ^ s.size ≤ 256 ^ ((dig (vl s)).length - 1) := Nat.pow_le_pow_right (by omega) (by omega)
    have h10 : 256 ^ ((dig (vl s)).length - 1) * 1 ≤ 256 ^ ((dig (vl s)).length - 1) * val [(dig (vl s)).getLast hne] := Nat.mul_le_mul_left _ h5
    omega
  · exact h
theorem cmp_sound {plain : TypeId → Bool} {Γ : FuncId → Option Fspec} {Δ : FuncId → Option Pt} (hE : EnvOk ⟨Try.prog, plain, Γ, Δ, fun _ => none, 0⟩) (g_norm : Γ 65 = some normS) : Sound Try.prog 66 cmpS := by
  refine sound_of_awp hE Try.func66 rfl (by kernel_rfl) ?_
  rintro Φ ds r ⟨a, b, ha, hb, rfl, rfl⟩
  refine ⟨by simp [Try.f66], ?_⟩
  unfold st0
  refine W.out (E := ⟨Try.prog, plain, Γ, Δ, Φ, _⟩) ?_
  have ha2 := dig_size (s := a)
  have hb2 := dig_size (s := b)
  refine go trivial ?_
  refine x_callN rfl rfl rfl rfl (sv trivial) g_norm (sv trivial) (se trivial) ⟨a, ha, rfl, rfl⟩ rfl ?_
  refine go trivial ?_
  refine x_callN rfl rfl rfl rfl (sv trivial) g_norm (sv trivial) (se trivial) ⟨b, hb, rfl, rfl⟩ rfl ?_
  generalize vl a = x at *
  generalize vl b = y at *
  have hx : ∀ i, byteAt (natB x) i = (dig x).getD i 0 := fun i => rfl
  have hy : ∀ i, byteAt (natB y) i = (dig y).getD i 0 := fun i => rfl
  have sx : (natB x).size = (dig x).length := rfl
  have sy : (natB y).size = (dig y).length := rfl
  by_cases h1 : (dig x).length < (dig y).length
  · have e1 : cmpN x y = -1 := by rw [cmpN, if_pos (dig_len_lt h1)]
    have h2 : (((dig x).length : Int) < ((dig y).length : Int)) = True := eq_true (by omega)
    refine go (And.intro sx (And.intro sy h2)) ?_
    refine x_done (x_out (sr (And.intro @Try.f66.eq_1 e1)) (by simp) (by simp) rfl)
  by_cases h3 : (dig y).length < (dig x).length
  · have e1 : cmpN x y = 1 := by
      have := dig_len_lt h3
      rw [cmpN, if_neg (by omega), if_neg (by omega)]
    have h2 : (((dig x).length : Int) < ((dig y).length : Int)) = False := eq_false (by omega)
    have h4 : (((dig y).length : Int) < ((dig x).length : Int)) = True := eq_true (by omega)
    refine go (And.intro sx (And.intro sy (And.intro h2 h4))) ?_
    refine x_done (x_out (sr (And.intro @Try.f66.eq_1 e1)) (by simp) (by simp) rfl)
  have hlen : (dig x).length = (dig y).length := by omega
  have h2 : (((dig x).length : Int) < ((dig y).length : Int)) = False := eq_false (by omega)
  have h4 : (((dig y).length : Int) < ((dig x).length : Int)) = False := eq_false (by omega)
  refine go (And.intro sx (And.intro sy (And.intro h2 h4))) ?_
  refine x_loop (fun σ => ∃ (i : Nat), σ.t 5 = .s (.string (natB x)) ∧ σ.t 6 = .s (.string (natB y)) ∧ σ.t 7 = .s (.int .i64 ((i : Int) - 1)) ∧ i ≤ (dig x).length ∧ (dig x).drop i = (dig y).drop i) (fun σ => ix1 (σ.t 7)) ⟨(dig x).length, (by first | assumption | exact sxa trivial), (by first | assumption | exact sxa trivial), (by first | assumption | exact sxa trivial), (by first | rfl | omega | assumption | (simp [*]; done)), (by first | rfl | omega | assumption | (simp [*]; done))⟩ ?_
  rintro t h n ⟨i, h5, h6, h7, hf0, hf1⟩
  simp only at h5 h6 h7
  have h7o := h7
  by_cases hi : i = 0
  · subst hi
    have hxy : x = y := dig_inj (by simpa using hf1)
    have e1 : cmpN x y = 0 := by rw [cmpN, if_neg (by omega), if_pos hxy]
    have z1 : ((0 : Int) ≤ ((0 : Nat) : Int) - 1) = False := eq_false (by omega)
    refine go (And.intro h5 (And.intro h6 (And.intro h7 z1))) ?_
    refine x_done (x_out (sr (And.intro @Try.f66.eq_1 e1)) (by simp) (by simp) rfl)
  · have z1 : (0 : Int) ≤ (i : Int) - 1 := by omega
    have z2 : (i : Int) - 1 = ((i - 1 : Nat) : Int) := by omega
    have lx : i - 1 < (dig x).length := by omega
    have ly : i - 1 < (dig y).length := by omega
    have gx : (dig x).getD (i - 1) 0 = (dig x)[i - 1] := by rw [List.getD_eq_getElem?_getD, List.getElem?_eq_getElem lx]; rfl
    have gy : (dig y).getD (i - 1) 0 = (dig y)[i - 1] := by rw [List.getD_eq_getElem?_getD, List.getElem?_eq_getElem ly]; rfl
    have en : i - 1 + 1 = i := by omega
    have hdx := List.drop_eq_getElem_cons lx
    have hdy := List.drop_eq_getElem_cons ly
    have k1 := val_lt_at lx ly hlen (by rw [en]; exact hf1)
    have k2 := val_lt_at ly lx hlen.symm (by rw [en]; exact hf1.symm)
    rw [val_dig, val_dig] at k1 k2
    rw [en] at hdx hdy
    generalize hcx : (dig x)[i - 1] = c at *
    generalize hcy : (dig y)[i - 1] = d at *
    rw [z2] at h7
    by_cases q1 : c.toNat < d.toNat
    · have e1 : cmpN x y = -1 := by rw [cmpN, if_pos (k1 q1)]
      have q2 : ((c.toNat : Int) < (d.toNat : Int)) = True := eq_true (by omega)
      refine go (And.intro h5 (And.intro h6 (And.intro h7 (And.intro hx (And.intro hy (And.intro sx (And.intro sy (And.intro gx (And.intro gy (And.intro lx (And.intro ly q2))))))))))) ?_
      refine x_done (x_out (sr (And.intro @Try.f66.eq_1 e1)) (by simp) (by simp) rfl)
    have q2 : ((c.toNat : Int) < (d.toNat : Int)) = False := eq_false (by omega)
    by_cases q3 : d.toNat < c.toNat
    · have e1 : cmpN x y = 1 := by
        have := k2 q3
        rw [cmpN, if_neg (by omega), if_neg (by omega)]
      have q4 : ((d.toNat : Int) < (c.toNat : Int)) = True := eq_true (by omega)
      refine go (And.intro h5 (And.intro h6 (And.intro h7 (And.intro hx (And.intro hy (And.intro sx (And.intro sy (And.intro gx (And.intro gy (And.intro lx (And.intro ly (And.intro q2 q4)))))))))))) ?_
      refine x_done (x_out (sr (And.intro @Try.f66.eq_1 e1)) (by simp) (by simp) rfl)
    have q4 : ((d.toNat : Int) < (c.toNat : Int)) = False := eq_false (by omega)
    have hcd : c = d := UInt8.toNat_inj.1 (by omega)
    have hms : ix1 (.s (.int .i64 (((i - 1 : Nat) : Int) - 1))) < ix1 (.s (.int .i64 ((i - 1 : Nat) : Int))) := by simp only [ix1]; omega
    have hnx : (dig x).drop (i - 1) = (dig y).drop (i - 1) := by rw [hdx, hdy, hf1, hcd]
    refine go (And.intro h5 (And.intro h6 (And.intro h7 (And.intro hx (And.intro hy (And.intro sx (And.intro sy (And.intro gx (And.intro gy (And.intro lx (And.intro ly (And.intro q2 q4)))))))))))) ?_
    (refine ⟨⟨i - 1, ?_, ?_, ?_, ?_, ?_⟩, ?_⟩ <;> (first | omega | (dsimp only; omega) | ((exact hnx)) | exact sxa @cast_succ | exact soa trivial))
end Go.Proofs.Ytahgddfnbjpfiaa

set_option linter.unusedVariables false
set_option linter.unusedSimpArgs false
set_option maxRecDepth 100000
set_option maxHeartbeats 16000000
namespace Go.Proofs.Ytahgddfnbjpfiaa
open Go Go.RowKit Am

abbrev encB (c : UInt8) : List V := [.s (.int .u8 (c.toNat : Int))]
theorem okRowB (c : UInt8) : okRows 1 [encB c] := okRows_map encB [c] 1 fun a => ⟨rfl, by simp [cellish]⟩
theorem bytesB : ∀ l : List UInt8, bytesOf (l.map encB) = some (l.map fun c => (c.toNat : Int))
  | [] => rfl
  | c :: l => by
    show (bytesOf (l.map encB)).map ((c.toNat : Int) :: ·) = _
    rw [bytesB l]; rfl
theorem strB (l : List UInt8) : strOf (l.map fun c => (c.toNat : Int)) = ⟨l.toArray⟩ := by
  unfold strOf
  congr 2
  rw [List.map_map]
  conv => rhs; rw [← List.map_id l]
  exact List.map_congr_left fun c _ => by simp
theorem wrap8 (n : Nat) : IntKind.u8.wrap (n : Int) = ((UInt8.ofNat n).toNat : Int) := by
  simp [IntKind.wrap, IntKind.bits, IntKind.signed]
def adC (a b : ByteArray) : Nat → Nat
  | 0 => 0
  | i + 1 => (adC a b i + ((byteAt a i).toNat + (byteAt b i).toNat)) / 256
def adL (a b : ByteArray) : Nat → List UInt8
  | 0 => []
  | i + 1 => adL a b i ++ [UInt8.ofNat (adC a b i + ((byteAt a i).toNat + (byteAt b i).toNat))]
theorem adL_len (a b : ByteArray) : ∀ i, (adL a b i).length = i
  | 0 => rfl
  | i + 1 => by rw [adL, List.length_append, adL_len a b i]; rfl
theorem adC_le (a b : ByteArray) : ∀ i, adC a b i ≤ 1
  | 0 => Nat.zero_le _
  | i + 1 => by
    have h1 := adC_le a b i
    have h2 := (byteAt a i).toNat_lt
    have h3 := (byteAt b i).toNat_lt
    rw [adC]
    omega
theorem val_take_succ (s : ByteArray) (i : Nat) : val (s.data.toList.take (i + 1)) = val (s.data.toList.take i) + 256 ^ i * (byteAt s i).toNat := by
  by_cases h : i < s.data.toList.length
  · rw [List.take_succ_eq_append_getElem h, val_app, List.length_take, byteAt_get h]
    simp only [val, Nat.mul_zero, Nat.add_zero]
    rw [Nat.min_eq_left (by omega)]
  · rw [List.take_of_length_le (by omega), List.take_of_length_le (by omega), byteAt_out (by rw [← list_len]; omega)]
    simp
theorem val_take_all (s : ByteArray) {i : Nat} (h : s.size ≤ i) : val (s.data.toList.take i) = vl s := by
  rw [List.take_of_length_le (by rw [list_len]; exact h)]; rfl
theorem ad_inv (a b : ByteArray) : ∀ i, val (adL a b i) + 256 ^ i * adC a b i = val (a.data.toList.take i) + val (b.data.toList.take i)
  | 0 => by simp [adL, adC, val]
  | i + 1 => by
    have ih := ad_inv a b i
    rw [val_take_succ, val_take_succ, adL, adC, val_app, adL_len]
    generalize (byteAt a i).toNat = x at *
    generalize (byteAt b i).toNat = y at *
    generalize adC a b i = c at *
    have e1 : val [UInt8.ofNat (c + (x + y))] = (c + (x + y)) % 256 := by simp [val]
    have e2 : 256 ^ (i + 1) * ((c + (x + y)) / 256) = 256 ^ i * (256 * ((c + (x + y)) / 256)) := by rw [Nat.pow_succ, Nat.mul_assoc]
    have e3 : 256 ^ i * ((c + (x + y)) % 256) + 256 ^ i * (256 * ((c + (x + y)) / 256)) = 256 ^ i * (c + (x + y)) := by
      rw [← Nat.mul_add]
      congr 1
      omega
    have e4 : 256 ^ i * (c + (x + y)) = 256 ^ i * c + (256 ^ i * x + 256 ^ i * y) := by rw [Nat.mul_add, Nat.mul_add]
    rw [e1, e2]
    omega
def add1S : Fspec := fun _ ds r => ∃ a b : ByteArray, a.size ≤ 1099511627770 ∧ b.size ≤ 1099511627770 ∧ ds = [.s (.string a), .s (.string b)] ∧ r = .s (.string (natB (vl a + vl b)))
theorem add1_sound {plain : TypeId → Bool} {Γ : FuncId → Option Fspec} {Δ : FuncId → Option Pt} (hE : EnvOk ⟨Try.prog, plain, Γ, Δ, fun _ => none, 0⟩) (g_norm : Γ 65 = some normS) (g_at : Γ 73 = some atS) : Sound Try.prog 69 add1S := by
  refine sound_of_awp hE Try.func69 rfl (by kernel_rfl) ?_
  rintro Φ ds r ⟨a, b, ha, hb, rfl, rfl⟩
  refine ⟨by simp [Try.f69], ?_⟩
  unfold st0
  refine W.out (E := ⟨Try.prog, plain, Γ, Δ, Φ, _⟩) ?_
  refine go trivial ?_
  obtain ⟨M, hM1, hM2, hM3⟩ : ∃ M, a.size ≤ M ∧ b.size ≤ M ∧ M ≤ 1099511627770 := ⟨max a.size b.size, by omega, by omega, by omega⟩
  have hl0 : (adL a b 0).map encB = [] := rfl
  have hc0 : adC a b 0 = 0 := rfl
  refine x_loop (fun σ => ∃ (i : Nat) (q : Nat) (cq : Nat) (sq : List (List Am.V)), σ.t 0 = .s (.string a) ∧ σ.t 1 = .s (.string b) ∧ σ.t 5 = .loc q 0 i cq ∧ σ.t 6 = .s (.int .i64 (adC a b i)) ∧ σ.t 7 = .s (.int .i64 i) ∧ σ.h q = some ⟨1, (adL a b i).map encB ++ sq, true⟩ ∧ q < σ.n ∧ i ≤ M + 1 ∧ i ≤ cq ∧ cq ≤ i + sq.length) (fun σ => M + 1 - ix (σ.t 7)) ⟨0, 0, _, [], (by first | assumption | exact sxa trivial), (by first | assumption | exact sxa trivial), (by first | assumption | exact sxa trivial), (by first | assumption | exact sxa trivial), (by first | assumption | exact sxa trivial), (by first | assumption | exact sxa trivial), (by first | omega | (dsimp only; omega) | exact soa trivial | omega | (simp; done)), (by first | rfl | omega | assumption | (simp [*]; done)), (by first | rfl | omega | assumption | (simp [*]; done)), (by first | rfl | omega | assumption | (simp [*]; done))⟩ ?_
  rintro t h n ⟨i, q, cq, sq, h0, h1, h5, h6, h7, hhq, hn1, hf0, hf1, hf2⟩
  simp only at h0 h1 h5 h6 h7 hhq hn1
  have hcl := adC_le a b i
  refine x_cut (fun σ => σ.t 0 = .s (.string a) ∧ σ.t 1 = .s (.string b) ∧ σ.t 5 = .loc q 0 i cq ∧ σ.t 6 = .s (.int .i64 (adC a b i)) ∧ σ.t 7 = .s (.int .i64 i) ∧ σ.h q = some ⟨1, (adL a b i).map encB ++ sq, true⟩ ∧ q < σ.n ∧ i ≤ M) ?_ ?_
  · by_cases c1 : i < a.size
    · have d1 : ((i : Int) < (a.size : Int)) = True := eq_true (by omega)
      refine go (And.intro h0 (And.intro h1 (And.intro h5 (And.intro h6 (And.intro h7 d1))))) ?_
      (refine ⟨?_, ?_, ?_, ?_, ?_, ?_, ?_, ?_⟩ <;> (first | omega | (dsimp only; omega) | exact sxa @cast_succ | exact soa trivial | (omega)))
    have d1 : ((i : Int) < (a.size : Int)) = False := eq_false (by omega)
    by_cases c2 : i < b.size
    · have d3 : ((i : Int) < (b.size : Int)) = True := eq_true (by omega)
      refine go (And.intro h0 (And.intro h1 (And.intro h5 (And.intro h6 (And.intro h7 (And.intro d1 d3)))))) ?_
      (refine ⟨?_, ?_, ?_, ?_, ?_, ?_, ?_, ?_⟩ <;> (first | omega | (dsimp only; omega) | exact sxa @cast_succ | exact soa trivial | (omega)))
    have d3 : ((i : Int) < (b.size : Int)) = False := eq_false (by omega)
    by_cases c3 : 0 < adC a b i
    · have d4 : ((0 : Int) < (adC a b i : Int)) = True := eq_true (by omega)
      have hM : i ≤ M := by
        rcases Nat.lt_or_ge M i with h | h
        · exfalso
          have e : i = M + 1 := by omega
          subst e
          have h2 := adC_le a b M
          rw [adC, byteAt_out (by omega : a.size ≤ M), byteAt_out (by omega : b.size ≤ M)] at c3
          simp at c3
          omega
        · exact h
      refine go (And.intro h0 (And.intro h1 (And.intro h5 (And.intro h6 (And.intro h7 (And.intro d1 (And.intro d3 d4))))))) ?_
      (refine ⟨?_, ?_, ?_, ?_, ?_, ?_, ?_, ?_⟩ <;> (first | omega | (dsimp only; omega) | exact sxa @cast_succ | exact soa trivial | (omega)))
    have d4 : ((0 : Int) < (adC a b i : Int)) = False := eq_false (by omega)
    have hv := ad_inv a b i
    rw [show adC a b i = 0 by omega, Nat.mul_zero, Nat.add_zero, val_take_all a (by omega), val_take_all b (by omega)] at hv
    have hll := adL_len a b i
    generalize adL a b i = L at *
    have tk : (L.map encB ++ sq).take i = L.map encB := List.take_left' (by simpa using hll)
    have ln : i ≤ (L.map encB ++ sq).length := by simp; omega
    have b1 := bytesB L
    have b2 := strB L
    have hb3 : vl ⟨L.toArray⟩ = vl a + vl b := hv
    have hsz : (⟨L.toArray⟩ : ByteArray).size ≤ 1099511627776 := by show L.length ≤ _; omega
    refine go (And.intro h0 (And.intro h1 (And.intro h5 (And.intro h6 (And.intro h7 (And.intro d1 (And.intro d3 (And.intro d4 (And.intro hhq (And.intro tk (And.intro ln (And.intro b1 b2)))))))))))) ?_
    refine x_callN rfl rfl rfl rfl (sv trivial) g_norm (sv trivial) (se trivial) ⟨⟨L.toArray⟩, hsz, rfl, rfl⟩ rfl ?_
    rw [hb3]
    refine go trivial ?_
    refine x_done (x_out (sr @Try.f69.eq_1) (by simp) (by simp) rfl)
  rintro t2 g2 n2 ⟨h0, h1, h5, h6, h7, hhq, hn1, hf0⟩
  simp only at h0 h1 h5 h6 h7 hhq hn1
  have hcl2 := adC_le a b i
  have x1 := (byteAt a i).toNat_lt
  have x2 := (byteAt b i).toNat_lt
  have e1 : (q = n2) = False := by simp; omega
  have e2 : (q = n2 + 1) = False := by simp; omega
  have e3 : (n2 = q) = False := by simp; omega
  have e4 : (n2 + 1 = q) = False := by simp; omega
  refine go (And.intro h0 (And.intro h1 (And.intro h5 (And.intro h6 h7)))) ?_
  refine x_callN rfl rfl rfl rfl (sv (And.intro h0 h7)) g_at (sv (And.intro h0 h7)) (se (And.intro h0 h7)) ⟨a, i, by omega, by omega, rfl, rfl⟩ rfl ?_
  refine go (And.intro h0 (And.intro h1 (And.intro h5 (And.intro h6 h7)))) ?_
  refine x_callN rfl rfl rfl rfl (sv (And.intro h1 h7)) g_at (sv (And.intro h1 h7)) (se (And.intro h1 h7)) ⟨b, i, by omega, by omega, rfl, rfl⟩ rfl ?_
  have hcs : adC a b (i + 1) = (adC a b i + ((byteAt a i).toNat + (byteAt b i).toNat)) / 256 := rfl
  have hls : (adL a b (i + 1)).map encB = (adL a b i).map encB ++ [encB (UInt8.ofNat (adC a b i + ((byteAt a i).toNat + (byteAt b i).toNat)))] := by rw [adL]; simp
  have z1 : (adC a b i : Int) + (((byteAt a i).toNat : Int) + ((byteAt b i).toNat : Int)) = ((adC a b i + ((byteAt a i).toNat + (byteAt b i).toNat) : Nat) : Int) := by omega
  have hll := adL_len a b i
  generalize hw : adC a b i + ((byteAt a i).toNat + (byteAt b i).toNat) = w at *
  have z2 : (w : Int).tmod 256 = ((w % 256 : Nat) : Int) := rfl
  have z3 : (w : Int).tdiv 256 = ((w / 256 : Nat) : Int) := rfl
  have z4 := wrap8 (w % 256)
  have z5 : UInt8.ofNat (w % 256) = UInt8.ofNat w := UInt8.toNat_inj.1 (by simp)
  rw [z5] at z4
  refine go (And.intro h0 (And.intro h1 (And.intro h5 (And.intro h6 (And.intro h7 (And.intro z1 (And.intro z2 (And.intro z3 z4)))))))) ?_
  refine x_appendO rfl rfl rfl rfl rfl rfl (sv (And.intro h5 (And.intro hhq (And.intro hll (And.intro e1 (And.intro e2 (And.intro e3 e4))))))) (by decide) (sc (And.intro h5 (And.intro hhq (And.intro hll (And.intro e1 (And.intro e2 (And.intro e3 e4))))))) (sv (And.intro h5 (And.intro hhq (And.intro hll (And.intro e1 (And.intro e2 (And.intro e3 e4))))))) (sx (And.intro h5 (And.intro hhq (And.intro hll (And.intro e1 (And.intro e2 (And.intro e3 e4))))))) (by first | rfl | (simp; done) | (simp [spare_len]; omega)) (by first | omega | (simp; done) | (simp [spare_len]; omega)) (by first | omega | (simp; done) | (simp [spare_len]; omega)) (sx (And.intro h5 (And.intro hhq (And.intro hll (And.intro e1 (And.intro e2 (And.intro e3 e4))))))) (okRowB (UInt8.ofNat w)) (by first | omega | (simp; done) | (simp [spare_len]; omega)) (fun cap' hcap' => ?_)
  refine go (And.intro h0 (And.intro h1 (And.intro h5 (And.intro h6 (And.intro h7 (And.intro z3 (And.intro e1 (And.intro e2 (And.intro e3 e4))))))))) ?_
  have hc2 : i + 1 ≤ cap' := hcap'
  rw [← hcs]
  clear z1 z2 z4 z5 hw
  (refine ⟨⟨i + 1, n2 + 1, cap', spare 1 (cap' - (i + 1)), ?_, ?_, ?_, ?_, ?_, ?_, ?_, ?_, ?_, ?_⟩, ?_⟩ <;> (first | omega | (dsimp only; omega) | ((simp only [spare_len]; omega)) | exact sxa (And.intro @cast_succ (And.intro hls (And.intro hcs (And.intro e1 (And.intro e2 (And.intro e3 e4)))))) | exact soa trivial))
end Go.Proofs.Ytahgddfnbjpfiaa

set_option linter.unusedVariables false
set_option linter.unusedSimpArgs false
set_option maxRecDepth 100000
set_option maxHeartbeats 16000000
namespace Go.Proofs.Ytahgddfnbjpfiaa
open Go Go.RowKit Am

def sbC (a b : ByteArray) : Nat → Nat
  | 0 => 0
  | i + 1 => if (byteAt a i).toNat < (byteAt b i).toNat + sbC a b i then 1 else 0
def sbL (a b : ByteArray) : Nat → List UInt8
  | 0 => []
  | i + 1 => sbL a b i ++ [UInt8.ofNat ((byteAt a i).toNat + 256 * sbC a b (i + 1) - ((byteAt b i).toNat + sbC a b i))]
theorem sbL_len (a b : ByteArray) : ∀ i, (sbL a b i).length = i
  | 0 => rfl
  | i + 1 => by rw [sbL, List.length_append, sbL_len a b i]; rfl
theorem sbC_le (a b : ByteArray) (i : Nat) : sbC a b i ≤ 1 := by
  cases i with
  | zero => exact Nat.zero_le _
  | succ i => rw [sbC]; split <;> omega
theorem sb_inv (a b : ByteArray) : ∀ i, val (a.data.toList.take i) + 256 ^ i * sbC a b i = val (sbL a b i) + val (b.data.toList.take i)
  | 0 => by simp [sbL, sbC, val]
  | i + 1 => by
    have ih := sb_inv a b i
    have hc := sbC_le a b i
    have hx := (byteAt a i).toNat_lt
    have hy := (byteAt b i).toNat_lt
    rw [val_take_succ, val_take_succ, sbL, val_app, sbL_len]
    have hC : sbC a b (i + 1) = if (byteAt a i).toNat < (byteAt b i).toNat + sbC a b i then 1 else 0 := rfl
    generalize (byteAt a i).toNat = x at *
    generalize (byteAt b i).toNat = y at *
    generalize sbC a b i = c at *
    generalize sbC a b (i + 1) = d at *
    have hd : x + 256 * d = (x + 256 * d - (y + c)) + (y + c) ∧ x + 256 * d - (y + c) < 256 := by split at hC <;> omega
    generalize x + 256 * d - (y + c) = w at *
    have e1 : val [UInt8.ofNat w] = w := by simp [val]; omega
    have e2 : 256 ^ (i + 1) * d = 256 ^ i * (256 * d) := by rw [Nat.pow_succ, Nat.mul_assoc]
    have e3 : 256 ^ i * x + 256 ^ i * (256 * d) = 256 ^ i * w + (256 ^ i * y + 256 ^ i * c) := by
      rw [← Nat.mul_add, ← Nat.mul_add, ← Nat.mul_add, hd.1]
    rw [e1, e2]
    omega
theorem sb_end (a b : ByteArray) (h : vl b ≤ vl a) : val (sbL a b a.size) = vl a - vl b := by
  have hi := sb_inv a b a.size
  have hc := sbC_le a b a.size
  have e1 : val (a.data.toList.take a.size) = vl a := val_take_all a (Nat.le_refl _)
  have e2 := val_lt (sbL a b a.size)
  rw [sbL_len] at e2
  have e3 : vl b = val (b.data.toList.take a.size) + 256 ^ (b.data.toList.take a.size).length * val (b.data.toList.drop a.size) := val_split _ _
  have e4 : vl a < 256 ^ a.size := val_lt a.data.toList
  rw [e1] at hi
  by_cases hb : b.size ≤ a.size
  · have e5 : val (b.data.toList.take a.size) = vl b := val_take_all b hb
    rw [e5] at hi
    rcases Nat.lt_or_ge 0 (sbC a b a.size) with h1 | h1
    · have : sbC a b a.size = 1 := by omega
      rw [this] at hi
      omega
    · have : sbC a b a.size = 0 := by omega
      rw [this] at hi
      omega
  · have e6 : (b.data.toList.take a.size).length = a.size := by rw [List.length_take, list_len]; omega
    rw [e6] at e3
    have e7 : val (b.data.toList.drop a.size) = 0 := by
      rcases Nat.eq_zero_or_pos (val (b.data.toList.drop a.size)) with h1 | h1
      · exact h1
      · have : 256 ^ a.size * 1 ≤ 256 ^ a.size * val (b.data.toList.drop a.size) := Nat.mul_le_mul_left _ h1
        omega
    rw [e7, Nat.mul_zero, Nat.add_zero] at e3
    rw [← e3] at hi
    rcases Nat.lt_or_ge 0 (sbC a b a.size) with h1 | h1
    · have : sbC a b a.size = 1 := by omega
      rw [this] at hi
      omega
    · have : sbC a b a.size = 0 := by omega
      rw [this] at hi
      omega
def sub1S : Fspec := fun _ ds r => ∃ a b : ByteArray, a.size ≤ 1099511627770 ∧ b.size ≤ 1099511627770 ∧ ds = [.s (.string a), .s (.string b)] ∧ r = .tup (if vl a < vl b then [.s (.string ⟨#[]⟩), .s (.bool false)] else [.s (.string (natB (vl a - vl b))), .s (.bool true)])
theorem sub1_sound {plain : TypeId → Bool} {Γ : FuncId → Option Fspec} {Δ : FuncId → Option Pt} (hE : EnvOk ⟨Try.prog, plain, Γ, Δ, fun _ => none, 0⟩) (g_norm : Γ 65 = some normS) (g_at : Γ 73 = some atS) (g_cmp : Γ 66 = some cmpS) : Sound Try.prog 68 sub1S := by
  refine sound_of_awp hE Try.func68 rfl (by kernel_rfl) ?_
  rintro Φ ds r ⟨a, b, ha, hb, rfl, rfl⟩
  refine ⟨by simp [Try.f68], ?_⟩
  unfold st0
  refine W.out (E := ⟨Try.prog, plain, Γ, Δ, Φ, _⟩) ?_
  refine go trivial ?_
  refine x_callN rfl rfl rfl rfl (sv trivial) g_cmp (sv trivial) (se trivial) ⟨a, b, by omega, by omega, rfl, rfl⟩ rfl ?_
  by_cases hlt : vl a < vl b
  · have hc : cmpN (vl a) (vl b) = -1 := by rw [cmpN, if_pos hlt]
    rw [hc, if_pos hlt]
    refine go trivial ?_
    refine x_done (x_outT (sr @Try.f68.eq_1) rfl)
  have hc : (cmpN (vl a) (vl b) < 0) = False := by
    rw [cmpN, if_neg hlt]
    split <;> simp
  have hend := sb_end a b (by omega)
  rw [if_neg hlt]
  refine go hc ?_
  have hl0 : (sbL a b 0).map encB = [] := rfl
  have hc0 : sbC a b 0 = 0 := rfl
  refine x_loop (fun σ => ∃ (i : Nat) (q : Nat) (cq : Nat) (sq : List (List Am.V)), σ.t 0 = .s (.string a) ∧ σ.t 1 = .s (.string b) ∧ σ.t 6 = .loc q 0 i cq ∧ σ.t 7 = .s (.int .i64 (sbC a b i)) ∧ σ.t 8 = .s (.int .i64 i) ∧ σ.h q = some ⟨1, (sbL a b i).map encB ++ sq, true⟩ ∧ q < σ.n ∧ i ≤ a.size ∧ i ≤ cq ∧ cq ≤ i + sq.length) (fun σ => a.size - ix (σ.t 8)) ⟨0, 0, _, [], (by first | assumption | exact sxa trivial), (by first | assumption | exact sxa trivial), (by first | assumption | exact sxa trivial), (by first | assumption | exact sxa trivial), (by first | assumption | exact sxa trivial), (by first | assumption | exact sxa trivial), (by first | omega | (dsimp only; omega) | exact soa trivial | omega | (simp; done)), (by first | rfl | omega | assumption | (simp [*]; done)), (by first | rfl | omega | assumption | (simp [*]; done)), (by first | rfl | omega | assumption | (simp [*]; done))⟩ ?_
  rintro t h n ⟨i, q, cq, sq, h0, h1, h6, h7, h8, hhq, hn1, hf0, hf1, hf2⟩
  simp only at h0 h1 h6 h7 h8 hhq hn1
  have hcl := sbC_le a b i
  refine go (And.intro h0 (And.intro h1 (And.intro h6 (And.intro h7 h8)))) ?_
  refine x_condP (sv (And.intro h0 (And.intro h1 (And.intro h6 (And.intro h7 h8))))) (fun hc => ?_) (fun hc => ?_)
  · have hi : i < a.size := by omega
    have x1 := (byteAt a i).toNat_lt
    have x2 := (byteAt b i).toNat_lt
    have e1 : (q = n) = False := by simp; omega
    have e2 : (q = n + 1) = False := by simp; omega
    have e3 : (n = q) = False := by simp; omega
    have e4 : (n + 1 = q) = False := by simp; omega
    refine go (And.intro h0 (And.intro h1 (And.intro h6 (And.intro h7 h8)))) ?_
    refine x_callN rfl rfl rfl rfl (sv (And.intro h0 h8)) g_at (sv (And.intro h0 h8)) (se (And.intro h0 h8)) ⟨a, i, by omega, by omega, rfl, rfl⟩ rfl ?_
    refine go (And.intro h0 (And.intro h1 (And.intro h6 (And.intro h7 h8)))) ?_
    refine x_callN rfl rfl rfl rfl (sv (And.intro h1 h8)) g_at (sv (And.intro h1 h8)) (se (And.intro h1 h8)) ⟨b, i, by omega, by omega, rfl, rfl⟩ rfl ?_
    have hcs : sbC a b (i + 1) = if (byteAt a i).toNat < (byteAt b i).toNat + sbC a b i then 1 else 0 := rfl
    have hls : (sbL a b (i + 1)).map encB = (sbL a b i).map encB ++ [encB (UInt8.ofNat ((byteAt a i).toNat + 256 * sbC a b (i + 1) - ((byteAt b i).toNat + sbC a b i)))] := by rw [sbL]; simp
    have hll := sbL_len a b i
    by_cases hq : (byteAt a i).toNat < (byteAt b i).toNat + sbC a b i
    · rw [if_pos hq] at hcs
      rw [hcs] at hls
      have z1 : (((byteAt a i).toNat : Int) - ((byteAt b i).toNat : Int) - (sbC a b i : Int) < 0) = True := eq_true (by omega)
      have z2 : ((byteAt a i).toNat : Int) - ((byteAt b i).toNat : Int) - (sbC a b i : Int) + 256 = (((byteAt a i).toNat + 256 * 1 - ((byteAt b i).toNat + sbC a b i) : Nat) : Int) := by omega
      generalize (byteAt a i).toNat + 256 * 1 - ((byteAt b i).toNat + sbC a b i) = w at *
      have z3 := wrap8 w
      refine go (And.intro h0 (And.intro h1 (And.intro h6 (And.intro h7 (And.intro h8 (And.intro z1 (And.intro z2 z3))))))) ?_
      refine x_appendO rfl rfl rfl rfl rfl rfl (sv (And.intro h6 (And.intro hhq (And.intro hll (And.intro e1 (And.intro e2 (And.intro e3 e4))))))) (by decide) (sc (And.intro h6 (And.intro hhq (And.intro hll (And.intro e1 (And.intro e2 (And.intro e3 e4))))))) (sv (And.intro h6 (And.intro hhq (And.intro hll (And.intro e1 (And.intro e2 (And.intro e3 e4))))))) (sx (And.intro h6 (And.intro hhq (And.intro hll (And.intro e1 (And.intro e2 (And.intro e3 e4))))))) (by first | rfl | (simp; done) | (simp [spare_len]; omega)) (by first | omega | (simp; done) | (simp [spare_len]; omega)) (by first | omega | (simp; done) | (simp [spare_len]; omega)) (sx (And.intro h6 (And.intro hhq (And.intro hll (And.intro e1 (And.intro e2 (And.intro e3 e4))))))) (okRowB (UInt8.ofNat w)) (by first | omega | (simp; done) | (simp [spare_len]; omega)) (fun cap' hcap' => ?_)
      refine go (And.intro h0 (And.intro h1 (And.intro h6 (And.intro h7 (And.intro h8 (And.intro e1 (And.intro e2 (And.intro e3 e4)))))))) ?_
      have hc2 : i + 1 ≤ cap' := hcap'
      clear z1 z2 z3
      (refine ⟨⟨i + 1, n + 1, cap', spare 1 (cap' - (i + 1)), ?_, ?_, ?_, ?_, ?_, ?_, ?_, ?_, ?_, ?_⟩, ?_⟩ <;> (first | omega | (dsimp only; omega) | ((simp only [spare_len]; omega)) | exact sxa (And.intro @cast_succ (And.intro hls (And.intro hcs (And.intro e1 (And.intro e2 (And.intro e3 e4)))))) | exact soa trivial))
    · rw [if_neg hq] at hcs
      rw [hcs] at hls
      have z1 : (((byteAt a i).toNat : Int) - ((byteAt b i).toNat : Int) - (sbC a b i : Int) < 0) = False := eq_false (by omega)
      have z2 : ((byteAt a i).toNat : Int) - ((byteAt b i).toNat : Int) - (sbC a b i : Int) = (((byteAt a i).toNat + 256 * 0 - ((byteAt b i).toNat + sbC a b i) : Nat) : Int) := by omega
      rw [z2] at z1
      generalize (byteAt a i).toNat + 256 * 0 - ((byteAt b i).toNat + sbC a b i) = w at *
      have z3 := wrap8 w
      refine go (And.intro h0 (And.intro h1 (And.intro h6 (And.intro h7 (And.intro h8 (And.intro z2 (And.intro z1 z3))))))) ?_
      refine x_appendO rfl rfl rfl rfl rfl rfl (sv (And.intro h6 (And.intro hhq (And.intro hll (And.intro e1 (And.intro e2 (And.intro e3 e4))))))) (by decide) (sc (And.intro h6 (And.intro hhq (And.intro hll (And.intro e1 (And.intro e2 (And.intro e3 e4))))))) (sv (And.intro h6 (And.intro hhq (And.intro hll (And.intro e1 (And.intro e2 (And.intro e3 e4))))))) (sx (And.intro h6 (And.intro hhq (And.intro hll (And.intro e1 (And.intro e2 (And.intro e3 e4))))))) (by first | rfl | (simp; done) | (simp [spare_len]; omega)) (by first | omega | (simp; done) | (simp [spare_len]; omega)) (by first | omega | (simp; done) | (simp [spare_len]; omega)) (sx (And.intro h6 (And.intro hhq (And.intro hll (And.intro e1 (And.intro e2 (And.intro e3 e4))))))) (okRowB (UInt8.ofNat w)) (by first | omega | (simp; done) | (simp [spare_len]; omega)) (fun cap' hcap' => ?_)
      refine go (And.intro h0 (And.intro h1 (And.intro h6 (And.intro h7 (And.intro h8 (And.intro e1 (And.intro e2 (And.intro e3 e4)))))))) ?_
      have hc2 : i + 1 ≤ cap' := hcap'
      clear z1 z2 z3
      (refine ⟨⟨i + 1, n + 1, cap', spare 1 (cap' - (i + 1)), ?_, ?_, ?_, ?_, ?_, ?_, ?_, ?_, ?_, ?_⟩, ?_⟩ <;> (first | omega | (dsimp only; omega) | ((simp only [spare_len]; omega)) | exact sxa (And.intro @cast_succ (And.intro hls (And.intro hcs (And.intro e1 (And.intro e2 (And.intro e3 e4)))))) | exact soa trivial))
  · have ei : i = a.size := by omega
    subst ei
    have hll := sbL_len a b a.size
    generalize sbL a b a.size = L at *
    have tk : (L.map encB ++ sq).take a.size = L.map encB := List.take_left' (by simpa using hll)
    have ln : a.size ≤ (L.map encB ++ sq).length := by simp; omega
    have b1 := bytesB L
    have b2 := strB L
    have hb3 : vl ⟨L.toArray⟩ = vl a - vl b := hend
    have hsz : (⟨L.toArray⟩ : ByteArray).size ≤ 1099511627776 := by show L.length ≤ _; omega
    refine go (And.intro h0 (And.intro h1 (And.intro h6 (And.intro h7 (And.intro hhq (And.intro tk (And.intro ln (And.intro b1 b2)))))))) ?_
    refine x_callN rfl rfl rfl rfl (sv trivial) g_norm (sv trivial) (se trivial) ⟨⟨L.toArray⟩, hsz, rfl, rfl⟩ rfl ?_
    rw [hb3]
    refine go trivial ?_
    refine x_done (x_outT (sr @Try.f68.eq_1) rfl)
end Go.Proofs.Ytahgddfnbjpfiaa
