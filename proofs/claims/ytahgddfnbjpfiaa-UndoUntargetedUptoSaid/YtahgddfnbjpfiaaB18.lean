/- Texts that the law's proof stands on: V6, V7, V8, V9, V10. -/
import Derived.Test.YtahgddfnbjpfiaaB17
import Derived.Laws.Strings
set_option linter.unusedVariables false
set_option linter.unusedSimpArgs false
set_option maxRecDepth 100000
set_option maxHeartbeats 16000000
namespace Go.Proofs.Ytahgddfnbjpfiaa
open Go Go.RowKit Am

section
variable {E : Env} {ops : Array Oper} {o : Oper} {rest : List Oper} {Q : Exit → St → Prop} {t : Nat → V} {h : Hp} {n d : Nat}
theorem x_make {T e z b8 m m' : Nat} {l k : Operand} {zv : Value} (ho : o.op = .makeSlice T l k) (hg : o.guard = none) (hd : o.dst = some d) (hq : seqo E.P T = .slice e z b8) (hz : zro E.P e = some zv) (hl : asN (ev t l) = some m) (hk : asN (ev t k) = some m') (h1 : m ≤ m') (h2 : m' * b8 ≤ 281474976710656) (h3 : m' ≤ 281474976710656) (h4 : (cellsZ zv).length = z)
    (k : WO E ops rest Q ⟨upd t d (.loc n 0 m m'), upd h n (some ⟨z, List.replicate m' (cellsZ zv), true⟩), n + 1⟩) : WO E ops (o :: rest) Q ⟨t, h, n⟩ := by
  refine x_eff hg ⟨?_⟩
  rw [ho, hd]
  unfold aop amakeSlice
  simp only [hq, hz, hl, hk]
  exact ⟨h1, h2, h3, h4, x_putS k⟩
end
abbrev encI (n : Nat) : List V := [.s (.int .i64 (n : Int))]
def valN : List Nat → Nat
  | [] => 0
  | c :: l => c + 256 * valN l
theorem valN_set : ∀ (S : List Nat) (p v : Nat), p < S.length → valN (S.set p v) + 256 ^ p * S.getD p 0 = valN S + 256 ^ p * v
  | [], p, v, h => by simp at h
  | c :: S, 0, v, _ => by simp [valN]; omega
  | c :: S, p + 1, v, h => by
    have ih := valN_set S p v (by simpa using h)
    rw [List.set_cons_succ, valN, valN, List.getD_cons_succ]
    have e1 : 256 ^ (p + 1) * S.getD p 0 = 256 * (256 ^ p * S.getD p 0) := by rw [Nat.pow_succ, Nat.mul_comm (256 ^ p) 256, Nat.mul_assoc]
    have e2 : 256 ^ (p + 1) * v = 256 * (256 ^ p * v) := by rw [Nat.pow_succ, Nat.mul_comm (256 ^ p) 256, Nat.mul_assoc]
    rw [e1, e2]
    omega
theorem valN_get : ∀ (S : List Nat) (p : Nat), 256 ^ p * S.getD p 0 ≤ valN S
  | [], p => by simp [valN]
  | c :: S, 0 => by simp [valN]
  | c :: S, p + 1 => by
    have ih := valN_get S p
    rw [valN, List.getD_cons_succ, Nat.pow_succ, Nat.mul_comm (256 ^ p) 256, Nat.mul_assoc]
    omega
theorem valN_rep (n : Nat) : valN (List.replicate n 0) = 0 := by
  induction n with
  | zero => rfl
  | succ n ih => rw [List.replicate_succ, valN, ih]
theorem valN_val : ∀ (S : List Nat), (∀ x ∈ S, x < 256) → val (S.map UInt8.ofNat) = valN S
  | [], _ => rfl
  | c :: S, h => by
    rw [List.map_cons, val, valN, valN_val S fun x hx => h x (by simp [hx])]
    have := h c (by simp)
    simp
    omega
theorem set_small {S : List Nat} {p v : Nat} (h : ∀ x ∈ S, x < 256) (hv : v < 256) : ∀ x ∈ S.set p v, x < 256 := fun x hx => by
  rcases List.mem_or_eq_of_mem_set hx with h1 | h1
  · exact h x h1
  · rw [h1]; exact hv
theorem rowI_get {S : List Nat} {p : Nat} (h : p < S.length) : (S.map encI).getD p [] = encI (S.getD p 0) := by
  simp [List.getD_eq_getElem?_getD, h]
theorem rowI_set {S : List Nat} {p : Nat} (v : Nat) : (S.map encI).set p (encI v) = (S.set p v).map encI := by rw [List.map_set]
theorem rowI_rep (n : Nat) : List.replicate n [V.s (Value.int .i64 0)] = (List.replicate n 0).map encI := by
  rw [List.map_replicate]; rfl
def mul1S : Fspec := fun _ ds r => ∃ a b : ByteArray, a.size ≤ 549755813880 ∧ b.size ≤ 549755813880 ∧ ds = [.s (.string a), .s (.string b)] ∧ r = .s (.string (natB (vl a * vl b)))
theorem mul_next {x y i k over w : Nat} {Sv Sv' g P : Nat} (h1 : Sv + 256 ^ (i + k) * over = P) (hs : Sv' + 256 ^ (i + k) * g = Sv + 256 ^ (i + k) * (w % 256)) (hw : w = g + x * y + over) :
    Sv' + 256 ^ (i + (k + 1)) * (w / 256) = P + 256 ^ (i + k) * (x * y) := by
  have e1 : 256 ^ (i + (k + 1)) * (w / 256) = 256 ^ (i + k) * (256 * (w / 256)) := by rw [← Nat.add_assoc, Nat.pow_succ, Nat.mul_assoc]
  have e2 : 256 ^ (i + k) * (w % 256) + 256 ^ (i + k) * (256 * (w / 256)) = 256 ^ (i + k) * w := by
    rw [← Nat.mul_add]; congr 1; omega
  have e3 : 256 ^ (i + k) * w = 256 ^ (i + k) * g + 256 ^ (i + k) * (x * y) + 256 ^ (i + k) * over := by rw [hw, Nat.mul_add, Nat.mul_add]
  omega
/-- One row of the product, so far. -/
def mp (a b : ByteArray) (i k : Nat) : Nat := val (a.data.toList.take i) * vl b + 256 ^ i * ((byteAt a i).toNat * val (b.data.toList.take k))
theorem mp_zero (a b : ByteArray) (i : Nat) : mp a b i 0 = val (a.data.toList.take i) * vl b := by simp [mp, val]
theorem mp_succ (a b : ByteArray) (i k : Nat) : mp a b i (k + 1) = mp a b i k + 256 ^ (i + k) * ((byteAt a i).toNat * (byteAt b k).toNat) := by
  rw [mp, mp, val_take_succ, Nat.mul_add, Nat.mul_add, Nat.pow_add]
  have : 256 ^ i * ((byteAt a i).toNat * (256 ^ k * (byteAt b k).toNat)) = 256 ^ i * 256 ^ k * ((byteAt a i).toNat * (byteAt b k).toNat) := by
    rw [Nat.mul_left_comm (byteAt a i).toNat, Nat.mul_assoc]
  omega
theorem mp_all (a b : ByteArray) (i k : Nat) (h : b.size ≤ k) : mp a b i k = val (a.data.toList.take (i + 1)) * vl b := by
  rw [mp, val_take_all b h, val_take_succ, Nat.add_mul, Nat.mul_assoc]
theorem mp_lt (a b : ByteArray) (i : Nat) (h : i < a.size) : val (a.data.toList.take (i + 1)) * vl b < 256 ^ (i + b.size + 1) ∨ b.size = 0 := by
  rcases Nat.eq_zero_or_pos b.size with h0 | h0
  · exact .inr h0
  · left
    have h1 := val_lt (a.data.toList.take (i + 1))
    have h2 : vl b < 256 ^ b.size := val_lt b.data.toList
    rw [List.length_take, list_len, Nat.min_eq_left (by omega)] at h1
    have e : 256 ^ (i + b.size + 1) = 256 ^ (i + 1) * 256 ^ b.size := by rw [← Nat.pow_add]; congr 1; omega
    rw [e]
    calc val (a.data.toList.take (i + 1)) * vl b ≤ val (a.data.toList.take (i + 1)) * 256 ^ b.size := Nat.mul_le_mul_left _ (by omega)
      _ < 256 ^ (i + 1) * 256 ^ b.size := Nat.mul_lt_mul_of_pos_right h1 (Nat.pow_pos (by omega))
end Go.Proofs.Ytahgddfnbjpfiaa

set_option linter.unusedVariables false
set_option linter.unusedSimpArgs false
set_option maxRecDepth 100000
set_option maxHeartbeats 16000000
namespace Go.Proofs.Ytahgddfnbjpfiaa
open Go Go.RowKit Am

theorem mp_lt' (a b : ByteArray) (i : Nat) (h : i < a.size) : val (a.data.toList.take (i + 1)) * vl b < 256 ^ (i + b.size + 1) := by
  rcases mp_lt a b i h with h1 | h1
  · exact h1
  · have h2 : vl b < 256 ^ b.size := val_lt b.data.toList
    rw [h1] at h2
    have : vl b = 0 := by simpa using h2
    rw [this, Nat.mul_zero]
    exact Nat.pow_pos (by omega)
/-- The last carry is gone. -/
theorem mul_last {S : List Nat} {p over P : Nat} (h : valN S + 256 ^ p * over = P) (hP : P < 256 ^ (p + 1)) : S.getD p 0 + over < 256 := by
  have h1 := valN_get S p
  rw [Nat.pow_succ] at hP
  have h2 : 256 ^ p * (S.getD p 0 + over) < 256 ^ p * 256 := by rw [Nat.mul_add]; omega
  exact Nat.lt_of_mul_lt_mul_left h2
theorem mul1_sound {plain : TypeId → Bool} {Γ : FuncId → Option Fspec} {Δ : FuncId → Option Pt} (hE : EnvOk ⟨Try.prog, plain, Γ, Δ, fun _ => none, 0⟩) (g_norm : Γ 65 = some normS) (g_at : Γ 73 = some atS) : Sound Try.prog 72 mul1S := by
  refine sound_of_awp hE Try.func72 rfl (by kernel_rfl) ?_
  rintro Φ ds r ⟨a, b, ha, hb, rfl, rfl⟩
  refine ⟨by simp [Try.f72], ?_⟩
  unfold st0
  refine W.out (E := ⟨Try.prog, plain, Γ, Δ, Φ, _⟩) ?_
  obtain ⟨N, hN⟩ : ∃ N, N = a.size + b.size + 1 := ⟨_, rfl⟩
  have z0 : (a.size : Int) + (b.size : Int) + 1 = (N : Int) := by omega
  refine go z0 ?_
  refine x_make (e := 3) (z := 1) (b8 := 8) (zv := .int .i64 0) rfl rfl rfl (sc trivial) (sc trivial) (m := N) (m' := N) ((sc trivial)) ((sc trivial)) (Nat.le_refl _) (by omega) (by omega) rfl ?_
  have hr0 := rowI_rep N
  have v0 : valN (List.replicate N 0) = 0 := valN_rep N
  have l0 : (List.replicate N 0).length = N := List.length_replicate
  have s0 : ∀ x ∈ List.replicate N 0, x < 256 := fun x hx => by rw [(List.mem_replicate.1 hx).2]; omega
  have c0 : cellsZ (.int .i64 0) = [.s (.int .i64 0)] := rfl
  rw [c0, hr0]
  generalize List.replicate N 0 = S0 at *
  have m0 : valN S0 = val (a.data.toList.take 0) * vl b := by rw [v0]; simp [val]
  refine go trivial ?_
  refine x_loop (fun σ => ∃ (i : Nat) (S : List Nat), σ.t 0 = .s (.string a) ∧ σ.t 1 = .s (.string b) ∧ σ.t 5 = .loc 0 0 N N ∧ σ.t 6 = .s (.int .i64 i) ∧ σ.h 0 = some ⟨1, S.map encI, true⟩ ∧ 0 < σ.n ∧ i ≤ a.size ∧ S.length = N ∧ (∀ x ∈ S, x < 256) ∧ valN S = val (a.data.toList.take i) * vl b) (fun σ => a.size - ix (σ.t 6)) ⟨0, S0, (by first | assumption | exact sxa trivial), (by first | assumption | exact sxa trivial), (by first | assumption | exact sxa trivial), (by first | assumption | exact sxa trivial), (by first | assumption | exact sxa trivial), (by first | omega | (dsimp only; omega) | exact soa trivial | omega | (simp; done)), (by first | rfl | omega | assumption | (simp [*]; done)), (by first | rfl | omega | assumption | (simp [*]; done)), (by first | rfl | omega | assumption | (simp [*]; done)), (by first | rfl | omega | assumption | (simp [*]; done))⟩ ?_
  rintro t h n ⟨i, S, h0, h1, h5, h6, hh0, hn1, hf0, hf1, hf2, hf3⟩
  simp only at h0 h1 h5 h6 hh0 hn1
  refine go (And.intro h0 (And.intro h1 (And.intro h5 h6))) ?_
  refine x_condP (sv (And.intro h0 (And.intro h1 (And.intro h5 h6)))) (fun hc => ?_) (fun hc => ?_)
  · have hi : i < a.size := by omega
    have hmp0 : valN S + 256 ^ (i + 0) * 0 = mp a b i 0 := by rw [mp_zero, hf3]; omega
    have hlast := mp_lt' a b i hi
    have hall := mp_all a b i
    refine go (And.intro h0 (And.intro h1 (And.intro h5 h6))) ?_
    refine x_loop (fun σ => ∃ (k : Nat) (over : Nat) (S : List Nat), σ.t 0 = .s (.string a) ∧ σ.t 1 = .s (.string b) ∧ σ.t 5 = .loc 0 0 N N ∧ σ.t 6 = .s (.int .i64 i) ∧ σ.t 7 = .s (.int .i64 over) ∧ σ.t 8 = .s (.int .i64 k) ∧ σ.h 0 = some ⟨1, S.map encI, true⟩ ∧ 0 < σ.n ∧ k ≤ b.size + 1 ∧ (k = b.size + 1 → over = 0) ∧ over ≤ 255 ∧ S.length = N ∧ (∀ x ∈ S, x < 256) ∧ valN S + 256 ^ (i + k) * over = mp a b i k) (fun σ => b.size + 1 - ix (σ.t 8)) ⟨0, 0, S, (by first | assumption | exact sxa trivial), (by first | assumption | exact sxa trivial), (by first | assumption | exact sxa trivial), (by first | assumption | exact sxa trivial), (by first | assumption | exact sxa trivial), (by first | assumption | exact sxa trivial), (by first | assumption | exact sxa trivial), (by first | omega | (dsimp only; omega) | exact soa trivial | omega | (simp; done)), (by first | rfl | omega | assumption | (simp [*]; done)), (by first | rfl | omega | assumption | (simp [*]; done)), (by first | rfl | omega | assumption | (simp [*]; done)), (by first | rfl | omega | assumption | (simp [*]; done)), (by first | rfl | omega | assumption | (simp [*]; done)), (by first | rfl | omega | assumption | (simp [*]; done))⟩ ?_
    rintro t2 g2 n2 ⟨k, over, S, h0, h1, h5, h6, h7, h8, hh0, hn1, hf0, hf1, hf2, hf3, hf4, hf5⟩
    simp only at h0 h1 h5 h6 h7 h8 hh0 hn1
    refine x_cut (fun σ => σ.t 0 = .s (.string a) ∧ σ.t 1 = .s (.string b) ∧ σ.t 5 = .loc 0 0 N N ∧ σ.t 6 = .s (.int .i64 i) ∧ σ.t 7 = .s (.int .i64 over) ∧ σ.t 8 = .s (.int .i64 k) ∧ σ.h 0 = some ⟨1, S.map encI, true⟩ ∧ 0 < σ.n ∧ k ≤ b.size) ?_ ?_
    · by_cases c1 : k < b.size
      · have d1 : ((k : Int) < (b.size : Int)) = True := eq_true (by omega)
        refine go (And.intro h0 (And.intro h1 (And.intro h5 (And.intro h6 (And.intro h7 (And.intro h8 d1)))))) ?_
        (refine ⟨?_, ?_, ?_, ?_, ?_, ?_, ?_, ?_, ?_⟩ <;> (first | omega | (dsimp only; omega) | exact sxa @cast_succ | exact soa trivial | (omega)))
      have d1 : ((k : Int) < (b.size : Int)) = False := eq_false (by omega)
      by_cases c2 : 0 < over
      · have d2 : ((0 : Int) < (over : Int)) = True := eq_true (by omega)
        have hk2 : k ≤ b.size := by
          rcases Nat.lt_or_ge b.size k with h | h
          · have := hf1 (by omega); omega
          · exact h
        refine go (And.intro h0 (And.intro h1 (And.intro h5 (And.intro h6 (And.intro h7 (And.intro h8 (And.intro d1 d2))))))) ?_
        (refine ⟨?_, ?_, ?_, ?_, ?_, ?_, ?_, ?_, ?_⟩ <;> (first | omega | (dsimp only; omega) | exact sxa @cast_succ | exact soa trivial | (omega)))
      have d2 : ((0 : Int) < (over : Int)) = False := eq_false (by omega)
      have hv : valN S = val (a.data.toList.take (i + 1)) * vl b := by
        rw [hall k (by omega), show over = 0 by omega] at hf5
        omega
      refine go (And.intro h0 (And.intro h1 (And.intro h5 (And.intro h6 (And.intro h7 (And.intro h8 (And.intro d1 d2))))))) ?_
      (refine ⟨⟨i + 1, S, ?_, ?_, ?_, ?_, ?_, ?_, ?_, ?_, ?_, ?_⟩, ?_⟩ <;> (first | omega | (dsimp only; omega) | (assumption) | exact sxa @cast_succ | exact soa trivial))
    rintro t3 g3 n3 ⟨h0, h1, h5, h6, h7, h8, hh0, hn1, hf0⟩
    simp only at h0 h1 h5 h6 h7 h8 hh0 hn1
    have x1 := (byteAt a i).toNat_lt
    have x2 := (byteAt b k).toNat_lt
    have hp : i + k < S.length := by omega
    have hp2 : i + k < N := by omega
    have hSl : (S.map encI).length = N := by simpa using hf3
    have q0 := rowI_get hp
    have zp : (i : Int) + (k : Int) = ((i + k : Nat) : Int) := by omega
    refine go (And.intro h0 (And.intro h1 (And.intro h5 (And.intro h6 (And.intro h7 (And.intro h8 (And.intro hh0 (And.intro zp (And.intro q0 (And.intro hp2 hSl)))))))))) ?_
    refine x_callD rfl rfl rfl rfl rfl (sv (And.intro h0 h6)) g_at (sv (And.intro h0 h6)) (se (And.intro h0 h6)) ⟨a, i, by omega, by omega, rfl, rfl⟩ rfl ?_
    refine go (And.intro h0 (And.intro h1 (And.intro h5 (And.intro h6 (And.intro h7 h8))))) ?_
    refine x_callD rfl rfl rfl rfl rfl (sv (And.intro h1 h8)) g_at (sv (And.intro h1 h8)) (se (And.intro h1 h8)) ⟨b, k, by omega, by omega, rfl, rfl⟩ rfl ?_
    have hg : S.getD (i + k) 0 < 256 := by
      rw [List.getD_eq_getElem?_getD, List.getElem?_eq_getElem hp]
      exact hf4 _ (List.getElem_mem hp)
    have hxy : (byteAt a i).toNat * (byteAt b k).toNat ≤ 255 * 255 := Nat.mul_le_mul (by omega) (by omega)
    have zm : ((byteAt a i).toNat : Int) * ((byteAt b k).toNat : Int) = (((byteAt a i).toNat * (byteAt b k).toNat : Nat) : Int) := by simp
    have hmps := mp_succ a b i k
    have hset := valN_set S (i + k) ((S.getD (i + k) 0 + (byteAt a i).toNat * (byteAt b k).toNat + over) % 256) hp
    have hnx := mul_next hf5 hset rfl
    rw [← hmps] at hnx
    have hsm := set_small hf4 (p := i + k) (v := (S.getD (i + k) 0 + (byteAt a i).toNat * (byteAt b k).toNat + over) % 256) (by omega)
    have hsl : (S.set (i + k) ((S.getD (i + k) 0 + (byteAt a i).toNat * (byteAt b k).toNat + over) % 256)).length = N := by rw [List.length_set]; exact hf3
    have hend : k = b.size → S.getD (i + k) 0 + (byteAt a i).toNat * (byteAt b k).toNat + over < 256 := fun e => by
      have h1 := hf5
      rw [hall k (by omega)] at h1
      have h2 := mul_last h1 (by rw [e]; exact hlast)
      have h3 : (byteAt b k).toNat = 0 := by rw [byteAt_out (by omega)]; rfl
      rw [h3, Nat.mul_zero]
      omega
    have hst := rowI_set (S := S) (p := i + k) ((S.getD (i + k) 0 + (byteAt a i).toNat * (byteAt b k).toNat + over) % 256)
    generalize hxyq : (byteAt a i).toNat * (byteAt b k).toNat = xy at *
    generalize hgq : S.getD (i + k) 0 = g at *
    have zw : (g : Int) + (xy : Int) + (over : Int) = ((g + xy + over : Nat) : Int) := by omega
    have hwle : g + xy + over ≤ 65535 := by omega
    generalize hwq : g + xy + over = w at *
    have zr : (w : Int).tmod 256 = ((w % 256 : Nat) : Int) := rfl
    have zq : (w : Int).tdiv 256 = ((w / 256 : Nat) : Int) := rfl
    refine go (And.intro h0 (And.intro h1 (And.intro h5 (And.intro h6 (And.intro h7 (And.intro h8 (And.intro hh0 (And.intro zp (And.intro zm (And.intro zw (And.intro zr (And.intro zq (And.intro q0 (And.intro hp2 (And.intro hSl hst))))))))))))))) ?_
    have hfin : k + 1 = b.size + 1 → w / 256 = 0 := fun e => by have := hend (by omega); omega
    clear hend hset hmps hwq hgq hxyq zm zw zr zq zp q0 hp2
    (refine ⟨⟨k + 1, w / 256, S.set (i + k) (w % 256), ?_, ?_, ?_, ?_, ?_, ?_, ?_, ?_, ?_, ?_, ?_, ?_, ?_, ?_⟩, ?_⟩ <;> (first | omega | (dsimp only; omega) | (assumption) | exact sxa (And.intro @cast_succ hst) | exact soa trivial))
  · have ei : i = a.size := by omega
    subst ei
    rw [val_take_all a (Nat.le_refl _)] at hf3
    skip
    skip
    refine go (And.intro h0 (And.intro h1 (And.intro h5 h6))) ?_
    have hS0 : (S.take 0).map (fun x => encB (UInt8.ofNat x)) = [] := rfl
    have hSl : (S.map encI).length = N := by simpa using hf1
    have hSsm := hf2
    have hSval := hf3
    have hSlen := hf1
    refine x_loop (fun σ => ∃ (j : Nat) (q : Nat) (cq : Nat) (sq : List (List Am.V)), σ.t 10 = .loc q 0 j cq ∧ σ.t 62 = .loc 0 0 N N ∧ σ.t 63 = .s (.int .i64 N) ∧ σ.t 64 = .s (.int .i64 j) ∧ σ.h 0 = some ⟨1, S.map encI, true⟩ ∧ σ.h q = some ⟨1, (S.take j).map (fun x => encB (UInt8.ofNat x)) ++ sq, true⟩ ∧ 0 < q ∧ q < σ.n ∧ j ≤ N ∧ j ≤ cq ∧ cq ≤ j + sq.length) (fun σ => N - ix (σ.t 64)) ⟨0, _, _, [], (by first | assumption | exact sxa trivial), (by first | assumption | exact sxa trivial), (by first | assumption | exact sxa trivial), (by first | assumption | exact sxa trivial), (by first | assumption | exact sxa trivial), (by first | assumption | exact sxa trivial), (by first | omega | (dsimp only; omega) | exact soa trivial | omega | (simp; done)), (by first | omega | (dsimp only; omega) | exact soa trivial | omega | (simp; done)), (by first | rfl | omega | assumption | (simp [*]; done)), (by first | rfl | omega | assumption | (simp [*]; done)), (by first | rfl | omega | assumption | (simp [*]; done))⟩ ?_
    rintro t2 g2 n2 ⟨j, q, cq, sq, h10, h62, h63, h64, hh0, hhq, hn1, hn2, hf0, hf1, hf2⟩
    simp only at h10 h62 h63 h64 hh0 hhq hn1 hn2
    refine go (And.intro h10 (And.intro h62 (And.intro h63 h64))) ?_
    refine x_condP (sv (And.intro h10 (And.intro h62 (And.intro h63 h64)))) (fun hc => ?_) (fun hc => ?_)
    · have hj : j < N := by omega
      have hp : j < S.length := by omega
      have q0 := rowI_get hp
      have hg : S.getD j 0 = S[j] := by rw [List.getD_eq_getElem?_getD, List.getElem?_eq_getElem hp]; rfl
      have htl : (S.take j).length = j := by simp; omega
      have hml : ((S.take j).map (fun x => encB (UInt8.ofNat x))).length = j := by rw [List.length_map]; exact htl
      have hsu : (S.take (j + 1)).map (fun x => encB (UInt8.ofNat x)) = (S.take j).map (fun x => encB (UInt8.ofNat x)) ++ [encB (UInt8.ofNat (S.getD j 0))] := by
        rw [List.take_succ_eq_append_getElem hp, List.map_append, hg]; rfl
      generalize S.getD j 0 = g at *
      have z1 := wrap8 g
      have e1 : (q = n2) = False := by simp; omega
      have e2 : (q = n2 + 1) = False := by simp; omega
      have e3 : (n2 = q) = False := by simp; omega
      have e4 : (n2 + 1 = q) = False := by simp; omega
      have e5 : (0 = q) = False := by simp; omega
      have e6 : (q = 0) = False := by simp; omega
      have e7 : (0 = n2) = False := by simp; omega
      have e8 : (n2 = 0) = False := by simp; omega
      have e9 : (0 = n2 + 1) = False := by simp
      refine go (And.intro h10 (And.intro h62 (And.intro h63 (And.intro h64 (And.intro hh0 (And.intro q0 (And.intro hSl (And.intro hj (And.intro z1 (And.intro e1 (And.intro e2 (And.intro e3 (And.intro e4 (And.intro e5 (And.intro e6 (And.intro e7 (And.intro e8 e9))))))))))))))))) ?_
      refine x_appendO rfl rfl rfl rfl rfl rfl (sv (And.intro h10 (And.intro hhq (And.intro hml (And.intro e1 (And.intro e2 (And.intro e3 (And.intro e4 (And.intro e5 (And.intro e6 (And.intro e7 (And.intro e8 e9)))))))))))) (by decide) (sc (And.intro h10 (And.intro hhq (And.intro hml (And.intro e1 (And.intro e2 (And.intro e3 (And.intro e4 (And.intro e5 (And.intro e6 (And.intro e7 (And.intro e8 e9)))))))))))) (sv (And.intro h10 (And.intro hhq (And.intro hml (And.intro e1 (And.intro e2 (And.intro e3 (And.intro e4 (And.intro e5 (And.intro e6 (And.intro e7 (And.intro e8 e9)))))))))))) (sx (And.intro h10 (And.intro hhq (And.intro hml (And.intro e1 (And.intro e2 (And.intro e3 (And.intro e4 (And.intro e5 (And.intro e6 (And.intro e7 (And.intro e8 e9)))))))))))) (by first | rfl | (simp; done) | (simp [spare_len]; omega)) (by first | omega | (simp; done) | (simp [spare_len]; omega)) (by first | omega | (simp; done) | (simp [spare_len]; omega)) (sx (And.intro h10 (And.intro hhq (And.intro hml (And.intro e1 (And.intro e2 (And.intro e3 (And.intro e4 (And.intro e5 (And.intro e6 (And.intro e7 (And.intro e8 e9)))))))))))) (okRowB (UInt8.ofNat g)) (by first | omega | (simp; done) | (simp [spare_len]; omega)) (fun cap' hcap' => ?_)
      refine go (And.intro h10 (And.intro h62 (And.intro h63 (And.intro h64 (And.intro hh0 (And.intro e1 (And.intro e2 (And.intro e3 (And.intro e4 (And.intro e5 (And.intro e6 (And.intro e7 (And.intro e8 e9))))))))))))) ?_
      have hc2 : j + 1 ≤ cap' := hcap'
      clear z1 q0 hg htl hml
      (refine ⟨⟨j + 1, n2 + 1, cap', spare 1 (cap' - (j + 1)), ?_, ?_, ?_, ?_, ?_, ?_, ?_, ?_, ?_, ?_, ?_⟩, ?_⟩ <;> (first | omega | (dsimp only; omega) | ((simp only [spare_len]; omega)) | exact sxa (And.intro @cast_succ (And.intro hsu (And.intro e1 (And.intro e2 (And.intro e3 (And.intro e4 (And.intro e5 (And.intro e6 (And.intro e7 (And.intro e8 e9)))))))))) | exact soa trivial))
    · have ej : j = N := by omega
      subst ej
      have hSt : S.take j = S := List.take_of_length_le (by omega)
      rw [hSt] at hhq
      have hmm : S.map (fun x => encB (UInt8.ofNat x)) = (S.map UInt8.ofNat).map encB := by rw [List.map_map]; rfl
      rw [hmm] at hhq
      have hvv := valN_val S hSsm
      have hLl : (S.map UInt8.ofNat).length = j := by simpa using hSlen
      generalize S.map UInt8.ofNat = L at *
      have tk : (L.map encB ++ sq).take j = L.map encB := List.take_left' (by simpa using hLl)
      have ln : j ≤ (L.map encB ++ sq).length := by simp; omega
      have b1 := bytesB L
      have b2 := strB L
      have hb3 : vl ⟨L.toArray⟩ = vl a * vl b := by
        show val L = _
        rw [hvv, hSval]
      have hsz : (⟨L.toArray⟩ : ByteArray).size ≤ 1099511627776 := by show L.length ≤ _; omega
      refine go (And.intro h10 (And.intro h62 (And.intro hhq (And.intro tk (And.intro ln (And.intro b1 b2)))))) ?_
      refine x_callN rfl rfl rfl rfl (sv trivial) g_norm (sv trivial) (se trivial) ⟨⟨L.toArray⟩, hsz, rfl, rfl⟩ rfl ?_
      rw [hb3]
      refine go trivial ?_
      refine x_done (x_out (sr @Try.f72.eq_1) (by simp) (by simp) rfl)
end Go.Proofs.Ytahgddfnbjpfiaa

set_option linter.unusedVariables false
set_option linter.unusedSimpArgs false
set_option maxRecDepth 100000
set_option maxHeartbeats 16000000
namespace Go.Proofs.Ytahgddfnbjpfiaa
open Go Go.RowKit Am

theorem dig_len_le {n k : Nat} (h : n < 256 ^ k) : (dig n).length ≤ k := by
  have h2 := dig_size (s := ⟨(List.replicate k (255 : UInt8)).toArray⟩)
  rcases Nat.lt_or_ge k (dig n).length with h1 | h1
  · exfalso
    have e : (dig (256 ^ k - 1)).length ≤ k := by
      have hv : ∀ k, val (List.replicate k (255 : UInt8)) = 256 ^ k - 1 := by
        intro k
        induction k with
        | zero => rfl
        | succ k ih =>
          rw [List.replicate_succ, val, ih, Nat.pow_succ]
          have : 0 < 256 ^ k := Nat.pow_pos (by omega)
          show 255 + _ = _
          omega
      have h3 : vl ⟨(List.replicate k (255 : UInt8)).toArray⟩ = 256 ^ k - 1 := hv k
      rw [h3] at h2
      have h4 : (⟨(List.replicate k (255 : UInt8)).toArray⟩ : ByteArray).size = k := by show (List.replicate k _).length = k; simp
      omega
    have h5 : 256 ^ k - 1 < n := dig_len_lt (by omega)
    omega
  · exact h1
theorem vl_lt (s : ByteArray) : vl s < 256 ^ s.size := val_lt s.data.toList
def smallS : Fspec := fun _ ds r => ∃ (a : ByteArray) (n : Nat), a.size ≤ 549755813880 ∧ n < 256 ∧ ds = [.s (.string a), .s (.int .i64 n)] ∧ r = .s (.string (natB (vl a * n)))
theorem small_sound {plain : TypeId → Bool} {Γ : FuncId → Option Fspec} {Δ : FuncId → Option Pt} (hE : EnvOk ⟨Try.prog, plain, Γ, Δ, fun _ => none, 0⟩) (g_mul : Γ 72 = some mul1S) : Sound Try.prog 67 smallS := by
  refine sound_of_awp hE Try.func67 rfl (by kernel_rfl) ?_
  rintro Φ ds r ⟨a, n, ha, hn, rfl, rfl⟩
  refine ⟨by simp [Try.f67], ?_⟩
  unfold st0
  refine W.out (E := ⟨Try.prog, plain, Γ, Δ, Φ, _⟩) ?_
  have z1 := wrap8 n
  have b1 := bytesB [UInt8.ofNat n]
  have b2 := strB [UInt8.ofNat n]
  simp only [List.map_cons, List.map_nil] at b1 b2
  have hv : vl ⟨[UInt8.ofNat n].toArray⟩ = n := by show val [UInt8.ofNat n] = n; simp [val]; omega
  refine go (And.intro z1 (And.intro b1 b2)) ?_
  refine x_callN rfl rfl rfl rfl (sv trivial) g_mul (sv trivial) (se trivial) ⟨a, ⟨[UInt8.ofNat n].toArray⟩, ha, (by show [UInt8.ofNat n].length ≤ _; simp), rfl, rfl⟩ rfl ?_
  rw [hv]
  refine go trivial ?_
  refine x_done (x_out (sr @Try.f67.eq_1) (by simp) (by simp) rfl)
/-- What the bytes from place i on hold of a quotient. -/
def div1S : Fspec := fun _ ds r => ∃ a b : ByteArray, a.size ≤ 274877906940 ∧ b.size ≤ 274877906940 ∧ ds = [.s (.string a), .s (.string b)] ∧ r = .tup (if vl b = 0 then [.s (.string ⟨#[]⟩), .s (.string ⟨#[]⟩), .s (.bool false)] else [.s (.string (natB (vl a / vl b))), .s (.string (natB (vl a % vl b))), .s (.bool true)])
theorem natB_zero : natB 0 = ⟨#[]⟩ := by rw [natB, dig_zero]
theorem natB_empty (n : Nat) : ((natB n).toList == (⟨#[]⟩ : ByteArray).toList) = decide (n = 0) := by
  rw [Bool.eq_iff_iff, beq_iff_eq, decide_eq_true_iff, ByteArray.toList_eq, ByteArray.toList_eq, natB_list]
  constructor
  · intro h
    have : dig n = [] := h
    rw [← val_dig n, this]; rfl
  · rintro rfl
    rw [dig_zero]
theorem ba_app (a b : ByteArray) : (a ++ b).data.toList = a.data.toList ++ b.data.toList := by simp
theorem rowB_rep (n : Nat) : List.replicate n [V.s (Value.int .u8 0)] = (List.replicate n (0 : UInt8)).map encB := by
  rw [List.map_replicate]; rfl
theorem rowB_get {l : List UInt8} {i : Nat} (h : i < l.length) : (l.map encB).getD i [] = encB (l.getD i 0) := by
  simp [List.getD_eq_getElem?_getD, h]
theorem rowB_set {l : List UInt8} {i : Nat} (c : UInt8) : (l.map encB).set i (encB c) = (l.set i c).map encB := by rw [List.map_set]
theorem set_drop {l : List UInt8} {i : Nat} (c : UInt8) (h : i < l.length) : (l.set i c).drop i = c :: l.drop (i + 1) := by
  rw [List.drop_eq_getElem_cons (by simpa using h), List.getElem_set_self]
  congr 1
  rw [List.drop_set]
  simp
theorem cmpN_le (x y : Nat) : (cmpN x y ≤ 0) ↔ x ≤ y := by
  rw [cmpN]
  split
  · simp; omega
  · split
    · simp; omega
    · simp; omega
end Go.Proofs.Ytahgddfnbjpfiaa

set_option linter.unusedVariables false
set_option linter.unusedSimpArgs false
set_option maxRecDepth 100000
set_option maxHeartbeats 16000000
namespace Go.Proofs.Ytahgddfnbjpfiaa
open Go Go.RowKit Am

theorem div1_sound {plain : TypeId → Bool} {Γ : FuncId → Option Fspec} {Δ : FuncId → Option Pt} (hE : EnvOk ⟨Try.prog, plain, Γ, Δ, fun _ => none, 0⟩) (g_norm : Γ 65 = some normS) (g_small : Γ 67 = some smallS) (g_cmp : Γ 66 = some cmpS) (g_sub : Γ 68 = some sub1S) : Sound Try.prog 60 div1S := by
  refine sound_of_awp hE Try.func60 rfl (by kernel_rfl) ?_
  rintro Φ ds r ⟨a, b, ha, hb, rfl, rfl⟩
  refine ⟨by simp [Try.f60], ?_⟩
  unfold st0
  refine W.out (E := ⟨Try.prog, plain, Γ, Δ, Φ, _⟩) ?_
  have hem := natB_empty (vl b)
  refine go trivial ?_
  refine x_callN rfl rfl rfl rfl (sv trivial) g_norm (sv trivial) (se trivial) ⟨b, by omega, rfl, rfl⟩ rfl ?_
  by_cases hz : vl b = 0
  · rw [if_pos hz]
    have h1 : decide (vl b = 0) = true := decide_eq_true hz
    refine go (And.intro hem h1) ?_
    refine x_done (x_outT (sr @Try.f60.eq_1) rfl)
  have h1 : decide (vl b = 0) = false := decide_eq_false hz
  rw [if_neg hz]
  have hbl := vl_lt b
  refine go (And.intro hem h1) ?_
  refine x_make (e := 5) (z := 1) (b8 := 1) (zv := .int .u8 0) rfl rfl rfl (sc trivial) (sc trivial) (m := a.size) (m' := a.size) ((sc trivial)) ((sc trivial)) (Nat.le_refl _) (by omega) (by omega) rfl ?_
  have c0 : cellsZ (.int .u8 0) = [.s (.int .u8 0)] := rfl
  rw [c0, rowB_rep]
  have q0l : (List.replicate a.size (0 : UInt8)).length = a.size := List.length_replicate
  generalize List.replicate a.size (0 : UInt8) = Q0 at *
  have hr0 : natB 0 = ⟨#[]⟩ := natB_zero
  have hd0 : val (a.data.toList.drop a.size) = val (Q0.drop a.size) * vl b + 0 := by
    rw [List.drop_of_length_le (by rw [list_len]; exact Nat.le_refl _), List.drop_of_length_le (by omega)]; simp [val]
  refine go trivial ?_
  refine x_loop (fun σ => ∃ (i : Nat) (Qt : List UInt8) (ρ : Nat), σ.t 0 = .s (.string a) ∧ σ.t 1 = .s (.string b) ∧ σ.t 7 = .loc 0 0 a.size a.size ∧ σ.t 8 = .s (.string (natB ρ)) ∧ σ.t 9 = .s (.int .i64 ((i : Int) - 1)) ∧ σ.h 0 = some ⟨1, Qt.map encB, true⟩ ∧ 0 < σ.n ∧ i ≤ a.size ∧ Qt.length = a.size ∧ ρ < vl b ∧ val (a.data.toList.drop i) = val (Qt.drop i) * vl b + ρ) (fun σ => ix1 (σ.t 9)) ⟨a.size, Q0, 0, (by first | assumption | exact sxa trivial), (by first | assumption | exact sxa trivial), (by first | assumption | exact sxa trivial), (by first | assumption | exact sxa trivial), (by first | assumption | exact sxa trivial), (by first | assumption | exact sxa trivial), (by first | omega | (dsimp only; omega) | exact soa trivial | omega | (simp; done)), (by first | rfl | omega | assumption | (simp [*]; done)), (by first | rfl | omega | assumption | (simp [*]; done)), (by first | rfl | omega | assumption | (simp [*]; done)), (by first | rfl | omega | assumption | (simp [*]; done))⟩ ?_
  rintro t h n ⟨i, Qt, ρ, h0, h1, h7, h8, h9, hh0, hn1, hf0, hf1, hf2, hf3⟩
  simp only at h0 h1 h7 h8 h9 hh0 hn1
  by_cases hi : i = 0
  · subst hi
    have z1 : ((0 : Int) ≤ ((0 : Nat) : Int) - 1) = False := eq_false (by omega)
    have hva : vl a = val Qt * vl b + ρ := hf3
    have hq1 : vl a / vl b = val Qt := by
      rw [hva, Nat.add_comm, Nat.add_mul_div_right _ _ (by omega), Nat.div_eq_of_lt hf2, Nat.zero_add]
    have hq2 : vl a % vl b = ρ := by
      rw [hva, Nat.add_comm, Nat.add_mul_mod_self_right, Nat.mod_eq_of_lt hf2]
    rw [hq1, hq2]
    have tk : (Qt.map encB).take a.size = Qt.map encB := List.take_of_length_le (by simp; omega)
    have ln : a.size ≤ (Qt.map encB).length := by simp; omega
    have b1 := bytesB Qt
    have b2 := strB Qt
    have hsz : (⟨Qt.toArray⟩ : ByteArray).size ≤ 1099511627776 := by show Qt.length ≤ _; omega
    have hb3 : vl ⟨Qt.toArray⟩ = val Qt := rfl
    refine go (And.intro h0 (And.intro h1 (And.intro h7 (And.intro h8 (And.intro h9 (And.intro z1 (And.intro hh0 (And.intro tk (And.intro ln (And.intro b1 b2)))))))))) ?_
    refine x_callN rfl rfl rfl rfl (sv trivial) g_norm (sv trivial) (se trivial) ⟨⟨Qt.toArray⟩, hsz, rfl, rfl⟩ rfl ?_
    rw [hb3]
    refine go (And.intro h0 (And.intro h1 (And.intro h7 (And.intro h8 h9)))) ?_
    refine x_done (x_outT (sr @Try.f60.eq_1) rfl)
  have hQ0 := hf1
  have z1 : (0 : Int) ≤ (i : Int) - 1 := by omega
  have z2 : (i : Int) - 1 = ((i - 1 : Nat) : Int) := by omega
  have z3 : ((i - 1 : Nat) : Int) + 1 = (i : Int) := by omega
  rw [z2] at h9
  have w1 : i - 1 ≤ i := by omega
  have hl : i - 1 < a.data.toList.length := by rw [list_len]; omega
  have hxl : (a.extract (i - 1) i).data.toList = [byteAt a (i - 1)] := by
    rw [extract_list, show i - (i - 1) = 1 by omega, List.drop_eq_getElem_cons hl, byteAt_get hl]; rfl
  have hxs : (a.extract (i - 1) i).size = 1 := by show (a.extract (i - 1) i).data.toList.length = 1; rw [hxl]; rfl
  have hrl : (natB ρ).size ≤ b.size := dig_len_le (Nat.lt_trans hf2 hbl)
  have hle : 1 + (natB ρ).size ≤ 9223372036854775807 := by omega
  have hv : vl (a.extract (i - 1) i ++ natB ρ) = (byteAt a (i - 1)).toNat + 256 * ρ := by
    show val _ = _
    rw [ba_app, hxl, natB_list]
    show val (byteAt a (i - 1) :: dig ρ) = _
    rw [val, val_dig]
  have hsz : (a.extract (i - 1) i ++ natB ρ).size ≤ 1099511627776 := by rw [ByteArray.size_append]; omega
  have hd := val_drop (l := a.data.toList) (i := i - 1)
  rw [show i - 1 + 1 = i by omega, hf3] at hd
  have hcl := (byteAt a (i - 1)).toNat_lt
  have hgd : (a.data.toList.getD (i - 1) 0) = byteAt a (i - 1) := rfl
  rw [hgd] at hd
  refine go (And.intro h0 (And.intro h1 (And.intro h7 (And.intro h8 (And.intro h9 (And.intro z3 (And.intro w1 (And.intro hf0 (And.intro hxs hle))))))))) ?_
  refine x_callN rfl rfl rfl rfl (sv trivial) g_norm (sv trivial) (se trivial) ⟨a.extract (i - 1) i ++ natB ρ, hsz, rfl, rfl⟩ rfl ?_
  rw [hv]
  generalize hR : (byteAt a (i - 1)).toNat + 256 * ρ = R at *
  have hRb : R < 256 * vl b := by omega
  have hRl : (natB R).size ≤ b.size + 1 := dig_len_le (by rw [Nat.pow_succ]; omega)
  have i0 : 0 * vl b ≤ R := by omega
  have i1 : R < (255 + 1) * vl b := by omega
  refine go (And.intro h0 (And.intro h1 (And.intro h7 h9))) ?_
  refine x_loop (fun σ => ∃ (lo : Nat) (hg : Nat), σ.t 0 = .s (.string a) ∧ σ.t 1 = .s (.string b) ∧ σ.t 7 = .loc 0 0 a.size a.size ∧ σ.t 8 = .s (.string (natB R)) ∧ σ.t 9 = .s (.int .i64 ((i - 1 : Nat) : Int)) ∧ σ.t 10 = .s (.int .i64 lo) ∧ σ.t 11 = .s (.int .i64 hg) ∧ σ.h 0 = some ⟨1, Qt.map encB, true⟩ ∧ 0 < σ.n ∧ lo ≤ hg ∧ hg ≤ 255 ∧ lo * vl b ≤ R ∧ R < (hg + 1) * vl b) (fun σ => ix (σ.t 11) - ix (σ.t 10)) ⟨0, 255, (by first | assumption | exact sxa trivial), (by first | assumption | exact sxa trivial), (by first | assumption | exact sxa trivial), (by first | assumption | exact sxa trivial), (by first | assumption | exact sxa trivial), (by first | assumption | exact sxa trivial), (by first | assumption | exact sxa trivial), (by first | assumption | exact sxa trivial), (by first | omega | (dsimp only; omega) | exact soa trivial | omega | (simp; done)), (by first | rfl | omega | assumption | (simp [*]; done)), (by first | rfl | omega | assumption | (simp [*]; done)), (by first | rfl | omega | assumption | (simp [*]; done)), (by first | rfl | omega | assumption | (simp [*]; done))⟩ ?_
  rintro t2 g2 n2 ⟨lo, hg, h0, h1, h7, h8, h9, h10, h11, hh0, hn1, hf0, hf1, hf2, hf3⟩
  simp only at h0 h1 h7 h8 h9 h10 h11 hh0 hn1
  refine go (And.intro h0 (And.intro h1 (And.intro h7 (And.intro h8 (And.intro h9 (And.intro h10 h11)))))) ?_
  refine x_condP (sv (And.intro h0 (And.intro h1 (And.intro h7 (And.intro h8 (And.intro h9 (And.intro h10 h11))))))) (fun hc => ?_) (fun hc => ?_)
  · have hlt : lo < hg := by omega
    have y1 : (lo : Int) + (hg : Int) + 1 = ((lo + hg + 1 : Nat) : Int) := by omega
    have y2 : ((lo + hg + 1 : Nat) : Int).tdiv 2 = (((lo + hg + 1) / 2 : Nat) : Int) := rfl
    have y3 : lo < (lo + hg + 1) / 2 ∧ (lo + hg + 1) / 2 ≤ hg := by omega
    generalize (lo + hg + 1) / 2 = mid at *
    refine go (And.intro h0 (And.intro h1 (And.intro h7 (And.intro h8 (And.intro h9 (And.intro h10 (And.intro h11 (And.intro y1 y2)))))))) ?_
    refine x_callN rfl rfl rfl rfl (sv h1) g_small (sv h1) (se h1) ⟨b, mid, by omega, by omega, rfl, rfl⟩ rfl ?_
    have hml : (natB (vl b * mid)).size ≤ b.size + 1 := dig_len_le (by
      rw [Nat.pow_succ]
      calc vl b * mid ≤ vl b * 255 := Nat.mul_le_mul_left _ (by omega)
        _ < 256 ^ b.size * 256 := by omega)
    refine go (And.intro h0 (And.intro h1 (And.intro h7 (And.intro h8 (And.intro h9 (And.intro h10 h11)))))) ?_
    refine x_callN rfl rfl rfl rfl (sv h8) g_cmp (sv h8) (se h8) ⟨natB (vl b * mid), natB R, by omega, by omega, rfl, rfl⟩ rfl ?_
    rw [vl_natB, vl_natB]
    by_cases hq : vl b * mid ≤ R
    · have y4 : (cmpN (vl b * mid) R ≤ 0) = True := eq_true ((cmpN_le _ _).2 hq)
      have y5 : mid * vl b ≤ R := by rw [Nat.mul_comm]; exact hq
      refine go (And.intro h0 (And.intro h1 (And.intro h7 (And.intro h8 (And.intro h9 (And.intro h10 (And.intro h11 y4))))))) ?_
      (refine ⟨⟨mid, hg, ?_, ?_, ?_, ?_, ?_, ?_, ?_, ?_, ?_, ?_, ?_, ?_, ?_⟩, ?_⟩ <;> (first | omega | (dsimp only; omega) | (assumption) | exact sxa @cast_succ | exact soa trivial))
    · have y4 : (cmpN (vl b * mid) R ≤ 0) = False := eq_false (fun h => hq ((cmpN_le _ _).1 h))
      have y5 : (mid : Int) - 1 = ((mid - 1 : Nat) : Int) := by omega
      have y6 : R < (mid - 1 + 1) * vl b := by rw [show mid - 1 + 1 = mid by omega, Nat.mul_comm]; omega
      refine go (And.intro h0 (And.intro h1 (And.intro h7 (And.intro h8 (And.intro h9 (And.intro h10 (And.intro h11 (And.intro y4 y5)))))))) ?_
      (refine ⟨⟨lo, mid - 1, ?_, ?_, ?_, ?_, ?_, ?_, ?_, ?_, ?_, ?_, ?_, ?_, ?_⟩, ?_⟩ <;> (first | omega | (dsimp only; omega) | (assumption) | exact sxa (And.intro @cast_succ y5) | exact soa trivial))
  · have el : hg = lo := by omega
    subst el
    skip
    have hml : vl b * hg ≤ R := by rw [Nat.mul_comm]; exact hf2
    have hml2 : R < vl b * hg + vl b := by rw [Nat.add_mul, Nat.one_mul, Nat.mul_comm hg] at hf3; exact hf3
    have hmz : (natB (vl b * hg)).size ≤ b.size + 1 := dig_len_le (by
      rw [Nat.pow_succ]
      omega)
    have hnx : val (a.data.toList.drop (i - 1)) = val ((Qt.set (i - 1) (UInt8.ofNat hg)).drop (i - 1)) * vl b + (R - vl b * hg) := by
      rw [hd, set_drop _ (by omega), val, show i - 1 + 1 = i by omega]
      have : (UInt8.ofNat hg).toNat = hg := by simp; omega
      rw [this, Nat.add_mul, Nat.mul_comm hg, Nat.mul_assoc]
      generalize val (Qt.drop i) * vl b = Z at *
      generalize vl b * hg = Y at *
      omega
    have hms : ix1 (.s (.int .i64 (((i - 1 : Nat) : Int) - 1))) < ix1 (.s (.int .i64 ((i - 1 : Nat) : Int))) := by simp only [ix1]; omega
    have z4 := wrap8 hg
    have hst := rowB_set (l := Qt) (i := i - 1) (UInt8.ofNat hg)
    have hQl : (Qt.map encB).length = a.size := by simpa using hQ0
    have hp2 : i - 1 < a.size := by omega
    have hsl : (Qt.set (i - 1) (UInt8.ofNat hg)).length = a.size := by rw [List.length_set]; assumption
    refine go (And.intro h0 (And.intro h1 (And.intro h7 (And.intro h8 (And.intro h9 (And.intro h10 h11)))))) ?_
    refine x_callN rfl rfl rfl rfl (sv h1) g_small (sv h1) (se h1) ⟨b, hg, by omega, by omega, rfl, rfl⟩ rfl ?_
    refine go (And.intro h0 (And.intro h1 (And.intro h7 (And.intro h8 (And.intro h9 (And.intro h10 h11)))))) ?_
    have hsb : V.tup [.s (.string (natB (R - vl b * hg))), .s (.bool true)] = V.tup (if vl (natB R) < vl (natB (vl b * hg)) then [.s (.string ⟨#[]⟩), .s (.bool false)] else [.s (.string (natB (vl (natB R) - vl (natB (vl b * hg))))), .s (.bool true)]) := by
      rw [vl_natB, vl_natB, if_neg (by omega)]
    refine x_callN rfl rfl rfl rfl (sv h8) g_sub (sv h8) (se h8) ⟨natB R, natB (vl b * hg), by omega, by omega, rfl, hsb⟩ rfl ?_
    refine go (And.intro h0 (And.intro h1 (And.intro h7 (And.intro h8 (And.intro h9 (And.intro h10 (And.intro h11 (And.intro hh0 (And.intro z4 (And.intro hst (And.intro hQl hp2))))))))))) ?_
    have hlt : R - vl b * hg < vl b := by omega
    (refine ⟨⟨i - 1, Qt.set (i - 1) (UInt8.ofNat hg), R - vl b * hg, ?_, ?_, ?_, ?_, ?_, ?_, ?_, ?_, ?_, ?_, ?_⟩, ?_⟩ <;> (first | omega | (dsimp only; omega) | (assumption) | exact sxa (And.intro @cast_succ hst) | exact soa trivial))
end Go.Proofs.Ytahgddfnbjpfiaa

set_option linter.unusedVariables false
set_option linter.unusedSimpArgs false
set_option maxRecDepth 100000
set_option maxHeartbeats 16000000
namespace Go.Proofs.Ytahgddfnbjpfiaa
open Go Go.RowKit Am

/-- The number that a string slot holds. -/
def ixS : Am.V → Nat
  | .s (.string s) => vl s
  | _ => 0
theorem ixS_nat (n : Nat) : ixS (.s (.string (natB n))) = n := vl_natB n
theorem natB_le {m n : Nat} (h : m ≤ n) : (natB m).size ≤ (natB n).size := dig_len_le (Nat.lt_of_le_of_lt h (by have := vl_lt (natB n); rwa [vl_natB] at this))
theorem natB_sz (a : ByteArray) : (natB (vl a)).size ≤ a.size := dig_size
def gcdS : Fspec := fun _ ds r => ∃ a b : ByteArray, a.size ≤ 274877906940 ∧ b.size ≤ 274877906940 ∧ ds = [.s (.string a), .s (.string b)] ∧ r = .s (.string (natB (Nat.gcd (vl a) (vl b))))
theorem gcd_sound {plain : TypeId → Bool} {Γ : FuncId → Option Fspec} {Δ : FuncId → Option Pt} (hE : EnvOk ⟨Try.prog, plain, Γ, Δ, fun _ => none, 0⟩) (g_norm : Γ 65 = some normS) (g_div : Γ 60 = some div1S) : Sound Try.prog 59 gcdS := by
  refine sound_of_awp hE Try.func59 rfl (by kernel_rfl) ?_
  rintro Φ ds r ⟨a, b, ha, hb, rfl, rfl⟩
  refine ⟨by simp [Try.f59], ?_⟩
  unfold st0
  refine W.out (E := ⟨Try.prog, plain, Γ, Δ, Φ, _⟩) ?_
  have sa := natB_sz a
  have sb := natB_sz b
  refine go trivial ?_
  refine x_callN rfl rfl rfl rfl (sv trivial) g_norm (sv trivial) (se trivial) ⟨a, by omega, rfl, rfl⟩ rfl ?_
  refine go trivial ?_
  refine x_callN rfl rfl rfl rfl (sv trivial) g_norm (sv trivial) (se trivial) ⟨b, by omega, rfl, rfl⟩ rfl ?_
  refine go trivial ?_
  refine x_loop (fun σ => ∃ (X : Nat) (Y : Nat), σ.t 5 = .s (.string (natB X)) ∧ σ.t 6 = .s (.string (natB Y)) ∧ (natB X).size ≤ 274877906940 ∧ (natB Y).size ≤ 274877906940 ∧ X.gcd Y = (vl a).gcd (vl b)) (fun σ => ixS (σ.t 6)) ⟨vl a, vl b, (by first | assumption | exact sxa trivial), (by first | assumption | exact sxa trivial), (by first | rfl | omega | assumption | (simp [*]; done)), (by first | rfl | omega | assumption | (simp [*]; done)), (by first | rfl | omega | assumption | (simp [*]; done))⟩ ?_
  rintro t h n ⟨X, Y, h5, h6, hf0, hf1, hf2⟩
  simp only at h5 h6
  have hem := natB_empty Y
  by_cases hz : Y = 0
  · have h1 : decide (Y = 0) = true := decide_eq_true hz
    have hg : (vl a).gcd (vl b) = X := by rw [← hf2, hz, Nat.gcd_zero_right]
    rw [hg]
    refine go (And.intro h5 (And.intro h6 (And.intro hem h1))) ?_
    refine x_done (x_out (sr @Try.f59.eq_1) (by simp) (by simp) rfl)
  have h1 : decide (Y = 0) = false := decide_eq_false hz
  have hdv : V.tup [.s (.string (natB (X / Y))), .s (.string (natB (X % Y))), .s (.bool true)] = .tup (if vl (natB Y) = 0 then [.s (.string ⟨#[]⟩), .s (.string ⟨#[]⟩), .s (.bool false)] else [.s (.string (natB (vl (natB X) / vl (natB Y)))), .s (.string (natB (vl (natB X) % vl (natB Y)))), .s (.bool true)]) := by
    rw [vl_natB, vl_natB, if_neg hz]
  have hlt : X % Y < Y := Nat.mod_lt _ (by omega)
  have hsz := natB_le (Nat.le_of_lt hlt)
  have hms : ixS (.s (.string (natB (X % Y)))) < ixS (.s (.string (natB Y))) := by rw [ixS_nat, ixS_nat]; exact hlt
  have hnx : Y.gcd (X % Y) = (vl a).gcd (vl b) := by rw [← hf2, Nat.gcd_comm X Y, Nat.gcd_rec Y X, Nat.gcd_comm]
  refine go (And.intro h5 (And.intro h6 (And.intro hem h1))) ?_
  refine x_callN rfl rfl rfl rfl (sv (And.intro h5 h6)) g_div (sv (And.intro h5 h6)) (se (And.intro h5 h6)) ⟨natB X, natB Y, hf0, hf1, rfl, hdv⟩ rfl ?_
  refine go (And.intro h5 h6) ?_
  (refine ⟨⟨Y, X % Y, ?_, ?_, ?_, ?_, ?_⟩, ?_⟩ <;> (first | omega | (dsimp only; omega) | (omega) | exact sxa @cast_succ | exact soa trivial))
end Go.Proofs.Ytahgddfnbjpfiaa
