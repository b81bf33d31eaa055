/- Texts that the law's proof stands on: V6, V7, V8, Sh, V9, V10, V11, V12, V13, V14, V15, V16, V17. -/
import Derived.Test.YtjbjgddfflbiaaaDoorB5
import Derived.Shelf.Strings.OnBuilder
import Derived.Test.YtjbjgddfflbiaaaDoorProg
import Derived.WalkKit
import Derived.BigCall
set_option linter.unusedVariables false
set_option linter.unusedSimpArgs false
set_option maxRecDepth 100000
set_option maxHeartbeats 16000000
namespace Go.Proofs.YtjbjgddfflbiaaaDoor
open Go Go.RowKit Am

def tx : Nat → Nat
  | 0 => 1
  | k + 1 => match k with
    | 0 => 0
    | k' + 1 => (2 * tx k' + 3 * tx (k' + 1)) % 5
def tr : Nat → Nat → Nat
  | 0 => fun _ => 0
  | k + 1 => upd (tr k) (tx k * 5 + tx (k + 1)) ((k + 1) * (k + 2) / 2 % 64)
theorem tx_two (k : Nat) : tx (k + 1 + 1) = (2 * tx k + 3 * tx (k + 1)) % 5 := by rw [tx]
theorem tx_lt : ∀ k, tx k < 5
  | 0 => by decide
  | 1 => by decide
  | k + 1 + 1 => by rw [tx_two]; omega
def rotC : Nat → Nat := tr 24
theorem rotC_lt : ∀ i, i < 25 → rotC i < 64 := by decide +kernel
theorem turnsV_set {k n : Nat} {f : Nat → Nat} (h : k < 25) : List.take k (turnsV f) ++ [.s (.int .i64 (n : Nat))] ++ List.drop (k + 1) (turnsV f) = turnsV (upd f k n) := (arr_set' h).trans (arr_ext fun i _ => by unfold upd; split <;> rfl)
def turnsS : Fspec := fun _ ds r => ds = [] ∧ r = .agg (turnsV rotC)
theorem turns_sound {plain : TypeId → Bool} {Γ : FuncId → Option Fspec} {Δ : FuncId → Option Pt} (hE : EnvOk ⟨Tryd.prog, plain, Γ, Δ, fun _ => none, 0⟩) : Sound Tryd.prog 18 turnsS := by
  refine sound_of_awp hE Tryd.func18 rfl (by kernel_rfl) ?_
  rintro Φ ds r ⟨rfl, rfl⟩
  refine ⟨by simp [Tryd.f18], ?_⟩
  unfold st0
  refine W.out (E := ⟨Tryd.prog, plain, Γ, Δ, Φ, _⟩) ?_
  refine go @arr_len ?_
  refine x_loop (fun σ => ∃ (k : Nat), σ.t 0 = .ptr 0 0 0 ∧ σ.t 1 = .ptr 1 0 0 ∧ σ.t 2 = .s (.int .i64 (tx k)) ∧ σ.t 3 = .s (.int .i64 (tx (k + 1))) ∧ σ.t 5 = .s (.int .i64 k) ∧ σ.h 0 = some ⟨25, [turnsV fun _ => 0], true⟩ ∧ σ.h 1 = some ⟨25, [turnsV (tr k)], true⟩ ∧ k ≤ 24) (fun σ => 24 - ix (σ.t 5)) ⟨0, (by first | assumption | exact sxa trivial), (by first | assumption | exact sxa trivial), (by first | assumption | exact sxa trivial), (by first | assumption | exact sxa trivial), (by first | assumption | exact sxa trivial), (by first | assumption | exact sxa trivial), (by first | assumption | exact sxa trivial), (by first | rfl | omega | assumption | (simp [*]; done))⟩ ?_
  rintro t h n ⟨k, h0, h1, h2, h3, h5, hh0, hh1, hf0⟩
  simp only at h0 h1 h2 h3 h5 hh0 hh1
  refine go (And.intro h0 (And.intro h1 (And.intro h2 (And.intro h3 h5)))) ?_
  refine x_condP (sv (And.intro h0 (And.intro h1 (And.intro h2 (And.intro h3 h5))))) (fun hc => ?_) (fun hc => ?_)
  · have hk : k < 24 := by omega
    have b1 := tx_lt k
    have b2 := tx_lt (k + 1)
    have e2 := tx_two k
    have hst := turnsV_set (k := tx k * 5 + tx (k + 1)) (n := (k + 1) * (k + 2) / 2 % 64) (f := tr k) (by omega)
    rw [show upd (tr k) (tx k * 5 + tx (k + 1)) ((k + 1) * (k + 2) / 2 % 64) = tr (k + 1) from rfl] at hst
    generalize tx (k + 1 + 1) = z at *
    generalize hX : tx k = x at *
    generalize hY : tx (k + 1) = y at *
    have hj : x * 5 + y < 25 := by omega
    have hj2 : x * 5 + y ≤ 24 := by omega
    have z1 : (k : Int) + 1 = ((k + 1 : Nat) : Int) := by omega
    have z2 : (k : Int) + 2 = ((k + 2 : Nat) : Int) := by omega
    have hkk : (k + 1) * (k + 2) ≤ 650 := Nat.mul_le_mul (show k + 1 ≤ 25 by omega) (show k + 2 ≤ 26 by omega)
    have z3 : ((k + 1 : Nat) : Int) * ((k + 2 : Nat) : Int) = (((k + 1) * (k + 2) : Nat) : Int) := by simp
    generalize (k + 1) * (k + 2) = m at *
    have z4 : (m : Int).tdiv 2 = ((m / 2 : Nat) : Int) := rfl
    have z5 : ((m / 2 : Nat) : Int).tmod 64 = ((m / 2 % 64 : Nat) : Int) := rfl
    have z6 : (2 : Int) * (x : Int) = ((2 * x : Nat) : Int) := by omega
    have z7 : (3 : Int) * (y : Int) = ((3 * y : Nat) : Int) := by omega
    have z8 : ((2 * x : Nat) : Int) + ((3 * y : Nat) : Int) = ((2 * x + 3 * y : Nat) : Int) := by omega
    have z9 := rem5 (2 * x + 3 * y)
    refine go (And.intro h0 (And.intro h1 (And.intro h2 (And.intro h3 (And.intro h5 (And.intro hh1 (And.intro z1 (And.intro z2 (And.intro z3 (And.intro z4 (And.intro z5 (And.intro z6 (And.intro z7 (And.intro z8 (And.intro z9 (And.intro hst (And.intro hj2 @arr_len))))))))))))))))) ?_
    (refine ⟨⟨k + 1, ?_, ?_, ?_, ?_, ?_, ?_, ?_, ?_⟩, ?_⟩ <;> (first | omega | (dsimp only; omega) | (omega) | exact sxa (And.intro @cast_succ (And.intro ((tx_two k)) (And.intro hX (And.intro hY hst)))) | exact soa trivial))
  · have ek : k = 24 := by omega
    subst ek
    have hce : (∀ q ∈ turnsV (tr 24), cellish q = true) = True := arr_ce fun i => rfl
    simp only [cellish] at hce
    have hc9 := arr_take (N := 25) (g := fun i => (.s (.int .i64 (tr 24 i : Nat)) : V))
    have hc10 := arr_dropN (N := 25) (g := fun i => (.s (.int .i64 ((fun _ => 0 : Nat → Nat) i : Nat)) : V))
    have hC : rotC = tr 24 := rfl
    refine go (And.intro h0 (And.intro h1 (And.intro h2 (And.intro h3 (And.intro h5 (And.intro hh0 (And.intro hh1 (And.intro hce (And.intro hc9 (And.intro hc10 @arr_len)))))))))) ?_
    refine x_done (x_out (sr (And.intro @Tryd.f18.eq_1 (And.intro h0 (And.intro hc9 (And.intro hc10 (And.intro @arr_len hC)))))) (by simp) (by simp) rfl)
theorem rturns_sound {plain : TypeId → Bool} {Γ : FuncId → Option Fspec} {Δ : FuncId → Option Pt} (hE : EnvOk ⟨Tryd.prog, plain, Γ, Δ, fun _ => none, 0⟩) : Sound Tryd.prog 20 turnsS := by
  refine sound_of_awp hE Tryd.func20 rfl (by kernel_rfl) ?_
  rintro Φ ds r ⟨rfl, rfl⟩
  refine ⟨by simp [Tryd.f20], ?_⟩
  unfold st0
  refine W.out (E := ⟨Tryd.prog, plain, Γ, Δ, Φ, _⟩) ?_
  refine go @arr_len ?_
  refine x_loop (fun σ => ∃ (k : Nat), σ.t 0 = .ptr 0 0 0 ∧ σ.t 1 = .ptr 1 0 0 ∧ σ.t 2 = .s (.int .i64 (tx k)) ∧ σ.t 3 = .s (.int .i64 (tx (k + 1))) ∧ σ.t 4 = .s (.int .i64 k) ∧ σ.h 0 = some ⟨25, [turnsV fun _ => 0], true⟩ ∧ σ.h 1 = some ⟨25, [turnsV (tr k)], true⟩ ∧ k ≤ 24) (fun σ => 24 - ix (σ.t 4)) ⟨0, (by first | assumption | exact sxa trivial), (by first | assumption | exact sxa trivial), (by first | assumption | exact sxa trivial), (by first | assumption | exact sxa trivial), (by first | assumption | exact sxa trivial), (by first | assumption | exact sxa trivial), (by first | assumption | exact sxa trivial), (by first | rfl | omega | assumption | (simp [*]; done))⟩ ?_
  rintro t h n ⟨k, h0, h1, h2, h3, h4, hh0, hh1, hf0⟩
  simp only at h0 h1 h2 h3 h4 hh0 hh1
  refine go (And.intro h0 (And.intro h1 (And.intro h2 (And.intro h3 h4)))) ?_
  refine x_condP (sv (And.intro h0 (And.intro h1 (And.intro h2 (And.intro h3 h4))))) (fun hc => ?_) (fun hc => ?_)
  · have hk : k < 24 := by omega
    have b1 := tx_lt k
    have b2 := tx_lt (k + 1)
    have e2 := tx_two k
    have hst := turnsV_set (k := tx k * 5 + tx (k + 1)) (n := (k + 1) * (k + 2) / 2 % 64) (f := tr k) (by omega)
    rw [show upd (tr k) (tx k * 5 + tx (k + 1)) ((k + 1) * (k + 2) / 2 % 64) = tr (k + 1) from rfl] at hst
    generalize tx (k + 1 + 1) = z at *
    generalize hX : tx k = x at *
    generalize hY : tx (k + 1) = y at *
    have hj : x * 5 + y < 25 := by omega
    have hj2 : x * 5 + y ≤ 24 := by omega
    have z1 : (k : Int) + 1 = ((k + 1 : Nat) : Int) := by omega
    have z2 : (k : Int) + 2 = ((k + 2 : Nat) : Int) := by omega
    have hkk : (k + 1) * (k + 2) ≤ 650 := Nat.mul_le_mul (show k + 1 ≤ 25 by omega) (show k + 2 ≤ 26 by omega)
    have z3 : ((k + 1 : Nat) : Int) * ((k + 2 : Nat) : Int) = (((k + 1) * (k + 2) : Nat) : Int) := by simp
    generalize (k + 1) * (k + 2) = m at *
    have z4 : (m : Int).tdiv 2 = ((m / 2 : Nat) : Int) := rfl
    have z5 : ((m / 2 : Nat) : Int).tmod 64 = ((m / 2 % 64 : Nat) : Int) := rfl
    have z6 : (2 : Int) * (x : Int) = ((2 * x : Nat) : Int) := by omega
    have z7 : (3 : Int) * (y : Int) = ((3 * y : Nat) : Int) := by omega
    have z8 : ((2 * x : Nat) : Int) + ((3 * y : Nat) : Int) = ((2 * x + 3 * y : Nat) : Int) := by omega
    have z9 := rem5 (2 * x + 3 * y)
    refine go (And.intro h0 (And.intro h1 (And.intro h2 (And.intro h3 (And.intro h4 (And.intro hh1 (And.intro z1 (And.intro z2 (And.intro z3 (And.intro z4 (And.intro z5 (And.intro z6 (And.intro z7 (And.intro z8 (And.intro z9 (And.intro hst (And.intro hj2 @arr_len))))))))))))))))) ?_
    (refine ⟨⟨k + 1, ?_, ?_, ?_, ?_, ?_, ?_, ?_, ?_⟩, ?_⟩ <;> (first | omega | (dsimp only; omega) | (omega) | exact sxa (And.intro @cast_succ (And.intro ((tx_two k)) (And.intro hX (And.intro hY hst)))) | exact soa trivial))
  · have ek : k = 24 := by omega
    subst ek
    have hce : (∀ q ∈ turnsV (tr 24), cellish q = true) = True := arr_ce fun i => rfl
    simp only [cellish] at hce
    have hc9 := arr_take (N := 25) (g := fun i => (.s (.int .i64 (tr 24 i : Nat)) : V))
    have hc10 := arr_dropN (N := 25) (g := fun i => (.s (.int .i64 ((fun _ => 0 : Nat → Nat) i : Nat)) : V))
    have hC : rotC = tr 24 := rfl
    refine go (And.intro h0 (And.intro h1 (And.intro h2 (And.intro h3 (And.intro h4 (And.intro hh0 (And.intro hh1 (And.intro hce (And.intro hc9 (And.intro hc10 @arr_len)))))))))) ?_
    refine x_done (x_out (sr (And.intro @Tryd.f20.eq_1 (And.intro h0 (And.intro hc9 (And.intro hc10 (And.intro @arr_len hC)))))) (by simp) (by simp) rfl)
end Go.Proofs.YtjbjgddfflbiaaaDoor

set_option linter.unusedVariables false
set_option linter.unusedSimpArgs false
set_option maxRecDepth 100000
set_option maxHeartbeats 16000000
namespace Go.Proofs.YtjbjgddfflbiaaaDoor
open Go Go.RowKit Am

theorem not_lane' (x : B64) : IntKind.u64.wrap (((BitVec.ofInt IntKind.u64.bits (if IntKind.u64.signed = true then -1 else IntKind.u64.max) ^^^ BitVec.ofInt IntKind.u64.bits (x.toNat : Int)).toNat : Nat) : Int) = ((~~~x).toNat : Int) := not_lane x
def chS (b a : Nat → B64) (k : Nat) : Nat → B64 := fun i => if i < k then chF b i else a i
theorem chS_next (b a : Nat → B64) {x y : Nat} (hy : y < 5) : upd (chS b a (x * 5 + y)) (x * 5 + y) (ch b x y) = chS b a (x * 5 + (y + 1)) := by
  funext i
  unfold upd chS
  by_cases h : i = x * 5 + y
  · subst h
    rw [if_pos rfl, if_pos (by omega), chF, show (x * 5 + y) / 5 = x by omega, show (x * 5 + y) % 5 = y by omega]
  · rw [if_neg h]
    by_cases h2 : i < x * 5 + y
    · rw [if_pos h2, if_pos (by omega)]
    · rw [if_neg h2, if_neg (by omega)]
theorem chS_all (b a : Nat → B64) : lanes 25 (chS b a 25) = lanes 25 (chF b) := arr_ext fun i hi => by simp only [chS, if_pos hi]
theorem rround_sound {plain : TypeId → Bool} {Γ : FuncId → Option Fspec} {Δ : FuncId → Option Pt} (hE : EnvOk ⟨Tryd.prog, plain, Γ, Δ, fun _ => none, 0⟩) (g_rot : Γ 31 = some rotS) : Sound Tryd.prog 22 roundS := by
  refine sound_of_awp hE Tryd.func22 rfl (by kernel_rfl) ?_
  rintro Φ ds r ⟨a, r, w, hr, rfl, rfl⟩
  refine ⟨by simp [Tryd.f22], ?_⟩
  unfold st0
  refine W.out (E := ⟨Tryd.prog, plain, Γ, Δ, Φ, _⟩) ?_
  refine go @arr_len ?_
  refine x_loop (fun σ => ∃ (x : Nat), σ.t 2 = lane w ∧ σ.t 3 = .ptr 0 0 0 ∧ σ.t 4 = .ptr 1 0 0 ∧ σ.t 6 = .ptr 2 0 0 ∧ σ.t 7 = .ptr 3 0 0 ∧ σ.t 8 = .s (.int .i64 x) ∧ σ.h 0 = some ⟨25, [lanes 25 a], true⟩ ∧ σ.h 1 = some ⟨25, [turnsV r], true⟩ ∧ σ.h 2 = some ⟨25, [lanes 25 fun _ => 0], true⟩ ∧ σ.h 3 = some ⟨5, [lanes 5 (cS a (x * 5))], true⟩ ∧ σ.n = 4 ∧ x ≤ 5) (fun σ => 5 - ix (σ.t 8)) ⟨0, (by first | assumption | exact sxa trivial), (by first | assumption | exact sxa trivial), (by first | assumption | exact sxa trivial), (by first | assumption | exact sxa trivial), (by first | assumption | exact sxa trivial), (by first | assumption | exact sxa trivial), (by first | assumption | exact sxa trivial), (by first | assumption | exact sxa trivial), (by first | assumption | exact sxa trivial), (by first | assumption | exact sxa trivial), (by first | omega | (dsimp only; omega) | exact soa trivial | omega | (simp; done)), (by first | rfl | omega | assumption | (simp [*]; done))⟩ ?_
  rintro t h n ⟨x, h2, h3, h4, h6, h7, h8, hh0, hh1, hh2, hh3, hn1, hf0⟩
  simp only at h2 h3 h4 h6 h7 h8 hh0 hh1 hh2 hh3 hn1
  refine go (And.intro h2 (And.intro h3 (And.intro h4 (And.intro h6 (And.intro h7 h8))))) ?_
  refine x_condP (sv (And.intro h2 (And.intro h3 (And.intro h4 (And.intro h6 (And.intro h7 h8)))))) (fun hc => ?_) (fun hc => ?_)
  · have hx : x < 5 := by omega
    refine go (And.intro h2 (And.intro h3 (And.intro h4 (And.intro h6 (And.intro h7 h8))))) ?_
    refine x_loop (fun σ => ∃ (y : Nat), σ.t 2 = lane w ∧ σ.t 3 = .ptr 0 0 0 ∧ σ.t 4 = .ptr 1 0 0 ∧ σ.t 6 = .ptr 2 0 0 ∧ σ.t 7 = .ptr 3 0 0 ∧ σ.t 8 = .s (.int .i64 x) ∧ σ.t 9 = .s (.int .i64 y) ∧ σ.h 0 = some ⟨25, [lanes 25 a], true⟩ ∧ σ.h 1 = some ⟨25, [turnsV r], true⟩ ∧ σ.h 2 = some ⟨25, [lanes 25 fun _ => 0], true⟩ ∧ σ.h 3 = some ⟨5, [lanes 5 (cS a (x * 5 + y))], true⟩ ∧ σ.n = 4 ∧ y ≤ 5) (fun σ => 5 - ix (σ.t 9)) ⟨0, (by first | assumption | exact sxa trivial), (by first | assumption | exact sxa trivial), (by first | assumption | exact sxa trivial), (by first | assumption | exact sxa trivial), (by first | assumption | exact sxa trivial), (by first | assumption | exact sxa trivial), (by first | assumption | exact sxa trivial), (by first | assumption | exact sxa trivial), (by first | assumption | exact sxa trivial), (by first | assumption | exact sxa trivial), (by first | assumption | exact sxa trivial), (by first | omega | (dsimp only; omega) | exact soa trivial | omega | (simp; done)), (by first | rfl | omega | assumption | (simp [*]; done))⟩ ?_
    rintro t h n ⟨y, h2, h3, h4, h6, h7, h8, h9, hh0, hh1, hh2, hh3, hn1, hf0⟩
    simp only at h2 h3 h4 h6 h7 h8 h9 hh0 hh1 hh2 hh3 hn1
    refine go (And.intro h2 (And.intro h3 (And.intro h4 (And.intro h6 (And.intro h7 (And.intro h8 h9)))))) ?_
    refine x_condP (sv (And.intro h2 (And.intro h3 (And.intro h4 (And.intro h6 (And.intro h7 (And.intro h8 h9))))))) (fun hc => ?_) (fun hc => ?_)
    · have hy : y < 5 := by omega
      have hk : x * 5 + y < 25 := by omega
      have hk1 : x * 5 < 25 := by omega
      have hx2 : x ≤ 4 := by omega
      have q1 := xor_lane (cS a (x * 5 + y) x) (a (x * 5 + y))
      have g1 := arr_get (g := fun i => lane (a i)) hk
      have g2 := arr_get (g := fun i => lane (cS a (x * 5 + y) i)) hx
      have hst := lanes_set (f := cS a (x * 5 + y)) (cS a (x * 5 + y) x ^^^ a (x * 5 + y)) hx
      rw [cS_next a hy] at hst
      refine go (And.intro h2 (And.intro h3 (And.intro h4 (And.intro h6 (And.intro h7 (And.intro h8 (And.intro h9 (And.intro hh0 (And.intro hh3 (And.intro q1 (And.intro g1 (And.intro g2 (And.intro hst (And.intro hx2 @arr_len)))))))))))))) ?_
      (refine ⟨⟨y + 1, ?_, ?_, ?_, ?_, ?_, ?_, ?_, ?_, ?_, ?_, ?_, ?_, ?_⟩, ?_⟩ <;> (first | omega | (dsimp only; omega) | (omega) | exact sxa (And.intro @cast_succ hst) | exact soa trivial))
    · have ey : y = 5 := by omega
      subst ey
      have e1 : x * 5 + 5 = (x + 1) * 5 := by omega
      rw [e1] at hh3
      skip
      refine go (And.intro h2 (And.intro h3 (And.intro h4 (And.intro h6 (And.intro h7 h8))))) ?_
      (refine ⟨⟨x + 1, ?_, ?_, ?_, ?_, ?_, ?_, ?_, ?_, ?_, ?_, ?_, ?_⟩, ?_⟩ <;> (first | omega | (dsimp only; omega) | (omega) | exact sxa @cast_succ | exact soa trivial))
  · have ex : x = 5 := by omega
    subst ex
    subst hn1
    skip
    refine go (And.intro h2 (And.intro h3 (And.intro h4 (And.intro h6 (And.intro h7 (And.intro hh0 (And.intro hh3 @arr_len))))))) ?_
    have hb2 : ∀ x y, y < 5 → thF a (x * 5 + y) = a (x * 5 + y) ^^^ (cS a 25 ((x + 4) % 5) ^^^ rot (cS a 25 ((x + 1) % 5)) 1) := fun x y hy => by
      rw [thF, th, show (x * 5 + y) / 5 = x by omega, show (x * 5 + y) % 5 = y by omega, BitVec.xor_assoc]
    have hrh : rhF a r = chF (bS (thF a) r 25) := rfl
    generalize hb : thF a = b at *
    have e25 : 5 * 5 = 25 := rfl
    rw [e25] at hh3
    generalize hcc : cS a 25 = c at *
    refine x_loop (fun σ => ∃ (x : Nat), σ.t 2 = lane w ∧ σ.t 3 = .ptr 0 0 0 ∧ σ.t 4 = .ptr 1 0 0 ∧ σ.t 6 = .ptr 2 0 0 ∧ σ.t 7 = .ptr 3 0 0 ∧ σ.t 10 = .ptr 4 0 0 ∧ σ.t 11 = .s (.int .i64 x) ∧ σ.h 0 = some ⟨25, [lanes 25 a], true⟩ ∧ σ.h 1 = some ⟨25, [turnsV r], true⟩ ∧ σ.h 2 = some ⟨25, [lanes 25 fun _ => 0], true⟩ ∧ σ.h 3 = some ⟨5, [lanes 5 c], true⟩ ∧ σ.h 4 = some ⟨25, [lanes 25 (bS b r (x * 5))], true⟩ ∧ x ≤ 5) (fun σ => 5 - ix (σ.t 11)) ⟨0, (by first | assumption | exact sxa trivial), (by first | assumption | exact sxa trivial), (by first | assumption | exact sxa trivial), (by first | assumption | exact sxa trivial), (by first | assumption | exact sxa trivial), (by first | assumption | exact sxa trivial), (by first | assumption | exact sxa trivial), (by first | assumption | exact sxa trivial), (by first | assumption | exact sxa trivial), (by first | assumption | exact sxa trivial), (by first | assumption | exact sxa trivial), (by first | assumption | exact sxa trivial), (by first | rfl | omega | assumption | (simp [*]; done))⟩ ?_
    rintro t h n2 ⟨x, h2, h3, h4, h6, h7, h10, h11, hh0, hh1, hh2, hh3, hh4, hf0⟩
    simp only at h2 h3 h4 h6 h7 h10 h11 hh0 hh1 hh2 hh3 hh4
    refine go (And.intro h2 (And.intro h3 (And.intro h4 (And.intro h6 (And.intro h7 (And.intro h10 h11)))))) ?_
    refine x_condP (sv (And.intro h2 (And.intro h3 (And.intro h4 (And.intro h6 (And.intro h7 (And.intro h10 h11))))))) (fun hc => ?_) (fun hc => ?_)
    · have hx : x < 5 := by omega
      have m1 : (x + 4) % 5 < 5 := by omega
      have m2 : (x + 1) % 5 < 5 := by omega
      have z1 : (x : Int) + 4 = ((x + 4 : Nat) : Int) := by omega
      have z2 : (x : Int) + 1 = ((x + 1 : Nat) : Int) := by omega
      have z3 := rem5 (x + 4)
      have z4 := rem5 (x + 1)
      have g1 := arr_get (g := fun i => lane (c i)) m1
      have g2 := arr_get (g := fun i => lane (c i)) m2
      have q1 := xor_lane (c ((x + 4) % 5)) (rot (c ((x + 1) % 5)) 1)
      refine go (And.intro h2 (And.intro h3 (And.intro h4 (And.intro h6 (And.intro h7 (And.intro h10 (And.intro h11 (And.intro hh3 (And.intro z1 (And.intro z2 (And.intro z3 (And.intro z4 (And.intro g1 (And.intro g2 @arr_len)))))))))))))) ?_
      refine x_callD rfl rfl rfl rfl rfl (sv trivial) g_rot (sv trivial) (se trivial) ⟨c ((x + 1) % 5), 1, by omega, rfl, rfl⟩ rfl ?_
      refine go (And.intro h2 (And.intro h3 (And.intro h4 (And.intro h6 (And.intro h7 (And.intro h10 (And.intro h11 (And.intro hh3 q1)))))))) ?_
      have hbk := fun y => hb2 x y
      generalize c ((x + 4) % 5) ^^^ rot (c ((x + 1) % 5)) 1 = d at *
      clear g1 g2 q1 hb2
      refine x_loop (fun σ => ∃ (y : Nat), σ.t 2 = lane w ∧ σ.t 3 = .ptr 0 0 0 ∧ σ.t 4 = .ptr 1 0 0 ∧ σ.t 6 = .ptr 2 0 0 ∧ σ.t 7 = .ptr 3 0 0 ∧ σ.t 10 = .ptr 4 0 0 ∧ σ.t 11 = .s (.int .i64 x) ∧ σ.t 12 = lane d ∧ σ.t 13 = .s (.int .i64 y) ∧ σ.h 0 = some ⟨25, [lanes 25 a], true⟩ ∧ σ.h 1 = some ⟨25, [turnsV r], true⟩ ∧ σ.h 2 = some ⟨25, [lanes 25 fun _ => 0], true⟩ ∧ σ.h 3 = some ⟨5, [lanes 5 c], true⟩ ∧ σ.h 4 = some ⟨25, [lanes 25 (bS b r (x * 5 + y))], true⟩ ∧ y ≤ 5) (fun σ => 5 - ix (σ.t 13)) ⟨0, (by first | assumption | exact sxa trivial), (by first | assumption | exact sxa trivial), (by first | assumption | exact sxa trivial), (by first | assumption | exact sxa trivial), (by first | assumption | exact sxa trivial), (by first | assumption | exact sxa trivial), (by first | assumption | exact sxa trivial), (by first | assumption | exact sxa trivial), (by first | assumption | exact sxa trivial), (by first | assumption | exact sxa trivial), (by first | assumption | exact sxa trivial), (by first | assumption | exact sxa trivial), (by first | assumption | exact sxa trivial), (by first | assumption | exact sxa trivial), (by first | rfl | omega | assumption | (simp [*]; done))⟩ ?_
      rintro t h n3 ⟨y, h2, h3, h4, h6, h7, h10, h11, h12, h13, hh0, hh1, hh2, hh3, hh4, hf0⟩
      simp only at h2 h3 h4 h6 h7 h10 h11 h12 h13 hh0 hh1 hh2 hh3 hh4
      refine go (And.intro h2 (And.intro h3 (And.intro h4 (And.intro h6 (And.intro h7 (And.intro h10 (And.intro h11 (And.intro h12 h13)))))))) ?_
      refine x_condP (sv (And.intro h2 (And.intro h3 (And.intro h4 (And.intro h6 (And.intro h7 (And.intro h10 (And.intro h11 (And.intro h12 h13))))))))) (fun hc => ?_) (fun hc => ?_)
      · have hy : y < 5 := by omega
        have hk : x * 5 + y < 25 := by omega
        have hk1 : x * 5 < 25 := by omega
        have z1 : (2 : Int) * (x : Int) = ((2 * x : Nat) : Int) := by omega
        have z2 : (3 : Int) * (y : Int) = ((3 * y : Nat) : Int) := by omega
        have z3 : ((2 * x : Nat) : Int) + ((3 * y : Nat) : Int) = ((2 * x + 3 * y : Nat) : Int) := by omega
        have z4 := rem5 (2 * x + 3 * y)
        have hm : (2 * x + 3 * y) % 5 < 5 := by omega
        have hj : y * 5 + (2 * x + 3 * y) % 5 < 25 := by omega
        have hj2 : y * 5 + (2 * x + 3 * y) % 5 ≤ 24 := by omega
        have g1 := arr_get (g := fun i => lane (a i)) hk
        have g2 := arr_get (g := fun i => (.s (.int .i64 (r i : Nat)) : V)) hk
        have hst := lanes_set (f := bS b r (x * 5 + y)) (rot (b (x * 5 + y)) (r (x * 5 + y))) hj
        rw [bS_next b r hy, hbk y hy] at hst
        have hrk := hr _ hk
        have q1 := xor_lane (a (x * 5 + y)) d
        refine go (And.intro h2 (And.intro h3 (And.intro h4 (And.intro h6 (And.intro h7 (And.intro h10 (And.intro h11 (And.intro h12 (And.intro h13 (And.intro hh0 (And.intro hh1 (And.intro hh4 (And.intro z1 (And.intro z2 (And.intro z3 (And.intro z4 (And.intro g1 (And.intro g2 (And.intro q1 (And.intro hst (And.intro hj2 @arr_len))))))))))))))))))))) ?_
        refine x_callD rfl rfl rfl rfl rfl (sv trivial) g_rot (sv trivial) (se trivial) ⟨a (x * 5 + y) ^^^ d, r (x * 5 + y), hrk, rfl, rfl⟩ rfl ?_
        refine go (And.intro h2 (And.intro h3 (And.intro h4 (And.intro h6 (And.intro h7 (And.intro h10 (And.intro h11 (And.intro h12 (And.intro h13 (And.intro hh0 (And.intro hh1 (And.intro hh4 (And.intro z1 (And.intro z2 (And.intro z3 (And.intro z4 (And.intro g1 (And.intro g2 (And.intro q1 (And.intro hst (And.intro hj2 @arr_len))))))))))))))))))))) ?_
        (refine ⟨⟨y + 1, ?_, ?_, ?_, ?_, ?_, ?_, ?_, ?_, ?_, ?_, ?_, ?_, ?_, ?_, ?_⟩, ?_⟩ <;> (first | omega | (dsimp only; omega) | (omega) | exact sxa (And.intro @cast_succ hst) | exact soa trivial))
      · have ey : y = 5 := by omega
        subst ey
        have e1 : x * 5 + 5 = (x + 1) * 5 := by omega
        rw [e1] at hh4
        skip
        refine go (And.intro h2 (And.intro h3 (And.intro h4 (And.intro h6 (And.intro h7 (And.intro h10 h11)))))) ?_
        (refine ⟨⟨x + 1, ?_, ?_, ?_, ?_, ?_, ?_, ?_, ?_, ?_, ?_, ?_, ?_, ?_⟩, ?_⟩ <;> (first | omega | (dsimp only; omega) | (omega) | exact sxa @cast_succ | exact soa trivial))
    · have ex : x = 5 := by omega
      subst ex
      skip
      rw [e25] at hh4
      generalize hB : bS b r 25 = B at *
      refine go (And.intro h2 (And.intro h3 (And.intro h4 (And.intro h6 (And.intro h7 h10))))) ?_
      refine x_loop (fun σ => ∃ (x : Nat), σ.t 2 = lane w ∧ σ.t 3 = .ptr 0 0 0 ∧ σ.t 6 = .ptr 2 0 0 ∧ σ.t 10 = .ptr 4 0 0 ∧ σ.t 14 = .s (.int .i64 x) ∧ σ.h 0 = some ⟨25, [lanes 25 (chS B a (x * 5))], true⟩ ∧ σ.h 2 = some ⟨25, [lanes 25 fun _ => 0], true⟩ ∧ σ.h 4 = some ⟨25, [lanes 25 B], true⟩ ∧ x ≤ 5) (fun σ => 5 - ix (σ.t 14)) ⟨0, (by first | assumption | exact sxa trivial), (by first | assumption | exact sxa trivial), (by first | assumption | exact sxa trivial), (by first | assumption | exact sxa trivial), (by first | assumption | exact sxa trivial), (by first | assumption | exact sxa trivial), (by first | assumption | exact sxa trivial), (by first | assumption | exact sxa trivial), (by first | rfl | omega | assumption | (simp [*]; done))⟩ ?_
      rintro t h n4 ⟨x, h2, h3, h6, h10, h14, hh0, hh2, hh4, hf0⟩
      simp only at h2 h3 h6 h10 h14 hh0 hh2 hh4
      refine go (And.intro h2 (And.intro h3 (And.intro h6 (And.intro h10 h14)))) ?_
      refine x_condP (sv (And.intro h2 (And.intro h3 (And.intro h6 (And.intro h10 h14))))) (fun hc => ?_) (fun hc => ?_)
      · have hx : x < 5 := by omega
        refine go (And.intro h2 (And.intro h3 (And.intro h6 (And.intro h10 h14)))) ?_
        refine x_loop (fun σ => ∃ (y : Nat), σ.t 2 = lane w ∧ σ.t 3 = .ptr 0 0 0 ∧ σ.t 6 = .ptr 2 0 0 ∧ σ.t 10 = .ptr 4 0 0 ∧ σ.t 14 = .s (.int .i64 x) ∧ σ.t 15 = .s (.int .i64 y) ∧ σ.h 0 = some ⟨25, [lanes 25 (chS B a (x * 5 + y))], true⟩ ∧ σ.h 2 = some ⟨25, [lanes 25 fun _ => 0], true⟩ ∧ σ.h 4 = some ⟨25, [lanes 25 B], true⟩ ∧ y ≤ 5) (fun σ => 5 - ix (σ.t 15)) ⟨0, (by first | assumption | exact sxa trivial), (by first | assumption | exact sxa trivial), (by first | assumption | exact sxa trivial), (by first | assumption | exact sxa trivial), (by first | assumption | exact sxa trivial), (by first | assumption | exact sxa trivial), (by first | assumption | exact sxa trivial), (by first | assumption | exact sxa trivial), (by first | assumption | exact sxa trivial), (by first | rfl | omega | assumption | (simp [*]; done))⟩ ?_
        rintro t h n5 ⟨y, h2, h3, h6, h10, h14, h15, hh0, hh2, hh4, hf0⟩
        simp only at h2 h3 h6 h10 h14 h15 hh0 hh2 hh4
        refine go (And.intro h2 (And.intro h3 (And.intro h6 (And.intro h10 (And.intro h14 h15))))) ?_
        refine x_condP (sv (And.intro h2 (And.intro h3 (And.intro h6 (And.intro h10 (And.intro h14 h15)))))) (fun hc => ?_) (fun hc => ?_)
        · have hy : y < 5 := by omega
          have hk : x * 5 + y < 25 := by omega
          have hk1 : x * 5 < 25 := by omega
          have hk2 : x * 5 + y ≤ 24 := by omega
          have m3 : (x + 2) % 5 * 5 + y < 25 := by omega
          have m4 : (x + 1) % 5 * 5 + y < 25 := by omega
          have m1 : (x + 2) % 5 < 5 := by omega
          have m2 : (x + 1) % 5 < 5 := by omega
          have z1 : (x : Int) + 2 = ((x + 2 : Nat) : Int) := by omega
          have z2 : (x : Int) + 1 = ((x + 1 : Nat) : Int) := by omega
          have z3 := rem5 (x + 2)
          have z4 := rem5 (x + 1)
          have g1 := arr_get (g := fun i => lane (B i)) hk
          have g2 := arr_get (g := fun i => lane (B i)) m3
          have g3 := arr_get (g := fun i => lane (B i)) m4
          have q0 := not_lane' (B ((x + 1) % 5 * 5 + y))
          have q1 := and_lane (~~~(B ((x + 1) % 5 * 5 + y))) (B ((x + 2) % 5 * 5 + y))
          have q2 := xor_lane (B (x * 5 + y)) (~~~(B ((x + 1) % 5 * 5 + y)) &&& B ((x + 2) % 5 * 5 + y))
          have hch : B (x * 5 + y) ^^^ (~~~(B ((x + 1) % 5 * 5 + y)) &&& B ((x + 2) % 5 * 5 + y)) = ch B x y := by rw [ch, BitVec.and_comm]
          have hst := lanes_set (f := chS B a (x * 5 + y)) (B (x * 5 + y) ^^^ (~~~(B ((x + 1) % 5 * 5 + y)) &&& B ((x + 2) % 5 * 5 + y))) hk
          rw [show upd (chS B a (x * 5 + y)) (x * 5 + y) (B (x * 5 + y) ^^^ (~~~(B ((x + 1) % 5 * 5 + y)) &&& B ((x + 2) % 5 * 5 + y))) = chS B a (x * 5 + (y + 1)) by rw [hch]; exact chS_next B a hy] at hst
          refine go (And.intro h2 (And.intro h3 (And.intro h6 (And.intro h10 (And.intro h14 (And.intro h15 (And.intro hh0 (And.intro hh4 (And.intro z1 (And.intro z2 (And.intro z3 (And.intro z4 (And.intro g1 (And.intro g2 (And.intro g3 (And.intro q0 (And.intro q1 (And.intro q2 (And.intro hst (And.intro hk2 @arr_len)))))))))))))))))))) ?_
          (refine ⟨⟨y + 1, ?_, ?_, ?_, ?_, ?_, ?_, ?_, ?_, ?_, ?_⟩, ?_⟩ <;> (first | omega | (dsimp only; omega) | (omega) | exact sxa (And.intro @cast_succ hst) | exact soa trivial))
        · have ey : y = 5 := by omega
          subst ey
          have e1 : x * 5 + 5 = (x + 1) * 5 := by omega
          rw [e1] at hh0
          skip
          refine go (And.intro h2 (And.intro h3 (And.intro h6 (And.intro h10 h14)))) ?_
          (refine ⟨⟨x + 1, ?_, ?_, ?_, ?_, ?_, ?_, ?_, ?_, ?_⟩, ?_⟩ <;> (first | omega | (dsimp only; omega) | (omega) | exact sxa @cast_succ | exact soa trivial))
      · have ex : x = 5 := by omega
        subst ex
        skip
        rw [e25, chS_all] at hh0
        generalize hf : chF B = f at *
        have q1 := xor_lane (f 0) w
        have g3 := arr_get (N := 25) (i := 0) (g := fun i => lane (f i)) (by omega)
        have hst := lanes_set0 (N := 25) (f := f) (f 0 ^^^ w) (by omega)
        have hres : lanes 25 (upd f 0 (f 0 ^^^ w)) = lanes 25 (roundF a r w) := by rw [roundF, hrh]
        generalize hg : upd f 0 (f 0 ^^^ w) = g at *
        have hc8 := arr_ce (N := 25) (g := fun i => lane (g i)) fun i => rfl
        simp only [cellish] at hc8
        have hc9 := arr_take (N := 25) (g := fun i => lane (g i))
        have hc10 := arr_dropN (N := 25) (g := fun i => lane ((fun _ => (0 : B64)) i))
        refine go (And.intro h2 (And.intro h3 (And.intro h6 (And.intro h10 (And.intro hh0 (And.intro hh2 (And.intro hc8 (And.intro hc9 (And.intro hc10 (And.intro q1 (And.intro g3 (And.intro hst @arr_len)))))))))))) ?_
        refine x_done (x_out (sr (And.intro @Tryd.f22.eq_1 (And.intro h6 (And.intro hc9 (And.intro hc10 (And.intro @arr_len hres)))))) (by simp) (by simp) rfl)
end Go.Proofs.YtjbjgddfflbiaaaDoor

set_option linter.unusedVariables false
set_option linter.unusedSimpArgs false
set_option maxRecDepth 100000
set_option maxHeartbeats 16000000
namespace Go.Proofs.YtjbjgddfflbiaaaDoor
open Go Go.RowKit Am

abbrev encB (c : UInt8) : List V := [.s (.int .u8 (c.toNat : Int))]
def wd (k : Nat) : B64 := BitVec.ofNat 64 (shaWords.getD k 0).toNat
theorem gt0 : gtab Tryd.prog 0 = some (shaWords.map fun z => Value.int .u64 z) := by unfold gtab; rw [if_pos (by kernel_rfl)]
theorem shaLen : shaWords.length = 24 := rfl
theorem shaEq : shaWords = (List.range 24).map fun k => ((wd k).toNat : Int) := by decide +kernel
theorem shaCells : ((shaWords.map fun z => Value.int .u64 z).take 24).map V.s = lanes 24 wd := by
  rw [shaEq]
  simp [lanes, arr, lane, List.take_of_length_le]
theorem shaRows : (shaWords.map fun z => [V.s (Value.int .u64 z)]) = (List.range 24).map fun k => [lane (wd k)] := by
  rw [shaEq]
  simp [lane]
/-- Rounds, blocks, the digest. -/
def rds (a : Nat → B64) : Nat → Nat → B64
  | 0 => a
  | k + 1 => roundF (rds a k) rotC (wd k)
def bl (c : UInt8) : B64 := BitVec.ofNat 64 c.toNat
theorem bl_toNat (c : UInt8) : (bl c).toNat = c.toNat := by
  simp [bl]
def absK (blk : Nat → UInt8) (a : Nat → B64) : Nat → Nat → B64
  | 0 => a
  | k + 1 => upd (absK blk a k) (k / 8 % 5 * 5 + k / 8 / 5) (absK blk a k (k / 8 % 5 * 5 + k / 8 / 5) ^^^ (bl (blk k) <<< (8 * (k % 8))))
def spg (l : List UInt8) : Nat → Nat → B64
  | 0 => fun _ => 0
  | j + 1 => rds (absK (fun i => l.getD (136 * j + i) 0) (spg l j) 136) 24
def outB (a : Nat → B64) (i : Nat) : UInt8 := UInt8.ofNat (a (i / 8 * 5) >>> (8 * (i % 8))).toNat
def zs (n : Nat) : Nat := (136 - n % 136) % 136
theorem zs_len (n : Nat) : (n + zs n) % 136 = 0 := by unfold zs; omega
theorem zs_iff {n i : Nat} (h : i ≤ zs n) : (n + i) % 136 = 0 ↔ i = zs n := by unfold zs at *; omega
def base (s : ByteArray) : List UInt8 := s.data.toList ++ [6]
def pad0 (s : ByteArray) : List UInt8 := base s ++ List.replicate (zs (s.size + 1)) 0
def pad (s : ByteArray) : List UInt8 := (pad0 s).set ((pad0 s).length - 1) ((pad0 s).getD ((pad0 s).length - 1) 0 ||| 128)
def outL (a : Nat → B64) : List UInt8 := (List.range 32).map (outB a)
def digest (s : ByteArray) : ByteArray := ⟨(outL (spg (pad s) ((pad s).length / 136))).toArray⟩
theorem base_len (s : ByteArray) : (base s).length = s.size + 1 := by
  have : s.data.toList.length = s.size := rfl
  simp only [base, List.length_append, List.length_cons, List.length_nil]
  omega
theorem pad0_len (s : ByteArray) : (pad0 s).length = s.size + 1 + zs (s.size + 1) := by simp [pad0, base_len]
theorem pad_len (s : ByteArray) : (pad s).length = (pad0 s).length := by simp [pad]
theorem pad_mod (s : ByteArray) : (pad0 s).length % 136 = 0 := by rw [pad0_len]; exact zs_len _
theorem pad_le (s : ByteArray) : (pad0 s).length ≤ s.size + 136 := by rw [pad0_len]; unfold zs; omega
/-- Rows of bytes. -/
theorem rowB_get {l : List UInt8} {sp : List (List V)} {i : Nat} (h : i < l.length) : (l.map encB ++ sp).getD i [] = encB (l.getD i 0) := by
  simp [List.getD_eq_getElem?_getD, List.getElem?_append_left, h]
theorem rowB_set {l : List UInt8} {sp : List (List V)} {i : Nat} (c : UInt8) (h : i < l.length) : (l.map encB ++ sp).set i (encB c) = (l.set i c).map encB ++ sp := by
  rw [List.set_append_left _ _ (by simpa using h), ← List.map_set]
theorem rowB_get' {l : List UInt8} {i : Nat} (h : i < l.length) : (l.map encB).getD i [] = encB (l.getD i 0) := by
  simp [List.getD_eq_getElem?_getD, h]
theorem bytesB : ∀ l : List UInt8, bytesOf (l.map encB) = some (l.map fun c => (c.toNat : Int))
  | [] => rfl
  | c :: l => by
    show (bytesOf (l.map encB)).map ((c.toNat : Int) :: ·) = _
    rw [bytesB l]; rfl
theorem strB (l : List UInt8) : strOf (l.map fun c => (c.toNat : Int)) = ⟨l.toArray⟩ := by
  unfold strOf
  congr 2
  rw [List.map_map]
  conv => rhs; rw [← List.map_id l]
  exact List.map_congr_left fun c _ => by simp
theorem browsB (s : ByteArray) : brows s = s.data.toList.map encB := rfl
/-- Bytes in words. -/
theorem shl_byte (c : UInt8) (n : Nat) : IntKind.u64.wrap ((c.toNat : Int) * 2 ^ n) = ((bl c <<< n).toNat : Int) := by
  rw [← bl_toNat]; exact shl_lane (bl c) n
theorem wrap8 (n : Nat) : IntKind.u8.wrap (n : Int) = ((n % 256 : Nat) : Int) := by
  simp [IntKind.wrap, IntKind.bits, IntKind.signed]
theorem or128 (c : UInt8) : IntKind.u8.wrap (((BitVec.ofInt IntKind.u8.bits (c.toNat : Int) ||| BitVec.ofInt IntKind.u8.bits 128).toNat : Nat) : Int) = ((c ||| 128).toNat : Int) := by
  have h1 : (BitVec.ofInt 8 (c.toNat : Int) : BitVec 8) = c.toBitVec := by
    rw [BitVec.ofInt_natCast]
    apply BitVec.eq_of_toNat_eq
    simp
  show IntKind.u8.wrap (((((BitVec.ofInt 8 (c.toNat : Int) : BitVec 8) ||| BitVec.ofInt 8 128).toNat : Nat)) : Int) = _
  rw [h1]
  have h2 : (c.toBitVec ||| BitVec.ofInt 8 128).toNat = (c ||| 128).toNat := rfl
  rw [h2]
  rw [wrap8, Nat.mod_eq_of_lt (c ||| 128).toNat_lt]
theorem conv_out (a : Nat → B64) (i : Nat) : IntKind.u8.wrap ((a (i / 8 * 5) >>> (8 * (i % 8))).toNat : Int) = ((outB a i).toNat : Int) := by
  simp [outB, IntKind.wrap, IntKind.bits, IntKind.signed]
end Go.Proofs.YtjbjgddfflbiaaaDoor

/- Contracts of the library, laid at this program. -/
namespace Go.Proofs
open Go Go.RowKit Go.Lib Go.Shelf
def Tryd.lays169_ren : Go.Shelf.Ren := ⟨fun | 169 => 24 | n => n, fun | 70 => 50 | 9 => 9 | 0 => 0 | 72 => 52 | 37 => 30 | 127 => 64 | 3 => 3 | 5 => 5 | n => n, fun | n => n⟩
theorem Tryd.lays169 : Go.Proofs.Lays.n169 Tryd.prog Tryd.lays169_ren := {
  mixed := by kernel_rfl
  f169 := Tryd.func24.trans (congrArg some (by kernel_rfl))
  t0 := Tryd.underlying0
  a0 := Tryd.isAgg0
  z0 := Tryd.sizeOf0
  v0 := Tryd.zeroValue0
  t3 := Tryd.underlying3
  a3 := Tryd.isAgg3
  z3 := Tryd.sizeOf3
  v3 := Tryd.zeroValue3
  t9 := Tryd.underlying9
  a9 := Tryd.isAgg9
  z9 := Tryd.sizeOf9
  v9 := Tryd.zeroValue9
  t37 := Tryd.underlying30
  a37 := Tryd.isAgg30
  z37 := Tryd.sizeOf30
  v37 := Tryd.zeroValue30
  t70 := Tryd.underlying50
  a70 := Tryd.isAgg50
  z70 := Tryd.sizeOf50
  v70 := Tryd.zeroValue50
  t72 := Tryd.underlying52
  a72 := Tryd.isAgg52
  z72 := Tryd.sizeOf52
  v72 := Tryd.zeroValue52
  t127 := Tryd.underlying64
  a127 := Tryd.isAgg64
  z127 := Tryd.sizeOf64
  v127 := Tryd.zeroValue64 }
theorem Tryd.Builder_Extra_169 : Builder.Extra Tryd.prog Tryd.lays169_ren := {
  sizeBuilder := by kernel_rfl
  liesBuilder := by kernel_rfl
  t5 := Tryd.underlying5
  a5 := Tryd.isAgg5
  z5 := Tryd.sizeOf5
  v5 := Tryd.zeroValue5
  infoByte := by kernel_rfl
  cellsByte := by kernel_rfl
  sizeByte := by kernel_rfl
  neB5 := by decide }
theorem Tryd.Builder_String_any (B b : Nat) (l : List UInt8) (w : World) (h : Lib.IsBuilder 52 5 B b (Lib.byteCells l) w) (hBw : B ≤ w.heap.size) :
    Calls Tryd.prog 24 #[.pointer (some ⟨b, 0, none⟩)] w fun e w' => e = .returned (.string ⟨l.toArray⟩) ∧ Below B w w' := Any.Builder_String_any Tryd.lays169 Tryd.Builder_Extra_169 B b l w h hBw
def Tryd.lays156_ren : Go.Shelf.Ren := ⟨fun | 156 => 17 | 165 => 25 | 166 => 26 | 169 => 24 | 240 => 32 | 241 => 33 | 276 => 34 | 277 => 35 | n => n, fun | 31 => 22 | 9 => 9 | 3 => 3 | 4 => 4 | 0 => 0 | 20 => 20 | 72 => 52 | 76 => 59 | 70 => 50 | 37 => 30 | 75 => 54 | 127 => 64 | 164 => 65 | 5 => 5 | 80 => 57 | n => n, fun | n => n⟩
theorem Tryd.lays156 : Go.Proofs.Lays.n156 Tryd.prog Tryd.lays156_ren := {
  mixed := by kernel_rfl
  f156 := Tryd.func17.trans (congrArg some (by kernel_rfl))
  f165 := Tryd.func25.trans (congrArg some (by kernel_rfl))
  f166 := Tryd.func26.trans (congrArg some (by kernel_rfl))
  f169 := Tryd.func24.trans (congrArg some (by kernel_rfl))
  f240 := Tryd.func32.trans (congrArg some (by kernel_rfl))
  f241 := Tryd.func33.trans (congrArg some (by kernel_rfl))
  f276 := Tryd.func34.trans (congrArg some (by kernel_rfl))
  f277 := Tryd.func35.trans (congrArg some (by kernel_rfl))
  t0 := Tryd.underlying0
  a0 := Tryd.isAgg0
  z0 := Tryd.sizeOf0
  v0 := Tryd.zeroValue0
  t3 := Tryd.underlying3
  a3 := Tryd.isAgg3
  z3 := Tryd.sizeOf3
  v3 := Tryd.zeroValue3
  t4 := Tryd.underlying4
  a4 := Tryd.isAgg4
  z4 := Tryd.sizeOf4
  v4 := Tryd.zeroValue4
  t9 := Tryd.underlying9
  a9 := Tryd.isAgg9
  z9 := Tryd.sizeOf9
  v9 := Tryd.zeroValue9
  t20 := Tryd.underlying20
  a20 := Tryd.isAgg20
  z20 := Tryd.sizeOf20
  v20 := Tryd.zeroValue20
  t31 := Tryd.underlying22
  a31 := Tryd.isAgg22
  z31 := Tryd.sizeOf22
  v31 := Tryd.zeroValue22
  t37 := Tryd.underlying30
  a37 := Tryd.isAgg30
  z37 := Tryd.sizeOf30
  v37 := Tryd.zeroValue30
  t70 := Tryd.underlying50
  a70 := Tryd.isAgg50
  z70 := Tryd.sizeOf50
  v70 := Tryd.zeroValue50
  t72 := Tryd.underlying52
  a72 := Tryd.isAgg52
  z72 := Tryd.sizeOf52
  v72 := Tryd.zeroValue52
  t75 := Tryd.underlying54
  a75 := Tryd.isAgg54
  z75 := Tryd.sizeOf54
  v75 := Tryd.zeroValue54
  t76 := Tryd.underlying59
  a76 := Tryd.isAgg59
  z76 := Tryd.sizeOf59
  v76 := Tryd.zeroValue59
  t127 := Tryd.underlying64
  a127 := Tryd.isAgg64
  z127 := Tryd.sizeOf64
  v127 := Tryd.zeroValue64
  t164 := Tryd.underlying65
  a164 := Tryd.isAgg65
  z164 := Tryd.sizeOf65
  v164 := Tryd.zeroValue65 }
theorem Tryd.Builder_Extra_156 : Builder.Extra Tryd.prog Tryd.lays156_ren := {
  sizeBuilder := by kernel_rfl
  liesBuilder := by kernel_rfl
  t5 := Tryd.underlying5
  a5 := Tryd.isAgg5
  z5 := Tryd.sizeOf5
  v5 := Tryd.zeroValue5
  infoByte := by kernel_rfl
  cellsByte := by kernel_rfl
  sizeByte := by kernel_rfl
  neB5 := by decide }
theorem Tryd.strings_Join_none (a : Option Addr) (c : Nat) (sep : ByteArray) (w : World) :
    Calls Tryd.prog 17 #[.slice a 0 c, .string sep] w fun e w' => e = .returned (.string ⟨#[]⟩) ∧ w' = w := Any.strings_Join_none Tryd.lays156 Tryd.Builder_Extra_156 a c sep w
theorem Tryd.strings_Join (bk o c : Nat) (xs : List ByteArray) (sep : ByteArray) (w : World) (hcells : ∀ (j : Nat) x, xs[j]? = some x → w.cell? ⟨bk, o + j, none⟩ = some (.string x)) (hbk : bk < w.heap.size) (hN : xs.length ≤ 140737488355328) (hcap : xs.length ≤ c) (hlen : (Lib.join (xs.map (·.data.toList)) sep.data.toList).length ≤ 140737488355328) :
    Calls Tryd.prog 17 #[.slice (some ⟨bk, o, none⟩) xs.length c, .string sep] w fun e w' => e = .returned (.string ⟨(Lib.join (xs.map (·.data.toList)) sep.data.toList).toArray⟩) ∧ Below w.heap.size w w' := Any.strings_Join Tryd.lays156 Tryd.Builder_Extra_156 bk o c xs sep w hcells hbk hN hcap hlen
def Tryd.lays167_ren : Go.Shelf.Ren := ⟨fun | 167 => 23 | 240 => 32 | 276 => 34 | n => n, fun | 0 => 0 | 4 => 4 | 5 => 5 | 9 => 9 | 20 => 20 | 37 => 30 | 70 => 50 | 72 => 52 | 75 => 54 | 80 => 57 | 164 => 65 | n => n, fun | n => n⟩
theorem Tryd.lays167 : Go.Proofs.Lays.n167 Tryd.prog Tryd.lays167_ren := {
  mixed := by kernel_rfl
  f167 := Tryd.func23.trans (congrArg some (by kernel_rfl))
  f240 := Tryd.func32.trans (congrArg some (by kernel_rfl))
  f276 := Tryd.func34.trans (congrArg some (by kernel_rfl))
  t0 := Tryd.underlying0
  a0 := Tryd.isAgg0
  z0 := Tryd.sizeOf0
  v0 := Tryd.zeroValue0
  t4 := Tryd.underlying4
  a4 := Tryd.isAgg4
  z4 := Tryd.sizeOf4
  v4 := Tryd.zeroValue4
  t5 := Tryd.underlying5
  a5 := Tryd.isAgg5
  z5 := Tryd.sizeOf5
  v5 := Tryd.zeroValue5
  t9 := Tryd.underlying9
  a9 := Tryd.isAgg9
  z9 := Tryd.sizeOf9
  v9 := Tryd.zeroValue9
  t20 := Tryd.underlying20
  a20 := Tryd.isAgg20
  z20 := Tryd.sizeOf20
  v20 := Tryd.zeroValue20
  t37 := Tryd.underlying30
  a37 := Tryd.isAgg30
  z37 := Tryd.sizeOf30
  v37 := Tryd.zeroValue30
  t70 := Tryd.underlying50
  a70 := Tryd.isAgg50
  z70 := Tryd.sizeOf50
  v70 := Tryd.zeroValue50
  t72 := Tryd.underlying52
  a72 := Tryd.isAgg52
  z72 := Tryd.sizeOf52
  v72 := Tryd.zeroValue52
  t75 := Tryd.underlying54
  a75 := Tryd.isAgg54
  z75 := Tryd.sizeOf54
  v75 := Tryd.zeroValue54
  t164 := Tryd.underlying65
  a164 := Tryd.isAgg65
  z164 := Tryd.sizeOf65
  v164 := Tryd.zeroValue65 }
theorem Tryd.Builder_Extra_167 : Builder.Extra Tryd.prog Tryd.lays167_ren := {
  sizeBuilder := by kernel_rfl
  liesBuilder := by kernel_rfl
  t5 := Tryd.underlying5
  a5 := Tryd.isAgg5
  z5 := Tryd.sizeOf5
  v5 := Tryd.zeroValue5
  infoByte := by kernel_rfl
  cellsByte := by kernel_rfl
  sizeByte := by kernel_rfl
  neB5 := by decide }
theorem Tryd.Builder_WriteByte (B b : Nat) (bs : List Value) (c : Int) (w : World) (h : Lib.IsBuilder 52 5 B b bs w) (hlen : bs.length + 1 ≤ 140737488355328) (hBw : B ≤ w.heap.size) :
    Calls Tryd.prog 23 #[.pointer (some ⟨b, 0, none⟩), .int .u8 c] w fun e w' => e = .returned .nilIface ∧ (Lib.BuilderAt 52 5 B b (.pointer (some ⟨b, 0, none⟩)) (bs ++ [.int .u8 c]) w' ∧ Below B w w') := Any.Builder_WriteByte Tryd.lays167 Tryd.Builder_Extra_167 B b bs c w h hlen hBw
end Go.Proofs

set_option linter.unusedVariables false
set_option linter.unusedSimpArgs false
set_option maxRecDepth 100000
set_option maxHeartbeats 16000000
namespace Go.Proofs.YtjbjgddfflbiaaaDoor
open Go Go.RowKit Am

abbrev encS (x : ByteArray) : List V := [.s (.string x)]
theorem encS_rows (v : List ByteArray) : (∀ r ∈ v.map encS, r.length = 1) = True := rows_map _ _ _ fun _ => rfl
theorem ev_glb (t : Nat → V) (g : Nat) : ev t (.global g) = .glb g := rfl
theorem pvG {plain : TypeId → Bool} {h : Hp} {t : Nat → V} : pval Tryd.prog plain h (ev t) (.load 45 (.global 0)) = some (.agg (lanes 24 wd)) := by
  show aload Tryd.prog h 45 (.glb 0) = _
  have hl : 24 ≤ (shaWords.map fun z => Value.int .u64 z).length := by simp [shaLen]
  unfold aload
  rw [ag45, sz45]
  simp only [gt0, if_true, if_pos hl, shaCells]
/-- The parts, one behind the other. -/
def cat (ps : List ByteArray) : ByteArray := ⟨(ps.flatMap fun p => p.data.toList).toArray⟩
theorem join_nil : ∀ xs : List (List UInt8), Lib.join xs [] = xs.flatten
  | [] => rfl
  | [x] => by simp [Lib.join, Lib.joinTail]
  | x :: y :: r => by
    have := join_nil (y :: r)
    simp [Lib.join, Lib.joinTail] at this ⊢
    exact this
theorem join_cat (ps : List ByteArray) : (⟨(Lib.join (ps.map (·.data.toList)) (ByteArray.mk #[]).data.toList).toArray⟩ : ByteArray) = cat ps := by
  show (⟨(Lib.join (ps.map (·.data.toList)) []).toArray⟩ : ByteArray) = _
  rw [join_nil, cat, List.flatMap_def]
theorem cat_len (ps : List ByteArray) : (Lib.join (ps.map (·.data.toList)) (ByteArray.mk #[]).data.toList).length = (cat ps).size := by
  show (Lib.join (ps.map (·.data.toList)) []).length = _
  rw [join_nil, cat, List.flatMap_def]
  rfl
def joinS : Fspec := fun _ ds r => ∃ ps : List ByteArray, ps.length ≤ 140737488355328 ∧ (cat ps).size ≤ 140737488355328 ∧ ds = [.sl (ps.map encS), .s (.string ⟨#[]⟩)] ∧ r = .s (.string (cat ps))
theorem join_sound : Sound Tryd.prog 17 joinS := by
  rintro c Φ ds r vals hc hok0 hX hΦ ⟨ps, hlen, hj, rfl, rfl⟩ ⟨hl, ha⟩
  have a0 := ha 0 (by simp)
  have a1 : vals.getD 1 Go.undef = .string ⟨#[]⟩ := (ha 1 (by simp)).s_eq.1
  have hv : ∀ x, vals.getD 0 Go.undef = x → vals = #[x, .string ⟨#[]⟩] := by
    intro x e0
    apply Array.ext
    · simpa using hl
    · intro i h1 h2
      have h3 : i < 2 := by simpa using h2
      have : i = 0 ∨ i = 1 := by omega
      rcases this with rfl | rfl
      · simpa [h1] using e0
      · simpa [h1] using a1
  have a0' : Rp c.fvals c.w0 c.ok0 noMu (.sl (ps.map encS)) (vals.getD 0 Go.undef) := a0
  generalize hx : vals.getD 0 Go.undef = x at a0'
  have hv2 := hv x hx
  cases a0' with
  | sl rows n cp size A g hn hcp hs hA hr =>
    have hnl : n = ps.length := by simpa using hn.symm
    by_cases h0 : n = 0
    · subst h0
      have hps : ps = [] := List.eq_nil_of_length_eq_zero hnl.symm
      subst hps
      rw [hv2]
      refine (Tryd.strings_Join_none A cp ⟨#[]⟩ c.w0).mono ?_
      rintro e w' ⟨rfl, rfl⟩
      exact ⟨_, rfl, Below.refl _ _, fun fv => .s _ rfl⟩
    · obtain ⟨ad, rfl, hk, hcell⟩ := hA h0
      have hsz : ∀ i, i < n → size = 1 := fun i hi => by
        have := hs (encS (ps[i]'(by omega))) (List.mem_map_of_mem (List.getElem_mem _))
        simpa using this.symm
      have hs1 := hsz 0 (by omega)
      subst hs1
      obtain ⟨bk, o, sp⟩ := ad
      have hsp : sp = none := by
        have := hcell 0 0 (by omega) (by omega)
        simp only [Nat.zero_mul, Nat.zero_add, Addr.add, if_pos] at this
        unfold World.cell? at this
        cases sp with
        | none => rfl
        | some q => split at this <;> simp at this
      subst hsp
      rw [hv2, hnl]
      refine (Tryd.strings_Join bk o cp ps ⟨#[]⟩ c.w0 (fun j q hq => ?_) (hok0 _ hk) hlen (by omega) (by rw [cat_len]; exact hj)).mono ?_
      · have hjl : j < ps.length := (List.getElem?_eq_some_iff.1 hq).1
        have h1 := hcell j 0 (by omega) (by omega)
        have h2 := hr j 0 (by omega) (by omega)
        have h3 : ((ps.map encS).getD j []).getD 0 .undef = .s (.string q) := by
          simp [List.getD_eq_getElem?_getD, List.getElem?_map, hq]
        rw [h3] at h2
        have h4 : g j 0 = .string q := (h2.R (fvals := c.fvals) (μ := noMu)).s_eq.1
        rw [h4] at h1
        rw [← h1, add_plain]
        simp
      · rintro e w' ⟨rfl, hb'⟩
        refine ⟨_, rfl, hb', fun fv => ?_⟩
        rw [join_cat]
        exact .s _ rfl
end Go.Proofs.YtjbjgddfflbiaaaDoor

set_option linter.unusedVariables false
set_option linter.unusedSimpArgs false
set_option maxRecDepth 100000
set_option maxHeartbeats 16000000
namespace Go.Proofs.YtjbjgddfflbiaaaDoor
open Go Go.RowKit Am

section
variable {E : Env} {ops : Array Oper} {o : Oper} {rest : List Oper} {Q : Exit → St → Prop} {t : Nat → V} {h : Hp} {n d : Nat}
theorem x_toB {T U e : TypeId} {x : Operand} {s : ByteArray} (ho : o.op = .convert T U x) (hg : o.guard = none) (hd : o.dst = some d) (hu1 : E.P.underlying T = some .string) (hu2 : E.P.underlying U = some (.slice e)) (he : E.P.underlying e = some (.int .u8)) (hx : ev t x = .s (.string s))
    (k : ∀ cap, s.size ≤ cap → WO E ops rest Q ⟨upd t d (.loc n 0 s.size cap), upd h n (some ⟨1, brows s ++ spare 1 (cap - s.size), true⟩), n + 1⟩) : WO E ops (o :: rest) Q ⟨t, h, n⟩ := by
  refine x_eff hg ⟨?_⟩
  rw [ho, hd]
  unfold aop
  have hB : toB E.P T U = true := by simp [toB, hu1, hu2]
  simp only [hB, if_true, atoBytes, hu1, hu2, hx]
  exact ⟨he, fun cap hcap => x_putS (k cap hcap)⟩
end
section
variable {E : Env} {ops : Array Oper} {o : Oper} {rest : List Oper} {Q : Exit → St → Prop} {t : Nat → V} {h : Hp} {n d : Nat}
theorem x_make {T e z b8 m m' : Nat} {l k : Operand} {zv : Value} (ho : o.op = .makeSlice T l k) (hg : o.guard = none) (hd : o.dst = some d) (hq : seqo E.P T = .slice e z b8) (hz : zro E.P e = some zv) (hl : asN (ev t l) = some m) (hk : asN (ev t k) = some m') (h1 : m ≤ m') (h2 : m' * b8 ≤ 281474976710656) (h3 : m' ≤ 281474976710656) (h4 : (cellsZ zv).length = z)
    (k : WO E ops rest Q ⟨upd t d (.loc n 0 m m'), upd h n (some ⟨z, List.replicate m' (cellsZ zv), true⟩), n + 1⟩) : WO E ops (o :: rest) Q ⟨t, h, n⟩ := by
  refine x_eff hg ⟨?_⟩
  rw [ho, hd]
  unfold aop amakeSlice
  simp only [hq, hz, hl, hk]
  exact ⟨h1, h2, h3, h4, x_putS k⟩
end
def outR (a : Nat → B64) (k : Nat) : List (List V) := (List.range 32).map fun i => if i < k then encB (outB a i) else encB 0
theorem outR_len (a : Nat → B64) (k : Nat) : (outR a k).length = 32 := by simp [outR]
theorem outR_zero (a : Nat → B64) : outR a 0 = List.replicate 32 (encB 0) := by
  rw [List.eq_replicate_iff]
  refine ⟨outR_len a 0, fun x hx => ?_⟩
  obtain ⟨i, _, rfl⟩ := List.mem_map.1 hx
  rw [if_neg (by omega)]
theorem outR_set (a : Nat → B64) {k : Nat} (h : k < 32) : (outR a k).set k (encB (outB a k)) = outR a (k + 1) := by
  apply List.ext_getElem?
  intro i
  by_cases hi : i < 32
  · have e1 : (outR a (k + 1))[i]? = some (if i < k + 1 then encB (outB a i) else encB 0) := by simp [outR, hi]
    have e2 : (outR a k)[i]? = some (if i < k then encB (outB a i) else encB 0) := by simp [outR, hi]
    rw [e1, List.getElem?_set]
    by_cases hk : k = i
    · subst hk
      rw [if_pos rfl, if_pos (by rw [outR_len]; exact hi), if_pos (by omega)]
    · rw [if_neg hk, e2]
      by_cases h2 : i < k
      · rw [if_pos h2, if_pos (by omega)]
      · rw [if_neg h2, if_neg (by omega)]
  · rw [List.getElem?_eq_none (by rw [List.length_set, outR_len]; omega), List.getElem?_eq_none (by rw [outR_len]; omega)]
theorem outR_get (a : Nat → B64) (k : Nat) {i : Nat} (h : i < 32) : (outR a k).getD i [] = (if i < k then encB (outB a i) else encB 0) := by simp [outR, List.getD_eq_getElem?_getD, h]
theorem outR_all (a : Nat → B64) : outR a 32 = (outL a).map encB := by
  rw [outR, outL, List.map_map]
  exact List.map_congr_left fun i hi => by rw [if_pos (by simpa using hi)]; rfl
theorem okRowB (c : UInt8) : okRows 1 [encB c] := okRows_map encB [c] 1 fun a => ⟨rfl, by simp [cellish]⟩
def sumS : Fspec := fun _ ds r => ∃ ps : List ByteArray, ps.length ≤ 1048576 ∧ (cat ps).size ≤ 1048576 ∧ ds = [.sl (ps.map encS)] ∧ r = .s (.string (digest (cat ps)))
def locLen : V → Nat
  | .loc _ _ l _ => l
  | _ => 0
def zr (s : ByteArray) (i : Nat) : List UInt8 := base s ++ List.replicate i 0
theorem zr_len (s : ByteArray) (i : Nat) : (zr s i).length = s.size + 1 + i := by simp [zr, base_len]
theorem zr_succ (s : ByteArray) (i : Nat) : zr s (i + 1) = zr s i ++ [0] := by simp [zr, List.replicate_succ']
theorem zr_all (s : ByteArray) : zr s (zs (s.size + 1)) = pad0 s := rfl
theorem zs_step {n i : Nat} (h : i < zs n) : zs (n + (i + 1)) < zs (n + i) := by unfold zs at *; omega
theorem sum_sound {plain : TypeId → Bool} {Γ : FuncId → Option Fspec} {Δ : FuncId → Option Pt} (hE : EnvOk ⟨Tryd.prog, plain, Γ, Δ, fun _ => none, 0⟩) (g_join : Γ 17 = some joinS) (g_turns : Γ 18 = some turnsS) (g_round : Γ 19 = some roundS) : Sound Tryd.prog 11 sumS := by
  refine sound_of_awp hE Tryd.func11 rfl (by kernel_rfl) ?_
  rintro Φ ds r ⟨ps, hp1, hp2, rfl, rfl⟩
  refine ⟨by simp [Tryd.f11], ?_⟩
  unfold st0
  refine W.out (E := ⟨Tryd.prog, plain, Γ, Δ, Φ, _⟩) ?_
  refine go trivial ?_
  refine x_callN rfl rfl rfl rfl (sv trivial) g_join (sv trivial) (se trivial) ⟨ps, by omega, by omega, rfl, rfl⟩ rfl ?_
  generalize cat ps = s at *
  refine go trivial ?_
  refine x_toB (s := s) rfl rfl rfl Tryd.underlying9 Tryd.underlying30 Tryd.underlying5 (sc trivial) (fun cap0 hcap0 => ?_)
  rw [browsB]
  have hsl : s.data.toList.length = s.size := rfl
  refine go trivial ?_
  refine x_appendO rfl rfl rfl rfl rfl rfl (sv @browsB) (by decide) (sc @browsB) (sv @browsB) (sx @browsB) (by first | rfl | (simp; done) | (simp [spare_len]; omega)) (by first | omega | (simp; done) | (simp [spare_len]; omega)) (by first | omega | (simp; done) | (simp [spare_len]; omega)) (sx @browsB) (okRowB 6) (by first | omega | (simp; done) | (simp [spare_len]; omega)) (fun cap' hcap' => ?_)
  refine go trivial ?_
  have z0 : (zr s 0).map encB = s.data.toList.map encB ++ [encB 6] := by simp [zr, base]
  have hcap1 : s.size + 1 ≤ cap' := by simpa using hcap'
  have hzb : zs (s.size + 1) < 136 := by unfold zs; omega
  have hs0 : cap' ≤ s.size + 1 + (spare 1 (cap' - (s.size + 1))).length := by rw [spare_len]; omega
  refine x_loop (fun σ => ∃ (i : Nat) (b : Nat) (cap : Nat) (sp : List (List Am.V)), σ.t 3 = .loc b 0 (s.size + 1 + i) cap ∧ σ.h b = some ⟨1, (zr s i).map encB ++ sp, true⟩ ∧ b < σ.n ∧ i ≤ zs (s.size + 1) ∧ s.size + 1 + i ≤ cap ∧ cap ≤ s.size + 1 + i + sp.length) (fun σ => zs (locLen (σ.t 3))) ⟨0, 2, _, spare 1 (cap' - (s.size + 1)), (by first | assumption | exact sxa trivial), (by first | assumption | exact sxa trivial), (by first | omega | (dsimp only; omega) | exact soa trivial | omega | (simp; done)), (by first | rfl | omega | assumption | (simp [*]; done)), (by first | rfl | omega | assumption | (simp [*]; done)), (by first | rfl | omega | assumption | (simp [*]; done))⟩ ?_
  rintro t h n ⟨i, b, cap, sp, h3, hhb, hn1, hf0, hf1, hf2⟩
  simp only at h3 hhb hn1
  have hzl := zr_len s i
  have zm : ((s.size + 1 + i : Nat) : Int).tmod 136 = (((s.size + 1 + i) % 136 : Nat) : Int) := rfl
  by_cases hiz : ¬ i = zs (s.size + 1)
  · have hi : i < zs (s.size + 1) := by omega
    have hz1 : ((((s.size + 1 + i) % 136 : Nat) : Int) != 0) = true := by
      have := mt (zs_iff hf0).1 hiz
      simp only [bne_iff_ne, ne_eq]
      omega
    have e1 : (b = n) = False := by simp; omega
    have e2 : (b = n + 1) = False := by simp; omega
    have e3 : (n = b) = False := by simp; omega
    have e4 : (n + 1 = b) = False := by simp; omega
    have hs : zs (s.size + 1 + i + 1) < zs (s.size + 1 + i) := zs_step (n := s.size + 1) (i := i) hi
    have hzs := zr_succ s i
    have hm2 : (zr s (i + 1)).map encB = (zr s i).map encB ++ [encB 0] := by rw [hzs]; simp
    clear hzs
    refine go (And.intro h3 (And.intro zm (And.intro hz1 (And.intro hhb (And.intro e1 (And.intro e2 (And.intro e3 e4))))))) ?_
    refine x_appendO rfl rfl rfl rfl rfl rfl (sv (And.intro h3 (And.intro hhb (And.intro hzl (And.intro e1 (And.intro e2 (And.intro e3 e4))))))) (by decide) (sc (And.intro h3 (And.intro hhb (And.intro hzl (And.intro e1 (And.intro e2 (And.intro e3 e4))))))) (sv (And.intro h3 (And.intro hhb (And.intro hzl (And.intro e1 (And.intro e2 (And.intro e3 e4))))))) (sx (And.intro h3 (And.intro hhb (And.intro hzl (And.intro e1 (And.intro e2 (And.intro e3 e4))))))) (by first | rfl | (simp; done) | (simp [spare_len]; omega)) (by first | omega | (simp; done) | (simp [spare_len]; omega)) (by first | omega | (simp; done) | (simp [spare_len]; omega)) (sx (And.intro h3 (And.intro hhb (And.intro hzl (And.intro e1 (And.intro e2 (And.intro e3 e4))))))) (okRowB 0) (by first | omega | (simp; done) | (simp [spare_len]; omega)) (fun cap' hcap' => ?_)
    refine go (And.intro h3 (And.intro hhb (And.intro e1 (And.intro e2 (And.intro e3 e4))))) ?_
    have hc2 : s.size + 1 + i + 1 ≤ cap' := hcap'
    have hadd : s.size + 1 + (i + 1) = s.size + 1 + i + 1 := rfl
    (refine ⟨⟨i + 1, n + 1, cap', spare 1 (cap' - (s.size + 1 + i + 1)), ?_, ?_, ?_, ?_, ?_, ?_⟩, ?_⟩ <;> (first | omega | (dsimp only; omega) | ((simp only [spare_len, upd_same, h3, locLen]; omega)) | exact sxa (And.intro @cast_succ (And.intro hm2 (And.intro hadd (And.intro e1 (And.intro e2 (And.intro e3 e4)))))) | exact soa trivial))
  · have hiz := Classical.not_not.1 hiz
    subst hiz
    rw [zr_all] at hhb
    rw [← pad0_len] at h3 hf1 hf2 zm
    have hpm := pad_mod s
    have hz1 : ((((pad0 s).length % 136 : Nat) : Int) != 0) = false := by rw [hpm]; rfl
    have hpl : 0 < (pad0 s).length := by rw [pad0_len]; omega
    have hple := pad_le s
    have hpad : (pad0 s).set ((pad0 s).length - 1) ((pad0 s).getD ((pad0 s).length - 1) 0 ||| 128) = pad s := rfl
    have hpadl : (pad s).length = (pad0 s).length := pad_len s
    clear hzl z0
    generalize hP : pad0 s = P at *
    generalize hQ : pad s = Qd at *
    have hj : P.length - 1 < P.length := by omega
    have g1 := rowB_get (l := P) (sp := sp) hj
    have g2 := or128 (P.getD (P.length - 1) 0)
    have g3 := rowB_set (l := P) (sp := sp) (P.getD (P.length - 1) 0 ||| 128) hj
    rw [hpad] at g3
    have z1 : (P.length : Int) - 1 = ((P.length - 1 : Nat) : Int) := by omega
    have ln : (P.map encB ++ sp).length = P.length + sp.length := by simp
    obtain ⟨m, hm⟩ : ∃ m, P.length = 136 * m := ⟨P.length / 136, by omega⟩
    have hQm : Qd.length / 136 = m := by omega
    have ca := arr_ce (N := 25) (g := fun i => (.s (.int .i64 (rotC i : Nat)) : V)) fun i => rfl
    simp only [cellish] at ca
    have cb := arr_dropN (N := 25) (g := fun i => (.s (.int .i64 ((fun _ => 0 : Nat → Nat) i : Nat)) : V))
    have ez : ∀ q : Nat, b < q → (b = q) = False ∧ (q = b) = False := fun q hq => ⟨by simp; omega, by simp; omega⟩
    obtain ⟨e1, e2⟩ := ez n (by omega)
    obtain ⟨e3, e4⟩ := ez (n + 1) (by omega)
    have e5 : (n + 1 = n) = False := by simp
    have e6 : (n = n + 1) = False := by simp
    skip
    have hjl : P.length - 1 < P.length + sp.length := by omega
    refine go (And.intro h3 (And.intro hhb (And.intro zm (And.intro hz1 (And.intro z1 (And.intro g1 (And.intro g2 (And.intro g3 (And.intro ln (And.intro hjl @arr_len)))))))))) ?_
    refine x_callN rfl rfl rfl rfl (sv trivial) g_turns (sv trivial) (se trivial) ⟨rfl, rfl⟩ rfl ?_
    refine go (And.intro h3 (And.intro hhb (And.intro ca (And.intro cb (And.intro e1 (And.intro e2 (And.intro e3 (And.intro e4 (And.intro e5 (And.intro e6 @arr_len)))))))))) ?_
    generalize hdd : n + 1 = d at *
    refine x_loop (fun σ => ∃ (j : Nat), σ.t 3 = .loc b (136 * j) (136 * (m - j)) (cap - 136 * j) ∧ σ.t 4 = .ptr n 0 0 ∧ σ.t 5 = .ptr d 0 0 ∧ σ.h b = some ⟨1, Qd.map encB ++ sp, true⟩ ∧ σ.h n = some ⟨25, [lanes 25 (spg Qd j)], true⟩ ∧ σ.h d = some ⟨25, [turnsV rotC], true⟩ ∧ n < σ.n ∧ j ≤ m) (fun σ => locLen (σ.t 3)) ⟨0, (by first | assumption | exact sxa trivial), (by first | assumption | exact sxa trivial), (by first | assumption | exact sxa trivial), (by first | assumption | exact sxa trivial), (by first | assumption | exact sxa trivial), (by first | assumption | exact sxa trivial), (by first | omega | (dsimp only; omega) | exact soa trivial | omega | (simp; done)), (by first | rfl | omega | assumption | (simp [*]; done))⟩ ?_
    rintro t2 h2 n2 ⟨j, h3, h4, h5, hhb, hhn, hhd, hn7, hf0⟩
    simp only at h3 h4 h5 hhb hhn hhd hn7
    have h3o := h3
    refine go (And.intro h3 (And.intro h4 h5)) ?_
    refine x_condP (sv (And.intro h3 (And.intro h4 h5))) (fun hc => ?_) (fun hc => ?_)
    · have hj : j < m := by omega
      have hnext : spg Qd (j + 1) = rds (absK (fun i => Qd.getD (136 * j + i) 0) (spg Qd j) 136) 24 := rfl
      generalize spg Qd j = a at *
      generalize hblk : (fun i => Qd.getD (136 * j + i) 0) = blk at *
      refine go (And.intro h3 (And.intro h4 h5)) ?_
      refine x_loop (fun σ => ∃ (k : Nat), σ.t 3 = .loc b (136 * j) (136 * (m - j)) (cap - 136 * j) ∧ σ.t 4 = .ptr n 0 0 ∧ σ.t 5 = .ptr d 0 0 ∧ σ.t 38 = .s (.int .i64 k) ∧ σ.h b = some ⟨1, Qd.map encB ++ sp, true⟩ ∧ σ.h n = some ⟨25, [lanes 25 (absK blk a k)], true⟩ ∧ σ.h d = some ⟨25, [turnsV rotC], true⟩ ∧ n < σ.n ∧ k ≤ 136) (fun σ => 136 - ix (σ.t 38)) ⟨0, (by first | assumption | exact sxa trivial), (by first | assumption | exact sxa trivial), (by first | assumption | exact sxa trivial), (by first | assumption | exact sxa trivial), (by first | assumption | exact sxa trivial), (by first | assumption | exact sxa trivial), (by first | assumption | exact sxa trivial), (by first | omega | (dsimp only; omega) | exact soa trivial | omega | (simp; done)), (by first | rfl | omega | assumption | (simp [*]; done))⟩ ?_
      rintro t3 g3 n3 ⟨k, h3, h4, h5, h38, hhb, hhn, hhd, hn7, hf0⟩
      simp only at h3 h4 h5 h38 hhb hhn hhd hn7
      refine go (And.intro h3 (And.intro h4 (And.intro h5 h38))) ?_
      refine x_condP (sv (And.intro h3 (And.intro h4 (And.intro h5 h38)))) (fun hc => ?_) (fun hc => ?_)
      · have hk : k < 136 := by omega
        have hbk : Qd.getD (136 * j + k) 0 = blk k := by rw [← hblk]
        have hQl : 136 * j + k < Qd.length := by omega
        have q0 := rowB_get (l := Qd) (sp := sp) hQl
        rw [hbk] at q0
        have hcl := (blk k).toNat_lt
        have ln2 : (Qd.map encB ++ sp).length = Qd.length + sp.length := by simp
        have hQl2 : 136 * j + k < Qd.length + sp.length := by omega
        have hil : k < 136 * (m - j) := by omega
        have z1 : (k : Int).tdiv 8 = ((k / 8 : Nat) : Int) := rfl
        have z2 : ((k / 8 : Nat) : Int).tmod 5 = ((k / 8 % 5 : Nat) : Int) := rfl
        have z3 : ((k / 8 : Nat) : Int).tdiv 5 = ((k / 8 / 5 : Nat) : Int) := rfl
        have z4 : (k : Int).tmod 8 = ((k % 8 : Nat) : Int) := rfl
        have z5 : (8 : Int) * ((k % 8 : Nat) : Int) = ((8 * (k % 8) : Nat) : Int) := by omega
        have hj1 : k / 8 % 5 < 5 := by omega
        have hj2 : k / 8 / 5 < 5 := by omega
        have hj3 : k / 8 % 5 * 5 + k / 8 / 5 < 25 := by omega
        have hj4 : k / 8 % 5 * 5 + k / 8 / 5 ≤ 24 := by omega
        have hmn := min64 (show 8 * (k % 8) ≤ 64 by omega)
        have hsb := shl_byte (blk k) (8 * (k % 8))
        have g1 := arr_get (g := fun i => lane (absK blk a k i)) hj3
        have q1 := xor_lane (absK blk a k (k / 8 % 5 * 5 + k / 8 / 5)) (bl (blk k) <<< (8 * (k % 8)))
        have hst := lanes_set (f := absK blk a k) (absK blk a k (k / 8 % 5 * 5 + k / 8 / 5) ^^^ (bl (blk k) <<< (8 * (k % 8)))) hj3
        rw [show upd (absK blk a k) (k / 8 % 5 * 5 + k / 8 / 5) (absK blk a k (k / 8 % 5 * 5 + k / 8 / 5) ^^^ (bl (blk k) <<< (8 * (k % 8)))) = absK blk a (k + 1) from rfl] at hst
        refine go (And.intro h3 (And.intro h4 (And.intro h5 (And.intro h38 (And.intro hhb (And.intro hhn (And.intro q0 (And.intro ln2 (And.intro hQl2 (And.intro hil (And.intro z1 (And.intro z2 (And.intro z3 (And.intro z4 (And.intro z5 (And.intro hj4 (And.intro hmn (And.intro @ash_shl (And.intro hsb (And.intro g1 (And.intro q1 (And.intro hst (And.intro e1 (And.intro e2 (And.intro e3 (And.intro e4 (And.intro e5 (And.intro e6 @arr_len)))))))))))))))))))))))))))) ?_
        (refine ⟨⟨k + 1, ?_, ?_, ?_, ?_, ?_, ?_, ?_, ?_, ?_⟩, ?_⟩ <;> (first | omega | (dsimp only; omega) | (omega) | exact sxa (And.intro @cast_succ (And.intro hst (And.intro e1 (And.intro e2 (And.intro e3 (And.intro e4 (And.intro e5 e6))))))) | exact soa trivial))
      · have ek : k = 136 := by omega
        subst ek
        skip
        generalize hA : absK blk a 136 = A at *
        refine go (And.intro h3 (And.intro h4 h5)) ?_
        refine x_ops ?_
        refine x_op rfl rfl rfl pvG ?_
        refine go (And.intro h3 (And.intro h4 h5)) ?_
        have r0 : rds A 0 = A := rfl
        refine x_loop (fun σ => ∃ (k : Nat), σ.t 3 = .loc b (136 * j) (136 * (m - j)) (cap - 136 * j) ∧ σ.t 4 = .ptr n 0 0 ∧ σ.t 5 = .ptr d 0 0 ∧ σ.t 63 = .agg (lanes 24 wd) ∧ σ.t 64 = .s (.int .i64 k) ∧ σ.h b = some ⟨1, Qd.map encB ++ sp, true⟩ ∧ σ.h n = some ⟨25, [lanes 25 (rds A k)], true⟩ ∧ σ.h d = some ⟨25, [turnsV rotC], true⟩ ∧ n < σ.n ∧ k ≤ 24) (fun σ => 24 - ix (σ.t 64)) ⟨0, (by first | assumption | exact sxa trivial), (by first | assumption | exact sxa trivial), (by first | assumption | exact sxa trivial), (by first | assumption | exact sxa trivial), (by first | assumption | exact sxa trivial), (by first | assumption | exact sxa trivial), (by first | assumption | exact sxa trivial), (by first | assumption | exact sxa trivial), (by first | omega | (dsimp only; omega) | exact soa trivial | omega | (simp; done)), (by first | rfl | omega | assumption | (simp [*]; done))⟩ ?_
        rintro t4 g4 n4 ⟨k, h3, h4, h5, h63, h64, hhb, hhn, hhd, hn7, hf0⟩
        simp only at h3 h4 h5 h63 h64 hhb hhn hhd hn7
        refine go (And.intro h3 (And.intro h4 (And.intro h5 (And.intro h63 h64)))) ?_
        refine x_condP (sv (And.intro h3 (And.intro h4 (And.intro h5 (And.intro h63 h64))))) (fun hc => ?_) (fun hc => ?_)
        · have hk : k < 24 := by omega
          have g1 := arr_get (g := fun i => lane (wd i)) hk
          have hx1 : ∀ hp d, allO (expo hp d) (lanes 25 (rds A k)) = some (lanes 25 (rds A k)) := fun hp d => arr_expo fun _ => rfl
          have hx2 : ∀ hp d, allO (expo hp d) (turnsV rotC) = some (turnsV rotC) := fun hp d => arr_expo fun _ => rfl
          have hrd : roundF (rds A k) rotC (wd k) = rds A (k + 1) := rfl
          have t1 := arr_take (N := 25) (g := fun i => lane (rds A k i))
          have t2 := arr_take (N := 25) (g := fun i => (.s (.int .i64 (rotC i : Nat)) : V))
          refine go (And.intro h3 (And.intro h4 (And.intro h5 (And.intro h63 (And.intro h64 (And.intro hhn (And.intro hhd (And.intro g1 (And.intro t1 (And.intro t2 (And.intro e1 (And.intro e2 (And.intro e3 (And.intro e4 (And.intro e5 (And.intro e6 @arr_len)))))))))))))))) ?_
          refine x_callN rfl rfl rfl rfl (sv (And.intro hx1 hx2)) g_round (sv (And.intro hx1 hx2)) (se (And.intro hx1 hx2)) ⟨rds A k, rotC, wd k, rotC_lt, rfl, rfl⟩ rfl ?_
          rw [hrd]
          have hc1 := arr_ce (N := 25) (g := fun i => lane (rds A (k + 1) i)) fun i => rfl
          simp only [cellish] at hc1
          have hc2 := arr_dropN (N := 25) (g := fun i => lane (rds A k i))
          refine go (And.intro h3 (And.intro h4 (And.intro h5 (And.intro h63 (And.intro h64 (And.intro hhn (And.intro hhd (And.intro hc1 (And.intro hc2 (And.intro e1 (And.intro e2 (And.intro e3 (And.intro e4 (And.intro e5 (And.intro e6 @arr_len))))))))))))))) ?_
          (refine ⟨⟨k + 1, ?_, ?_, ?_, ?_, ?_, ?_, ?_, ?_, ?_, ?_⟩, ?_⟩ <;> (first | omega | (dsimp only; omega) | (omega) | exact sxa (And.intro @cast_succ (And.intro hc2 (And.intro e1 (And.intro e2 (And.intro e3 (And.intro e4 (And.intro e5 e6))))))) | exact soa trivial))
        · have ek : k = 24 := by omega
          subst ek
          rw [← hnext] at hhn
          skip
          refine go (And.intro h3 (And.intro h4 h5)) ?_
          have w1 : 136 * (j + 1) = 136 * j + 136 := by omega
          have w2 : 136 * (m - (j + 1)) = 136 * (m - j) - 136 := by omega
          have w3 : cap - 136 * (j + 1) = cap - 136 * j - 136 := by omega
          have c1 : 136 ≤ 136 * (m - j) := by omega
          have c2 : 136 * (m - j) ≤ cap - 136 * j := by omega
          refine go (And.intro h3 (And.intro h4 (And.intro h5 (And.intro hhb (And.intro c1 c2))))) ?_
          clear hnext
          have hmj : 136 * (m - j) - 136 < 136 * (m - j) := by omega
          (refine ⟨⟨j + 1, ?_, ?_, ?_, ?_, ?_, ?_, ?_, ?_⟩, ?_⟩ <;> (first | omega | (dsimp only; omega) | ((simp only [upd_same, h3, h3o, locLen]; omega)) | exact sxa (And.intro @cast_succ (And.intro w1 (And.intro w2 (And.intro w3 (And.intro h3 (And.intro h4 h5)))))) | exact soa trivial))
    · have ej : j = m := by omega
      subst ej
      skip
      have hdig : digest s = ⟨(outL (spg Qd j)).toArray⟩ := by rw [digest, hQ, hQm]
      generalize spg Qd j = a at *
      refine go (And.intro h3 (And.intro h4 h5)) ?_
      refine x_make (e := 5) (z := 1) (b8 := 1) (zv := .int .u8 0) rfl rfl rfl (sc trivial) (sc trivial) (m := 32) (m' := 32) rfl rfl (by decide) (by decide) (by decide) rfl ?_
      have e7 : (n = n2) = False := by simp; omega
      have e8 : (n2 = n) = False := by simp; omega
      have hz0 := outR_zero a
      refine go (And.intro h3 (And.intro h4 h5)) ?_
      refine x_loop (fun σ => ∃ (k : Nat), σ.t 4 = .ptr n 0 0 ∧ σ.t 9 = .loc n2 0 32 32 ∧ σ.t 74 = .s (.int .i64 32) ∧ σ.t 75 = .s (.int .i64 k) ∧ σ.h n = some ⟨25, [lanes 25 a], true⟩ ∧ σ.h n2 = some ⟨1, outR a k, true⟩ ∧ k ≤ 32) (fun σ => 32 - ix (σ.t 75)) ⟨0, (by first | assumption | exact sxa trivial), (by first | assumption | exact sxa trivial), (by first | assumption | exact sxa trivial), (by first | assumption | exact sxa trivial), (by first | assumption | exact sxa trivial), (by first | assumption | exact sxa trivial), (by first | rfl | omega | assumption | (simp [*]; done))⟩ ?_
      rintro t3 h3 n3 ⟨k, h4, h9, h74, h75, hhn, hhn2, hf0⟩
      simp only at h4 h9 h74 h75 hhn hhn2
      refine go (And.intro h4 (And.intro h9 (And.intro h74 h75))) ?_
      refine x_condP (sv (And.intro h4 (And.intro h9 (And.intro h74 h75)))) (fun hc => ?_) (fun hc => ?_)
      · have hk : k < 32 := by omega
        have z1 : (k : Int).tdiv 8 = ((k / 8 : Nat) : Int) := rfl
        have z4 : (k : Int).tmod 8 = ((k % 8 : Nat) : Int) := rfl
        have z5 : (8 : Int) * ((k % 8 : Nat) : Int) = ((8 * (k % 8) : Nat) : Int) := by omega
        have hj1 : k / 8 < 5 := by omega
        have hj3 : k / 8 * 5 < 25 := by omega
        have hj4 : k / 8 * 5 ≤ 24 := by omega
        have hmn := min64 (show 8 * (k % 8) ≤ 64 by omega)
        have hsr := shr_lane (a (k / 8 * 5)) (8 * (k % 8))
        have hcv := conv_out a k
        have g1 := arr_get (g := fun i => lane (a i)) hj3
        have hst := outR_set a hk
        have hol := outR_len a k
        have hog := outR_get a k hk
        rw [if_neg (Nat.lt_irrefl k)] at hog
        refine go (And.intro h4 (And.intro h9 (And.intro h74 (And.intro h75 (And.intro hhn (And.intro hhn2 (And.intro e7 (And.intro e8 (And.intro z1 (And.intro z4 (And.intro z5 (And.intro hj4 (And.intro hmn (And.intro @ash_shr (And.intro hsr (And.intro hcv (And.intro g1 (And.intro hst (And.intro hol (And.intro hog (And.intro hk @arr_len))))))))))))))))))))) ?_
        (refine ⟨⟨k + 1, ?_, ?_, ?_, ?_, ?_, ?_, ?_⟩, ?_⟩ <;> (first | omega | (dsimp only; omega) | (omega) | exact sxa (And.intro @cast_succ (And.intro hst (And.intro hog (And.intro hol (And.intro e7 e8))))) | exact soa trivial))
      · have ek : k = 32 := by omega
        subst ek
        rw [outR_all] at hhn2
        have tk : ((outL a).map encB).take 32 = (outL a).map encB := List.take_of_length_le (by simp [outL])
        have ln : ((outL a).map encB).length = 32 := by simp [outL]
        have b1 := bytesB (outL a)
        have b2 := strB (outL a)
        refine go (And.intro h4 (And.intro h9 (And.intro hhn2 (And.intro tk (And.intro ln (And.intro b1 b2)))))) ?_
        refine x_done (x_out (sr (And.intro @Tryd.f11.eq_1 hdig)) (by simp) (by simp) rfl)
end Go.Proofs.YtjbjgddfflbiaaaDoor

set_option linter.unusedVariables false
set_option linter.unusedSimpArgs false
set_option maxRecDepth 100000
set_option maxHeartbeats 16000000
namespace Go.Proofs.YtjbjgddfflbiaaaDoor
open Go Go.RowKit Am

/-- The reference takes a word at once. -/
def wrd (blk : Nat → UInt8) (k : Nat) : Nat → B64
  | 0 => 0
  | j + 1 => wrd blk k j * (256 : B64) + bl (blk (8 * k + (7 - j)))
def absR (blk : Nat → UInt8) (a : Nat → B64) : Nat → Nat → B64
  | 0 => a
  | k + 1 => upd (absR blk a k) (k % 5 * 5 + k / 5) (absR blk a k (k % 5 * 5 + k / 5) ^^^ wrd blk k 8)
/-- Bytes of a word, from the front. -/
def xs (blk : Nat → UInt8) (k : Nat) : Nat → B64
  | 0 => 0
  | j + 1 => xs blk k j ^^^ (bl (blk (8 * k + j)) <<< (8 * j))
theorem absK_part (blk : Nat → UInt8) (a : Nat → B64) (k : Nat) : ∀ j, j ≤ 8 → absK blk a (8 * k + j) = upd (absK blk a (8 * k)) (k % 5 * 5 + k / 5) (absK blk a (8 * k) (k % 5 * 5 + k / 5) ^^^ xs blk k j)
  | 0, _ => by
    funext i
    unfold upd xs
    split
    · rename_i h; rw [h]; simp
    · rfl
  | j + 1, h => by
    have ih := absK_part blk a k j (by omega)
    show absK blk a (8 * k + j + 1) = _
    rw [absK, ih]
    have e1 : (8 * k + j) / 8 = k := by omega
    have e2 : (8 * k + j) % 8 = j := by omega
    rw [e1, e2]
    funext i
    unfold upd
    by_cases hi : i = k % 5 * 5 + k / 5
    · rw [if_pos hi, if_pos hi, if_pos rfl, xs, BitVec.xor_assoc]
    · rw [if_neg hi, if_neg hi, if_neg hi]
/-- Horner. -/
theorem mul256 (x : B64) (c : UInt8) : x * (256 : B64) + bl c = (x <<< 8) ^^^ bl c := by
  have h1 : x * (256 : B64) = x <<< 8 := by
    apply BitVec.eq_of_toNat_eq
    simp [BitVec.toNat_mul, BitVec.toNat_shiftLeft, Nat.shiftLeft_eq]
  have h2 : (x <<< 8) &&& bl c = 0#64 := by
    apply BitVec.eq_of_getLsbD_eq
    intro i hi
    simp only [BitVec.getLsbD_and, BitVec.getLsbD_shiftLeft, BitVec.getLsbD_zero]
    by_cases h : i < 8
    · simp [h]
    · have h3 : (bl c).getLsbD i = false := by
        rw [← BitVec.testBit_toNat, bl_toNat]
        exact Nat.testBit_lt_two_pow (Nat.lt_of_lt_of_le c.toNat_lt (Nat.pow_le_pow_right (by omega) (show 8 ≤ i by omega)))
      simp [h3]
  rw [h1, BitVec.add_eq_or_of_and_eq_zero _ _ h2]
  apply BitVec.eq_of_getLsbD_eq
  intro i hi
  have h4 : ((x <<< 8) &&& bl c).getLsbD i = false := by rw [h2]; simp
  rw [BitVec.getLsbD_and] at h4
  rw [BitVec.getLsbD_or, BitVec.getLsbD_xor]
  revert h4
  cases (x <<< 8).getLsbD i <;> cases (bl c).getLsbD i <;> simp
def xr (blk : Nat → UInt8) (k : Nat) : Nat → B64
  | 0 => 0
  | j + 1 => (xr blk k j <<< 8) ^^^ bl (blk (8 * k + (7 - j)))
theorem wrd_xr (blk : Nat → UInt8) (k : Nat) : ∀ j, wrd blk k j = xr blk k j
  | 0 => rfl
  | j + 1 => by rw [wrd, mul256, wrd_xr blk k j, xr]
theorem wrd_xs (blk : Nat → UInt8) (k : Nat) : wrd blk k 8 = xs blk k 8 := by
  rw [wrd_xr]
  simp only [xr, xs, BitVec.shiftLeft_xor_distrib, ← BitVec.shiftLeft_add]
  simp only [BitVec.zero_xor, BitVec.shiftLeft_zero, Nat.reduceAdd, Nat.reduceMul, Nat.reduceSub, Nat.mul_zero, Nat.sub_self, Nat.sub_zero]
  have h0 : (0 : B64) <<< 64 = 0 := by simp
  rw [h0]
  have rev : ∀ z b0 b1 b2 b3 b4 b5 b6 b7 : B64, z ^^^ b7 ^^^ b6 ^^^ b5 ^^^ b4 ^^^ b3 ^^^ b2 ^^^ b1 ^^^ b0 = z ^^^ b0 ^^^ b1 ^^^ b2 ^^^ b3 ^^^ b4 ^^^ b5 ^^^ b6 ^^^ b7 := fun z b0 b1 b2 b3 b4 b5 b6 b7 => by ac_rfl
  exact rev _ _ _ _ _ _ _ _ _
theorem absR_eq (blk : Nat → UInt8) (a : Nat → B64) : ∀ k, absR blk a k = absK blk a (8 * k)
  | 0 => rfl
  | k + 1 => by
    have h := absK_part blk a k 8 (by omega)
    rw [show 8 * (k + 1) = 8 * k + 8 by omega, h, absR, absR_eq blk a k, wrd_xs]
theorem spg_abs (l : List UInt8) (j : Nat) : spg l (j + 1) = rds (absR (fun i => l.getD (136 * j + i) 0) (spg l j) 17) 24 := by rw [spg, absR_eq]
end Go.Proofs.YtjbjgddfflbiaaaDoor

set_option linter.unusedVariables false
set_option linter.unusedSimpArgs false
set_option maxRecDepth 100000
set_option maxHeartbeats 16000000
namespace Go.Proofs.YtjbjgddfflbiaaaDoor
open Go Go.RowKit Am

def rwordsS : Fspec := fun _ ds r => ds = [] ∧ r = .sl ((List.range 24).map fun k => [lane (wd k)])
theorem rwords_sound {plain : TypeId → Bool} {Γ : FuncId → Option Fspec} {Δ : FuncId → Option Pt} (hE : EnvOk ⟨Tryd.prog, plain, Γ, Δ, fun _ => none, 0⟩) : Sound Tryd.prog 21 rwordsS := by
  refine sound_of_awp hE Tryd.func21 rfl (by kernel_rfl) ?_
  rintro Φ ds r ⟨rfl, rfl⟩
  refine ⟨by simp [Tryd.f21], ?_⟩
  unfold st0
  refine W.out (E := ⟨Tryd.prog, plain, Γ, Δ, Φ, _⟩) ?_
  have hsr := shaRows
  rw [← hsr]
  clear hsr
  refine go trivial ?_
  refine x_done (x_outV (sr @Tryd.f21.eq_1) (by simp) (by simp) rfl)
end Go.Proofs.YtjbjgddfflbiaaaDoor

set_option linter.unusedVariables false
set_option linter.unusedSimpArgs false
set_option maxRecDepth 100000
set_option maxHeartbeats 16000000
namespace Go.Proofs.YtjbjgddfflbiaaaDoor
open Go Go.RowKit Am

theorem mul_lane (x : B64) : IntKind.u64.wrap ((x.toNat : Int) * 256) = ((x * (256 : B64)).toNat : Int) := by
  have : (x.toNat : Int) * 256 = ((x.toNat * 256 : Nat) : Int) := by simp
  rw [this, wrap64, BitVec.toNat_mul]
  rfl
theorem add_lane (x : B64) (c : UInt8) : IntKind.u64.wrap ((x.toNat : Int) + (c.toNat : Int)) = ((x + bl c).toNat : Int) := by
  have : (x.toNat : Int) + (c.toNat : Int) = ((x.toNat + c.toNat : Nat) : Int) := by simp
  rw [this, wrap64, BitVec.toNat_add, bl_toNat]
theorem quo_lane (x : B64) (n : Nat) : ((x >>> n).toNat : Int).tdiv 256 = ((x >>> (n + 8)).toNat : Int) := by
  have h : ((x >>> n).toNat : Int).tdiv 256 = (((x >>> n).toNat / 256 : Nat) : Int) := rfl
  have h2 : (x >>> n).toNat / 256 = (x >>> (n + 8)).toNat := by
    rw [BitVec.toNat_ushiftRight, BitVec.toNat_ushiftRight, Nat.shiftRight_eq_div_pow, Nat.shiftRight_eq_div_pow, Nat.div_div_eq_div_mul, Nat.pow_add]
  rw [h, h2]
theorem rem_lane (x : B64) : IntKind.u8.wrap ((x.toNat : Int).tmod 256) = ((UInt8.ofNat x.toNat).toNat : Int) := by
  have h : (x.toNat : Int).tmod 256 = ((x.toNat % 256 : Nat) : Int) := rfl
  rw [h, wrap8]
  simp
def outP (a : Nat → B64) (n : Nat) : List UInt8 := (List.range n).map (outB a)
theorem outP_succ (a : Nat → B64) (n : Nat) : outP a (n + 1) = outP a n ++ [outB a n] := by simp [outP, List.range_succ]
theorem outP_len (a : Nat → B64) (n : Nat) : (outP a n).length = n := by simp [outP]
theorem outB_at (a : Nat → B64) {k i : Nat} (hi : i < 8) : outB a (k * 8 + i) = UInt8.ofNat (a (k * 5) >>> (8 * i)).toNat := by
  rw [outB, show (k * 8 + i) / 8 = k by omega, show (k * 8 + i) % 8 = i by omega]
def ix1 : V → Nat
  | .s (.int _ n) => (n + 1).toNat
  | _ => 0
def oneS : Fspec := fun _ ds r => ∃ s : ByteArray, s.size ≤ 1048576 ∧ ds = [.s (.string s)] ∧ r = .s (.string (digest s))
theorem one_sound {plain : TypeId → Bool} {Γ : FuncId → Option Fspec} {Δ : FuncId → Option Pt} (hE : EnvOk ⟨Tryd.prog, plain, Γ, Δ, fun _ => none, 0⟩) (g_turns : Γ 20 = some turnsS) (g_round : Γ 22 = some roundS) (g_rwords : Γ 21 = some rwordsS) : Sound Tryd.prog 13 oneS := by
  refine sound_of_awp hE Tryd.func13 rfl (by kernel_rfl) ?_
  rintro Φ ds r ⟨s, hs, rfl, rfl⟩
  refine ⟨by simp [Tryd.f13], ?_⟩
  unfold st0
  refine W.out (E := ⟨Tryd.prog, plain, Γ, Δ, Φ, _⟩) ?_
  refine go trivial ?_
  refine x_toB (s := s) rfl rfl rfl Tryd.underlying9 Tryd.underlying30 Tryd.underlying5 (sc trivial) (fun cap0 hcap0 => ?_)
  rw [browsB]
  have hsl : s.data.toList.length = s.size := rfl
  refine go trivial ?_
  refine x_appendO rfl rfl rfl rfl rfl rfl (sv @browsB) (by decide) (sc @browsB) (sv @browsB) (sx @browsB) (by first | rfl | (simp; done) | (simp [spare_len]; omega)) (by first | omega | (simp; done) | (simp [spare_len]; omega)) (by first | omega | (simp; done) | (simp [spare_len]; omega)) (sx @browsB) (okRowB 6) (by first | omega | (simp; done) | (simp [spare_len]; omega)) (fun cap' hcap' => ?_)
  refine go trivial ?_
  have z0 : (zr s 0).map encB = s.data.toList.map encB ++ [encB 6] := by simp [zr, base]
  have hcap1 : s.size + 1 ≤ cap' := by simpa using hcap'
  have hzb : zs (s.size + 1) < 136 := by unfold zs; omega
  have hs0 : cap' ≤ s.size + 1 + (spare 1 (cap' - (s.size + 1))).length := by rw [spare_len]; omega
  refine x_loop (fun σ => ∃ (i : Nat) (b : Nat) (cap : Nat) (sp : List (List Am.V)), σ.t 3 = .loc b 0 (s.size + 1 + i) cap ∧ σ.h b = some ⟨1, (zr s i).map encB ++ sp, true⟩ ∧ b < σ.n ∧ i ≤ zs (s.size + 1) ∧ s.size + 1 + i ≤ cap ∧ cap ≤ s.size + 1 + i + sp.length) (fun σ => zs (locLen (σ.t 3))) ⟨0, 2, _, spare 1 (cap' - (s.size + 1)), (by first | assumption | exact sxa trivial), (by first | assumption | exact sxa trivial), (by first | omega | (dsimp only; omega) | exact soa trivial | omega | (simp; done)), (by first | rfl | omega | assumption | (simp [*]; done)), (by first | rfl | omega | assumption | (simp [*]; done)), (by first | rfl | omega | assumption | (simp [*]; done))⟩ ?_
  rintro t h n ⟨i, b, cap, sp, h3, hhb, hn1, hf0, hf1, hf2⟩
  simp only at h3 hhb hn1
  have hzl := zr_len s i
  have zm : ((s.size + 1 + i : Nat) : Int).tmod 136 = (((s.size + 1 + i) % 136 : Nat) : Int) := rfl
  by_cases hiz : ¬ i = zs (s.size + 1)
  · have hi : i < zs (s.size + 1) := by omega
    have hz1 : ((((s.size + 1 + i) % 136 : Nat) : Int) != 0) = true := by
      have := mt (zs_iff hf0).1 hiz
      simp only [bne_iff_ne, ne_eq]
      omega
    have e1 : (b = n) = False := by simp; omega
    have e2 : (b = n + 1) = False := by simp; omega
    have e3 : (n = b) = False := by simp; omega
    have e4 : (n + 1 = b) = False := by simp; omega
    have hs : zs (s.size + 1 + i + 1) < zs (s.size + 1 + i) := zs_step (n := s.size + 1) (i := i) hi
    have hzs := zr_succ s i
    have hm2 : (zr s (i + 1)).map encB = (zr s i).map encB ++ [encB 0] := by rw [hzs]; simp
    clear hzs
    refine go (And.intro h3 (And.intro zm (And.intro hz1 (And.intro hhb (And.intro e1 (And.intro e2 (And.intro e3 e4))))))) ?_
    refine x_appendO rfl rfl rfl rfl rfl rfl (sv (And.intro h3 (And.intro hhb (And.intro hzl (And.intro e1 (And.intro e2 (And.intro e3 e4))))))) (by decide) (sc (And.intro h3 (And.intro hhb (And.intro hzl (And.intro e1 (And.intro e2 (And.intro e3 e4))))))) (sv (And.intro h3 (And.intro hhb (And.intro hzl (And.intro e1 (And.intro e2 (And.intro e3 e4))))))) (sx (And.intro h3 (And.intro hhb (And.intro hzl (And.intro e1 (And.intro e2 (And.intro e3 e4))))))) (by first | rfl | (simp; done) | (simp [spare_len]; omega)) (by first | omega | (simp; done) | (simp [spare_len]; omega)) (by first | omega | (simp; done) | (simp [spare_len]; omega)) (sx (And.intro h3 (And.intro hhb (And.intro hzl (And.intro e1 (And.intro e2 (And.intro e3 e4))))))) (okRowB 0) (by first | omega | (simp; done) | (simp [spare_len]; omega)) (fun cap' hcap' => ?_)
    refine go (And.intro h3 (And.intro hhb (And.intro e1 (And.intro e2 (And.intro e3 e4))))) ?_
    have hc2 : s.size + 1 + i + 1 ≤ cap' := hcap'
    have hadd : s.size + 1 + (i + 1) = s.size + 1 + i + 1 := rfl
    (refine ⟨⟨i + 1, n + 1, cap', spare 1 (cap' - (s.size + 1 + i + 1)), ?_, ?_, ?_, ?_, ?_, ?_⟩, ?_⟩ <;> (first | omega | (dsimp only; omega) | ((simp only [spare_len, upd_same, h3, locLen]; omega)) | exact sxa (And.intro @cast_succ (And.intro hm2 (And.intro hadd (And.intro e1 (And.intro e2 (And.intro e3 e4)))))) | exact soa trivial))
  · have hiz := Classical.not_not.1 hiz
    subst hiz
    rw [zr_all] at hhb
    rw [← pad0_len] at h3 hf1 hf2 zm
    have hpm := pad_mod s
    have hz1 : ((((pad0 s).length % 136 : Nat) : Int) != 0) = false := by rw [hpm]; rfl
    have hpl : 0 < (pad0 s).length := by rw [pad0_len]; omega
    have hple := pad_le s
    have hpad : (pad0 s).set ((pad0 s).length - 1) ((pad0 s).getD ((pad0 s).length - 1) 0 ||| 128) = pad s := rfl
    have hpadl : (pad s).length = (pad0 s).length := pad_len s
    clear hzl z0
    generalize hP : pad0 s = P at *
    generalize hQ : pad s = Qd at *
    have hj : P.length - 1 < P.length := by omega
    have g1 := rowB_get (l := P) (sp := sp) hj
    have g2 := or128 (P.getD (P.length - 1) 0)
    have g3 := rowB_set (l := P) (sp := sp) (P.getD (P.length - 1) 0 ||| 128) hj
    rw [hpad] at g3
    have z1 : (P.length : Int) - 1 = ((P.length - 1 : Nat) : Int) := by omega
    have ln : (P.map encB ++ sp).length = P.length + sp.length := by simp
    obtain ⟨m, hm⟩ : ∃ m, P.length = 136 * m := ⟨P.length / 136, by omega⟩
    have hQm : Qd.length / 136 = m := by omega
    have ca := arr_ce (N := 25) (g := fun i => (.s (.int .i64 (rotC i : Nat)) : V)) fun i => rfl
    simp only [cellish] at ca
    have cb := arr_dropN (N := 25) (g := fun i => (.s (.int .i64 ((fun _ => 0 : Nat → Nat) i : Nat)) : V))
    have ez : ∀ q : Nat, b < q → (b = q) = False ∧ (q = b) = False := fun q hq => ⟨by simp; omega, by simp; omega⟩
    obtain ⟨e1, e2⟩ := ez n (by omega)
    obtain ⟨e3, e4⟩ := ez (n + 1) (by omega)
    have e5 : (n + 1 = n) = False := by simp
    have e6 : (n = n + 1) = False := by simp
    skip
    have hjl : P.length - 1 < P.length + sp.length := by omega
    refine go (And.intro h3 (And.intro hhb (And.intro zm (And.intro hz1 (And.intro z1 (And.intro g1 (And.intro g2 (And.intro g3 (And.intro ln (And.intro hjl @arr_len)))))))))) ?_
    refine x_callN rfl rfl rfl rfl (sv trivial) g_turns (sv trivial) (se trivial) ⟨rfl, rfl⟩ rfl ?_
    refine go (And.intro h3 (And.intro hhb (And.intro ca (And.intro cb (And.intro e1 (And.intro e2 (And.intro e3 (And.intro e4 (And.intro e5 (And.intro e6 @arr_len)))))))))) ?_
    generalize hdd : n + 1 = d at *
    refine x_loop (fun σ => ∃ (j : Nat), σ.t 3 = .loc b 0 (136 * m) cap ∧ σ.t 4 = .ptr n 0 0 ∧ σ.t 5 = .ptr d 0 0 ∧ σ.t 6 = .s (.int .i64 (136 * j : Nat)) ∧ σ.h b = some ⟨1, Qd.map encB ++ sp, true⟩ ∧ σ.h n = some ⟨25, [lanes 25 (spg Qd j)], true⟩ ∧ σ.h d = some ⟨25, [turnsV rotC], true⟩ ∧ n < σ.n ∧ j ≤ m) (fun σ => 136 * m - ix (σ.t 6)) ⟨0, (by first | assumption | exact sxa trivial), (by first | assumption | exact sxa trivial), (by first | assumption | exact sxa trivial), (by first | assumption | exact sxa trivial), (by first | assumption | exact sxa trivial), (by first | assumption | exact sxa trivial), (by first | assumption | exact sxa trivial), (by first | omega | (dsimp only; omega) | exact soa trivial | omega | (simp; done)), (by first | rfl | omega | assumption | (simp [*]; done))⟩ ?_
    rintro t2 g2 n2 ⟨j, h3, h4, h5, h6, hhb, hhn, hhd, hn7, hf0⟩
    simp only at h3 h4 h5 h6 hhb hhn hhd hn7
    have mj0 : ((136 * j : Nat) : Int) < ((136 * m : Nat) : Int) ↔ j < m := by omega
    refine go (And.intro h3 (And.intro h4 (And.intro h5 h6))) ?_
    refine x_condP (sv (And.intro h3 (And.intro h4 (And.intro h5 h6)))) (fun hc => ?_) (fun hc => ?_)
    · have hj : j < m := by omega
      have hnext := spg_abs Qd j
      generalize spg Qd j = a at *
      generalize hblk : (fun i => Qd.getD (136 * j + i) 0) = blk at *
      refine go (And.intro h3 (And.intro h4 (And.intro h5 h6))) ?_
      refine x_loop (fun σ => ∃ (k : Nat), σ.t 3 = .loc b 0 (136 * m) cap ∧ σ.t 4 = .ptr n 0 0 ∧ σ.t 5 = .ptr d 0 0 ∧ σ.t 6 = .s (.int .i64 (136 * j : Nat)) ∧ σ.t 7 = .s (.int .i64 k) ∧ σ.h b = some ⟨1, Qd.map encB ++ sp, true⟩ ∧ σ.h n = some ⟨25, [lanes 25 (absR blk a k)], true⟩ ∧ σ.h d = some ⟨25, [turnsV rotC], true⟩ ∧ n < σ.n ∧ k ≤ 17) (fun σ => 17 - ix (σ.t 7)) ⟨0, (by first | assumption | exact sxa trivial), (by first | assumption | exact sxa trivial), (by first | assumption | exact sxa trivial), (by first | assumption | exact sxa trivial), (by first | assumption | exact sxa trivial), (by first | assumption | exact sxa trivial), (by first | assumption | exact sxa trivial), (by first | assumption | exact sxa trivial), (by first | omega | (dsimp only; omega) | exact soa trivial | omega | (simp; done)), (by first | rfl | omega | assumption | (simp [*]; done))⟩ ?_
      rintro t3 g3 n3 ⟨k, h3, h4, h5, h6, h7, hhb, hhn, hhd, hn7, hf0⟩
      simp only at h3 h4 h5 h6 h7 hhb hhn hhd hn7
      refine go (And.intro h3 (And.intro h4 (And.intro h5 (And.intro h6 h7)))) ?_
      refine x_condP (sv (And.intro h3 (And.intro h4 (And.intro h5 (And.intro h6 h7))))) (fun hc => ?_) (fun hc => ?_)
      · have hk : k < 17 := by omega
        refine go (And.intro h3 (And.intro h4 (And.intro h5 (And.intro h6 h7)))) ?_
        have r0 : wrd blk k 0 = 0 := rfl
        refine x_loop (fun σ => ∃ (i : Nat), σ.t 3 = .loc b 0 (136 * m) cap ∧ σ.t 4 = .ptr n 0 0 ∧ σ.t 5 = .ptr d 0 0 ∧ σ.t 6 = .s (.int .i64 (136 * j : Nat)) ∧ σ.t 7 = .s (.int .i64 k) ∧ σ.t 8 = lane (wrd blk k i) ∧ σ.t 9 = .s (.int .i64 (7 - (i : Int))) ∧ σ.h b = some ⟨1, Qd.map encB ++ sp, true⟩ ∧ σ.h n = some ⟨25, [lanes 25 (absR blk a k)], true⟩ ∧ σ.h d = some ⟨25, [turnsV rotC], true⟩ ∧ n < σ.n ∧ i ≤ 8) (fun σ => ix1 (σ.t 9)) ⟨0, (by first | assumption | exact sxa trivial), (by first | assumption | exact sxa trivial), (by first | assumption | exact sxa trivial), (by first | assumption | exact sxa trivial), (by first | assumption | exact sxa trivial), (by first | assumption | exact sxa trivial), (by first | assumption | exact sxa trivial), (by first | assumption | exact sxa trivial), (by first | assumption | exact sxa trivial), (by first | assumption | exact sxa trivial), (by first | omega | (dsimp only; omega) | exact soa trivial | omega | (simp; done)), (by first | rfl | omega | assumption | (simp [*]; done))⟩ ?_
        rintro t4 g4 n4 ⟨i, h3, h4, h5, h6, h7, h8, h9, hhb, hhn, hhd, hn7, hf0⟩
        simp only at h3 h4 h5 h6 h7 h8 h9 hhb hhn hhd hn7
        have h9o := h9
        refine go (And.intro h3 (And.intro h4 (And.intro h5 (And.intro h6 (And.intro h7 (And.intro h8 h9)))))) ?_
        refine x_condP (sv (And.intro h3 (And.intro h4 (And.intro h5 (And.intro h6 (And.intro h7 (And.intro h8 h9))))))) (fun hc => ?_) (fun hc => ?_)
        · have hi : i < 8 := by omega
          have hbk : Qd.getD (136 * j + 8 * k + (7 - i)) 0 = blk (8 * k + (7 - i)) := by rw [← hblk]; show _ = Qd.getD (136 * j + (8 * k + (7 - i))) 0; rw [Nat.add_assoc]
          have hQl : 136 * j + 8 * k + (7 - i) < Qd.length := by omega
          have q0 := rowB_get (l := Qd) (sp := sp) hQl
          rw [hbk] at q0
          have hcl := (blk (8 * k + (7 - i))).toNat_lt
          have ln2 : (Qd.map encB ++ sp).length = Qd.length + sp.length := by simp
          have hQl2 : 136 * j + 8 * k + (7 - i) < Qd.length + sp.length := by omega
          have hil : 136 * j + 8 * k + (7 - i) < 136 * m := by omega
          have z1 : (8 : Int) * (k : Int) = ((8 * k : Nat) : Int) := by omega
          have z2 : ((136 * j : Nat) : Int) + ((8 * k : Nat) : Int) = ((136 * j + 8 * k : Nat) : Int) := by omega
          have z3 : ((136 * j + 8 * k : Nat) : Int) + (7 - (i : Int)) = ((136 * j + 8 * k + (7 - i) : Nat) : Int) := by omega
          have z4 : (7 - (i : Int)) - 1 = 7 - ((i + 1 : Nat) : Int) := by omega
          have q1 := mul_lane (wrd blk k i)
          have q2 := add_lane (wrd blk k i * (256 : B64)) (blk (8 * k + (7 - i)))
          have hst : wrd blk k i * (256 : B64) + bl (blk (8 * k + (7 - i))) = wrd blk k (i + 1) := rfl
          rw [hst] at q2
          refine go (And.intro h3 (And.intro h4 (And.intro h5 (And.intro h6 (And.intro h7 (And.intro h8 (And.intro h9 (And.intro hhb (And.intro q0 (And.intro ln2 (And.intro hQl2 (And.intro hil (And.intro z1 (And.intro z2 (And.intro z3 (And.intro z4 (And.intro q1 q2))))))))))))))))) ?_
          (refine ⟨⟨i + 1, ?_, ?_, ?_, ?_, ?_, ?_, ?_, ?_, ?_, ?_, ?_, ?_⟩, ?_⟩ <;> (first | omega | (dsimp only; omega) | ((simp only [upd_same, h9o, h9, ix1]; omega)) | exact sxa (And.intro @cast_succ z4) | exact soa trivial))
        · have ei : i = 8 := by omega
          subst ei
          skip
          have hj1 : k % 5 < 5 := by omega
          have hj2 : k / 5 < 5 := by omega
          have hj3 : k % 5 * 5 + k / 5 < 25 := by omega
          have hj4 : k % 5 * 5 + k / 5 ≤ 24 := by omega
          have z1 : (k : Int).tmod 5 = ((k % 5 : Nat) : Int) := rfl
          have z2 : (k : Int).tdiv 5 = ((k / 5 : Nat) : Int) := rfl
          have g1 := arr_get (g := fun i => lane (absR blk a k i)) hj3
          have q1 := xor_lane (absR blk a k (k % 5 * 5 + k / 5)) (wrd blk k 8)
          have hst := lanes_set (f := absR blk a k) (absR blk a k (k % 5 * 5 + k / 5) ^^^ wrd blk k 8) hj3
          rw [show upd (absR blk a k) (k % 5 * 5 + k / 5) (absR blk a k (k % 5 * 5 + k / 5) ^^^ wrd blk k 8) = absR blk a (k + 1) from rfl] at hst
          refine go (And.intro h3 (And.intro h4 (And.intro h5 (And.intro h6 (And.intro h7 (And.intro h8 (And.intro h9 (And.intro hhb (And.intro hhn (And.intro z1 (And.intro z2 (And.intro hj4 (And.intro g1 (And.intro q1 (And.intro hst (And.intro e1 (And.intro e2 (And.intro e3 (And.intro e4 (And.intro e5 (And.intro e6 @arr_len))))))))))))))))))))) ?_
          (refine ⟨⟨k + 1, ?_, ?_, ?_, ?_, ?_, ?_, ?_, ?_, ?_, ?_⟩, ?_⟩ <;> (first | omega | (dsimp only; omega) | (omega) | exact sxa (And.intro @cast_succ (And.intro hst (And.intro e1 (And.intro e2 (And.intro e3 (And.intro e4 (And.intro e5 e6))))))) | exact soa trivial))
      · have ek : k = 17 := by omega
        subst ek
        skip
        generalize hA : absR blk a 17 = A at *
        refine go (And.intro h3 (And.intro h4 (And.intro h5 h6))) ?_
        refine x_callS rfl rfl rfl rfl (sv trivial) g_rwords (sv trivial) (se trivial) ⟨rfl, rfl⟩ (by simp) (by simp [touchA, touch]) ?_
        refine go (And.intro h3 (And.intro h4 (And.intro h5 h6))) ?_
        have hll : (List.range 24).length = 24 := rfl
        rw [hll]
        have hrr : ∀ r ∈ (List.range 24).map (fun k => [lane (wd k)]), r.length = 1 := fun r hr => by obtain ⟨q, _, rfl⟩ := List.mem_map.1 hr; rfl
        have hrT : (∀ r ∈ (List.range 24).map (fun k => [lane (wd k)]), r.length = 1) = True := eq_true hrr
        have hgt : ∀ k, k < 24 → ((List.range 24).map (fun k => [lane (wd k)])).getD k [] = [lane (wd k)] := fun k hk => by simp [List.getD_eq_getElem?_getD, hk]
        have hle : ((List.range 24).map (fun k => [lane (wd k)])).length = 24 := by simp
        generalize hWR : (List.range 24).map (fun k => [lane (wd k)]) = WR at *
        have r0 : rds A 0 = A := rfl
        refine x_loop (fun σ => ∃ (k : Nat), σ.t 3 = .loc b 0 (136 * m) cap ∧ σ.t 4 = .ptr n 0 0 ∧ σ.t 5 = .ptr d 0 0 ∧ σ.t 6 = .s (.int .i64 (136 * j : Nat)) ∧ σ.t 10 = .sl WR ∧ σ.t 86 = .s (.int .i64 24) ∧ σ.t 87 = .s (.int .i64 k) ∧ σ.h b = some ⟨1, Qd.map encB ++ sp, true⟩ ∧ σ.h n = some ⟨25, [lanes 25 (rds A k)], true⟩ ∧ σ.h d = some ⟨25, [turnsV rotC], true⟩ ∧ n < σ.n ∧ k ≤ 24) (fun σ => 24 - ix (σ.t 87)) ⟨0, (by first | assumption | exact sxa trivial), (by first | assumption | exact sxa trivial), (by first | assumption | exact sxa trivial), (by first | assumption | exact sxa trivial), (by first | assumption | exact sxa trivial), (by first | assumption | exact sxa trivial), (by first | assumption | exact sxa trivial), (by first | assumption | exact sxa trivial), (by first | assumption | exact sxa trivial), (by first | assumption | exact sxa trivial), (by first | omega | (dsimp only; omega) | exact soa trivial | omega | (simp; done)), (by first | rfl | omega | assumption | (simp [*]; done))⟩ ?_
        rintro t4 g4 n4 ⟨k, h3, h4, h5, h6, h10, h86, h87, hhb, hhn, hhd, hn7, hf0⟩
        simp only at h3 h4 h5 h6 h10 h86 h87 hhb hhn hhd hn7
        refine go (And.intro h3 (And.intro h4 (And.intro h5 (And.intro h6 (And.intro h10 (And.intro h86 h87)))))) ?_
        refine x_condP (sv (And.intro h3 (And.intro h4 (And.intro h5 (And.intro h6 (And.intro h10 (And.intro h86 h87))))))) (fun hc => ?_) (fun hc => ?_)
        · have hk : k < 24 := by omega
          have g1 := hgt k hk
          have hx1 : ∀ hp d, allO (expo hp d) (lanes 25 (rds A k)) = some (lanes 25 (rds A k)) := fun hp d => arr_expo fun _ => rfl
          have hx2 : ∀ hp d, allO (expo hp d) (turnsV rotC) = some (turnsV rotC) := fun hp d => arr_expo fun _ => rfl
          have hrd : roundF (rds A k) rotC (wd k) = rds A (k + 1) := rfl
          have t1 := arr_take (N := 25) (g := fun i => lane (rds A k i))
          have t2 := arr_take (N := 25) (g := fun i => (.s (.int .i64 (rotC i : Nat)) : V))
          refine go (And.intro h3 (And.intro h4 (And.intro h5 (And.intro h6 (And.intro h10 (And.intro h86 (And.intro h87 (And.intro hhn (And.intro hhd (And.intro hk (And.intro hrT (And.intro hle (And.intro g1 (And.intro t1 (And.intro t2 (And.intro e1 (And.intro e2 (And.intro e3 (And.intro e4 (And.intro e5 (And.intro e6 @arr_len))))))))))))))))))))) ?_
          refine x_callD rfl rfl rfl rfl rfl (sv (And.intro hx1 hx2)) g_round (sv (And.intro hx1 hx2)) (se (And.intro hx1 hx2)) ⟨rds A k, rotC, wd k, rotC_lt, rfl, rfl⟩ rfl ?_
          rw [hrd]
          have hc1 := arr_ce (N := 25) (g := fun i => lane (rds A (k + 1) i)) fun i => rfl
          simp only [cellish] at hc1
          have hc2 := arr_dropN (N := 25) (g := fun i => lane (rds A k i))
          refine go (And.intro h3 (And.intro h4 (And.intro h5 (And.intro h6 (And.intro h10 (And.intro h86 (And.intro h87 (And.intro hhn (And.intro hhd (And.intro hc1 (And.intro hc2 (And.intro e1 (And.intro e2 (And.intro e3 (And.intro e4 (And.intro e5 (And.intro e6 @arr_len))))))))))))))))) ?_
          (refine ⟨⟨k + 1, ?_, ?_, ?_, ?_, ?_, ?_, ?_, ?_, ?_, ?_, ?_, ?_⟩, ?_⟩ <;> (first | omega | (dsimp only; omega) | (omega) | exact sxa (And.intro @cast_succ (And.intro hc2 (And.intro e1 (And.intro e2 (And.intro e3 (And.intro e4 (And.intro e5 e6))))))) | exact soa trivial))
        · have ek : k = 24 := by omega
          subst ek
          rw [← hnext] at hhn
          clear hnext
          have z1 : ((136 * j : Nat) : Int) + 136 = ((136 * (j + 1) : Nat) : Int) := by omega
          skip
          refine go (And.intro h3 (And.intro h4 (And.intro h5 (And.intro h6 z1)))) ?_
          (refine ⟨⟨j + 1, ?_, ?_, ?_, ?_, ?_, ?_, ?_, ?_, ?_⟩, ?_⟩ <;> (first | omega | (dsimp only; omega) | (omega) | exact sxa (And.intro @cast_succ (And.intro h3 (And.intro h4 (And.intro h5 z1)))) | exact soa trivial))
    · have ej : j = m := by omega
      subst ej
      skip
      have hdig : digest s = ⟨(outL (spg Qd j)).toArray⟩ := by rw [digest, hQ, hQm]
      generalize spg Qd j = a at *
      refine go (And.intro h3 (And.intro h4 (And.intro h5 h6))) ?_
      have hp0 : (outP a 0).map encB = [] := rfl
      refine x_loop (fun σ => ∃ (k : Nat) (q : Nat) (cq : Nat) (sq : List (List Am.V)), σ.t 4 = .ptr n 0 0 ∧ σ.t 12 = .loc q 0 (k * 8) cq ∧ σ.t 13 = .s (.int .i64 k) ∧ σ.h n = some ⟨25, [lanes 25 a], true⟩ ∧ σ.h q = some ⟨1, (outP a (k * 8)).map encB ++ sq, true⟩ ∧ n < q ∧ q < σ.n ∧ k ≤ 4 ∧ k * 8 ≤ cq ∧ cq ≤ k * 8 + sq.length) (fun σ => 4 - ix (σ.t 13)) ⟨0, _, _, [], (by first | assumption | exact sxa trivial), (by first | assumption | exact sxa trivial), (by first | assumption | exact sxa trivial), (by first | assumption | exact sxa trivial), (by first | assumption | exact sxa trivial), (by first | omega | (dsimp only; omega) | exact soa trivial | omega | (simp; done)), (by first | omega | (dsimp only; omega) | exact soa trivial | omega | (simp; done)), (by first | rfl | omega | assumption | (simp [*]; done)), (by first | rfl | omega | assumption | (simp [*]; done)), (by first | rfl | omega | assumption | (simp [*]; done))⟩ ?_
      rintro t3 g3 n3 ⟨k, q, cq, sq, h4, h12, h13, hhn, hhq, hn8, hn9, hf0, hf1, hf2⟩
      simp only at h4 h12 h13 hhn hhq hn8 hn9
      refine go (And.intro h4 (And.intro h12 h13)) ?_
      refine x_condP (sv (And.intro h4 (And.intro h12 h13))) (fun hc => ?_) (fun hc => ?_)
      · have hk : k < 4 := by omega
        have hj3 : k * 5 < 25 := by omega
        have hj4 : k * 5 ≤ 24 := by omega
        have g1 := arr_get (g := fun i => lane (a i)) hj3
        have s0 : a (k * 5) >>> (8 * 0) = a (k * 5) := by simp
        refine go (And.intro h4 (And.intro h12 (And.intro h13 (And.intro hhn (And.intro hj4 (And.intro g1 @arr_len)))))) ?_
        refine x_loop (fun σ => ∃ (i : Nat) (q : Nat) (cq : Nat) (sq : List (List Am.V)), σ.t 4 = .ptr n 0 0 ∧ σ.t 12 = .loc q 0 (k * 8 + i) cq ∧ σ.t 13 = .s (.int .i64 k) ∧ σ.t 14 = lane (a (k * 5) >>> (8 * i)) ∧ σ.t 15 = .s (.int .i64 i) ∧ σ.h n = some ⟨25, [lanes 25 a], true⟩ ∧ σ.h q = some ⟨1, (outP a (k * 8 + i)).map encB ++ sq, true⟩ ∧ n < q ∧ q < σ.n ∧ i ≤ 8 ∧ k * 8 + i ≤ cq ∧ cq ≤ k * 8 + i + sq.length) (fun σ => 8 - ix (σ.t 15)) ⟨0, q, cq, sq, (by first | assumption | exact sxa trivial), (by first | assumption | exact sxa trivial), (by first | assumption | exact sxa trivial), (by first | assumption | exact sxa trivial), (by first | assumption | exact sxa trivial), (by first | assumption | exact sxa trivial), (by first | assumption | exact sxa trivial), (by first | omega | (dsimp only; omega) | exact soa trivial | omega | (simp; done)), (by first | omega | (dsimp only; omega) | exact soa trivial | omega | (simp; done)), (by first | rfl | omega | assumption | (simp [*]; done)), (by first | rfl | omega | assumption | (simp [*]; done)), (by first | rfl | omega | assumption | (simp [*]; done))⟩ ?_
        rintro t4 g4 n4 ⟨i, q, cq, sq, h4, h12, h13, h14, h15, hhn, hhq, hn8, hn9, hf0, hf1, hf2⟩
        simp only at h4 h12 h13 h14 h15 hhn hhq hn8 hn9
        refine go (And.intro h4 (And.intro h12 (And.intro h13 (And.intro h14 h15)))) ?_
        refine x_condP (sv (And.intro h4 (And.intro h12 (And.intro h13 (And.intro h14 h15))))) (fun hc => ?_) (fun hc => ?_)
        · have hi : i < 8 := by omega
          have f1 : (q = n4) = False := by simp; omega
          have f2 : (q = n4 + 1) = False := by simp; omega
          have f3 : (n4 = q) = False := by simp; omega
          have f4 : (n4 + 1 = q) = False := by simp; omega
          have f5 : (n = n4) = False := by simp; omega
          have f6 : (n = n4 + 1) = False := by simp; omega
          have f7 : (n4 = n) = False := by simp; omega
          have f8 : (n4 + 1 = n) = False := by simp; omega
          have f9 : (n = q) = False := by simp; omega
          have f10 : (q = n) = False := by simp; omega
          have q1 := rem_lane (a (k * 5) >>> (8 * i))
          rw [← outB_at a hi] at q1
          have q2 := quo_lane (a (k * 5)) (8 * i)
          rw [show 8 * i + 8 = 8 * (i + 1) by omega] at q2
          have q5 := wrap_lane (a (k * 5) >>> (8 * (i + 1)))
          have q3 : ((a (k * 5) >>> (8 * i)).toNat : Int).tmod 256 = (((a (k * 5) >>> (8 * i)).toNat % 256 : Nat) : Int) := rfl
          rw [q3] at q1
          have hpl := outP_len a (k * 8 + i)
          have hm2 : (outP a (k * 8 + i + 1)).map encB = (outP a (k * 8 + i)).map encB ++ [encB (outB a (k * 8 + i))] := by
            rw [outP_succ]; simp
          have hadd : k * 8 + (i + 1) = k * 8 + i + 1 := rfl
          generalize outB a (k * 8 + i) = c at *
          refine go (And.intro h4 (And.intro h12 (And.intro h13 (And.intro h14 (And.intro h15 (And.intro hhq (And.intro hhn (And.intro q1 (And.intro q3 (And.intro f1 (And.intro f2 (And.intro f3 (And.intro f4 (And.intro f5 (And.intro f6 (And.intro f7 (And.intro f8 (And.intro f9 f10)))))))))))))))))) ?_
          refine x_appendO rfl rfl rfl rfl rfl rfl (sv (And.intro h12 (And.intro hhq (And.intro hpl (And.intro f1 (And.intro f2 (And.intro f3 (And.intro f4 (And.intro f5 (And.intro f6 (And.intro f7 (And.intro f8 (And.intro f9 f10))))))))))))) (by decide) (sc (And.intro h12 (And.intro hhq (And.intro hpl (And.intro f1 (And.intro f2 (And.intro f3 (And.intro f4 (And.intro f5 (And.intro f6 (And.intro f7 (And.intro f8 (And.intro f9 f10))))))))))))) (sv (And.intro h12 (And.intro hhq (And.intro hpl (And.intro f1 (And.intro f2 (And.intro f3 (And.intro f4 (And.intro f5 (And.intro f6 (And.intro f7 (And.intro f8 (And.intro f9 f10))))))))))))) (sx (And.intro h12 (And.intro hhq (And.intro hpl (And.intro f1 (And.intro f2 (And.intro f3 (And.intro f4 (And.intro f5 (And.intro f6 (And.intro f7 (And.intro f8 (And.intro f9 f10))))))))))))) (by first | rfl | (simp; done) | (simp [spare_len]; omega)) (by first | omega | (simp; done) | (simp [spare_len]; omega)) (by first | omega | (simp; done) | (simp [spare_len]; omega)) (sx (And.intro h12 (And.intro hhq (And.intro hpl (And.intro f1 (And.intro f2 (And.intro f3 (And.intro f4 (And.intro f5 (And.intro f6 (And.intro f7 (And.intro f8 (And.intro f9 f10))))))))))))) (okRowB c) (by first | omega | (simp; done) | (simp [spare_len]; omega)) (fun cap' hcap' => ?_)
          refine go (And.intro h4 (And.intro h12 (And.intro h13 (And.intro h14 (And.intro h15 (And.intro hhn (And.intro q2 (And.intro q5 (And.intro f1 (And.intro f2 (And.intro f3 (And.intro f4 (And.intro f5 (And.intro f6 (And.intro f7 (And.intro f8 (And.intro f9 f10))))))))))))))))) ?_
          have hc2 : k * 8 + i + 1 ≤ cap' := hcap'
          clear q1 q3 hpl
          (refine ⟨⟨i + 1, n4 + 1, cap', spare 1 (cap' - (k * 8 + i + 1)), ?_, ?_, ?_, ?_, ?_, ?_, ?_, ?_, ?_, ?_, ?_, ?_⟩, ?_⟩ <;> (first | omega | (dsimp only; omega) | ((simp only [spare_len]; omega)) | exact sxa (And.intro @cast_succ (And.intro hm2 (And.intro hadd (And.intro q2 (And.intro q5 (And.intro f1 (And.intro f2 (And.intro f3 (And.intro f4 (And.intro f5 (And.intro f6 (And.intro f7 (And.intro f8 (And.intro f9 f10)))))))))))))) | exact soa trivial))
        · have ei : i = 8 := by omega
          subst ei
          have e1 : k * 8 + 8 = (k + 1) * 8 := by omega
          rw [e1] at h12 hhq hf1 hf2
          skip
          refine go (And.intro h4 (And.intro h12 h13)) ?_
          (refine ⟨⟨k + 1, q, cq, sq, ?_, ?_, ?_, ?_, ?_, ?_, ?_, ?_, ?_, ?_⟩, ?_⟩ <;> (first | omega | (dsimp only; omega) | (omega) | exact sxa @cast_succ | exact soa trivial))
      · have ek : k = 4 := by omega
        subst ek
        rw [show (outP a (4 * 8)) = outL a from rfl] at hhq
        have tk : ((outL a).map encB ++ sq).take 32 = (outL a).map encB := List.take_left' (by simp [outL])
        have ln : ((outL a).map encB ++ sq).length = 32 + sq.length := by simp [outL]
        have b1 := bytesB (outL a)
        have b2 := strB (outL a)
        refine go (And.intro h4 (And.intro h12 (And.intro hhq (And.intro tk (And.intro ln (And.intro b1 b2)))))) ?_
        refine x_done (x_out (sr (And.intro @Tryd.f13.eq_1 hdig)) (by simp) (by simp) rfl)
end Go.Proofs.YtjbjgddfflbiaaaDoor

set_option linter.unusedVariables false
set_option linter.unusedSimpArgs false
set_option maxRecDepth 100000
set_option maxHeartbeats 16000000
namespace Go.Proofs.YtjbjgddfflbiaaaDoor
open Go Go.RowKit Am

theorem ba_ext {a b : ByteArray} (h : a.data.toList = b.data.toList) : a = b := by
  cases a; cases b
  simp at h
  rw [ByteArray.mk.injEq]
  exact h
theorem ba_app (a b : ByteArray) : (a ++ b).data.toList = a.data.toList ++ b.data.toList := by simp
theorem cat_list (ps : List ByteArray) : (cat ps).data.toList = ps.flatMap fun p => p.data.toList := by simp [cat]
theorem cat_app (ps qs : List ByteArray) : cat (ps ++ qs) = cat ps ++ cat qs := ba_ext (by rw [ba_app, cat_list, cat_list, cat_list, List.flatMap_append])
theorem cat_one (p : ByteArray) : cat [p] = p := ba_ext (by rw [cat_list]; simp)
theorem cat_nil : cat [] = ⟨#[]⟩ := rfl
theorem cat_succ {ps : List ByteArray} {i : Nat} (h : i < ps.length) : cat (ps.take (i + 1)) = cat (ps.take i) ++ ps[i] := by
  rw [List.take_succ_eq_append_getElem h, cat_app, cat_one]
theorem cat_size (ps : List ByteArray) : (cat ps).size = (cat ps).data.toList.length := rfl
theorem cat_take (ps : List ByteArray) (i : Nat) : (cat (ps.take i)).size ≤ (cat ps).size := by
  have h : ps = ps.take i ++ ps.drop i := (List.take_append_drop i ps).symm
  have h2 : cat ps = cat (ps.take i) ++ cat (ps.drop i) := by rw [← cat_app, ← h]
  have h3 : (cat ps).size = (cat (ps.take i)).size + (cat (ps.drop i)).size := by
    rw [cat_size, h2, ba_app, List.length_append]; rfl
  omega
theorem rsum_sound {plain : TypeId → Bool} {Γ : FuncId → Option Fspec} {Δ : FuncId → Option Pt} (hE : EnvOk ⟨Tryd.prog, plain, Γ, Δ, fun _ => none, 0⟩) (g_one : Γ 13 = some oneS) : Sound Tryd.prog 12 sumS := by
  refine sound_of_awp hE Tryd.func12 rfl (by kernel_rfl) ?_
  rintro Φ ds r ⟨ps, hp1, hp2, rfl, rfl⟩
  refine ⟨by simp [Tryd.f12], ?_⟩
  unfold st0
  refine W.out (E := ⟨Tryd.prog, plain, Γ, Δ, Φ, _⟩) ?_
  have hre := encS_rows ps
  refine go trivial ?_
  have c0 : cat (ps.take 0) = ⟨#[]⟩ := rfl
  refine x_loop (fun σ => ∃ (i : Nat), σ.t 0 = .sl (ps.map encS) ∧ σ.t 3 = .s (.string (cat (ps.take i))) ∧ σ.t 6 = .s (.int .i64 ps.length) ∧ σ.t 7 = .s (.int .i64 i) ∧ i ≤ ps.length) (fun σ => ps.length - ix (σ.t 7)) ⟨0, (by first | assumption | exact sxa trivial), (by first | assumption | exact sxa trivial), (by first | assumption | exact sxa trivial), (by first | assumption | exact sxa trivial), (by first | rfl | omega | assumption | (simp [*]; done))⟩ ?_
  rintro t h n ⟨i, h0, h3, h6, h7, hf0⟩
  simp only at h0 h3 h6 h7
  refine go (And.intro h0 (And.intro h3 (And.intro h6 h7))) ?_
  refine x_condP (sv (And.intro h0 (And.intro h3 (And.intro h6 h7)))) (fun hc => ?_) (fun hc => ?_)
  · have hi : i < ps.length := by omega
    have hcs := cat_succ hi
    have hs1 := cat_take ps i
    have hs2 := cat_take ps (i + 1)
    have hs3 : (cat (ps.take (i + 1))).size = (cat (ps.take i)).size + (ps[i]).size := by rw [cat_size, hcs, ba_app, List.length_append]; rfl
    generalize hmm : ps[i] = p at *
    have hle : (cat (ps.take i)).size + p.size ≤ 9223372036854775807 := by omega
    have hcs2 : cat (ps.take i) ++ p = cat (ps.take (i + 1)) := hcs.symm
    clear hcs
    refine go (And.intro h0 (And.intro h3 (And.intro h6 (And.intro h7 (And.intro hre (And.intro hmm (And.intro hle hcs2))))))) ?_
    (refine ⟨⟨i + 1, ?_, ?_, ?_, ?_, ?_⟩, ?_⟩ <;> (first | omega | (dsimp only; omega) | (omega) | exact sxa (And.intro @cast_succ hcs2) | exact soa trivial))
  · have ei : i = ps.length := by omega
    subst ei
    rw [List.take_length] at h3
    refine go (And.intro h0 h3) ?_
    refine x_callN rfl rfl rfl rfl (sv trivial) g_one (sv trivial) (se trivial) ⟨cat ps, hp2, rfl, rfl⟩ rfl ?_
    refine go trivial ?_
    refine x_done (x_out (sr @Tryd.f12.eq_1) (by simp) (by simp) rfl)
end Go.Proofs.YtjbjgddfflbiaaaDoor

set_option linter.unusedVariables false
set_option linter.unusedSimpArgs false
namespace Go.Proofs
open Go Go.RowKit Go.Lib

def Tryd.tabS : ByteArray := ⟨#[48, 49, 50, 51, 52, 53, 54, 55, 56, 57, 97, 98, 99, 100, 101, 102]⟩
def Tryd.hexD (n : Nat) : UInt8 := Tryd.tabS.data.toList.getD n 0
def Tryd.hexL (l : List UInt8) : List UInt8 := l.flatMap fun c => [Tryd.hexD (c.toNat / 16), Tryd.hexD (c.toNat % 16)]
theorem Tryd.hexD_at (n : Nat) (h : n < Tryd.tabS.size) : Tryd.tabS[n]'h = Tryd.hexD n := by
  have h2 : n < Tryd.tabS.data.toList.length := h
  rw [Tryd.hexD, List.getD_eq_getElem?_getD, List.getElem?_eq_getElem h2]
  rfl
theorem Tryd.hexL_succ (l : List UInt8) (k : Nat) (h : k < l.length) : Tryd.hexL (l.take (k + 1)) = Tryd.hexL (l.take k) ++ [Tryd.hexD (l[k].toNat / 16)] ++ [Tryd.hexD (l[k].toNat % 16)] := by
  rw [List.take_succ_eq_append_getElem h, Tryd.hexL, List.flatMap_append, Tryd.hexL]
  simp
theorem Tryd.hexL_len (l : List UInt8) : (Tryd.hexL l).length = 2 * l.length := by
  induction l with
  | nil => rfl
  | cons c l ih => rw [Tryd.hexL, List.flatMap_cons]; rw [Tryd.hexL] at ih; simp [ih]; omega
set_option maxHeartbeats 4000000 in
set_option maxRecDepth 1000000 in
theorem Tryd.hex_walk (s : ByteArray) (w : World) (hs : s.size ≤ 35184372088832) :
    Calls Tryd.prog 14 #[.string s] w fun e w' => e = .returned (.string ⟨(Tryd.hexL s.data.toList).toArray⟩) ∧ Below w.heap.size w w' := by
  go_enter Tryd.func14, Tryd.ntmps14
  go_wp2
  go_loopw [7] (fun i wr => ∃ (k : Nat) (acc : List UInt8), i = .int .i64 k ∧ k ≤ s.size ∧ Lib.IsBuilder 52 5 w.heap.size w.heap.size (Lib.byteCells acc) wr ∧ Below w.heap.size w wr ∧ acc = Tryd.hexL (s.data.toList.take k)) (fun i _ => s.size - (RowKit.intOf i).toNat)
  case atStart =>
    exact ⟨0, [], rfl, Nat.zero_le _, Lib.fresh_isBuilder 52 5 w, (Below.refl _ w).alloc (Nat.le_refl _) _, rfl⟩
  case round =>
    obtain ⟨k, acc, rfl, hk, hI, hbw, hacc⟩ := hrel
    have hal : acc.length = 2 * k := by
      have hl : s.data.toList.length = s.size := rfl
      rw [hacc, Tryd.hexL_len, List.length_take]
      omega
    by_cases hlt : k < s.size
    · have hsz : w.heap.size ≤ wr.heap.size := hbw.size
      have hkl : k < s.data.toList.length := hlt
      have hcl2 : s.data.toList[k]'hkl = s[k]'hlt := rfl
      have hsu := Tryd.hexL_succ s.data.toList k hkl
      rw [hcl2] at hsu
      clear hcl2
      generalize hc : s[k]'hlt = c at *
      have hcl := c.toNat_lt
      go_wp2_with (go_at_call 23; refine (Tryd.Builder_WriteByte w.heap.size w.heap.size _ _ _ hI (by rw [Lib.byteCells_length]; omega) hsz).mono ?_)
      rintro e W1 ⟨rfl, h1, b1⟩
      have hsz1 : w.heap.size ≤ W1.heap.size := Nat.le_trans hsz b1.size
      go_wp2_with (go_at_call 23; refine (Tryd.Builder_WriteByte w.heap.size w.heap.size _ _ _ (Or.inr h1) (by rw [List.length_append, Lib.byteCells_length]; simp; omega) hsz1).mono ?_)
      rintro e W2 ⟨rfl, h2, b2⟩
      go_wp2
      go_roundw
      case rel =>
        have e1 : byteCells (Tryd.hexL (s.data.toList.take (k + 1))) = byteCells acc ++ [Value.int IntKind.u8 (Tryd.hexD (c.toNat / 16)).toNat] ++ [Value.int IntKind.u8 (Tryd.hexD (c.toNat % 16)).toNat] := by
          rw [hsu, ← hacc, Lib.byteCells_append, Lib.byteCells_append]
          rfl
        refine ⟨k + 1, _, by simp, by omega, ?_, hbw.trans (b1.trans b2), rfl⟩
        rw [e1, ← Tryd.hexD_at _ (show c.toNat / 16 < 16 by omega), ← Tryd.hexD_at _ (show c.toNat % 16 < 16 by omega)]
        exact Or.inr h2
      case measure => simp [RowKit.intOf]; omega
    · have ek : k = s.size := by omega
      have hl : s.data.toList.length = s.size := rfl
      have hall : acc = Tryd.hexL s.data.toList := by
        rw [hacc, List.take_of_length_le (by omega)]
      clear hacc
      subst hall
      go_wp2_with (go_at_call 24; refine (Tryd.Builder_String_any w.heap.size w.heap.size _ _ hI hbw.size).mono ?_)
      rintro e W1 ⟨rfl, b1⟩
      go_wp2
      go_ret
      exact ⟨rfl, hbw.trans b1⟩
end Go.Proofs
namespace Go.Proofs.YtjbjgddfflbiaaaDoor
open Go Go.RowKit Am
def hexB (s : ByteArray) : ByteArray := ⟨(Tryd.hexL s.data.toList).toArray⟩
def hexS : Fspec := fun _ ds r => ∃ s : ByteArray, s.size ≤ 1048576 ∧ ds = [.s (.string s)] ∧ r = .s (.string (hexB s))
theorem hex_sound : Sound Tryd.prog 14 hexS := by
  rintro c Φ ds r vals hc hok0 hX hΦ ⟨s, hs, rfl, rfl⟩ ⟨hl, ha⟩
  have e0 : vals.getD 0 Go.undef = .string s := (ha 0 (by simp)).s_eq.1
  have hv : vals = #[.string s] := by
    apply Array.ext
    · simpa using hl
    · intro i g1 g2
      have : i = 0 := by simpa using g2
      subst this
      simpa [g1] using e0
  subst hv
  refine (Tryd.hex_walk s c.w0 (by omega)).mono ?_
  rintro e w' ⟨rfl, hb⟩
  exact ⟨_, rfl, hb, fun fv => .s _ rfl⟩
end Go.Proofs.YtjbjgddfflbiaaaDoor

set_option linter.unusedVariables false
set_option linter.unusedSimpArgs false
set_option maxRecDepth 100000
set_option maxHeartbeats 16000000
namespace Go.Proofs.YtjbjgddfflbiaaaDoor
open Go Go.RowKit Am

def hx (s : ByteArray) (k : Nat) : ByteArray := ⟨(Tryd.hexL (s.data.toList.take k)).toArray⟩
theorem hx_size (s : ByteArray) {k : Nat} (h : k ≤ s.size) : (hx s k).size = 2 * k := by
  have hl : s.data.toList.length = s.size := rfl
  show (Tryd.hexL (s.data.toList.take k)).length = _
  rw [Tryd.hexL_len, List.length_take]
  omega
theorem hx_succ (s : ByteArray) {k : Nat} (h : k < s.size) : hx s (k + 1) = hx s k ++ ⟨#[Tryd.hexD ((byteAt s k).toNat / 16), Tryd.hexD ((byteAt s k).toNat % 16)]⟩ := by
  have hl : k < s.data.toList.length := h
  have hb : s.data.toList[k] = byteAt s k := by rw [byteAt, List.getD_eq_getElem?_getD, List.getElem?_eq_getElem hl]; rfl
  refine ba_ext ?_
  rw [ba_app]
  show Tryd.hexL _ = Tryd.hexL _ ++ _
  rw [Tryd.hexL_succ _ _ hl, hb]
  simp
theorem hx_all (s : ByteArray) : hx s s.size = hexB s := by
  have hl : s.data.toList.length = s.size := rfl
  rw [hx, hexB, List.take_of_length_le (by omega)]
theorem rhex_sound {plain : TypeId → Bool} {Γ : FuncId → Option Fspec} {Δ : FuncId → Option Pt} (hE : EnvOk ⟨Tryd.prog, plain, Γ, Δ, fun _ => none, 0⟩) : Sound Tryd.prog 15 hexS := by
  refine sound_of_awp hE Tryd.func15 rfl (by kernel_rfl) ?_
  rintro Φ ds r ⟨s, hs, rfl, rfl⟩
  refine ⟨by simp [Tryd.f15], ?_⟩
  unfold st0
  refine W.out (E := ⟨Tryd.prog, plain, Γ, Δ, Φ, _⟩) ?_
  have h00 : hx s 0 = ⟨#[]⟩ := rfl
  refine go trivial ?_
  refine x_loop (fun σ => ∃ (k : Nat), σ.t 0 = .s (.string s) ∧ σ.t 3 = .s (.string Tryd.tabS) ∧ σ.t 4 = .s (.string (hx s k)) ∧ σ.t 5 = .s (.int .i64 k) ∧ k ≤ s.size) (fun σ => s.size - ix (σ.t 5)) ⟨0, (by first | assumption | exact sxa trivial), (by first | assumption | exact sxa trivial), (by first | assumption | exact sxa trivial), (by first | assumption | exact sxa trivial), (by first | rfl | omega | assumption | (simp [*]; done))⟩ ?_
  rintro t h n ⟨k, h0, h3, h4, h5, hf0⟩
  simp only at h0 h3 h4 h5
  refine go (And.intro h0 (And.intro h3 (And.intro h4 h5))) ?_
  refine x_condP (sv (And.intro h0 (And.intro h3 (And.intro h4 h5)))) (fun hc => ?_) (fun hc => ?_)
  · have hk : k < s.size := by omega
    have hsu := hx_succ s hk
    have hsz := hx_size s (show k ≤ s.size by omega)
    have hts : Tryd.tabS.size = 16 := rfl
    have hta : ∀ n, byteAt Tryd.tabS n = Tryd.hexD n := fun n => rfl
    have hcl := (byteAt s k).toNat_lt
    generalize hcq : byteAt s k = c at *
    have z1 : (c.toNat : Int).tdiv 16 = ((c.toNat / 16 : Nat) : Int) := rfl
    have z2 : (c.toNat : Int).tmod 16 = ((c.toNat % 16 : Nat) : Int) := rfl
    have m1 : c.toNat / 16 < 16 := by omega
    have m2 : c.toNat % 16 < 16 := by omega
    generalize hd1 : Tryd.hexD (c.toNat / 16) = d1 at *
    generalize hd2 : Tryd.hexD (c.toNat % 16) = d2 at *
    have b1 := bytesB [d1, d2]
    have b2 := strB [d1, d2]
    simp only [List.map_cons, List.map_nil] at b1 b2
    have b3 : (⟨[d1, d2].toArray⟩ : ByteArray).size = 2 := rfl
    have hle : (hx s k).size + 2 ≤ 9223372036854775807 := by omega
    have hsu2 : hx s k ++ (⟨[d1, d2].toArray⟩ : ByteArray) = hx s (k + 1) := hsu.symm
    clear hsu
    refine go (And.intro h0 (And.intro h3 (And.intro h4 (And.intro h5 (And.intro hts (And.intro hta (And.intro hcq (And.intro hk (And.intro z1 (And.intro z2 (And.intro m1 (And.intro m2 (And.intro hd1 (And.intro hd2 (And.intro b1 (And.intro b2 (And.intro b3 (And.intro hle hsu2)))))))))))))))))) ?_
    clear b1 b2 b3 hta
    (refine ⟨⟨k + 1, ?_, ?_, ?_, ?_, ?_⟩, ?_⟩ <;> (first | omega | (dsimp only; omega) | (omega) | exact sxa @cast_succ | exact soa trivial))
  · have ek : k = s.size := by omega
    subst ek
    rw [hx_all] at h4
    refine go (And.intro h0 h4) ?_
    refine x_done (x_out (sr @Tryd.f15.eq_1) (by simp) (by simp) rfl)
end Go.Proofs.YtjbjgddfflbiaaaDoor

set_option linter.unusedVariables false
set_option linter.unusedSimpArgs false
set_option maxRecDepth 100000
set_option maxHeartbeats 16000000
namespace Go.Proofs.YtjbjgddfflbiaaaDoor
open Go Go.RowKit Am

/-- A number is reckoned before it is handed on: for the kernel. -/
def force {α : Type} (n : Nat) (k : Nat → α) : α := match n with
  | 0 => k 0
  | m + 1 => k (m + 1)
theorem force_eq {α : Type} (n : Nat) (k : Nat → α) : force n k = k n := by cases n <;> rfl
def forceL {α : Type} : List Nat → (List Nat → α) → α
  | [], k => k []
  | x :: l, k => force x fun y => forceL l fun r => k (y :: r)
theorem forceL_eq {α : Type} : ∀ (l : List Nat) (k : List Nat → α), forceL l k = k l
  | [], _ => rfl
  | x :: l, k => by rw [forceL, force_eq, forceL_eq l]
def fn (l : List Nat) : Nat → B64 := fun i => BitVec.ofNat 64 (l.getD i 0)
def li (a : Nat → B64) : List Nat := (List.range 25).map fun i => (a i).toNat
theorem fn_li (a : Nat → B64) : ∀ i, i < 25 → fn (li a) i = a i := fun i hi => by
  simp [fn, li, List.getD_eq_getElem?_getD, hi]
/-- A round asks for 25 lanes alone. -/
theorem cS_congr {a b : Nat → B64} (h : ∀ i, i < 25 → a i = b i) : ∀ k, k ≤ 25 → cS a k = cS b k
  | 0, _ => rfl
  | k + 1, hk => by rw [cS, cS, cS_congr h k (by omega), h k (by omega)]
theorem bS_congr {a b : Nat → B64} {r : Nat → Nat} (h : ∀ i, i < 25 → a i = b i) : ∀ k, k ≤ 25 → bS a r k = bS b r k
  | 0, _ => rfl
  | k + 1, hk => by rw [bS, bS, bS_congr h k (by omega), h k (by omega)]
theorem thF_congr {a b : Nat → B64} (h : ∀ i, i < 25 → a i = b i) : ∀ i, i < 25 → thF a i = thF b i := fun i hi => by
  have e : i / 5 * 5 + i % 5 = i := by omega
  rw [thF, thF, th, th, cS_congr h 25 (by omega), e, h i hi]
theorem round_congr {a b : Nat → B64} {r : Nat → Nat} (w : B64) (h : ∀ i, i < 25 → a i = b i) : roundF a r w = roundF b r w := by
  rw [roundF, roundF, rhF, rhF, bS_congr (thF_congr h) 25 (by omega)]
theorem fn_map {N : Nat} (f : Nat → B64) {i : Nat} (h : i < N) : fn ((List.range N).map fun i => (f i).toNat) i = f i := by
  simp [fn, List.getD_eq_getElem?_getD, h]
theorem roundF_at (a : Nat → B64) (r : Nat → Nat) (w : B64) (i : Nat) : roundF a r w i = if i = 0 then rhF a r 0 ^^^ w else rhF a r i := rfl
def rotT : List Nat := [0, 36, 3, 41, 18, 1, 44, 10, 45, 2, 62, 6, 43, 15, 61, 28, 55, 25, 21, 56, 27, 20, 39, 8, 14]
theorem rotC_T : ∀ i, i < 25 → rotC i = rotT.getD i 0 := by decide +kernel
def sg (i : Nat) : Nat := (i / 5 + 3 * (i % 5)) % 5 * 5 + i / 5
theorem bS_at (a : Nat → B64) (r : Nat → Nat) : ∀ i, i < 25 → bS a r 25 i = rot (a (sg i)) (r (sg i)) := fun i hi => by
  have h : i = 0 ∨ i = 1 ∨ i = 2 ∨ i = 3 ∨ i = 4 ∨ i = 5 ∨ i = 6 ∨ i = 7 ∨ i = 8 ∨ i = 9 ∨ i = 10 ∨ i = 11 ∨ i = 12 ∨ i = 13 ∨ i = 14 ∨ i = 15 ∨ i = 16 ∨ i = 17 ∨ i = 18 ∨ i = 19 ∨ i = 20 ∨ i = 21 ∨ i = 22 ∨ i = 23 ∨ i = 24 := by omega
  rcases h with rfl | rfl | rfl | rfl | rfl | rfl | rfl | rfl | rfl | rfl | rfl | rfl | rfl | rfl | rfl | rfl | rfl | rfl | rfl | rfl | rfl | rfl | rfl | rfl | rfl <;> rfl
theorem cS_at (a : Nat → B64) : ∀ x, x < 5 → cS a 25 x = 0 ^^^ a (5 * x) ^^^ a (5 * x + 1) ^^^ a (5 * x + 2) ^^^ a (5 * x + 3) ^^^ a (5 * x + 4) := fun x hx => by
  have h : x = 0 ∨ x = 1 ∨ x = 2 ∨ x = 3 ∨ x = 4 := by omega
  rcases h with rfl | rfl | rfl | rfl | rfl <;> rfl
theorem sg_lt (i : Nat) (h : i < 25) : sg i < 25 := by unfold sg; omega
def roundQ {α : Type} (l : List Nat) (w : B64) (k : List Nat → α) : α :=
  forceL ((List.range 5).map fun x => (0 ^^^ fn l (5 * x) ^^^ fn l (5 * x + 1) ^^^ fn l (5 * x + 2) ^^^ fn l (5 * x + 3) ^^^ fn l (5 * x + 4)).toNat) fun c =>
  forceL ((List.range 25).map fun i => (fn l (i / 5 * 5 + i % 5) ^^^ fn c ((i / 5 + 4) % 5) ^^^ rot (fn c ((i / 5 + 1) % 5)) 1).toNat) fun a =>
  forceL ((List.range 25).map fun i => (rot (fn a (sg i)) (rotT.getD (sg i) 0)).toNat) fun b =>
  forceL ((List.range 25).map fun i => (if i = 0 then ch (fn b) 0 0 ^^^ w else ch (fn b) (i / 5) (i % 5)).toNat) k
theorem roundQ_eq {α : Type} (l : List Nat) (w : B64) (k : List Nat → α) : roundQ l w k = k (li (roundF (fn l) rotC w)) := by
  unfold roundQ
  simp only [forceL_eq]
  congr 1
  refine List.map_congr_left fun i hi => ?_
  have hi : i < 25 := by simpa using hi
  have hc : ∀ x, x < 5 → fn ((List.range 5).map fun x => (0 ^^^ fn l (5 * x) ^^^ fn l (5 * x + 1) ^^^ fn l (5 * x + 2) ^^^ fn l (5 * x + 3) ^^^ fn l (5 * x + 4)).toNat) x = cS (fn l) 25 x := fun x hx => by rw [fn_map _ hx, cS_at _ x hx]
  generalize ((List.range 5).map fun x => (0 ^^^ fn l (5 * x) ^^^ fn l (5 * x + 1) ^^^ fn l (5 * x + 2) ^^^ fn l (5 * x + 3) ^^^ fn l (5 * x + 4)).toNat) = c at *
  have ha : ∀ i, i < 25 → fn ((List.range 25).map fun i => (fn l (i / 5 * 5 + i % 5) ^^^ fn c ((i / 5 + 4) % 5) ^^^ rot (fn c ((i / 5 + 1) % 5)) 1).toNat) i = thF (fn l) i := fun i hi => by
    rw [fn_map _ hi, thF, th, hc _ (by omega), hc _ (by omega)]
  generalize ((List.range 25).map fun i => (fn l (i / 5 * 5 + i % 5) ^^^ fn c ((i / 5 + 4) % 5) ^^^ rot (fn c ((i / 5 + 1) % 5)) 1).toNat) = a at *
  have hb : ∀ i, i < 25 → fn ((List.range 25).map fun i => (rot (fn a (sg i)) (rotT.getD (sg i) 0)).toNat) i = bS (thF (fn l)) rotC 25 i := fun i hi => by
    rw [fn_map _ hi, bS_at _ _ i hi, ha _ (sg_lt i hi), rotC_T _ (sg_lt i hi)]
  generalize ((List.range 25).map fun i => (rot (fn a (sg i)) (rotT.getD (sg i) 0)).toNat) = b at *
  have hch : ∀ x y, x < 5 → y < 5 → ch (fn b) x y = ch (bS (thF (fn l)) rotC 25) x y := fun x y hx hy => by
    rw [ch, ch, hb _ (by omega), hb _ (by omega), hb _ (by omega)]
  rw [roundF_at]
  by_cases h0 : i = 0
  · rw [if_pos h0, if_pos h0, hch 0 0 (by omega) (by omega)]
    rfl
  · rw [if_neg h0, if_neg h0, hch _ _ (by omega) (by omega)]
    rfl
def rdsQ {α : Type} : Nat → Nat → List Nat → (List Nat → α) → α
  | _, 0, l, f => f l
  | k, n + 1, l, f => roundQ l (wd k) fun l' => rdsQ (k + 1) n l' f
theorem rdsQ_eq {α : Type} (A : Nat → B64) : ∀ (n k : Nat) (f : List Nat → α), rdsQ k n (li (rds A k)) f = f (li (rds A (k + n)))
  | 0, k, f => rfl
  | n + 1, k, f => by
    rw [rdsQ, roundQ_eq, round_congr (wd k) (fn_li (rds A k))]
    have := rdsQ_eq A n (k + 1) f
    rw [show k + (n + 1) = k + 1 + n by omega, ← this]
    rfl
theorem outL_li (a : Nat → B64) : outL (fn (li a)) = outL a := List.map_congr_left fun i hi => by
  have hi : i < 32 := by simpa using hi
  rw [outB, outB, fn_li a _ (by omega)]
/-- One block's digest, in hexadecimal digits. -/
def evalB (l : List UInt8) : List UInt8 := forceL (li (absR (fun i => l.getD (136 * 0 + i) 0) (fun _ => 0) 17)) fun l0 => rdsQ 0 24 l0 fun l1 => Tryd.hexL (outL (fn l1))
theorem evalB_eq (s : ByteArray) (l : List UInt8) (hl : pad s = l) (h : l.length / 136 = 1) : hexB (digest s) = ⟨(evalB l).toArray⟩ := by
  have h1 : digest s = ⟨(outL (spg l 1)).toArray⟩ := by rw [digest, hl, h]
  rw [h1, hexB, evalB, forceL_eq]
  have h2 := rdsQ_eq (absR (fun i => l.getD (136 * 0 + i) 0) (fun _ => 0) 17) 24 0 (fun l1 => Tryd.hexL (outL (fn l1)))
  rw [show li (absR (fun i => l.getD (136 * 0 + i) 0) (fun _ => 0) 17) = li (rds (absR (fun i => l.getD (136 * 0 + i) 0) (fun _ => 0) 17) 0) from rfl, h2, outL_li, spg_abs]
  rfl
def pl0 : List UInt8 := 6 :: (List.replicate 134 0 ++ [128])
def pl3 : List UInt8 := 97 :: 98 :: 99 :: 6 :: (List.replicate 131 0 ++ [128])
theorem pad_0 : pad ⟨#[]⟩ = pl0 := by decide +kernel
theorem pad_3 : pad ⟨#[97, 98, 99]⟩ = pl3 := by decide +kernel
def ex0 : List UInt8 := [97, 55, 102, 102, 99, 54, 102, 56, 98, 102, 49, 101, 100, 55, 54, 54, 53, 49, 99, 49, 52, 55, 53, 54, 97, 48, 54, 49, 100, 54, 54, 50, 102, 53, 56, 48, 102, 102, 52, 100, 101, 52, 51, 98, 52, 57, 102, 97, 56, 50, 100, 56, 48, 97, 52, 98, 56, 48, 102, 56, 52, 51, 52, 97]
def ex3 : List UInt8 := [51, 97, 57, 56, 53, 100, 97, 55, 52, 102, 101, 50, 50, 53, 98, 50, 48, 52, 53, 99, 49, 55, 50, 100, 54, 98, 100, 51, 57, 48, 98, 100, 56, 53, 53, 102, 48, 56, 54, 101, 51, 101, 57, 100, 53, 50, 53, 98, 52, 54, 98, 102, 101, 50, 52, 53, 49, 49, 52, 51, 49, 53, 51, 50]
theorem eval_0 : evalB pl0 = ex0 := by decide +kernel
theorem eval_3 : evalB pl3 = ex3 := by decide +kernel
end Go.Proofs.YtjbjgddfflbiaaaDoor
