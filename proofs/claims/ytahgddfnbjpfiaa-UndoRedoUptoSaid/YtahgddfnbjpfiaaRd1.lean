/- Texts that the law's proof stands on: V67, V64, V68. -/
import Derived.Test.YtahgddfnbjpfiaaB27
import Derived.Test.YtahgddfnbjpfiaaB16
import Derived.Test.YtahgddfnbjpfiaaB30
set_option linter.unusedVariables false
set_option linter.unusedSimpArgs false
set_option maxRecDepth 100000
set_option maxHeartbeats 16000000
namespace Go.Proofs.Ytahgddfnbjpfiaa
open Go Go.RowKit Am

/-- What one edit adds to an undo that knows all edits. -/
def nxC (u e : Edt) : Edt := { u with deps := rmaxF u.deps [e.id], clock := if u.clock ≤ e.clock then e.clock + 1 else u.clock }
def nxN (u e : Edt) : Edt := { u with id := ⟨u.id.a, if (e.id.a.toList == u.id.a.toList) = true ∧ u.id.n ≤ e.id.n then e.id.n + 1 else u.id.n⟩ }
def nxL (u e : Edt) : Edt := { u with floor := if (e.id.a.toList == u.id.a.toList) = true ∧ u.floor < e.floor then e.floor else u.floor }
def nxS (u e : Edt) : Edt := nxL (nxN (nxC u e) e) e
def nx0 (t : Edt) : Edt := ⟨⟨t.id.a, 1⟩, 0, 0, [], 4, idL0, idL0, false, ⟨#[]⟩, ⟨#[]⟩, ⟨#[]⟩, ⟨#[]⟩, t.id, ⟨#[]⟩⟩
def nextF (l : List Edt) (t : Edt) : Edt := l.foldl nxS (nx0 t)
structure SmN (e : Edt) : Prop where
  c0 : -2000000000 ≤ e.clock
  c1 : e.clock ≤ 2000000000
  n0 : -2000000000 ≤ e.id.n
  n1 : e.id.n ≤ 2000000000
def nextS : Fspec := fun _ ds r => ∃ (es : List Edt) (i : Nat) (h : i < es.length), es.length ≤ 400000 ∧ (∀ e ∈ es, SmN e) ∧ ds = [.sl (es.map encE), .s (.int .i64 i)] ∧ r = .agg (encE (nextF es es[i]))
def zeroE : Edt := ⟨idL0, 0, 0, [], 0, idL0, idL0, false, ⟨#[]⟩, ⟨#[]⟩, ⟨#[]⟩, ⟨#[]⟩, idL0, ⟨#[]⟩⟩
theorem enc_zeroE : encE zeroE = [.s (.string ⟨#[]⟩), .s (.int .i64 0), .s (.int .i64 0), .s (.int .i64 0), .sl [], .s (.int .i64 0), .s (.string ⟨#[]⟩), .s (.int .i64 0), .s (.string ⟨#[]⟩), .s (.int .i64 0), .s (.bool false), .s (.string ⟨#[]⟩), .s (.string ⟨#[]⟩), .s (.string ⟨#[]⟩), .s (.string ⟨#[]⟩), .s (.string ⟨#[]⟩), .s (.int .i64 0), .s (.string ⟨#[]⟩)] := rfl
theorem enc_nx0 (e : Edt) : encE (nx0 e) = [.s (.string e.id.a), .s (.int .i64 1), .s (.int .i64 0), .s (.int .i64 0), .sl [], .s (.int .i64 4), .s (.string ⟨#[]⟩), .s (.int .i64 0), .s (.string ⟨#[]⟩), .s (.int .i64 0), .s (.bool false), .s (.string ⟨#[]⟩), .s (.string ⟨#[]⟩), .s (.string ⟨#[]⟩), .s (.string ⟨#[]⟩), .s (.string e.id.a), .s (.int .i64 e.id.n), .s (.string ⟨#[]⟩)] := rfl
theorem next_sound {plain : TypeId → Bool} {Γ : FuncId → Option Fspec} {Δ : FuncId → Option Pt} (hE : EnvOk ⟨Try.prog, plain, Γ, Δ, fun _ => none, 0⟩) (g_rmax : Γ 24 = some rmaxS) : Sound Try.prog 14 nextS := by
  refine sound_of_awp hE Try.func14 rfl (by kernel_rfl) ?_
  rintro Φ ds r ⟨es, k, hk, hl, hs, rfl, rfl⟩
  refine ⟨by simp [Try.f14], ?_⟩
  unfold st0
  refine W.out (E := ⟨Try.prog, plain, Γ, Δ, Φ, _⟩) ?_
  have hre := encE_rows es
  have hrk : ((es.map encE).getD k []) = encE es[k] := getD_map _ _ _ hk
  generalize hek : es[k] = e at *
  have ui : ∀ x : Idt, encId x = [.s (.string x.a), .s (.int .i64 x.n)] := fun _ => rfl
  have ud : ∀ l : List Idt, encIds l = .sl (l.map encId) := fun _ => rfl
  refine go (And.intro hre (And.intro hrk (And.intro @encE.eq_1 (And.intro ui ud)))) ?_
  have qz := enc_zeroE
  have qn := enc_nx0 e
  have q1 : (nx0 e).deps.length ≤ 0 := Nat.le_refl _
  have q2 : 0 ≤ (nx0 e).clock := (by decide : (0 : Int) ≤ 0)
  have q3 : (nx0 e).clock ≤ 2000000001 := (by decide : (0 : Int) ≤ 2000000001)
  have q4 : 1 ≤ (nx0 e).id.n := (by decide : (1 : Int) ≤ 1)
  have q5 : (nx0 e).id.n ≤ 2000000001 := (by decide : (1 : Int) ≤ 2000000001)
  refine x_loop (fun σ => ∃ (i : Nat) (u : Edt), σ.t 0 = .sl (es.map encE) ∧ σ.t 4 = .ptr 0 0 0 ∧ σ.t 5 = .ptr 1 0 0 ∧ σ.t 6 = .s (.int .i64 i) ∧ σ.h 0 = some ⟨18, [encE zeroE], true⟩ ∧ σ.h 1 = some ⟨18, [encE u], true⟩ ∧ 1 < σ.n ∧ i ≤ es.length ∧ u.deps.length ≤ i ∧ 0 ≤ u.clock ∧ u.clock ≤ 2000000001 ∧ 1 ≤ u.id.n ∧ u.id.n ≤ 2000000001 ∧ (es.drop i).foldl nxS u = nextF es e) (fun σ => es.length - ix (σ.t 6)) ⟨0, nx0 e, (by first | assumption | exact sxa trivial), (by first | assumption | exact sxa trivial), (by first | assumption | exact sxa trivial), (by first | assumption | exact sxa trivial), (by first | assumption | exact sxa trivial), (by first | assumption | exact sxa trivial), (by first | omega | (dsimp only; omega) | exact soa trivial | omega | (simp; done)), (by first | rfl | omega | assumption | (simp [*]; done)), (by first | rfl | omega | assumption | (simp [*]; done)), (by first | rfl | omega | assumption | (simp [*]; done)), (by first | rfl | omega | assumption | (simp [*]; done)), (by first | rfl | omega | assumption | (simp [*]; done)), (by first | rfl | omega | assumption | (simp [*]; done)), (by first | rfl | omega | assumption | (simp [*]; done))⟩ ?_
  rintro t h n ⟨i, u, h0, h4, h5, h6, hh0, hh1, hn1, hf0, hf1, hf2, hf3, hf4, hf5, hf6⟩
  simp only at h0 h4 h5 h6 hh0 hh1 hn1
  refine go (And.intro h0 (And.intro h4 (And.intro h5 h6))) ?_
  refine x_condP (sv (And.intro h0 (And.intro h4 (And.intro h5 h6)))) (fun hc => ?_) (fun hc => ?_)
  · have hi : i < es.length := by omega
    rw [List.drop_eq_getElem_cons hi, List.foldl_cons] at hf6
    have hse := hs _ (List.getElem_mem hi)
    have s1 := hse.c0
    have s2 := hse.c1
    have s3 := hse.n0
    have s4 := hse.n1
    have hrow : ((es.map encE).getD i []) = encE es[i] := getD_map _ _ _ hi
    generalize hee : es[i] = x at *
    have e0 : (0 = n) = False := eq_false (by omega)
    have e1 : (1 = n) = False := eq_false (by omega)
    have e2 : (n = 0) = False := eq_false (by omega)
    have e3 : (n = 1) = False := eq_false (by omega)
    have hrl := radd_len u.deps x.id false
    have hrm : (rmaxF u.deps [x.id]).length ≤ u.deps.length + 1 := hrl
    clear hrl
    refine go (And.intro h0 (And.intro h4 (And.intro h5 (And.intro h6 (And.intro hh1 (And.intro hre (And.intro hrow (And.intro @encE.eq_1 (And.intro e0 (And.intro e1 (And.intro e2 e3))))))))))) ?_
    refine x_callDS rfl rfl rfl rfl rfl (sv (And.intro ud (And.intro ui @encE.eq_1))) g_rmax (sv (And.intro ud (And.intro ui @encE.eq_1))) (se (And.intro ud (And.intro ui @encE.eq_1))) ⟨u.deps, [x.id], by omega, by simp, rfl, rfl⟩ (by simp) (by simp [touchA, touch]) ?_
    refine goR (And.intro h0 (And.intro h4 (And.intro h5 (And.intro h6 (And.intro hh1 (And.intro hre (And.intro hrow (And.intro @encE.eq_1 (And.intro e0 (And.intro e1 (And.intro e2 e3))))))))))) ?_
    refine x_cut (fun σ => σ.t 0 = .sl (es.map encE) ∧ σ.t 4 = .ptr 0 0 0 ∧ σ.t 5 = .ptr 1 0 0 ∧ σ.t 6 = .s (.int .i64 i) ∧ σ.h 0 = some ⟨18, [encE zeroE], true⟩ ∧ σ.h 1 = some ⟨18, [encE (nxC u x)], true⟩ ∧ 1 < σ.n) ?_ ?_
    · have eq : ∀ c : Int, (if u.clock ≤ x.clock then x.clock + 1 else u.clock) = c → encE (nxC u x) = [.s (.string u.id.a), .s (.int .i64 u.id.n), .s (.int .i64 c), .s (.int .i64 u.floor), .sl ((rmaxF u.deps [x.id]).map encId), .s (.int .i64 u.kind), .s (.string u.node.a), .s (.int .i64 u.node.n), .s (.string u.parent.a), .s (.int .i64 u.parent.n), .s (.bool u.neg), .s (.string u.num), .s (.string u.den), .s (.string u.field), .s (.string u.value), .s (.string u.target.a), .s (.int .i64 u.target.n), .s (.string u.who)] := fun c h => by rw [← h]; rfl
      by_cases c1 : u.clock ≤ x.clock
      · have eq1 := eq _ (if_pos c1)
        clear eq
        refine go (And.intro h0 (And.intro h4 (And.intro h5 (And.intro h6 (And.intro hh0 (And.intro hh1 (And.intro hre (And.intro hrow (And.intro @encE.eq_1 c1))))))))) ?_
        (refine ⟨?_, ?_, ?_, ?_, ?_, ?_, ?_⟩ <;> (first | omega | (dsimp only; omega) | exact sxa (And.intro @cast_succ eq1) | exact soa trivial | (first | omega | assumption | (simp [*]; done))))
      · have eq1 := eq _ (if_neg c1)
        clear eq
        refine go (And.intro h0 (And.intro h4 (And.intro h5 (And.intro h6 (And.intro hh0 (And.intro hh1 (And.intro hre (And.intro hrow (And.intro @encE.eq_1 c1))))))))) ?_
        (refine ⟨?_, ?_, ?_, ?_, ?_, ?_, ?_⟩ <;> (first | omega | (dsimp only; omega) | exact sxa (And.intro @cast_succ eq1) | exact soa trivial | (first | omega | assumption | (simp [*]; done))))
    rintro t h n ⟨h0, h4, h5, h6, hh0, hh1, hn1⟩
    simp only at h0 h4 h5 h6 hh0 hh1 hn1
    have w1 : (nxC u x).deps.length ≤ i + 1 := by
      show (rmaxF u.deps [x.id]).length ≤ _
      omega
    have w2 : 0 ≤ (nxC u x).clock ∧ (nxC u x).clock ≤ 2000000001 := by
      show 0 ≤ (if u.clock ≤ x.clock then x.clock + 1 else u.clock) ∧ (if u.clock ≤ x.clock then x.clock + 1 else u.clock) ≤ 2000000001
      split <;> omega
    have w3 : 1 ≤ (nxC u x).id.n ∧ (nxC u x).id.n ≤ 2000000001 := ⟨hf4, hf5⟩
    have hf6' : (es.drop (i + 1)).foldl nxS (nxL (nxN (nxC u x) x) x) = nextF es e := hf6
    clear hf6 hf1 hf2 hf3 hf4 hf5 hrm e0 e1 e2 e3
    generalize nxC u x = v at *
    refine x_cut (fun σ => σ.t 0 = .sl (es.map encE) ∧ σ.t 4 = .ptr 0 0 0 ∧ σ.t 5 = .ptr 1 0 0 ∧ σ.t 6 = .s (.int .i64 i) ∧ σ.h 0 = some ⟨18, [encE zeroE], true⟩ ∧ σ.h 1 = some ⟨18, [encE (nxN v x)], true⟩ ∧ 1 < σ.n) ?_ ?_
    · have eq : ∀ c : Int, (if (x.id.a.toList == v.id.a.toList) = true ∧ v.id.n ≤ x.id.n then x.id.n + 1 else v.id.n) = c → encE (nxN v x) = [.s (.string v.id.a), .s (.int .i64 c), .s (.int .i64 v.clock), .s (.int .i64 v.floor), .sl (v.deps.map encId), .s (.int .i64 v.kind), .s (.string v.node.a), .s (.int .i64 v.node.n), .s (.string v.parent.a), .s (.int .i64 v.parent.n), .s (.bool v.neg), .s (.string v.num), .s (.string v.den), .s (.string v.field), .s (.string v.value), .s (.string v.target.a), .s (.int .i64 v.target.n), .s (.string v.who)] := fun c h => by rw [← h]; rfl
      cases c1 : (x.id.a.toList == v.id.a.toList)
      · have eq1 := eq _ (if_neg (fun h => by rw [c1] at h; cases h.1))
        clear eq
        refine go (And.intro h0 (And.intro h4 (And.intro h5 (And.intro h6 (And.intro hh0 (And.intro hh1 (And.intro hre (And.intro hrow (And.intro @encE.eq_1 c1))))))))) ?_
        (refine ⟨?_, ?_, ?_, ?_, ?_, ?_, ?_⟩ <;> (first | omega | (dsimp only; omega) | exact sxa (And.intro @cast_succ eq1) | exact soa trivial | (first | omega | assumption | (simp [*]; done))))
      · by_cases c2 : v.id.n ≤ x.id.n
        · have eq1 := eq _ (if_pos ⟨c1, c2⟩)
          clear eq
          refine go (And.intro h0 (And.intro h4 (And.intro h5 (And.intro h6 (And.intro hh0 (And.intro hh1 (And.intro hre (And.intro hrow (And.intro @encE.eq_1 (And.intro c1 c2)))))))))) ?_
          (refine ⟨?_, ?_, ?_, ?_, ?_, ?_, ?_⟩ <;> (first | omega | (dsimp only; omega) | exact sxa (And.intro @cast_succ eq1) | exact soa trivial | (first | omega | assumption | (simp [*]; done))))
        · have eq1 := eq _ (if_neg (fun h => c2 h.2))
          clear eq
          refine go (And.intro h0 (And.intro h4 (And.intro h5 (And.intro h6 (And.intro hh0 (And.intro hh1 (And.intro hre (And.intro hrow (And.intro @encE.eq_1 (And.intro c1 c2)))))))))) ?_
          (refine ⟨?_, ?_, ?_, ?_, ?_, ?_, ?_⟩ <;> (first | omega | (dsimp only; omega) | exact sxa (And.intro @cast_succ eq1) | exact soa trivial | (first | omega | assumption | (simp [*]; done))))
    rintro t h n ⟨h0, h4, h5, h6, hh0, hh1, hn1⟩
    simp only at h0 h4 h5 h6 hh0 hh1 hn1
    have w4 : 1 ≤ (nxN v x).id.n ∧ (nxN v x).id.n ≤ 2000000001 := by
      show 1 ≤ (if (x.id.a.toList == v.id.a.toList) = true ∧ v.id.n ≤ x.id.n then x.id.n + 1 else v.id.n) ∧ (if (x.id.a.toList == v.id.a.toList) = true ∧ v.id.n ≤ x.id.n then x.id.n + 1 else v.id.n) ≤ 2000000001
      split <;> omega
    have w5 : (nxN v x).deps.length ≤ i + 1 := w1
    have w6 : 0 ≤ (nxN v x).clock ∧ (nxN v x).clock ≤ 2000000001 := w2
    clear w1 w2 w3
    generalize nxN v x = v at *
    have w7 : (nxL v x).deps.length ≤ i + 1 := w5
    have w8 : 0 ≤ (nxL v x).clock := w6.1
    have w9 : (nxL v x).clock ≤ 2000000001 := w6.2
    have wa : 1 ≤ (nxL v x).id.n := w4.1
    have wb : (nxL v x).id.n ≤ 2000000001 := w4.2
    have eq : ∀ c : Int, (if (x.id.a.toList == v.id.a.toList) = true ∧ v.floor < x.floor then x.floor else v.floor) = c → encE (nxL v x) = [.s (.string v.id.a), .s (.int .i64 v.id.n), .s (.int .i64 v.clock), .s (.int .i64 c), .sl (v.deps.map encId), .s (.int .i64 v.kind), .s (.string v.node.a), .s (.int .i64 v.node.n), .s (.string v.parent.a), .s (.int .i64 v.parent.n), .s (.bool v.neg), .s (.string v.num), .s (.string v.den), .s (.string v.field), .s (.string v.value), .s (.string v.target.a), .s (.int .i64 v.target.n), .s (.string v.who)] := fun c h => by rw [← h]; rfl
    cases c1 : (x.id.a.toList == v.id.a.toList)
    · have eq1 := eq _ (if_neg (fun h => by rw [c1] at h; cases h.1))
      clear eq
      refine go (And.intro h0 (And.intro h4 (And.intro h5 (And.intro h6 (And.intro hh0 (And.intro hh1 (And.intro hre (And.intro hrow (And.intro @encE.eq_1 c1))))))))) ?_
      (refine ⟨⟨i + 1, nxL v x, ?_, ?_, ?_, ?_, ?_, ?_, ?_, ?_, ?_, ?_, ?_, ?_, ?_, ?_⟩, ?_⟩ <;> (first | omega | (dsimp only; omega) | (first | omega | assumption | (simp [*]; done)) | exact sxa (And.intro @cast_succ eq1) | exact soa trivial))
    · by_cases c2 : v.floor < x.floor
      · have eq1 := eq _ (if_pos ⟨c1, c2⟩)
        clear eq
        refine go (And.intro h0 (And.intro h4 (And.intro h5 (And.intro h6 (And.intro hh0 (And.intro hh1 (And.intro hre (And.intro hrow (And.intro @encE.eq_1 (And.intro c1 c2)))))))))) ?_
        (refine ⟨⟨i + 1, nxL v x, ?_, ?_, ?_, ?_, ?_, ?_, ?_, ?_, ?_, ?_, ?_, ?_, ?_, ?_⟩, ?_⟩ <;> (first | omega | (dsimp only; omega) | (first | omega | assumption | (simp [*]; done)) | exact sxa (And.intro @cast_succ eq1) | exact soa trivial))
      · have eq1 := eq _ (if_neg (fun h => c2 h.2))
        clear eq
        refine go (And.intro h0 (And.intro h4 (And.intro h5 (And.intro h6 (And.intro hh0 (And.intro hh1 (And.intro hre (And.intro hrow (And.intro @encE.eq_1 (And.intro c1 c2)))))))))) ?_
        (refine ⟨⟨i + 1, nxL v x, ?_, ?_, ?_, ?_, ?_, ?_, ?_, ?_, ?_, ?_, ?_, ?_, ?_, ?_⟩, ?_⟩ <;> (first | omega | (dsimp only; omega) | (first | omega | assumption | (simp [*]; done)) | exact sxa (And.intro @cast_succ eq1) | exact soa trivial))
  · have ei : i = es.length := by omega
    subst ei
    rw [List.drop_length, List.foldl_nil] at hf6
    subst hf6
    refine go (And.intro h0 (And.intro h4 (And.intro h5 (And.intro h6 (And.intro hh0 (And.intro hh1 (And.intro @encE.eq_1 qz))))))) ?_
    refine x_done (x_out (sr (And.intro @Try.f14.eq_1 (And.intro @encE.eq_1 h4))) (by simp) (by simp) rfl)
end Go.Proofs.Ytahgddfnbjpfiaa

set_option linter.unusedVariables false
set_option linter.unusedSimpArgs false
set_option maxRecDepth 100000
set_option maxHeartbeats 16000000
namespace Go.Proofs.Ytahgddfnbjpfiaa
open Go Go.RowKit Am

/-- The edits of an author. -/
def sameA (e : Edt) (u : Edt) : Bool := u.id.a.toList == e.id.a.toList
theorem un_same {u e : Edt} (h : unF u e = true) : sameA e u = true := by
  unfold unF undF at h
  simp only [Bool.and_eq_true] at h
  exact h.2.1.1.1.1
theorem sameA_eq {u e : Edt} (h : sameA e u = true) : u.id.a = e.id.a := by
  unfold sameA at h
  rw [lbeq] at h
  exact of_decide_eq_true h
theorem sameA_congr {e e' : Edt} (h : e.id.a = e'.id.a) : sameA e = sameA e' := by
  funext u; unfold sameA; rw [h]
theorem alive_filter (e0 : Edt) : ∀ (l : List Edt) (e : Edt), sameA e0 e = true → aliveF unF e (l.filter (sameA e0)) = aliveF unF e l
  | [], e, _ => rfl
  | u :: l, e, h => by
    rw [aliveF]
    cases hu : sameA e0 u with
    | true => rw [List.filter_cons_of_pos hu, aliveF, alive_filter e0 l u hu, alive_filter e0 l e h]
    | false =>
      rw [List.filter_cons_of_neg (by simp [hu]), alive_filter e0 l e h]
      cases hx : unF u e with
      | false => simp
      | true =>
        have h1 := un_same hx
        rw [← sameA_congr (sameA_eq h)] at hu
        rw [hu] at h1; cases h1
theorem own_at {es : List Edt} {i : Nat} (hi : i < es.length) (e : Edt) (he : es[i] = e) : es.filter (sameA e) = (es.take i).filter (sameA e) ++ e :: (es.drop (i + 1)).filter (sameA e) := by
  have h1 : sameA e e = true := by unfold sameA; simp
  conv => lhs; rw [← List.take_append_drop i es]
  rw [List.filter_append, List.drop_eq_getElem_cons hi, he, List.filter_cons_of_pos h1]
theorem filter_take_succ (p : Edt → Bool) {l : List Edt} {k : Nat} (hk : k < l.length) : (l.take (k + 1)).filter p = (l.take k).filter p ++ (if p l[k] = true then [l[k]] else []) := by
  rw [List.take_succ_eq_append_getElem hk, List.filter_append]
  congr 1
  by_cases h : p l[k] = true <;> simp [h]
theorem ownLaw_sound {plain : TypeId → Bool} {Γ : FuncId → Option Fspec} {Δ : FuncId → Option Pt} (hE : EnvOk ⟨Try.prog, plain, Γ, Δ, fun _ => none, 0⟩) (g_alive : Γ 9 = some aliveS) (g_sorted : Γ 10 = some sortedS) (g_live : Γ 11 = some live2S) : Sound Try.prog 4 lawES := by
  refine sound_of_awp hE Try.func4 rfl (by kernel_rfl) ?_
  rintro Φ ds r ⟨es, hs, rfl, rfl⟩
  refine ⟨by simp [Try.f4], ?_⟩
  unfold st0
  refine W.out (E := ⟨Try.prog, plain, Γ, Δ, Φ, _⟩) ?_
  refine go trivial ?_
  refine x_callN rfl rfl rfl rfl (sv trivial) g_alive (sv trivial) (se trivial) ⟨rfl, rfl⟩ rfl ?_
  refine go trivial ?_
  refine x_callN rfl rfl rfl rfl (sv trivial) g_sorted (sv trivial) (se trivial) ⟨es, hs, rfl, rfl⟩ rfl ?_
  cases hq : srtF es
  · rw [if_neg (by decide)]
    have z0 : ((0 : Int) == 0) = true := rfl
    refine go z0 ?_
    refine x_done (x_out (sr @Try.f4.eq_1) (by simp) (by simp) rfl)
  have z1 : ((1 : Int) == 0) = false := rfl
  have S := srt_of hq
  have hl40 := S.len
  rw [if_pos rfl]
  refine go z1 ?_
  refine x_callS rfl rfl rfl rfl (sv trivial) g_live (sv trivial) (se trivial) ⟨es, hs.l, rfl, rfl⟩ (by simp) (by simp [touchA, touch]) ?_
  have hlen := allL_len unF es
  have hget := allL_get unF es
  generalize hL : allL unF es = L at *
  have hr := encB_rows L
  have hre := encE_rows es
  refine go trivial ?_
  refine x_loop (fun σ => ∃ (i : Nat), σ.t 0 = .sl (es.map encE) ∧ σ.t 3 = .sl (L.map encBo) ∧ σ.t 4 = .s (.int .i64 i) ∧ i ≤ es.length) (fun σ => es.length - ix (σ.t 4)) ⟨0, (by first | assumption | exact sxa trivial), (by first | assumption | exact sxa trivial), (by first | assumption | exact sxa trivial), (by first | rfl | omega | assumption | (simp [*]; done))⟩ ?_
  rintro t h n ⟨i, h0, h3, h4, hf0⟩
  simp only at h0 h3 h4
  refine go (And.intro h0 (And.intro h3 h4)) ?_
  refine x_condP (sv (And.intro h0 (And.intro h3 h4))) (fun hc => ?_) (fun hc => ?_)
  · have hi : i < es.length := by omega
    have hiL : i < L.length := by omega
    have hrow : ((es.map encE).getD i []) = encE es[i] := getD_map _ _ _ hi
    have hrL : ((L.map encBo).getD i []) = [.s (.bool L[i])] := getD_map _ _ _ hiL
    have hv : L[i] = aliveF unF es[i] (es.drop (i + 1)) := by
      have := hget i hi
      rw [List.getElem?_eq_getElem hiL] at this
      exact Option.some.inj this
    have hoa := own_at hi _ rfl
    have hfs := fun k hk => filter_take_succ (sameA es[i]) (l := es) (k := k) hk
    have hal := alive_filter es[i] (es.drop (i + 1)) es[i] (by unfold sameA; simp)
    generalize hee : es[i] = e at *
    refine goR trivial ?_
    refine x_seq ?_
    refine goR trivial ?_
    refine x_seq ?_
    refine goR (And.intro h0 (And.intro h3 h4)) ?_
    refine x_seq ?_
    refine goR (And.intro h0 (And.intro h3 h4)) ?_
    refine x_cutF 5 (fun σ => ∃ (b : Nat) (cap : Nat) (sp : List (List Am.V)), σ.t 0 = .sl (es.map encE) ∧ σ.t 3 = .sl (L.map encBo) ∧ σ.t 4 = .s (.int .i64 i) ∧ σ.t 5 = .loc b 0 (es.filter (sameA e)).length cap ∧ σ.t 6 = .s (.int .i64 ((es.take i).filter (sameA e)).length) ∧ σ.h b = some ⟨18, (es.filter (sameA e)).map encE ++ sp, true⟩ ∧ (es.filter (sameA e)).length ≤ cap) ?_ ?_
    · clear hoa hal hv
      refine go (And.intro h0 (And.intro h3 h4)) ?_
      refine x_loopG 5 18 (fun σ => ∃ (k : Nat) (b : Nat) (cap : Nat) (at0 : Nat) (sp : List (List Am.V)), σ.t 0 = .sl (es.map encE) ∧ σ.t 3 = .sl (L.map encBo) ∧ σ.t 4 = .s (.int .i64 i) ∧ σ.t 5 = .loc b 0 ((es.take k).filter (sameA e)).length cap ∧ σ.t 6 = .s (.int .i64 at0) ∧ σ.t 7 = .s (.int .i64 k) ∧ σ.h b = some ⟨18, ((es.take k).filter (sameA e)).map encE ++ sp, true⟩ ∧ b < σ.n ∧ k ≤ es.length ∧ ((es.take k).filter (sameA e)).length ≤ cap ∧ cap ≤ ((es.take k).filter (sameA e)).length + sp.length ∧ ((es.take k).filter (sameA e)).length ≤ k ∧ (i < k → at0 = ((es.take i).filter (sameA e)).length)) (fun σ => es.length - ix (σ.t 7)) (sca trivial) ⟨0, _, 0, 0, [], (by first | assumption | exact sxa trivial), (by first | assumption | exact sxa trivial), (by first | assumption | exact sxa trivial), (by first | assumption | exact sxa trivial), (by first | assumption | exact sxa trivial), (by first | assumption | exact sxa trivial), (by first | assumption | exact sxa trivial), (by first | omega | (dsimp only; omega) | exact soa trivial | omega | (simp; done)), (by first | rfl | omega | assumption | (simp [*]; done)), (by first | rfl | omega | assumption | (simp [*]; done)), (by first | rfl | omega | assumption | (simp [*]; done)), (by first | rfl | omega | assumption | (simp [*]; done)), (by first | rfl | omega | assumption | (simp [*]; done))⟩ ?_
      rintro t h n ⟨k, b, cap, at0, sp, h0, h3, h4, h5, h6, h7, hhb, hn1, hf0, hf1, hf2, hf3, hf4⟩
      simp only at h0 h3 h4 h5 h6 h7 hhb hn1
      refine go (And.intro h0 (And.intro h3 (And.intro h4 (And.intro h5 (And.intro h6 h7))))) ?_
      refine x_condP (sv (And.intro h0 (And.intro h3 (And.intro h4 (And.intro h5 (And.intro h6 h7)))))) (fun hc => ?_) (fun hc => ?_)
      · have hk : k < es.length := by omega
        have hrk : ((es.map encE).getD k []) = encE es[k] := getD_map _ _ _ hk
        have hsx := hfs k hk
        clear hfs
        have e1 : (b = n) = False := by simp <;> omega
        have e3 : (n = b) = False := by simp <;> omega
        generalize heu : es[k] = u at *
        cases c1 : (u.id.a.toList == e.id.a.toList)
        · have hsa : sameA e u = false := c1
          rw [hsa, if_neg (by decide), List.append_nil] at hsx
          have hnk : ¬ i = k := fun h => by
            subst h
            rw [hee] at heu
            rw [← heu] at c1
            simp at c1
          rw [← hsx] at hhb hf1 hf2 hf3
          have h5' := h5
          rw [← hsx] at h5'
          clear h5 hsx
          refine go (And.intro h0 (And.intro h3 (And.intro h4 (And.intro h5' (And.intro h6 (And.intro h7 (And.intro hre (And.intro hrow (And.intro hrk (And.intro @encE.eq_1 c1)))))))))) ?_
          have hik : i < k + 1 → at0 = ((es.take i).filter (sameA e)).length := fun h => hf4 (by omega)
          (refine ⟨⟨k + 1, b, cap, at0, sp, ?_, ?_, ?_, ?_, ?_, ?_, ?_, ?_, ?_, ?_, ?_, ?_, ?_⟩, ?_⟩ <;> (first | omega | (dsimp only; omega) | (first | omega | assumption | (simp [*]; done)) | exact sxa @cast_succ | exact soa trivial))
        · have hsa : sameA e u = true := c1
          rw [hsa, if_pos rfl] at hsx
          have hl2 : ((es.take (k + 1)).filter (sameA e)).length = ((es.take k).filter (sameA e)).length + 1 := by rw [hsx]; simp
          have hm2 : ((es.take (k + 1)).filter (sameA e)).map encE = ((es.take k).filter (sameA e)).map encE ++ [encE u] := by rw [hsx]; simp
          clear hsx
          by_cases c2 : (k : Int) = (i : Int)
          · have c2' : ((k : Int) == (i : Int)) = true := by simpa using c2
            have hki : k = i := by omega
            have hik : i < k + 1 → ((es.take k).filter (sameA e)).length = ((es.take i).filter (sameA e)).length := fun _ => by rw [hki]
            clear hki
            refine go (And.intro h0 (And.intro h3 (And.intro h4 (And.intro h5 (And.intro h6 (And.intro h7 (And.intro hhb (And.intro hre (And.intro hrow (And.intro hrk (And.intro @encE.eq_1 (And.intro c1 (And.intro c2' (And.intro e1 e3)))))))))))))) ?_
            refine x_appendO rfl rfl rfl rfl rfl rfl (sv (And.intro h5 (And.intro hhb (And.intro @encE.eq_1 (And.intro e1 e3))))) (by decide) (sc (And.intro h5 (And.intro hhb (And.intro @encE.eq_1 (And.intro e1 e3))))) (sv (And.intro h5 (And.intro hhb (And.intro @encE.eq_1 (And.intro e1 e3))))) (sx (And.intro h5 (And.intro hhb (And.intro @encE.eq_1 (And.intro e1 e3))))) (by first | rfl | (simp; done) | (simp [spare_len]; omega)) (by first | omega | (simp; done) | (simp [spare_len]; omega)) (by first | omega | (simp; done) | (simp [spare_len]; omega)) (sx (And.intro h5 (And.intro hhb (And.intro @encE.eq_1 (And.intro e1 e3))))) (okRowsE [u]) (by first | omega | (simp; done) | (simp [spare_len]; omega)) (fun cap' hcap' => ?_)
            refine go (And.intro h0 (And.intro h3 (And.intro h4 (And.intro h5 (And.intro h6 (And.intro h7 (And.intro hhb (And.intro @encE.eq_1 (And.intro e1 e3))))))))) ?_
            have hc2 : ((es.take k).filter (sameA e)).length + 1 ≤ cap' := hcap'
            have hs1 := spare_len 18 (cap' - (((es.take k).filter (sameA e)).length + 1))
            clear c2 c2'
            (refine ⟨⟨k + 1, n + 1, cap', ((es.take k).filter (sameA e)).length, spare 18 (cap' - (((es.take k).filter (sameA e)).length + 1)), ?_, ?_, ?_, ?_, ?_, ?_, ?_, ?_, ?_, ?_, ?_, ?_, ?_⟩, ?_⟩ <;> (first | omega | (dsimp only; omega) | (first | omega | assumption | (simp [*]; done)) | exact sxa (And.intro @cast_succ (And.intro @encE.eq_1 (And.intro hl2 (And.intro hm2 (And.intro e1 e3))))) | exact soa trivial))
          · have c2' : ((k : Int) == (i : Int)) = false := by simpa using c2
            have hik : i < k + 1 → at0 = ((es.take i).filter (sameA e)).length := fun h => hf4 (by omega)
            refine go (And.intro h0 (And.intro h3 (And.intro h4 (And.intro h5 (And.intro h6 (And.intro h7 (And.intro hhb (And.intro hre (And.intro hrow (And.intro hrk (And.intro @encE.eq_1 (And.intro c1 (And.intro c2' (And.intro e1 e3)))))))))))))) ?_
            refine x_appendO rfl rfl rfl rfl rfl rfl (sv (And.intro h5 (And.intro hhb (And.intro @encE.eq_1 (And.intro e1 e3))))) (by decide) (sc (And.intro h5 (And.intro hhb (And.intro @encE.eq_1 (And.intro e1 e3))))) (sv (And.intro h5 (And.intro hhb (And.intro @encE.eq_1 (And.intro e1 e3))))) (sx (And.intro h5 (And.intro hhb (And.intro @encE.eq_1 (And.intro e1 e3))))) (by first | rfl | (simp; done) | (simp [spare_len]; omega)) (by first | omega | (simp; done) | (simp [spare_len]; omega)) (by first | omega | (simp; done) | (simp [spare_len]; omega)) (sx (And.intro h5 (And.intro hhb (And.intro @encE.eq_1 (And.intro e1 e3))))) (okRowsE [u]) (by first | omega | (simp; done) | (simp [spare_len]; omega)) (fun cap' hcap' => ?_)
            refine go (And.intro h0 (And.intro h3 (And.intro h4 (And.intro h5 (And.intro h6 (And.intro h7 (And.intro hhb (And.intro @encE.eq_1 (And.intro e1 e3))))))))) ?_
            have hc2 : ((es.take k).filter (sameA e)).length + 1 ≤ cap' := hcap'
            have hs1 := spare_len 18 (cap' - (((es.take k).filter (sameA e)).length + 1))
            (refine ⟨⟨k + 1, n + 1, cap', at0, spare 18 (cap' - (((es.take k).filter (sameA e)).length + 1)), ?_, ?_, ?_, ?_, ?_, ?_, ?_, ?_, ?_, ?_, ?_, ?_, ?_⟩, ?_⟩ <;> (first | omega | (dsimp only; omega) | (first | omega | assumption | (simp [*]; done)) | exact sxa (And.intro @cast_succ (And.intro @encE.eq_1 (And.intro hl2 (And.intro hm2 (And.intro e1 e3))))) | exact soa trivial))
      · have ek : k = es.length := by omega
        subst ek
        have hat := hf4 hi
        rw [List.take_length] at h5 hhb hf1 hf2
        rw [hat] at h6
        skip
        refine go (And.intro h0 (And.intro h3 (And.intro h4 (And.intro h5 (And.intro h6 h7))))) ?_
        (refine ⟨b, cap, sp, ?_, ?_, ?_, ?_, ?_, ?_, ?_⟩ <;> (first | omega | (dsimp only; omega) | exact sxa @cast_succ | exact soa trivial | (omega)))
    rintro t h n ⟨b, cap, sp, h0, h3, h4, h5, h6, hhb, hf0⟩
    simp only at h0 h3 h4 h5 h6 hhb
    have hx1 : ∀ h d, allO (allO (expo h d)) ((es.filter (sameA e)).map encE) = some ((es.filter (sameA e)).map encE) := fun h d => allO_rows h d (deep_map encE _ (fun a => by simp [encE, deepc]))
    have tk : ((es.filter (sameA e)).map encE ++ sp).take (es.filter (sameA e)).length = (es.filter (sameA e)).map encE := List.take_left' (by simp)
    refine ⟨.sl ((es.filter (sameA e)).map encE), ?_, fun h2 hold => ?_⟩
    · rw [h5]
      have ln : ((es.filter (sameA e)).length ≤ ((es.filter (sameA e)).map encE ++ sp).length) = True := by simp
      exact se (And.intro hhb (And.intro hx1 (And.intro tk ln)))
    clear hold hhb hx1 tk hfs h5 hf0 hrow
    obtain ⟨W0, hW0⟩ : ∃ W0, W0 = es.filter (sameA e) := ⟨_, rfl⟩
    obtain ⟨P0, hP0⟩ : ∃ P0, P0 = (es.take i).filter (sameA e) := ⟨_, rfl⟩
    rw [← hW0] at hoa ⊢
    rw [← hP0] at hoa h6
    have hsm : smL W0 := ⟨by rw [hW0]; exact Nat.le_trans (List.length_filter_le _ _) hs.1, fun u hu => hs.l.2 u (by rw [hW0] at hu; exact (List.mem_filter.1 hu).1)⟩
    have hgl := allL_len unF W0
    have hgg := allL_get unF W0
    have hpl : P0.length < W0.length := by rw [hoa]; simp
    have hx2 : (allL unF W0)[P0.length]? = some L[i] := by
      rw [hgg P0.length hpl, hv, ← hal]
      have h1 : W0[P0.length] = e := by simp [hoa]
      have h2 : W0.drop (P0.length + 1) = (es.drop (i + 1)).filter (sameA e) := by rw [hoa, List.drop_append]; simp
      rw [h1, h2]
    clear hoa hal hv hgg hW0 hP0
    refine go (And.intro h0 (And.intro h3 (And.intro h4 h6))) ?_
    refine x_callS rfl rfl rfl rfl (sv trivial) g_live (sv trivial) (se trivial) ⟨W0, hsm, rfl, rfl⟩ (by simp) (by simp [touchA, touch]) ?_
    generalize allL unF W0 = M at *
    have hpm : P0.length < M.length := by omega
    have hrm := encB_rows M
    have hrx : ((M.map encBo).getD P0.length []) = [.s (.bool L[i])] := by
      rw [getD_map _ _ _ hpm]
      rw [List.getElem?_eq_getElem hpm] at hx2
      rw [Option.some.inj hx2]
    generalize L[i] = x at *
    have q1 : ((L.length : Int) != (es.length : Int)) = false := by rw [hlen]; simp
    have q2 : ((M.length : Int) != (W0.length : Int)) = false := by rw [hgl]; simp
    refine go (And.intro h0 (And.intro h3 (And.intro h4 (And.intro h6 (And.intro hr (And.intro hre (And.intro hrm (And.intro hrx (And.intro hrL (And.intro q1 q2)))))))))) ?_
    (refine ⟨⟨i + 1, ?_, ?_, ?_, ?_⟩, ?_⟩ <;> (first | omega | (dsimp only; omega) | (first | omega | assumption | (simp [*]; done)) | exact sxa @cast_succ | exact soa trivial))
  · have e : i = es.length := by omega
    subst e
    refine go (And.intro h0 (And.intro h3 h4)) ?_
    refine x_done (x_out (sr @Try.f4.eq_1) (by simp) (by simp) rfl)
end Go.Proofs.Ytahgddfnbjpfiaa

set_option linter.unusedVariables false
set_option linter.unusedSimpArgs false
namespace Go.Proofs.Ytahgddfnbjpfiaa
open Go Go.RowKit Am

/-- What an undo that knows all edits says of itself. -/
structure Nx (l : List Edt) (u0 u : Edt) : Prop where
  a : u.id.a = u0.id.a
  kind : u.kind = u0.kind
  tgt : u.target = u0.target
  n0 : u0.id.n ≤ u.id.n
  n : ∀ e ∈ l, e.id.a = u0.id.a → e.id.n < u.id.n
  c0 : u0.clock ≤ u.clock
  c : ∀ e ∈ l, e.clock < u.clock
  f : ∀ e ∈ l, e.id.a = u0.id.a → e.floor ≤ u.floor
  f0 : u.floor = u0.floor ∨ ∃ e ∈ l, u.floor = e.floor
  val : Val u.deps
  dl : u.deps.length ≤ u0.deps.length + l.length
theorem nx_of : ∀ (l : List Edt) (u0 : Edt), (∀ e ∈ l, VaE e) → Val u0.deps → Nx l u0 (l.foldl nxS u0)
  | [], u0, _, hv => ⟨rfl, rfl, rfl, Int.le_refl _, by simp, Int.le_refl _, by simp, by simp, .inl rfl, hv, by simp⟩
  | e :: l, u0, hl, hv => by
    have he := hl e (by simp)
    have hv1 : Val (nxS u0 e).deps := by
      show Val (rmaxF u0.deps [e.id])
      rw [rmaxF, List.foldl_cons, List.foldl_nil, raddF, radd_addL e.id hv]
      exact addL_val ⟨he.auth, he.n1⟩ hv
    have hd1 : (nxS u0 e).deps.length ≤ u0.deps.length + 1 := radd_len u0.deps e.id false
    have ih := nx_of l (nxS u0 e) (fun x hx => hl x (by simp [hx])) hv1
    rw [List.foldl_cons]
    have ea : (nxS u0 e).id.a = u0.id.a := rfl
    have en : u0.id.n ≤ (nxS u0 e).id.n ∧ (e.id.a = u0.id.a → e.id.n < (nxS u0 e).id.n) := by
      show u0.id.n ≤ (if (e.id.a.toList == u0.id.a.toList) = true ∧ u0.id.n ≤ e.id.n then e.id.n + 1 else u0.id.n) ∧ (e.id.a = u0.id.a → e.id.n < (if (e.id.a.toList == u0.id.a.toList) = true ∧ u0.id.n ≤ e.id.n then e.id.n + 1 else u0.id.n))
      rw [lbeq]
      by_cases h : e.id.a = u0.id.a <;> by_cases h2 : u0.id.n ≤ e.id.n <;> simp [h, h2] <;> omega
    have ec : u0.clock ≤ (nxS u0 e).clock ∧ e.clock < (nxS u0 e).clock := by
      show u0.clock ≤ (if u0.clock ≤ e.clock then e.clock + 1 else u0.clock) ∧ e.clock < (if u0.clock ≤ e.clock then e.clock + 1 else u0.clock)
      split <;> omega
    have ef : ((nxS u0 e).floor = u0.floor ∨ (nxS u0 e).floor = e.floor) ∧ u0.floor ≤ (nxS u0 e).floor ∧ (e.id.a = u0.id.a → e.floor ≤ (nxS u0 e).floor) := by
      show ((if (e.id.a.toList == u0.id.a.toList) = true ∧ u0.floor < e.floor then e.floor else u0.floor) = u0.floor ∨ (if (e.id.a.toList == u0.id.a.toList) = true ∧ u0.floor < e.floor then e.floor else u0.floor) = e.floor) ∧ u0.floor ≤ (if (e.id.a.toList == u0.id.a.toList) = true ∧ u0.floor < e.floor then e.floor else u0.floor) ∧ (e.id.a = u0.id.a → e.floor ≤ (if (e.id.a.toList == u0.id.a.toList) = true ∧ u0.floor < e.floor then e.floor else u0.floor))
      rw [lbeq]
      by_cases h : e.id.a = u0.id.a <;> by_cases h2 : u0.floor < e.floor <;> simp [h, h2] <;> omega
    have efm : (nxS u0 e).floor ≤ (l.foldl nxS (nxS u0 e)).floor := by
      clear ih hl
      generalize nxS u0 e = v
      induction l generalizing v with
      | nil => exact Int.le_refl _
      | cons x l ih2 =>
        rw [List.foldl_cons]
        refine Int.le_trans ?_ (ih2 (nxS v x))
        show v.floor ≤ (if (x.id.a.toList == v.id.a.toList) = true ∧ v.floor < x.floor then x.floor else v.floor)
        split <;> omega
    have hn0 := ih.n0
    have hc0 := ih.c0
    have hdl := ih.dl
    refine ⟨ih.a, ih.kind, ih.tgt, by omega, ?_, by omega, ?_, ?_, ?_, ih.val, by simp only [List.length_cons]; omega⟩
    · intro x hx hxa
      rcases List.mem_cons.1 hx with rfl | hx
      · have := en.2 hxa; omega
      · exact ih.n x hx hxa
    · intro x hx
      rcases List.mem_cons.1 hx with rfl | hx
      · omega
      · exact ih.c x hx
    · intro x hx hxa
      rcases List.mem_cons.1 hx with rfl | hx
      · have := ef.2.2 hxa; omega
      · exact ih.f x hx hxa
    · rcases ih.f0 with h | ⟨x, hx, h⟩
      · rw [h]
        rcases ef.1 with h2 | h2
        · exact .inl h2
        · exact .inr ⟨e, by simp, h2⟩
      · exact .inr ⟨x, by simp [hx], h⟩
def tgT (u : Edt) (y : Idt) : Edt := { u with target := y }
theorem nx_target (y : Idt) : ∀ (l : List Edt) (u : Edt), l.foldl nxS (tgT u y) = tgT (l.foldl nxS u) y
  | [], _ => rfl
  | e :: l, u => nx_target y l (nxS u e)
theorem back_eq (es : List Edt) (t : Edt) (ha : (nextF es t).id.a = t.id.a) : nextF (es ++ [nextF es t]) (nextF es t) = nxS (tgT (nextF es t) (nextF es t).id) (nextF es t) := by
  have h0 : nx0 (nextF es t) = tgT (nx0 t) (nextF es t).id := by
    show (⟨⟨(nextF es t).id.a, 1⟩, _, _, _, _, _, _, _, _, _, _, _, _, _⟩ : Edt) = ⟨⟨t.id.a, 1⟩, _, _, _, _, _, _, _, _, _, _, _, _, _⟩
    rw [ha]
    rfl
  show (es ++ [nextF es t]).foldl nxS (nx0 (nextF es t)) = _
  rw [List.foldl_append, h0, nx_target]
  rfl
theorem alive_kill {un : Edt → Edt → Bool} {u e : Edt} (h : un u e = true) : ∀ l : List Edt, aliveF un e (l ++ [u]) = false
  | [] => by simp [aliveF, h]
  | x :: l => by rw [List.cons_append, aliveF, alive_kill h l, Bool.and_false]
theorem alive_skip {un : Edt → Edt → Bool} {u : Edt} : ∀ (l : List Edt) (e : Edt), (∀ x, (x = e ∨ x ∈ l) → un u x = false) → aliveF un e (l ++ [u]) = aliveF un e l
  | [], e, h => by simp [aliveF, h e (.inl rfl)]
  | x :: l, e, h => by
    rw [List.cons_append, aliveF, aliveF, alive_skip l x fun y hy => h y (.inr (by rcases hy with rfl | hy <;> simp [*])), alive_skip l e fun y hy => h y (by rcases hy with rfl | hy <;> simp [*])]
theorem alive_back {un : Edt → Edt → Bool} {u b : Edt} (hu : un b u = true) : ∀ (l : List Edt) (e : Edt), (∀ x, (x = e ∨ x ∈ l) → un b x = false) → aliveF un e (l ++ [u] ++ [b]) = aliveF un e l
  | [], e, h => by simp [aliveF, h e (.inl rfl), hu]
  | x :: l, e, h => by
    rw [List.cons_append, List.cons_append, aliveF, aliveF, alive_back hu l x fun y hy => h y (.inr (by rcases hy with rfl | hy <;> simp [*])), alive_back hu l e fun y hy => h y (by rcases hy with rfl | hy <;> simp [*])]
theorem idE_iff (x y : Idt) : idE x y = true ↔ x = y := by
  unfold idE
  rw [lbeq]
  obtain ⟨a, n⟩ := x
  obtain ⟨b, m⟩ := y
  simp
theorem idE_ne {x y : Idt} (h : x ≠ y) : idE x y = false := by
  cases hx : idE x y with
  | false => rfl
  | true => exact absurd ((idE_iff _ _).1 hx) h
/-- UNDO AND REDO, in plain words. -/
structure Redo (es : List Edt) (at0 : Nat) (h : at0 < es.length) (u b : Edt) : Prop where
  off1 : (allL unF (es ++ [u]))[at0]? = some false
  off2 : (allL unF (es ++ [u]))[es.length]? = some true
  on1 : (allL unF (es ++ [u] ++ [b]))[es.length]? = some false
  on2 : (allL unF (es ++ [u] ++ [b]))[es.length + 1]? = some true
  on : ∀ i (hi : i < es.length), (allL unF (es ++ [u] ++ [b]))[i]? = (allL unF es)[i]?
  other : ∀ i (hi : i < es.length), es[i].id.a ≠ u.id.a → (allL unF (es ++ [u]))[i]? = (allL unF es)[i]?
  later : ∀ i (hi : i < es.length), at0 < i → (allL unF (es ++ [u]))[i]? = (allL unF es)[i]?
theorem redo_of {es : List Edt} (S : Srt es) {k : Nat} (hk : k < es.length) (hnf : ∀ i j (hi : i < es.length) (hj : j < es.length), es[i].id = es[j].id → i = j) (hkind : es[k].kind ≤ 4) (hfl : (nextF es es[k]).floor < es[k].clock) (hhas : hasF (nextF es es[k]).deps es[k].id = true) :
    Redo es k hk (nextF es es[k]) (nextF (es ++ [nextF es es[k]]) (nextF es es[k])) := by
  have hv := S.va
  have N : Nx es (nx0 es[k]) (nextF es es[k]) := nx_of es (nx0 es[k]) hv Val.nil
  have hb := back_eq es es[k] N.a
  generalize hu : nextF es es[k] = u at *
  rw [hb]
  generalize hbb : nxS (tgT u u.id) u = b at *
  have ht := hv _ (List.getElem_mem hk)
  have ua : u.id.a = es[k].id.a := N.a
  have un1 : 1 ≤ u.id.n := N.n0
  have hut : unF u es[k] = true := by
    unfold unF undF
    rw [cont_has N.val, hhas, N.tgt, N.kind, ua]
    have h1 := ht.k1
    have h2 : idE (nx0 es[k]).target es[k].id = true := (idE_iff _ _).2 rfl
    have h3 : (nx0 es[k]).kind = 4 := rfl
    simp [h2, h3, h1, hkind, hfl]
  have hbval : Val b.deps := by
    rw [← hbb]
    show Val (rmaxF u.deps [u.id])
    rw [rmaxF, List.foldl_cons, List.foldl_nil, raddF, radd_addL u.id N.val]
    exact addL_val ⟨by rw [ua]; exact ht.auth, un1⟩ N.val
  have hbhas : hasF b.deps u.id = true := by
    rw [← hbb]
    show hasF (rmaxF u.deps [u.id]) u.id = true
    rw [rmaxF, List.foldl_cons, List.foldl_nil, raddF, radd_addL u.id N.val]
    unfold hasF
    rw [addL_up un1 _ N.val, if_pos rfl]
    have : u.id.n ≤ imax (uptoF u.deps u.id.a) u.id.n := by unfold imax; split <;> omega
    simp [un1, this]
  have hba : b.id.a = u.id.a := by rw [← hbb]; rfl
  have hbf : b.floor = u.floor := by
    rw [← hbb]
    show (if (u.id.a.toList == u.id.a.toList) = true ∧ u.floor < u.floor then u.floor else u.floor) = u.floor
    split <;> rfl
  have hbt : b.target = u.id := by rw [← hbb]; rfl
  have hbk : b.kind = 4 := by rw [← hbb]; exact N.kind
  have huf : u.floor < u.clock := by
    rcases N.f0 with h | ⟨x, hx, h⟩
    · have h1 := N.c _ (List.getElem_mem hk)
      have h2 := ht.c1
      have h3 := ht.n1
      rw [h]
      show (0 : Int) < _
      omega
    · have h1 := N.c x hx
      have h2 := (hv x hx).f2
      rw [h]
      omega
  have hbu : unF b u = true := by
    unfold unF undF
    rw [cont_has hbval, hbhas, hbt, hbk, hba, hbf, N.kind]
    have h2 : idE u.id u.id = true := (idE_iff _ _).2 rfl
    have h3 : (nx0 es[k]).kind = 4 := rfl
    simp [h2, h3, huf]
  have hbe : ∀ x ∈ es, unF b x = false := fun x hx => by
    unfold unF
    rw [hbt, idE_ne (fun h => by
      have h1 := N.n x hx (by rw [← h, ua]; rfl)
      rw [h] at h1
      omega)]
    simp
  have hue : ∀ i (hi : i < es.length), i ≠ k → unF u es[i] = false := fun i hi hne => by
    unfold unF
    have htg : (nx0 es[k]).target = es[k].id := rfl
    rw [N.tgt, htg, idE_ne (fun h => hne (hnf i k hi hk h.symm))]
    simp
  have g1 : ∀ i (hi : i < es.length), (allL unF es)[i]? = some (aliveF unF es[i] (es.drop (i + 1))) := fun i hi => allL_get unF es i hi
  have g2 : ∀ i (hi : i < es.length), (allL unF (es ++ [u]))[i]? = some (aliveF unF es[i] (es.drop (i + 1) ++ [u])) := fun i hi => by
    rw [allL_get unF _ i (by simp; omega), List.getElem_append_left hi, List.drop_append_of_le_length (by omega)]
  have g3 : ∀ i (hi : i < es.length), (allL unF (es ++ [u] ++ [b]))[i]? = some (aliveF unF es[i] (es.drop (i + 1) ++ [u] ++ [b])) := fun i hi => by
    rw [allL_get unF _ i (by simp; omega), List.getElem_append_left (by simp; omega), List.getElem_append_left hi, List.drop_append_of_le_length (by simp; omega), List.drop_append_of_le_length (by omega)]
  have hmem : ∀ i (hi : i < es.length) x, (x = es[i] ∨ x ∈ es.drop (i + 1)) → x ∈ es := fun i hi x hx => by
    rcases hx with rfl | hx
    · exact List.getElem_mem hi
    · exact List.mem_of_mem_drop hx
  refine ⟨?_, ?_, ?_, ?_, fun i hi => ?_, fun i hi ha => ?_, fun i hi hlt => ?_⟩
  · rw [g2 k hk, alive_kill hut]
  · rw [allL_get unF _ _ (by simp)]
    rw [List.drop_of_length_le (by simp)]
    rfl
  · rw [allL_get unF _ _ (by simp)]
    have h1 : (es ++ [u] ++ [b])[es.length]'(by simp) = u := by simp
    have h2 : (es ++ [u] ++ [b]).drop (es.length + 1) = [b] := by
      rw [List.drop_left' (by simp)]
    rw [h1, h2]
    simp [aliveF, hbu]
  · rw [allL_get unF _ _ (by simp)]
    rw [List.drop_of_length_le (by simp)]
    rfl
  · rw [g3 i hi, g1 i hi, alive_back hbu _ _ fun x hx => hbe x (hmem i hi x hx)]
  · rw [g2 i hi, g1 i hi]
    congr 1
    rw [← alive_filter es[i] (es.drop (i + 1) ++ [u]) es[i] (by unfold sameA; simp), ← alive_filter es[i] (es.drop (i + 1)) es[i] (by unfold sameA; simp), List.filter_append]
    have : [u].filter (sameA es[i]) = [] := by
      have : sameA es[i] u = false := by
        unfold sameA
        rw [lbeq]
        exact decide_eq_false (fun h => ha h.symm)
      simp [this]
    rw [this, List.append_nil]
  · rw [g2 i hi, g1 i hi]
    congr 1
    refine alive_skip _ _ fun x hx => ?_
    rcases hx with rfl | hx
    · exact hue i hi (by omega)
    · obtain ⟨j, hj, rfl⟩ := List.getElem_of_mem hx
      rw [List.getElem_drop]
      exact hue _ (by simp at hj; omega) (by omega)
end Go.Proofs.Ytahgddfnbjpfiaa
