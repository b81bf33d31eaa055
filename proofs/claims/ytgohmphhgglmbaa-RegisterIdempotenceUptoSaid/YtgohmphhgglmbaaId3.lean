/- Texts that the law's proof stands on: V20, V9, V10, V21, V12, V22, V23, V24, V18, V11, V13, V8, V25, V17, V14, V15, V19, V31, V35, V36, V37, V32, V26, V38, V27, V28, V29, V33. -/
import Derived.Test.YtgohmphhgglmbaaId2
import Derived.Laws.StructEq
import Derived.Test.YtgohmphhgglmbaaRows
set_option linter.unusedVariables false
set_option linter.unusedSimpArgs false
set_option maxRecDepth 100000
set_option maxHeartbeats 8000000
namespace Go.Proofs.Ytgohmphhgglmbaa
open Go Go.RowKit Am

/-- slices.Insert of one row into a row of the call's own. -/
def insT (z : Nat) : Pt := fun _ args σ K => ∃ (b cap b2 : Nat) (rows sp : List (List V)) (i : Nat) (x : List V), args = [.loc b 0 rows.length cap, .s (.int .i64 i), .loc b2 0 1 1] ∧ i ≤ rows.length ∧ rows.length ≤ 1099511627776 ∧ b ≠ b2 ∧ b < σ.n ∧ b2 < σ.n ∧
  σ.h b = some ⟨z, rows ++ sp, true⟩ ∧ cap = rows.length + sp.length ∧ σ.h b2 = some ⟨z, [x], true⟩ ∧ okRows z rows ∧ okRows z [x] ∧
  ∀ (b' cap' n' : Nat) (h' : Hp) (sp' : List (List V)), b' < n' → σ.n ≤ n' → h' b' = some ⟨z, rows.take i ++ [x] ++ rows.drop i ++ sp', true⟩ → cap' = rows.length + 1 + sp'.length → (∀ k, k < σ.n → k ≠ b → h' k = σ.h k) → (b' = b ∨ σ.n ≤ b') → K (.loc b' 0 (rows.length + 1) cap') ⟨σ.t, h', n'⟩
theorem okRows_take {z : Nat} {r : List (List V)} (m : Nat) (h : okRows z r) : okRows z (r.take m) := fun q hq => h q (List.mem_of_mem_take hq)
theorem okRows_drop {z : Nat} {r : List (List V)} (m : Nat) (h : okRows z r) : okRows z (r.drop m) := fun q hq => h q (List.mem_of_mem_drop hq)
theorem okRows_rep (z m : Nat) (c : List V) (h : c.length = z ∧ ∀ q ∈ c, cellish q = true) : okRows z (List.replicate m c) := fun q hq => by rw [(List.mem_replicate.1 hq).2]; exact h
theorem ins_grow {α : Type} (rows sp : List α) (x : α) (Zs S : List α) (i : Nat) (hi : i < rows.length) (hz : Zs.length = rows.length + 1 - i) :
    (((rows ++ sp).take i ++ Zs ++ S).take i ++ [x].take 1 ++ ((rows ++ sp).take i ++ Zs ++ S).drop (i + 1)).take (i + 1) ++ (rows.drop i).take (rows.length - i) ++ (((rows ++ sp).take i ++ Zs ++ S).take i ++ [x].take 1 ++ ((rows ++ sp).take i ++ Zs ++ S).drop (i + 1)).drop (i + 1 + (rows.length - i)) = rows.take i ++ [x] ++ rows.drop i ++ S := by
  have h1 : (rows ++ sp).take i = rows.take i := List.take_append_of_le_length (by omega)
  rw [h1]
  have hA : (rows.take i).length = i := by simp; omega
  generalize rows.take i = A at *
  have hD : (rows.drop i).take (rows.length - i) = rows.drop i := List.take_of_length_le (by simp)
  rw [hD]
  generalize rows.drop i = D at *
  have e1 : (A ++ Zs ++ S).take i = A := by rw [List.append_assoc, List.take_append_of_le_length (by omega), List.take_of_length_le (by omega)]
  have e2 : (A ++ Zs ++ S).drop (i + 1) = Zs.drop 1 ++ S := by
    rw [List.append_assoc, List.drop_append, List.drop_of_length_le (by omega), List.nil_append, List.drop_append_of_le_length (by omega)]
    congr 2; omega
  rw [e1, e2]
  have e3 : (A ++ [x].take 1 ++ (Zs.drop 1 ++ S)).take (i + 1) = A ++ [x] := by
    have : (A ++ [x].take 1).length = i + 1 := by simp [hA]
    rw [List.take_append_of_le_length (by omega), List.take_of_length_le (by omega)]
    simp
  have e4 : (A ++ [x].take 1 ++ (Zs.drop 1 ++ S)).drop (i + 1 + (rows.length - i)) = S := by
    have h2 : (A ++ [x].take 1 ++ Zs.drop 1).length = i + 1 + (rows.length - i) := by simp [hA]; omega
    rw [← List.append_assoc, ← h2]
    simp
  rw [e3, e4]
theorem ins_place {α : Type} (rows sp : List α) (x : α) (i : Nat) (hi : i < rows.length) (hs : 0 < sp.length) :
    ((rows ++ sp).take (i + 1) ++ (((rows ++ sp).drop i).take (rows.length + 1 - i)).take (rows.length - i) ++ (rows ++ sp).drop (i + 1 + (rows.length - i))).take i ++ [x].take 1 ++ ((rows ++ sp).take (i + 1) ++ (((rows ++ sp).drop i).take (rows.length + 1 - i)).take (rows.length - i) ++ (rows ++ sp).drop (i + 1 + (rows.length - i))).drop (i + 1) = rows.take i ++ [x] ++ rows.drop i ++ sp.drop 1 := by
  have h1 : (((rows ++ sp).drop i).take (rows.length + 1 - i)).take (rows.length - i) = rows.drop i := by
    rw [List.take_take, show min (rows.length - i) (rows.length + 1 - i) = rows.length - i by omega, List.drop_append_of_le_length (by omega), List.take_append_of_le_length (by simp), List.take_of_length_le (by simp)]
  have h2 : (rows ++ sp).drop (i + 1 + (rows.length - i)) = sp.drop 1 := by
    rw [List.drop_append, List.drop_of_length_le (by omega), List.nil_append]
    congr 1; omega
  have h3 : (rows ++ sp).take (i + 1) = rows.take (i + 1) := List.take_append_of_le_length (by omega)
  rw [h1, h2, h3]
  have hA : (rows.take (i + 1)).length = i + 1 := by simp; omega
  have e1 : (rows.take (i + 1) ++ rows.drop i ++ sp.drop 1).take i = rows.take i := by
    rw [List.append_assoc, List.take_append_of_le_length (by omega), List.take_take]
    congr 1; omega
  have e2 : (rows.take (i + 1) ++ rows.drop i ++ sp.drop 1).drop (i + 1) = rows.drop i ++ sp.drop 1 := by
    rw [List.append_assoc, List.drop_append, List.drop_of_length_le (by omega), List.nil_append, hA]
    simp
  rw [e1, e2]
  simp
theorem insW_sound {plain : TypeId → Bool} {Γ : FuncId → Option Fspec} {Δ : FuncId → Option Pt} (hE : EnvOk ⟨Try.prog, plain, Γ, Δ, fun _ => none, 0⟩) (hO : Δ 56 = some (overT 4)) : SoundT Try.prog 48 (insT 4) := by
  refine inl_sound hE Try.func48 rfl (by kernel_rfl) (by kernel_rfl) ?_
  rintro Φ args t0 h0 n0 K ⟨b, cap, b2, rows, sp, i, x, rfl, hi, hlen, hne, hbn, hb2n, hb, rfl, hb2, hok, hokx, hK⟩
  simp only at hbn hb2n hb hb2 hK
  refine ⟨by simp [Try.f48], ?_⟩
  refine W.out (E := ⟨Try.prog, plain, Γ, Δ, Φ, _⟩) ?_
  have e1 : (b = n0) = False := by simp; omega
  have e2 : (b2 = n0) = False := by simp; omega
  have e3 : (b2 = b) = False := by simp; omega
  have e4 : (b = b2) = False := by simp; omega
  have e5 : (((1 : Nat) : Int) == 0) = false := rfl
  have e6 : (b = n0 + 1) = False := by simp; omega
  have e7 : (b2 = n0 + 1) = False := by simp; omega
  by_cases h1 : i = rows.length
  · subst h1
    refine go (And.intro hb (And.intro hb2 (And.intro e1 (And.intro e2 (And.intro e3 (And.intro e4 e5)))))) ?_
    refine x_appendO rfl rfl rfl rfl rfl rfl (sv (And.intro hb (And.intro hb2 (And.intro e1 (And.intro e2 (And.intro e3 (And.intro e4 e5))))))) (by decide) (sc (And.intro hb (And.intro hb2 (And.intro e1 (And.intro e2 (And.intro e3 (And.intro e4 e5))))))) (sv (And.intro hb (And.intro hb2 (And.intro e1 (And.intro e2 (And.intro e3 (And.intro e4 e5))))))) (sx (And.intro hb (And.intro hb2 (And.intro e1 (And.intro e2 (And.intro e3 (And.intro e4 e5))))))) (by first | rfl | (simp; done) | (simp [spare_len]; omega)) (by first | omega | (simp; done) | (simp [spare_len]; omega)) (by first | omega | (simp; done) | (simp [spare_len]; omega)) (sx (And.intro hb (And.intro hb2 (And.intro e1 (And.intro e2 (And.intro e3 (And.intro e4 e5))))))) hokx (by first | omega | (simp; done) | (simp [spare_len]; omega)) (fun cap' hcap' => ?_)
    refine go (And.intro hb (And.intro hb2 (And.intro e1 (And.intro e2 (And.intro e3 (And.intro e4 e5)))))) ?_
    refine x_inl (sr @Try.f48.eq_1) ?_
    refine hK n0 cap' (n0 + 1) _ (spare 4 (cap' - (rows.length + 1))) (by omega) (by omega) ?_ (by simp [spare_len] at hcap' ⊢; omega) ?_ (.inr (Nat.le_refl _))
    · simp [upd_at]
    · intro k k1 k2
      have k3 : k ≠ n0 := by omega
      simp [upd_at, k2, k3]
  · have e8 : ((i : Int) == (rows.length : Int)) = false := by simp; omega
    have c1 : ((rows.length : Int) + ((1 : Nat) : Int)) = ((rows.length + 1 : Nat) : Int) := by omega
    have c2 : (((rows.length + 1 : Nat) : Int) - (i : Int)) = ((rows.length + 1 - i : Nat) : Int) := by omega
    have c3 : ((i : Int) + ((1 : Nat) : Int)) = ((i + 1 : Nat) : Int) := by omega
    have c4 : i + (rows.length + 1 - i) = rows.length + 1 := by omega
    have c5 : rows.length + 1 - (i + 1) = rows.length - i := by omega
    have c6 : ((rows ++ sp).drop i).take (rows.length - i) = rows.drop i := by rw [List.drop_append_of_le_length (by omega), List.take_append_of_le_length (by simp), List.take_of_length_le (by simp)]
    have c7 : min (rows.length - i) (rows.length - i) = rows.length - i := Nat.min_self _
    have c8 : min 1 (rows.length + 1 - i) = 1 := by omega
    have c11 : (rows ++ sp).length = rows.length + sp.length := List.length_append
    have c10 : min (rows.length - i) (rows.length + 1 - i) = rows.length - i := by omega
    have c9 : min (rows.length + 1 - i) (rows.length - i) = rows.length - i := by omega
    refine go (And.intro hb (And.intro hb2 (And.intro e1 (And.intro e2 (And.intro e3 (And.intro e4 (And.intro e5 (And.intro e6 (And.intro e7 (And.intro e8 (And.intro c1 (And.intro c2 (And.intro c3 (And.intro c4 (And.intro c5 (And.intro c6 c11)))))))))))))))) ?_
    refine x_condP (sv (And.intro hb (And.intro hb2 (And.intro e1 (And.intro e2 (And.intro e3 (And.intro e4 (And.intro e5 (And.intro e6 (And.intro e7 (And.intro e8 (And.intro c1 (And.intro c2 (And.intro c3 (And.intro c4 (And.intro c5 (And.intro c6 c11))))))))))))))))) (fun hc => ?_) (fun hc => ?_)
    · have h2 : sp.length = 0 := by omega
      have h3 : (rows ++ sp).length = rows.length := by simp [h2]
      refine go (And.intro hb (And.intro hb2 (And.intro e1 (And.intro e2 (And.intro e3 (And.intro e4 (And.intro e5 (And.intro e6 (And.intro e7 (And.intro e8 (And.intro c1 (And.intro c2 (And.intro c3 (And.intro c4 (And.intro c5 (And.intro c6 c11)))))))))))))))) ?_
      refine x_appendZ rfl rfl rfl rfl rfl rfl (sc (And.intro hb (And.intro hb2 (And.intro e1 (And.intro e2 (And.intro e3 (And.intro e4 (And.intro e5 (And.intro e6 (And.intro e7 (And.intro e8 (And.intro c1 (And.intro c2 (And.intro c3 (And.intro c4 (And.intro c5 (And.intro c6 c11))))))))))))))))) (sv (And.intro hb (And.intro hb2 (And.intro e1 (And.intro e2 (And.intro e3 (And.intro e4 (And.intro e5 (And.intro e6 (And.intro e7 (And.intro e8 (And.intro c1 (And.intro c2 (And.intro c3 (And.intro c4 (And.intro c5 (And.intro c6 c11))))))))))))))))) (by decide) (sc (And.intro hb (And.intro hb2 (And.intro e1 (And.intro e2 (And.intro e3 (And.intro e4 (And.intro e5 (And.intro e6 (And.intro e7 (And.intro e8 (And.intro c1 (And.intro c2 (And.intro c3 (And.intro c4 (And.intro c5 (And.intro c6 c11))))))))))))))))) (sv (And.intro hb (And.intro hb2 (And.intro e1 (And.intro e2 (And.intro e3 (And.intro e4 (And.intro e5 (And.intro e6 (And.intro e7 (And.intro e8 (And.intro c1 (And.intro c2 (And.intro c3 (And.intro c4 (And.intro c5 (And.intro c6 c11))))))))))))))))) (sv (And.intro hb (And.intro hb2 (And.intro e1 (And.intro e2 (And.intro e3 (And.intro e4 (And.intro e5 (And.intro e6 (And.intro e7 (And.intro e8 (And.intro c1 (And.intro c2 (And.intro c3 (And.intro c4 (And.intro c5 (And.intro c6 c11))))))))))))))))) (sx (And.intro hb (And.intro hb2 (And.intro e1 (And.intro e2 (And.intro e3 (And.intro e4 (And.intro e5 (And.intro e6 (And.intro e7 (And.intro e8 (And.intro c1 (And.intro c2 (And.intro c3 (And.intro c4 (And.intro c5 (And.intro c6 c11))))))))))))))))) (by rfl) (by rfl) (by first | omega | (simp; done) | (simp [spare_len]; omega)) (by first | omega | (simp; done) | (simp [spare_len]; omega)) (by first | omega | (simp; done) | (simp [spare_len]; omega)) (by first | omega | (simp; done) | (simp [spare_len]; omega)) (fun cap' hcap' => ?_)
      refine go (And.intro hb (And.intro hb2 (And.intro e1 (And.intro e2 (And.intro e3 (And.intro e4 (And.intro e5 (And.intro e6 (And.intro e7 (And.intro e8 (And.intro c1 (And.intro c2 (And.intro c3 (And.intro c4 (And.intro c5 (And.intro c6 c11)))))))))))))))) ?_
      refine x_copy rfl rfl rfl rfl rfl rfl (sv (And.intro hb (And.intro hb2 (And.intro e1 (And.intro e2 (And.intro e3 (And.intro e4 (And.intro e5 (And.intro e6 (And.intro e7 (And.intro e8 (And.intro c1 (And.intro c2 (And.intro c3 (And.intro c4 (And.intro c5 (And.intro c6 c11))))))))))))))))) (by decide) (sv (And.intro hb (And.intro hb2 (And.intro e1 (And.intro e2 (And.intro e3 (And.intro e4 (And.intro e5 (And.intro e6 (And.intro e7 (And.intro e8 (And.intro c1 (And.intro c2 (And.intro c3 (And.intro c4 (And.intro c5 (And.intro c6 c11))))))))))))))))) (sx (And.intro hb (And.intro hb2 (And.intro e1 (And.intro e2 (And.intro e3 (And.intro e4 (And.intro e5 (And.intro e6 (And.intro e7 (And.intro e8 (And.intro c1 (And.intro c2 (And.intro c3 (And.intro c4 (And.intro c5 (And.intro c6 c11))))))))))))))))) (okRows_take _ hokx) (sx (And.intro hb (And.intro hb2 (And.intro e1 (And.intro e2 (And.intro e3 (And.intro e4 (And.intro e5 (And.intro e6 (And.intro e7 (And.intro e8 (And.intro c1 (And.intro c2 (And.intro c3 (And.intro c4 (And.intro c5 (And.intro c6 c11))))))))))))))))) (by rfl) (by rfl) (by first | omega | (simp; done) | (simp [spare_len]; omega)) ?_
      refine go (And.intro hb (And.intro hb2 (And.intro e1 (And.intro e2 (And.intro e3 (And.intro e4 (And.intro e5 (And.intro e6 (And.intro e7 (And.intro e8 (And.intro c1 (And.intro c2 (And.intro c3 (And.intro c4 (And.intro c5 (And.intro c6 c11)))))))))))))))) ?_
      refine x_copy rfl rfl rfl rfl rfl rfl (sv (And.intro hb (And.intro hb2 (And.intro e1 (And.intro e2 (And.intro e3 (And.intro e4 (And.intro e5 (And.intro e6 (And.intro e7 (And.intro e8 (And.intro c1 (And.intro c2 (And.intro c3 (And.intro c4 (And.intro c5 (And.intro c6 c11))))))))))))))))) (by decide) (sv (And.intro hb (And.intro hb2 (And.intro e1 (And.intro e2 (And.intro e3 (And.intro e4 (And.intro e5 (And.intro e6 (And.intro e7 (And.intro e8 (And.intro c1 (And.intro c2 (And.intro c3 (And.intro c4 (And.intro c5 (And.intro c6 c11))))))))))))))))) (sx (And.intro hb (And.intro hb2 (And.intro e1 (And.intro e2 (And.intro e3 (And.intro e4 (And.intro e5 (And.intro e6 (And.intro e7 (And.intro e8 (And.intro c1 (And.intro c2 (And.intro c3 (And.intro c4 (And.intro c5 (And.intro c6 c11))))))))))))))))) (okRows_take _ (okRows_drop _ hok)) (sx (And.intro hb (And.intro hb2 (And.intro e1 (And.intro e2 (And.intro e3 (And.intro e4 (And.intro e5 (And.intro e6 (And.intro e7 (And.intro e8 (And.intro c1 (And.intro c2 (And.intro c3 (And.intro c4 (And.intro c5 (And.intro c6 c11))))))))))))))))) (by rfl) (by rfl) (by first | omega | (simp; done) | (simp [spare_len]; omega)) ?_
      refine go (And.intro hb (And.intro hb2 (And.intro e1 (And.intro e2 (And.intro e3 (And.intro e4 (And.intro e5 (And.intro e6 (And.intro e7 (And.intro e8 (And.intro c1 (And.intro c2 (And.intro c3 (And.intro c4 (And.intro c5 (And.intro c6 c11)))))))))))))))) ?_
      refine x_inl (sr @Try.f48.eq_1) ?_
      rw [c4] at hcap'
      refine hK n0 cap' (n0 + 1) _ (spare 4 (cap' - (rows.length + 1))) (by omega) (by omega) ?_ (by simp [spare_len]; omega) ?_ (.inr (Nat.le_refl _))
      · have key := ins_grow rows sp x (spare 4 (rows.length + 1 - i)) (spare 4 (cap' - (rows.length + 1))) i (by omega) (by simp [spare_len])
        rw [c6] at *
        simp only [upd_at, ↓reduceIte, List.length_cons, List.length_nil, Nat.zero_add, Nat.add_zero, c8, c4, c5, c7, List.length_drop] at key ⊢
        exact congrArg (fun r => some (⟨4, r, true⟩ : Blk)) key
      · intro k k1 k2
        have k3 : (k = n0) = False := by simp; omega
        simp only [upd_at, k3, if_false]
    · have h2 : 0 < sp.length := by omega
      have hok3 : okRows 4 ((((rows ++ sp).drop i).take (rows.length + 1 - i)).take (min (((rows ++ sp).drop i).take (rows.length + 1 - i)).length (rows.length - i))) := by
        have : min (((rows ++ sp).drop i).take (rows.length + 1 - i)).length (rows.length - i) = rows.length - i := by simp; omega
        rw [this, List.take_take, c10, List.drop_append_of_le_length (by omega), List.take_append_of_le_length (by simp), List.take_of_length_le (by simp)]
        exact okRows_drop _ hok
      refine go (And.intro hb (And.intro hb2 (And.intro e1 (And.intro e2 (And.intro e3 (And.intro e4 (And.intro e5 (And.intro e6 (And.intro e7 (And.intro e8 (And.intro c1 (And.intro c2 (And.intro c3 (And.intro c4 (And.intro c5 (And.intro c6 c11)))))))))))))))) ?_
      refine x_callI rfl rfl rfl rfl (sv (And.intro hb (And.intro hb2 (And.intro e1 (And.intro e2 (And.intro e3 (And.intro e4 (And.intro e5 (And.intro e6 (And.intro e7 (And.intro e8 (And.intro c1 (And.intro c2 (And.intro c3 (And.intro c4 (And.intro c5 (And.intro c6 c11))))))))))))))))) hO (sv (And.intro hb (And.intro hb2 (And.intro e1 (And.intro e2 (And.intro e3 (And.intro e4 (And.intro e5 (And.intro e6 (And.intro e7 (And.intro e8 (And.intro c1 (And.intro c2 (And.intro c3 (And.intro c4 (And.intro c5 (And.intro c6 c11))))))))))))))))) ⟨b2, 0, 1, 1, b, i + 1, rows.length - i, _, _, _, rfl, (Ne.symm hne), (sv (And.intro hb (And.intro hb2 (And.intro e1 (And.intro e2 (And.intro e3 (And.intro e4 (And.intro e5 (And.intro e6 (And.intro e7 (And.intro e8 (And.intro c1 (And.intro c2 (And.intro c3 (And.intro c4 (And.intro c5 (And.intro c6 c11))))))))))))))))), (sv (And.intro hb (And.intro hb2 (And.intro e1 (And.intro e2 (And.intro e3 (And.intro e4 (And.intro e5 (And.intro e6 (And.intro e7 (And.intro e8 (And.intro c1 (And.intro c2 (And.intro c3 (And.intro c4 (And.intro c5 (And.intro c6 c11))))))))))))))))), rfl, rfl, rfl, (by simp), (by simp; omega), Nat.zero_lt_one, (by omega), ?_⟩
      refine go (And.intro hb (And.intro hb2 (And.intro e1 (And.intro e2 (And.intro e3 (And.intro e4 (And.intro e5 (And.intro e6 (And.intro e7 (And.intro e8 (And.intro c1 (And.intro c2 (And.intro c3 (And.intro c4 (And.intro c5 (And.intro c6 c11)))))))))))))))) ?_
      refine x_copy rfl rfl rfl rfl rfl rfl (sv (And.intro hb (And.intro hb2 (And.intro e1 (And.intro e2 (And.intro e3 (And.intro e4 (And.intro e5 (And.intro e6 (And.intro e7 (And.intro e8 (And.intro c1 (And.intro c2 (And.intro c3 (And.intro c4 (And.intro c5 (And.intro c6 c11))))))))))))))))) (by decide) (sv (And.intro hb (And.intro hb2 (And.intro e1 (And.intro e2 (And.intro e3 (And.intro e4 (And.intro e5 (And.intro e6 (And.intro e7 (And.intro e8 (And.intro c1 (And.intro c2 (And.intro c3 (And.intro c4 (And.intro c5 (And.intro c6 c11))))))))))))))))) (sx (And.intro hb (And.intro hb2 (And.intro e1 (And.intro e2 (And.intro e3 (And.intro e4 (And.intro e5 (And.intro e6 (And.intro e7 (And.intro e8 (And.intro c1 (And.intro c2 (And.intro c3 (And.intro c4 (And.intro c5 (And.intro c6 c11))))))))))))))))) hok3 (sx (And.intro hb (And.intro hb2 (And.intro e1 (And.intro e2 (And.intro e3 (And.intro e4 (And.intro e5 (And.intro e6 (And.intro e7 (And.intro e8 (And.intro c1 (And.intro c2 (And.intro c3 (And.intro c4 (And.intro c5 (And.intro c6 c11))))))))))))))))) (by rfl) (by rfl) (by first | omega | (simp; done) | (simp [spare_len]; omega)) ?_
      refine go (And.intro hb (And.intro hb2 (And.intro e1 (And.intro e2 (And.intro e3 (And.intro e4 (And.intro e5 (And.intro e6 (And.intro e7 (And.intro e8 (And.intro c1 (And.intro c2 (And.intro c3 (And.intro c4 (And.intro c5 (And.intro c6 c11)))))))))))))))) ?_
      refine x_copy rfl rfl rfl rfl rfl rfl (sv (And.intro hb (And.intro hb2 (And.intro e1 (And.intro e2 (And.intro e3 (And.intro e4 (And.intro e5 (And.intro e6 (And.intro e7 (And.intro e8 (And.intro c1 (And.intro c2 (And.intro c3 (And.intro c4 (And.intro c5 (And.intro c6 c11))))))))))))))))) (by decide) (sv (And.intro hb (And.intro hb2 (And.intro e1 (And.intro e2 (And.intro e3 (And.intro e4 (And.intro e5 (And.intro e6 (And.intro e7 (And.intro e8 (And.intro c1 (And.intro c2 (And.intro c3 (And.intro c4 (And.intro c5 (And.intro c6 c11))))))))))))))))) (sx (And.intro hb (And.intro hb2 (And.intro e1 (And.intro e2 (And.intro e3 (And.intro e4 (And.intro e5 (And.intro e6 (And.intro e7 (And.intro e8 (And.intro c1 (And.intro c2 (And.intro c3 (And.intro c4 (And.intro c5 (And.intro c6 c11))))))))))))))))) (okRows_take _ hokx) (sx (And.intro hb (And.intro hb2 (And.intro e1 (And.intro e2 (And.intro e3 (And.intro e4 (And.intro e5 (And.intro e6 (And.intro e7 (And.intro e8 (And.intro c1 (And.intro c2 (And.intro c3 (And.intro c4 (And.intro c5 (And.intro c6 c11))))))))))))))))) (by rfl) (by rfl) (by first | omega | (simp; done) | (simp [spare_len]; omega)) ?_
      refine go (And.intro hb (And.intro hb2 (And.intro e1 (And.intro e2 (And.intro e3 (And.intro e4 (And.intro e5 (And.intro e6 (And.intro e7 (And.intro e8 (And.intro c1 (And.intro c2 (And.intro c3 (And.intro c4 (And.intro c5 (And.intro c6 c11)))))))))))))))) ?_
      refine x_inl (sr @Try.f48.eq_1) ?_
      refine hK b (rows.length + sp.length) n0 _ (sp.drop 1) hbn (Nat.le_refl _) ?_ (by simp; omega) ?_ (.inl rfl)
      · have key := ins_place rows sp x i (by omega) h2
        have c12 : (((rows ++ sp).drop i).take (rows.length + 1 - i)).length = rows.length + 1 - i := by simp; omega
        simp only [upd_at, ↓reduceIte, List.length_cons, List.length_nil, Nat.zero_add, Nat.add_zero, c12, c8, c9] at key ⊢
        exact congrArg (fun r => some (⟨4, r, true⟩ : Blk)) key
      · intro k k1 k2
        simp only [upd_at, k2, if_false]
theorem insR_sound {plain : TypeId → Bool} {Γ : FuncId → Option Fspec} {Δ : FuncId → Option Pt} (hE : EnvOk ⟨Try.prog, plain, Γ, Δ, fun _ => none, 0⟩) (hO : Δ 42 = some (overT 4)) : SoundT Try.prog 29 (insT 4) := by
  refine inl_sound hE Try.func29 rfl (by kernel_rfl) (by kernel_rfl) ?_
  rintro Φ args t0 h0 n0 K ⟨b, cap, b2, rows, sp, i, x, rfl, hi, hlen, hne, hbn, hb2n, hb, rfl, hb2, hok, hokx, hK⟩
  simp only at hbn hb2n hb hb2 hK
  refine ⟨by simp [Try.f29], ?_⟩
  refine W.out (E := ⟨Try.prog, plain, Γ, Δ, Φ, _⟩) ?_
  have e1 : (b = n0) = False := by simp; omega
  have e2 : (b2 = n0) = False := by simp; omega
  have e3 : (b2 = b) = False := by simp; omega
  have e4 : (b = b2) = False := by simp; omega
  have e5 : (((1 : Nat) : Int) == 0) = false := rfl
  have e6 : (b = n0 + 1) = False := by simp; omega
  have e7 : (b2 = n0 + 1) = False := by simp; omega
  by_cases h1 : i = rows.length
  · subst h1
    refine go (And.intro hb (And.intro hb2 (And.intro e1 (And.intro e2 (And.intro e3 (And.intro e4 e5)))))) ?_
    refine x_appendO rfl rfl rfl rfl rfl rfl (sv (And.intro hb (And.intro hb2 (And.intro e1 (And.intro e2 (And.intro e3 (And.intro e4 e5))))))) (by decide) (sc (And.intro hb (And.intro hb2 (And.intro e1 (And.intro e2 (And.intro e3 (And.intro e4 e5))))))) (sv (And.intro hb (And.intro hb2 (And.intro e1 (And.intro e2 (And.intro e3 (And.intro e4 e5))))))) (sx (And.intro hb (And.intro hb2 (And.intro e1 (And.intro e2 (And.intro e3 (And.intro e4 e5))))))) (by first | rfl | (simp; done) | (simp [spare_len]; omega)) (by first | omega | (simp; done) | (simp [spare_len]; omega)) (by first | omega | (simp; done) | (simp [spare_len]; omega)) (sx (And.intro hb (And.intro hb2 (And.intro e1 (And.intro e2 (And.intro e3 (And.intro e4 e5))))))) hokx (by first | omega | (simp; done) | (simp [spare_len]; omega)) (fun cap' hcap' => ?_)
    refine go (And.intro hb (And.intro hb2 (And.intro e1 (And.intro e2 (And.intro e3 (And.intro e4 e5)))))) ?_
    refine x_inl (sr @Try.f29.eq_1) ?_
    refine hK n0 cap' (n0 + 1) _ (spare 4 (cap' - (rows.length + 1))) (by omega) (by omega) ?_ (by simp [spare_len] at hcap' ⊢; omega) ?_ (.inr (Nat.le_refl _))
    · simp [upd_at]
    · intro k k1 k2
      have k3 : k ≠ n0 := by omega
      simp [upd_at, k2, k3]
  · have e8 : ((i : Int) == (rows.length : Int)) = false := by simp; omega
    have c1 : ((rows.length : Int) + ((1 : Nat) : Int)) = ((rows.length + 1 : Nat) : Int) := by omega
    have c2 : (((rows.length + 1 : Nat) : Int) - (i : Int)) = ((rows.length + 1 - i : Nat) : Int) := by omega
    have c3 : ((i : Int) + ((1 : Nat) : Int)) = ((i + 1 : Nat) : Int) := by omega
    have c4 : i + (rows.length + 1 - i) = rows.length + 1 := by omega
    have c5 : rows.length + 1 - (i + 1) = rows.length - i := by omega
    have c6 : ((rows ++ sp).drop i).take (rows.length - i) = rows.drop i := by rw [List.drop_append_of_le_length (by omega), List.take_append_of_le_length (by simp), List.take_of_length_le (by simp)]
    have c7 : min (rows.length - i) (rows.length - i) = rows.length - i := Nat.min_self _
    have c8 : min 1 (rows.length + 1 - i) = 1 := by omega
    have c11 : (rows ++ sp).length = rows.length + sp.length := List.length_append
    have c10 : min (rows.length - i) (rows.length + 1 - i) = rows.length - i := by omega
    have c9 : min (rows.length + 1 - i) (rows.length - i) = rows.length - i := by omega
    refine go (And.intro hb (And.intro hb2 (And.intro e1 (And.intro e2 (And.intro e3 (And.intro e4 (And.intro e5 (And.intro e6 (And.intro e7 (And.intro e8 (And.intro c1 (And.intro c2 (And.intro c3 (And.intro c4 (And.intro c5 (And.intro c6 c11)))))))))))))))) ?_
    refine x_condP (sv (And.intro hb (And.intro hb2 (And.intro e1 (And.intro e2 (And.intro e3 (And.intro e4 (And.intro e5 (And.intro e6 (And.intro e7 (And.intro e8 (And.intro c1 (And.intro c2 (And.intro c3 (And.intro c4 (And.intro c5 (And.intro c6 c11))))))))))))))))) (fun hc => ?_) (fun hc => ?_)
    · have h2 : sp.length = 0 := by omega
      have h3 : (rows ++ sp).length = rows.length := by simp [h2]
      refine go (And.intro hb (And.intro hb2 (And.intro e1 (And.intro e2 (And.intro e3 (And.intro e4 (And.intro e5 (And.intro e6 (And.intro e7 (And.intro e8 (And.intro c1 (And.intro c2 (And.intro c3 (And.intro c4 (And.intro c5 (And.intro c6 c11)))))))))))))))) ?_
      refine x_appendZ rfl rfl rfl rfl rfl rfl (sc (And.intro hb (And.intro hb2 (And.intro e1 (And.intro e2 (And.intro e3 (And.intro e4 (And.intro e5 (And.intro e6 (And.intro e7 (And.intro e8 (And.intro c1 (And.intro c2 (And.intro c3 (And.intro c4 (And.intro c5 (And.intro c6 c11))))))))))))))))) (sv (And.intro hb (And.intro hb2 (And.intro e1 (And.intro e2 (And.intro e3 (And.intro e4 (And.intro e5 (And.intro e6 (And.intro e7 (And.intro e8 (And.intro c1 (And.intro c2 (And.intro c3 (And.intro c4 (And.intro c5 (And.intro c6 c11))))))))))))))))) (by decide) (sc (And.intro hb (And.intro hb2 (And.intro e1 (And.intro e2 (And.intro e3 (And.intro e4 (And.intro e5 (And.intro e6 (And.intro e7 (And.intro e8 (And.intro c1 (And.intro c2 (And.intro c3 (And.intro c4 (And.intro c5 (And.intro c6 c11))))))))))))))))) (sv (And.intro hb (And.intro hb2 (And.intro e1 (And.intro e2 (And.intro e3 (And.intro e4 (And.intro e5 (And.intro e6 (And.intro e7 (And.intro e8 (And.intro c1 (And.intro c2 (And.intro c3 (And.intro c4 (And.intro c5 (And.intro c6 c11))))))))))))))))) (sv (And.intro hb (And.intro hb2 (And.intro e1 (And.intro e2 (And.intro e3 (And.intro e4 (And.intro e5 (And.intro e6 (And.intro e7 (And.intro e8 (And.intro c1 (And.intro c2 (And.intro c3 (And.intro c4 (And.intro c5 (And.intro c6 c11))))))))))))))))) (sx (And.intro hb (And.intro hb2 (And.intro e1 (And.intro e2 (And.intro e3 (And.intro e4 (And.intro e5 (And.intro e6 (And.intro e7 (And.intro e8 (And.intro c1 (And.intro c2 (And.intro c3 (And.intro c4 (And.intro c5 (And.intro c6 c11))))))))))))))))) (by rfl) (by rfl) (by first | omega | (simp; done) | (simp [spare_len]; omega)) (by first | omega | (simp; done) | (simp [spare_len]; omega)) (by first | omega | (simp; done) | (simp [spare_len]; omega)) (by first | omega | (simp; done) | (simp [spare_len]; omega)) (fun cap' hcap' => ?_)
      refine go (And.intro hb (And.intro hb2 (And.intro e1 (And.intro e2 (And.intro e3 (And.intro e4 (And.intro e5 (And.intro e6 (And.intro e7 (And.intro e8 (And.intro c1 (And.intro c2 (And.intro c3 (And.intro c4 (And.intro c5 (And.intro c6 c11)))))))))))))))) ?_
      refine x_copy rfl rfl rfl rfl rfl rfl (sv (And.intro hb (And.intro hb2 (And.intro e1 (And.intro e2 (And.intro e3 (And.intro e4 (And.intro e5 (And.intro e6 (And.intro e7 (And.intro e8 (And.intro c1 (And.intro c2 (And.intro c3 (And.intro c4 (And.intro c5 (And.intro c6 c11))))))))))))))))) (by decide) (sv (And.intro hb (And.intro hb2 (And.intro e1 (And.intro e2 (And.intro e3 (And.intro e4 (And.intro e5 (And.intro e6 (And.intro e7 (And.intro e8 (And.intro c1 (And.intro c2 (And.intro c3 (And.intro c4 (And.intro c5 (And.intro c6 c11))))))))))))))))) (sx (And.intro hb (And.intro hb2 (And.intro e1 (And.intro e2 (And.intro e3 (And.intro e4 (And.intro e5 (And.intro e6 (And.intro e7 (And.intro e8 (And.intro c1 (And.intro c2 (And.intro c3 (And.intro c4 (And.intro c5 (And.intro c6 c11))))))))))))))))) (okRows_take _ hokx) (sx (And.intro hb (And.intro hb2 (And.intro e1 (And.intro e2 (And.intro e3 (And.intro e4 (And.intro e5 (And.intro e6 (And.intro e7 (And.intro e8 (And.intro c1 (And.intro c2 (And.intro c3 (And.intro c4 (And.intro c5 (And.intro c6 c11))))))))))))))))) (by rfl) (by rfl) (by first | omega | (simp; done) | (simp [spare_len]; omega)) ?_
      refine go (And.intro hb (And.intro hb2 (And.intro e1 (And.intro e2 (And.intro e3 (And.intro e4 (And.intro e5 (And.intro e6 (And.intro e7 (And.intro e8 (And.intro c1 (And.intro c2 (And.intro c3 (And.intro c4 (And.intro c5 (And.intro c6 c11)))))))))))))))) ?_
      refine x_copy rfl rfl rfl rfl rfl rfl (sv (And.intro hb (And.intro hb2 (And.intro e1 (And.intro e2 (And.intro e3 (And.intro e4 (And.intro e5 (And.intro e6 (And.intro e7 (And.intro e8 (And.intro c1 (And.intro c2 (And.intro c3 (And.intro c4 (And.intro c5 (And.intro c6 c11))))))))))))))))) (by decide) (sv (And.intro hb (And.intro hb2 (And.intro e1 (And.intro e2 (And.intro e3 (And.intro e4 (And.intro e5 (And.intro e6 (And.intro e7 (And.intro e8 (And.intro c1 (And.intro c2 (And.intro c3 (And.intro c4 (And.intro c5 (And.intro c6 c11))))))))))))))))) (sx (And.intro hb (And.intro hb2 (And.intro e1 (And.intro e2 (And.intro e3 (And.intro e4 (And.intro e5 (And.intro e6 (And.intro e7 (And.intro e8 (And.intro c1 (And.intro c2 (And.intro c3 (And.intro c4 (And.intro c5 (And.intro c6 c11))))))))))))))))) (okRows_take _ (okRows_drop _ hok)) (sx (And.intro hb (And.intro hb2 (And.intro e1 (And.intro e2 (And.intro e3 (And.intro e4 (And.intro e5 (And.intro e6 (And.intro e7 (And.intro e8 (And.intro c1 (And.intro c2 (And.intro c3 (And.intro c4 (And.intro c5 (And.intro c6 c11))))))))))))))))) (by rfl) (by rfl) (by first | omega | (simp; done) | (simp [spare_len]; omega)) ?_
      refine go (And.intro hb (And.intro hb2 (And.intro e1 (And.intro e2 (And.intro e3 (And.intro e4 (And.intro e5 (And.intro e6 (And.intro e7 (And.intro e8 (And.intro c1 (And.intro c2 (And.intro c3 (And.intro c4 (And.intro c5 (And.intro c6 c11)))))))))))))))) ?_
      refine x_inl (sr @Try.f29.eq_1) ?_
      rw [c4] at hcap'
      refine hK n0 cap' (n0 + 1) _ (spare 4 (cap' - (rows.length + 1))) (by omega) (by omega) ?_ (by simp [spare_len]; omega) ?_ (.inr (Nat.le_refl _))
      · have key := ins_grow rows sp x (spare 4 (rows.length + 1 - i)) (spare 4 (cap' - (rows.length + 1))) i (by omega) (by simp [spare_len])
        rw [c6] at *
        simp only [upd_at, ↓reduceIte, List.length_cons, List.length_nil, Nat.zero_add, Nat.add_zero, c8, c4, c5, c7, List.length_drop] at key ⊢
        exact congrArg (fun r => some (⟨4, r, true⟩ : Blk)) key
      · intro k k1 k2
        have k3 : (k = n0) = False := by simp; omega
        simp only [upd_at, k3, if_false]
    · have h2 : 0 < sp.length := by omega
      have hok3 : okRows 4 ((((rows ++ sp).drop i).take (rows.length + 1 - i)).take (min (((rows ++ sp).drop i).take (rows.length + 1 - i)).length (rows.length - i))) := by
        have : min (((rows ++ sp).drop i).take (rows.length + 1 - i)).length (rows.length - i) = rows.length - i := by simp; omega
        rw [this, List.take_take, c10, List.drop_append_of_le_length (by omega), List.take_append_of_le_length (by simp), List.take_of_length_le (by simp)]
        exact okRows_drop _ hok
      refine go (And.intro hb (And.intro hb2 (And.intro e1 (And.intro e2 (And.intro e3 (And.intro e4 (And.intro e5 (And.intro e6 (And.intro e7 (And.intro e8 (And.intro c1 (And.intro c2 (And.intro c3 (And.intro c4 (And.intro c5 (And.intro c6 c11)))))))))))))))) ?_
      refine x_callI rfl rfl rfl rfl (sv (And.intro hb (And.intro hb2 (And.intro e1 (And.intro e2 (And.intro e3 (And.intro e4 (And.intro e5 (And.intro e6 (And.intro e7 (And.intro e8 (And.intro c1 (And.intro c2 (And.intro c3 (And.intro c4 (And.intro c5 (And.intro c6 c11))))))))))))))))) hO (sv (And.intro hb (And.intro hb2 (And.intro e1 (And.intro e2 (And.intro e3 (And.intro e4 (And.intro e5 (And.intro e6 (And.intro e7 (And.intro e8 (And.intro c1 (And.intro c2 (And.intro c3 (And.intro c4 (And.intro c5 (And.intro c6 c11))))))))))))))))) ⟨b2, 0, 1, 1, b, i + 1, rows.length - i, _, _, _, rfl, (Ne.symm hne), (sv (And.intro hb (And.intro hb2 (And.intro e1 (And.intro e2 (And.intro e3 (And.intro e4 (And.intro e5 (And.intro e6 (And.intro e7 (And.intro e8 (And.intro c1 (And.intro c2 (And.intro c3 (And.intro c4 (And.intro c5 (And.intro c6 c11))))))))))))))))), (sv (And.intro hb (And.intro hb2 (And.intro e1 (And.intro e2 (And.intro e3 (And.intro e4 (And.intro e5 (And.intro e6 (And.intro e7 (And.intro e8 (And.intro c1 (And.intro c2 (And.intro c3 (And.intro c4 (And.intro c5 (And.intro c6 c11))))))))))))))))), rfl, rfl, rfl, (by simp), (by simp; omega), Nat.zero_lt_one, (by omega), ?_⟩
      refine go (And.intro hb (And.intro hb2 (And.intro e1 (And.intro e2 (And.intro e3 (And.intro e4 (And.intro e5 (And.intro e6 (And.intro e7 (And.intro e8 (And.intro c1 (And.intro c2 (And.intro c3 (And.intro c4 (And.intro c5 (And.intro c6 c11)))))))))))))))) ?_
      refine x_copy rfl rfl rfl rfl rfl rfl (sv (And.intro hb (And.intro hb2 (And.intro e1 (And.intro e2 (And.intro e3 (And.intro e4 (And.intro e5 (And.intro e6 (And.intro e7 (And.intro e8 (And.intro c1 (And.intro c2 (And.intro c3 (And.intro c4 (And.intro c5 (And.intro c6 c11))))))))))))))))) (by decide) (sv (And.intro hb (And.intro hb2 (And.intro e1 (And.intro e2 (And.intro e3 (And.intro e4 (And.intro e5 (And.intro e6 (And.intro e7 (And.intro e8 (And.intro c1 (And.intro c2 (And.intro c3 (And.intro c4 (And.intro c5 (And.intro c6 c11))))))))))))))))) (sx (And.intro hb (And.intro hb2 (And.intro e1 (And.intro e2 (And.intro e3 (And.intro e4 (And.intro e5 (And.intro e6 (And.intro e7 (And.intro e8 (And.intro c1 (And.intro c2 (And.intro c3 (And.intro c4 (And.intro c5 (And.intro c6 c11))))))))))))))))) hok3 (sx (And.intro hb (And.intro hb2 (And.intro e1 (And.intro e2 (And.intro e3 (And.intro e4 (And.intro e5 (And.intro e6 (And.intro e7 (And.intro e8 (And.intro c1 (And.intro c2 (And.intro c3 (And.intro c4 (And.intro c5 (And.intro c6 c11))))))))))))))))) (by rfl) (by rfl) (by first | omega | (simp; done) | (simp [spare_len]; omega)) ?_
      refine go (And.intro hb (And.intro hb2 (And.intro e1 (And.intro e2 (And.intro e3 (And.intro e4 (And.intro e5 (And.intro e6 (And.intro e7 (And.intro e8 (And.intro c1 (And.intro c2 (And.intro c3 (And.intro c4 (And.intro c5 (And.intro c6 c11)))))))))))))))) ?_
      refine x_copy rfl rfl rfl rfl rfl rfl (sv (And.intro hb (And.intro hb2 (And.intro e1 (And.intro e2 (And.intro e3 (And.intro e4 (And.intro e5 (And.intro e6 (And.intro e7 (And.intro e8 (And.intro c1 (And.intro c2 (And.intro c3 (And.intro c4 (And.intro c5 (And.intro c6 c11))))))))))))))))) (by decide) (sv (And.intro hb (And.intro hb2 (And.intro e1 (And.intro e2 (And.intro e3 (And.intro e4 (And.intro e5 (And.intro e6 (And.intro e7 (And.intro e8 (And.intro c1 (And.intro c2 (And.intro c3 (And.intro c4 (And.intro c5 (And.intro c6 c11))))))))))))))))) (sx (And.intro hb (And.intro hb2 (And.intro e1 (And.intro e2 (And.intro e3 (And.intro e4 (And.intro e5 (And.intro e6 (And.intro e7 (And.intro e8 (And.intro c1 (And.intro c2 (And.intro c3 (And.intro c4 (And.intro c5 (And.intro c6 c11))))))))))))))))) (okRows_take _ hokx) (sx (And.intro hb (And.intro hb2 (And.intro e1 (And.intro e2 (And.intro e3 (And.intro e4 (And.intro e5 (And.intro e6 (And.intro e7 (And.intro e8 (And.intro c1 (And.intro c2 (And.intro c3 (And.intro c4 (And.intro c5 (And.intro c6 c11))))))))))))))))) (by rfl) (by rfl) (by first | omega | (simp; done) | (simp [spare_len]; omega)) ?_
      refine go (And.intro hb (And.intro hb2 (And.intro e1 (And.intro e2 (And.intro e3 (And.intro e4 (And.intro e5 (And.intro e6 (And.intro e7 (And.intro e8 (And.intro c1 (And.intro c2 (And.intro c3 (And.intro c4 (And.intro c5 (And.intro c6 c11)))))))))))))))) ?_
      refine x_inl (sr @Try.f29.eq_1) ?_
      refine hK b (rows.length + sp.length) n0 _ (sp.drop 1) hbn (Nat.le_refl _) ?_ (by simp; omega) ?_ (.inl rfl)
      · have key := ins_place rows sp x i (by omega) h2
        have c12 : (((rows ++ sp).drop i).take (rows.length + 1 - i)).length = rows.length + 1 - i := by simp; omega
        simp only [upd_at, ↓reduceIte, List.length_cons, List.length_nil, Nat.zero_add, Nat.add_zero, c12, c8, c9] at key ⊢
        exact congrArg (fun r => some (⟨4, r, true⟩ : Blk)) key
      · intro k k1 k2
        simp only [upd_at, k2, if_false]
end Go.Proofs.Ytgohmphhgglmbaa

set_option linter.unusedVariables false
set_option linter.unusedSimpArgs false
set_option maxRecDepth 100000
set_option maxHeartbeats 4000000
namespace Go.Proofs.Ytgohmphhgglmbaa
open Go Go.RowKit Am

def getF : List Rgs → Idt → ByteArray → List Wrt
  | [], _, _ => []
  | x :: l, y, f => if ((x.id.a.toList == y.a.toList) && (x.id.n == y.n)) && (x.f.toList == f.toList) then x.w else getF l y f
def getS : Fspec := fun _ ds r => ∃ (l : List Rgs) (y : Idt) (f : ByteArray), l.length ≤ 1099511627776 ∧ ds = [.sl (l.map encR), .agg (encId y), .s (.string f)] ∧ r = .sl ((getF l y f).map encW)
theorem get_sound {plain : TypeId → Bool} {Γ : FuncId → Option Fspec} {Δ : FuncId → Option Pt} (hE : EnvOk ⟨Try.prog, plain, Γ, Δ, fun _ => none, 0⟩) (hpl : plain 31 = true) : Sound Try.prog 16 getS := by
  refine sound_of_awp hE Try.func16 rfl (by kernel_rfl) ?_
  rintro Φ ds r ⟨v, y, f, hv, rfl, rfl⟩
  refine ⟨by simp [Try.f16], ?_⟩
  unfold st0
  refine W.out (E := ⟨Try.prog, plain, Γ, Δ, Φ, _⟩) ?_
  have hr := encR_rows v
  refine go @encId.eq_1 ?_
  refine x_loop (fun σ => ∃ i : Nat, i ≤ v.length ∧ 0 < σ.n ∧ σ.h 0 = some ⟨2, [encId y], true⟩ ∧ σ.t 2 = .s (.string f) ∧ σ.t 4 = .ptr 0 0 0 ∧ σ.t 9 = .sl (v.map encR) ∧ σ.t 10 = .s (.int .i64 v.length) ∧ σ.t 11 = .s (.int .i64 i) ∧ getF (v.drop i) y f = getF v y f) (fun σ => v.length - ix (σ.t 11)) ⟨0, Nat.zero_le _, Nat.zero_lt_one, (sc @encId.eq_1), (sc trivial), (sc trivial), (sc trivial), (sc trivial), (sc trivial), rfl⟩ ?_
  rintro t h n ⟨i, hi, hn, hh, h2, h4, h9, h10, h11, hf⟩
  simp only at hn hh h2 h4 h9 h10 h11
  refine go (And.intro hh (And.intro h2 (And.intro h4 (And.intro h9 (And.intro h10 h11))))) ?_
  refine x_condP (sv trivial) (fun hc => ?_) (fun hc => ?_)
  · have hi' : i < v.length := by omega
    rw [List.drop_eq_getElem_cons hi', getF] at hf
    have hne : (0 = n) = False := by simp; omega
    cases ha : ((v[i].id.a.toList == y.a.toList) && (v[i].id.n == y.n))
    · rw [ha] at hf
      refine go (And.intro hh (And.intro h2 (And.intro h4 (And.intro h9 (And.intro h10 (And.intro h11 (And.intro hr (And.intro @encR.eq_1 (And.intro @encId.eq_1 (And.intro hpl (And.intro ha hne))))))))))) ?_
      refine ⟨⟨i + 1, by omega, by simp, (sc (And.intro hh (And.intro @encId.eq_1 hne))), (sc h2), (sc h4), (sc h9), (sc h10), (sc (And.intro h11 @cast_succ)), by simpa using hf⟩, ?_⟩
      exact so h11
    · rw [ha] at hf
      cases hb : (v[i].f.toList == f.toList)
      · rw [hb] at hf
        refine go (And.intro hh (And.intro h2 (And.intro h4 (And.intro h9 (And.intro h10 (And.intro h11 (And.intro hr (And.intro @encR.eq_1 (And.intro @encId.eq_1 (And.intro hpl (And.intro ha (And.intro hb hne)))))))))))) ?_
        refine ⟨⟨i + 1, by omega, by simp, (sc (And.intro hh (And.intro @encId.eq_1 hne))), (sc h2), (sc h4), (sc h9), (sc h10), (sc (And.intro h11 @cast_succ)), by simpa using hf⟩, ?_⟩
        exact so h11
      · rw [hb] at hf
        have hf' : getF v y f = v[i].w := by rw [← hf]; rfl
        refine go (And.intro hh (And.intro h2 (And.intro h4 (And.intro h9 (And.intro h10 (And.intro h11 (And.intro hr (And.intro @encR.eq_1 (And.intro @encId.eq_1 (And.intro hpl (And.intro ha (And.intro hb hne)))))))))))) ?_
        rw [hf']
        refine x_done (x_outV (sr @Try.f16.eq_1) (by simp) (by simp) rfl)
  · have e : i = v.length := by omega
    subst e
    rw [List.drop_length] at hf
    refine go (And.intro hh (And.intro h2 (And.intro h4 (And.intro h9 (And.intro h10 h11))))) ?_
    have hf' : getF v y f = [] := by rw [← hf]; rfl
    rw [hf']
    refine x_done (x_outV (sr @Try.f16.eq_1) (by simp) (by simp) rfl)
end Go.Proofs.Ytgohmphhgglmbaa

set_option linter.unusedVariables false
set_option linter.unusedSimpArgs false
set_option maxRecDepth 100000
set_option maxHeartbeats 4000000
namespace Go.Proofs.Ytgohmphhgglmbaa
open Go Go.RowKit Am

def idxF {α : Type} (p : α → Bool) : List α → Nat → Int
  | [], _ => -1
  | x :: l, k => if p x then (k : Int) else idxF p l (k + 1)
def idxS {α : Type} (enc : α → List V) : Fspec := fun Φ ds r => ∃ (v : List α) (p : α → Bool) (S : List V → Value → Prop), v.length ≤ 1099511627776 ∧ ds = [.sl (v.map enc), .fv 1] ∧ Φ 1 = some S ∧ (∀ x ∈ v, S [.agg (enc x)] (.bool (p x))) ∧ r = .s (.int .i64 (idxF p v 0))
theorem idxR_sound {plain : TypeId → Bool} {Γ : FuncId → Option Fspec} {Δ : FuncId → Option Pt} (hE : EnvOk ⟨Try.prog, plain, Γ, Δ, fun _ => none, 0⟩) : Sound Try.prog 32 (idxS encR) := by
  refine sound_of_awp hE Try.func32 rfl (by kernel_rfl) ?_
  rintro Φ ds r ⟨v, p, S, hv, rfl, hS, hp, rfl⟩
  refine ⟨by simp [Try.f32], ?_⟩
  unfold st0
  refine W.out (E := ⟨Try.prog, plain, Γ, Δ, Φ, _⟩) ?_
  have hr := encR_rows v
  refine go trivial ?_
  refine x_loop (fun σ => ∃ i : Nat, i ≤ v.length ∧ σ.t 0 = .sl (v.map encR) ∧ σ.t 1 = .fv 1 ∧ σ.t 7 = .s (.int .i64 v.length) ∧ σ.t 8 = .s (.int .i64 i) ∧ idxF p (v.drop i) i = idxF p v 0) (fun σ => v.length - ix (σ.t 8)) ⟨0, Nat.zero_le _, (sc trivial), (sc trivial), (sc trivial), (sc trivial), rfl⟩ ?_
  rintro t h n ⟨i, hi, h0, h1, h7, h8, hf⟩
  simp only at h0 h1 h7 h8
  refine go (And.intro h0 (And.intro h1 (And.intro h7 h8))) ?_
  refine x_condP (sv trivial) (fun hc => ?_) (fun hc => ?_)
  · have hi' : i < v.length := by omega
    rw [List.drop_eq_getElem_cons hi', idxF] at hf
    refine go (And.intro h0 (And.intro h1 (And.intro h7 (And.intro h8 (And.intro hr @encR.eq_1))))) ?_
    refine x_callV rfl rfl rfl rfl (sv @encR.eq_1) hS (sv @encR.eq_1) (se @encR.eq_1) rfl (hp _ (List.getElem_mem hi')) ?_
    cases hb : p v[i]
    · rw [hb] at hf
      refine go (And.intro h0 (And.intro h1 (And.intro h7 (And.intro h8 (And.intro hr (And.intro @encR.eq_1 hb)))))) ?_
      refine ⟨⟨i + 1, by omega, (sc h0), (sc h1), (sc h7), (sc (And.intro h8 @cast_succ)), by simpa using hf⟩, ?_⟩
      exact so h8
    · rw [hb] at hf
      have hf' : idxF p v 0 = i := by rw [← hf]; rfl
      refine go (And.intro h0 (And.intro h1 (And.intro h7 (And.intro h8 (And.intro hr (And.intro @encR.eq_1 hb)))))) ?_
      refine x_done (x_out (sr (And.intro @Try.f32.eq_1 hf')) (by simp) (by simp) rfl)
  · have e : i = v.length := by omega
    subst e
    rw [List.drop_length] at hf
    have hf' : idxF p v 0 = -1 := by rw [← hf]; rfl
    refine go (And.intro h0 (And.intro h1 (And.intro h7 h8))) ?_
    refine x_done (x_out (sr (And.intro @Try.f32.eq_1 hf')) (by simp) (by simp) rfl)
theorem idxW_sound {plain : TypeId → Bool} {Γ : FuncId → Option Fspec} {Δ : FuncId → Option Pt} (hE : EnvOk ⟨Try.prog, plain, Γ, Δ, fun _ => none, 0⟩) : Sound Try.prog 55 (idxS encW) := by
  refine sound_of_awp hE Try.func55 rfl (by kernel_rfl) ?_
  rintro Φ ds r ⟨v, p, S, hv, rfl, hS, hp, rfl⟩
  refine ⟨by simp [Try.f55], ?_⟩
  unfold st0
  refine W.out (E := ⟨Try.prog, plain, Γ, Δ, Φ, _⟩) ?_
  have hr := encW_rows v
  refine go trivial ?_
  refine x_loop (fun σ => ∃ i : Nat, i ≤ v.length ∧ σ.t 0 = .sl (v.map encW) ∧ σ.t 1 = .fv 1 ∧ σ.t 7 = .s (.int .i64 v.length) ∧ σ.t 8 = .s (.int .i64 i) ∧ idxF p (v.drop i) i = idxF p v 0) (fun σ => v.length - ix (σ.t 8)) ⟨0, Nat.zero_le _, (sc trivial), (sc trivial), (sc trivial), (sc trivial), rfl⟩ ?_
  rintro t h n ⟨i, hi, h0, h1, h7, h8, hf⟩
  simp only at h0 h1 h7 h8
  refine go (And.intro h0 (And.intro h1 (And.intro h7 h8))) ?_
  refine x_condP (sv trivial) (fun hc => ?_) (fun hc => ?_)
  · have hi' : i < v.length := by omega
    rw [List.drop_eq_getElem_cons hi', idxF] at hf
    refine go (And.intro h0 (And.intro h1 (And.intro h7 (And.intro h8 (And.intro hr @encW.eq_1))))) ?_
    refine x_callV rfl rfl rfl rfl (sv @encW.eq_1) hS (sv @encW.eq_1) (se @encW.eq_1) rfl (hp _ (List.getElem_mem hi')) ?_
    cases hb : p v[i]
    · rw [hb] at hf
      refine go (And.intro h0 (And.intro h1 (And.intro h7 (And.intro h8 (And.intro hr (And.intro @encW.eq_1 hb)))))) ?_
      refine ⟨⟨i + 1, by omega, (sc h0), (sc h1), (sc h7), (sc (And.intro h8 @cast_succ)), by simpa using hf⟩, ?_⟩
      exact so h8
    · rw [hb] at hf
      have hf' : idxF p v 0 = i := by rw [← hf]; rfl
      refine go (And.intro h0 (And.intro h1 (And.intro h7 (And.intro h8 (And.intro hr (And.intro @encW.eq_1 hb)))))) ?_
      refine x_done (x_out (sr (And.intro @Try.f55.eq_1 hf')) (by simp) (by simp) rfl)
  · have e : i = v.length := by omega
    subst e
    rw [List.drop_length] at hf
    have hf' : idxF p v 0 = -1 := by rw [← hf]; rfl
    refine go (And.intro h0 (And.intro h1 (And.intro h7 h8))) ?_
    refine x_done (x_out (sr (And.intro @Try.f55.eq_1 hf')) (by simp) (by simp) rfl)
end Go.Proofs.Ytgohmphhgglmbaa

set_option linter.unusedVariables false
set_option linter.unusedSimpArgs false
set_option maxRecDepth 100000
set_option maxHeartbeats 8000000
namespace Go.Proofs.Ytgohmphhgglmbaa
open Go Go.RowKit Am

/-- slices.DeleteFunc of the writes that an edit replaces, from a row of the call's own. -/
def delT : Pt := fun _ args σ K => ∃ (b cap be : Nat) (l : List Wrt) (sp : List (List V)) (e : Edt) (wr : Bool), args = [.loc b 0 l.length cap, .fn 45 [.ptr be 0 0]] ∧ l.length ≤ 1099511627776 ∧ e.deps.length ≤ 1099511627776 ∧ b ≠ be ∧ b < σ.n ∧ be < σ.n ∧
  σ.h b = some ⟨4, l.map encW ++ sp, true⟩ ∧ cap = l.length + sp.length ∧ σ.h be = some ⟨18, [encE e], wr⟩ ∧
  ∀ (n' : Nat) (h' : Hp) (sp' : List (List V)), σ.n ≤ n' → h' b = some ⟨4, (l.filter fun m => !wr1F e m).map encW ++ sp', true⟩ → cap = (l.filter fun m => !wr1F e m).length + sp'.length → (∀ k, k < σ.n → k ≠ b → h' k = σ.h k) → K (.loc b 0 (l.filter fun m => !wr1F e m).length cap) ⟨σ.t, h', n'⟩
theorem idx_spec {α : Type} (p : α → Bool) : ∀ (l : List α) (k : Nat), (idxF p l k = -1 ∧ ∀ x ∈ l, p x = false) ∨ ∃ i, i < l.length ∧ idxF p l k = ((k + i : Nat) : Int) ∧ (∀ x ∈ l.take i, p x = false) ∧ (∀ h : i < l.length, p l[i] = true)
  | [], k => .inl ⟨rfl, by simp⟩
  | x :: l, k => by
    simp only [idxF]
    cases hx : p x
    · rcases idx_spec p l (k + 1) with ⟨h1, h2⟩ | ⟨i, h1, h2, h3, h4⟩
      · exact .inl ⟨by simpa using h1, by simpa [hx] using h2⟩
      · refine .inr ⟨i + 1, by simpa using h1, ?_, by simpa [hx] using h3, fun h => by simpa using h4 (by simpa using h)⟩
        simp only [Bool.false_eq_true, if_false, h2]
        congr 1; omega
    · exact .inr ⟨0, by simp, by simp, by simp, by simp [hx]⟩
theorem getD_of_drop {α : Type} {R : List α} {j : Nat} {x d : α} {rest : List α} (h : R.drop j = x :: rest) : R.getD j d = x ∧ R.drop (j + 1) = rest ∧ j < R.length := by
  have hj : j < R.length := by
    rcases Nat.lt_or_ge j R.length with h1 | h1
    · exact h1
    · rw [List.drop_of_length_le h1] at h; cases h
  rw [List.drop_eq_getElem_cons hj] at h
  simp only [List.cons.injEq] at h
  exact ⟨by simp [hj, h.1], h.2, hj⟩
theorem setAt_whole (row cs : List V) (h : row.length = cs.length) : setAt row 0 cs = cs := by simp [setAt, ← h]
theorem del_sound {plain : TypeId → Bool} {Γ : FuncId → Option Fspec} {Δ : FuncId → Option Pt} (hE : EnvOk ⟨Try.prog, plain, Γ, Δ, fun _ => none, 0⟩) (hpl : plain 31 = true) (g_idx : Γ 55 = some (idxS encW)) (g_wr1 : Γ 45 = some wr1S) : SoundT Try.prog 44 delT := by
  refine inl_sound hE Try.func44 rfl (by kernel_rfl) (by kernel_rfl) ?_
  rintro Φ args t0 h0 n0 K ⟨b, cap, be, l, sp, e, wr, rfl, hlen, hdep, hne, hbn, hben, hb, rfl, hbe, hK⟩
  simp only at hbn hben hb hbe hK
  refine ⟨by simp [Try.f44], ?_⟩
  refine W.out (E := ⟨Try.prog, plain, Γ, Δ, Φ, _⟩) ?_
  have hx1 : ∀ d, allO (allO (expo h0 d)) (l.map encW) = some (l.map encW) := fun d => allO_rows h0 d (deep_map encW l (fun a => by simp [encW, deepc]))
  have tk : (l.map encW ++ sp).take l.length = l.map encW := List.take_left' (by simp)
  have ln : (l.map encW ++ sp).length = l.length + sp.length := by simp
  have hcl : ∀ nt, closS ⟨Try.prog, plain, Γ, Δ, Φ, nt⟩ h0 45 [.ptr be 0 0] = some (fun ds x => wr1S (fun _ => none) (ds ++ [.pc (encE e)]) (.s x)) := by
    intro nt
    simp [closS, allO, expoA_ptr, hbe, encE, expo_s, expo_sl, g_wr1]
  refine go (And.intro hb (And.intro hbe (And.intro tk ln))) ?_
  refine x_callN rfl rfl rfl rfl (sv (And.intro hb (And.intro hbe (And.intro tk (And.intro ln hx1))))) g_idx (sv (And.intro hb (And.intro hbe (And.intro tk (And.intro ln hx1))))) (se (And.intro hb (And.intro hbe (And.intro tk (And.intro ln hx1))))) ⟨l, fun m => wr1F e m, _, hlen, rfl, (by simp only [phi, List.getElem?_cons_zero, List.getElem?_cons_succ]; exact hcl _), (by intro x _; exact ⟨x, e, hdep, rfl, rfl⟩), rfl⟩ rfl ?_
  rcases idx_spec (fun m => wr1F e m) l 0 with ⟨i1, i2⟩ | ⟨k, i1, i2, i3, i4⟩
  · refine go (And.intro hb (And.intro hbe i1)) ?_
    refine x_inl (sr @Try.f44.eq_1) ?_
    have hfl : l.filter (fun m => !wr1F e m) = l := List.filter_eq_self.2 (fun x hx => by simp [i2 x hx])
    rw [hfl] at hK
    exact hK n0 h0 sp (Nat.le_refl _) hb rfl (fun _ _ _ => rfl)
  · rw [Nat.zero_add] at i2
    have i5 : ((k : Int) == -1) = false := by simp
    refine go (And.intro hb (And.intro hbe (And.intro i2 i5))) ?_
    have hfk : (l.take (k + 1)).filter (fun m => !wr1F e m) = l.take k := by
      rw [List.take_succ_eq_append_getElem i1, List.filter_append, List.filter_eq_self.2 (fun x hx => by simp [i3 x hx])]
      have := i4 i1
      simp [this]
    have e1 : (be = b) = False := by simp; omega
    have e2 : (b = be) = False := by simp; omega
    refine x_loop (fun σ => ∃ (i j : Nat) (R : List (List V)), σ.t 0 = .loc b 0 l.length (l.length + sp.length) ∧ σ.t 1 = .fn 45 [.ptr be 0 0] ∧ σ.t 5 = .s (.int .i64 i) ∧ σ.t 6 = .s (.int .i64 j) ∧ σ.h b = some ⟨4, R, true⟩ ∧ n0 ≤ σ.n ∧ (∀ q, q < n0 → q ≠ b → σ.h q = h0 q) ∧ i < j ∧ j ≤ l.length ∧ R.length = l.length + sp.length ∧ i = ((l.take j).filter fun m => !wr1F e m).length ∧ R.take i = ((l.take j).filter fun m => !wr1F e m).map encW ∧ R.drop j = (l.drop j).map encW ++ sp ∧ ∀ q, q < l.length → (R.getD q []).length = 4) (fun σ => l.length - ix (σ.t 6))
      ⟨k, k + 1, l.map encW ++ sp, (sc hb), (sc trivial), (sc trivial), (sc @cast_succ), hb, Nat.le_refl _, fun _ _ _ => rfl, by omega, by omega, ln, by rw [hfk]; simp; omega, by rw [hfk, List.take_append_of_le_length (by simp; omega), List.map_take], by rw [List.drop_append_of_le_length (by simp; omega), List.map_drop], fun q hq => by rw [List.getD_eq_getElem?_getD, List.getElem?_append_left (by simpa using hq)]; simp [hq, encW]⟩ ?_
    rintro t h n ⟨i, j, R, h0', h1, h5, h6, hb', hn, hold, hij, hj, hRl, hi, hRi, hRj, hR4⟩
    simp only at h0' h1 h5 h6 hb' hn hold
    have hbe' : h be = some ⟨18, [encE e], wr⟩ := by rw [hold be hben (Ne.symm hne)]; exact hbe
    have e3 : (be = n) = False := by simp; omega
    have e4 : (b = n) = False := by simp; omega
    have e5 : (n = b) = False := by simp; omega
    refine go (And.intro h0' (And.intro h1 (And.intro h5 (And.intro h6 (And.intro hb' (And.intro hbe' (And.intro e1 (And.intro e2 (And.intro e3 e4))))))))) ?_
    refine x_condP (sv trivial) (fun hc => ?_) (fun hc => ?_)
    · have hj' : j < l.length := by omega
      have hd := hRj
      rw [List.drop_eq_getElem_cons hj', List.map_cons, List.cons_append] at hd
      obtain ⟨g1, g2, g3⟩ := getD_of_drop (d := []) hd
      refine go (And.intro h0' (And.intro h1 (And.intro h5 (And.intro h6 (And.intro hb' (And.intro hbe' (And.intro e1 (And.intro e2 (And.intro e3 (And.intro e4 (And.intro e5 (And.intro hRl (And.intro g1 @encW.eq_1))))))))))))) ?_
      refine x_callN rfl rfl rfl rfl (sv (And.intro hb' (And.intro hbe' (And.intro e1 (And.intro e2 (And.intro e3 (And.intro e4 (And.intro e5 (And.intro @encW.eq_1 @encE.eq_1))))))))) g_wr1 (sv (And.intro hb' (And.intro hbe' (And.intro e1 (And.intro e2 (And.intro e3 (And.intro e4 (And.intro e5 (And.intro @encW.eq_1 @encE.eq_1))))))))) (se (And.intro hb' (And.intro hbe' (And.intro e1 (And.intro e2 (And.intro e3 (And.intro e4 (And.intro e5 (And.intro @encW.eq_1 @encE.eq_1))))))))) ⟨l[j], e, hdep, rfl, rfl⟩ rfl ?_
      have s4 : List.drop 4 (R.getD i []) = [] := List.drop_of_length_le (by rw [hR4 i (by omega)]; omega)
      have hil : i < R.length := by omega
      have hil2 : i < l.length + sp.length := by omega
      have htk : l.take (j + 1) = l.take j ++ [l[j]] := List.take_succ_eq_append_getElem hj'
      cases hq : wr1F e l[j]
      · refine go (And.intro h0' (And.intro h1 (And.intro h5 (And.intro h6 (And.intro hb' (And.intro hbe' (And.intro e1 (And.intro e2 (And.intro e3 (And.intro e4 (And.intro e5 (And.intro hRl (And.intro g1 (And.intro @encW.eq_1 (And.intro hq (And.intro s4 hil2)))))))))))))))) ?_
        refine ⟨⟨i + 1, j + 1, R.set i (encW l[j]), (sc h0'), (sc h1), (sc @cast_succ), (sc @cast_succ), (sc @encW.eq_1), (by show n0 ≤ n + 1; omega), fun q h1 h2 => ?_, by omega, by omega, by simpa using hRl, ?_, ?_, ?_, fun q hq => ?_⟩, ?_⟩
        · have q1 : (q = n) = False := by simp; omega
          have q2 : (q = b) = False := by simp [h2]
          simp (disch := omega) only [fits, fit1, ix_nat, ix_succ, pval, ↓upd_at, ev_tmp, ev_func, ev_const, ofVal_int, ofVal_str, ofVal_bool, ofVal_nil, asN_nat, asN_pos, wrap_id, wrapU_id, wrapB_id, ashift_shr1, half_cast, getD_map, if_pos, if_neg, aindexAddr, afieldAddr, aload, afield, aindex, aslice, abin, aint, astr, aun, aeq, allS, eqL, alen, acap, amin, amax, bnd, aconv, cellsV, cellsZ, cellOf, flat, abuild, afill, setAt, wk, cellish, cellAt, List.getD_cons_zero, List.getD_cons_succ, List.getD_nil, Nat.reduceEqDiff, ↓reduceIte, Option.map_some, Option.map_none, Option.bind_some, Option.isSome_some, Option.isSome_none, Option.isNone_some, Option.isNone_none, List.toList_toArray, List.map_cons, List.map_nil, List.drop_zero, List.drop_succ_cons, List.drop_nil, List.take_zero, List.take_succ_cons, List.take_nil, List.length_cons, List.length_nil, List.length_map, List.cons_append, List.nil_append, List.append_nil, List.set_cons_zero, List.set_cons_succ, List.getElem?_cons_zero, List.getElem?_cons_succ, Nat.reduceAdd, Nat.reduceSub, Nat.reduceMul, Nat.reduceLT, Nat.reduceLeDiff, Nat.zero_add, Nat.add_zero, Nat.zero_mul, Nat.mul_one, Nat.lt_irrefl, true_and, and_true, and_self, false_and, and_false, decide_true, decide_false, Bool.false_eq_true, Bool.true_eq_false, Bool.not_true, Bool.not_false, Bool.true_and, Bool.false_and, Bool.and_true, ge_iff_le, gt_iff_lt, Int.natCast_nonneg, Int.toNat_natCast, Int.reduceAdd, Int.reduceSub, Int.reduceNeg, Int.reduceToNat, Int.reduceLE, Int.reduceLT, Int.toNat_zero, Int.natCast_zero, List.mem_cons, List.not_mem_nil, or_false, or_true, true_or, false_or, Nat.le_refl, Nat.sub_self, Nat.sub_zero, forall_eq_or_imp, forall_eq, List.forall_mem_cons, List.forall_mem_nil, implies_true, Bool.false_or, Bool.true_or, Bool.or_false, Bool.or_true, List.length_set, List.map_nil, List.all_nil, List.getLast?_nil, srcRows, rowsOf, slLen, beq_self_eq_true, bne_self_eq_false, sz2, ag2, zr2, zok2, ii2, Try.underlying2, sz3, ag3, zr3, zok3, ii3, Try.underlying3, sz4, ag4, zr4, zok4, bt4, Try.underlying4, sz5, ag5, zr5, zok5, ii5, Try.underlying5, sz7, ag7, zr7, zok7, fl7_0, fl7_1, fl7_2, fl7_3, pl7, Try.underlying7, sz9, ag9, zr9, zok9, sq9, Try.underlying9, sz12, ag12, zr12, zok12, ii12, Try.underlying12, sz13, ag13, zr13, zok13, fl13_0, fl13_1, pl13, Try.underlying13, sz21, ag21, zr21, zok21, ii21, Try.underlying21, sz22, ag22, zr22, zok22, ist22, sq22, Try.underlying22, sz23, ag23, zr23, zok23, ist23, sq23, Try.underlying23, sz30, ag30, zr30, zok30, fl30_0, fl30_1, pl30, Try.underlying30, sz31, ag31, zr31, zok31, fl31_0, fl31_1, pl31, Try.underlying31, sz32, ag32, zr32, zok32, ist32, sq32, Try.underlying32, sz38, ag38, zr38, zok38, fl38_0, fl38_1, fl38_2, pl38, Try.underlying38, sz39, ag39, zr39, zok39, fl39_0, fl39_1, fl39_2, pl39, Try.underlying39, sz40, ag40, zr40, zok40, fl40_0, fl40_1, fl40_2, pl40, Try.underlying40, sz41, ag41, zr41, zok41, fl41_0, fl41_1, fl41_2, pl41, Try.underlying41, sz42, ag42, zr42, zok42, ist42, sq42, Try.underlying42, sz43, ag43, zr43, zok43, fl43_0, fl43_1, fl43_2, pl43, Try.underlying43, sz44, ag44, zr44, zok44, fl44_0, fl44_1, fl44_2, pl44, Try.underlying44, sz45, ag45, zr45, zok45, fl45_0, fl45_1, fl45_2, fl45_3, fl45_4, fl45_5, fl45_6, fl45_7, fl45_8, fl45_9, fl45_10, fl45_11, pl45, Try.underlying45, sz46, ag46, zr46, zok46, fl46_0, fl46_1, fl46_2, fl46_3, fl46_4, fl46_5, fl46_6, fl46_7, fl46_8, fl46_9, fl46_10, fl46_11, pl46, Try.underlying46, sz53, ag53, zr53, zok53, ii53, Try.underlying53, sz67, ag67, zr67, zok67, ii67, Try.underlying67, sz80, ag80, zr80, zok80, ist80, sq80, Try.underlying80, sz90, ag90, zr90, zok90, Try.underlying90, sz91, ag91, zr91, zok91, fl91_0, pl91, Try.underlying91, sz94, ag94, zr94, zok94, ii94, Try.underlying94, q1, q2]
          exact hold q h1 h2
        · rw [htk, List.filter_append]; simp [hq, hi]
        · rw [htk, List.filter_append, List.map_append, ← hRi, List.take_succ_eq_append_getElem (by simpa using hil), List.take_set]
          rw [List.set_eq_of_length_le (by simp; omega)]
          simp [hq]
        · rw [List.drop_set, if_pos (by omega)]; exact g2
        · rw [List.getD_eq_getElem?_getD, List.getElem?_set]
          by_cases hqi : i = q
          · rw [if_pos hqi, if_pos hil]; rfl
          · rw [if_neg hqi, ← List.getD_eq_getElem?_getD]; exact hR4 q hq
        · exact so h6
      · refine go (And.intro h0' (And.intro h1 (And.intro h5 (And.intro h6 (And.intro hb' (And.intro hbe' (And.intro e1 (And.intro e2 (And.intro e3 (And.intro e4 (And.intro e5 (And.intro hRl (And.intro g1 (And.intro @encW.eq_1 (And.intro hq s4))))))))))))))) ?_
        refine ⟨⟨i, j + 1, R, (sc h0'), (sc h1), (sc h5), (sc @cast_succ), (sc (And.intro hb' e4)), (by show n0 ≤ n + 1; omega), fun q h1 h2 => ?_, by omega, by omega, hRl, ?_, ?_, g2, hR4⟩, ?_⟩
        · have q1 : (q = n) = False := by simp; omega
          simp (disch := omega) only [fits, fit1, ix_nat, ix_succ, pval, ↓upd_at, ev_tmp, ev_func, ev_const, ofVal_int, ofVal_str, ofVal_bool, ofVal_nil, asN_nat, asN_pos, wrap_id, wrapU_id, wrapB_id, ashift_shr1, half_cast, getD_map, if_pos, if_neg, aindexAddr, afieldAddr, aload, afield, aindex, aslice, abin, aint, astr, aun, aeq, allS, eqL, alen, acap, amin, amax, bnd, aconv, cellsV, cellsZ, cellOf, flat, abuild, afill, setAt, wk, cellish, cellAt, List.getD_cons_zero, List.getD_cons_succ, List.getD_nil, Nat.reduceEqDiff, ↓reduceIte, Option.map_some, Option.map_none, Option.bind_some, Option.isSome_some, Option.isSome_none, Option.isNone_some, Option.isNone_none, List.toList_toArray, List.map_cons, List.map_nil, List.drop_zero, List.drop_succ_cons, List.drop_nil, List.take_zero, List.take_succ_cons, List.take_nil, List.length_cons, List.length_nil, List.length_map, List.cons_append, List.nil_append, List.append_nil, List.set_cons_zero, List.set_cons_succ, List.getElem?_cons_zero, List.getElem?_cons_succ, Nat.reduceAdd, Nat.reduceSub, Nat.reduceMul, Nat.reduceLT, Nat.reduceLeDiff, Nat.zero_add, Nat.add_zero, Nat.zero_mul, Nat.mul_one, Nat.lt_irrefl, true_and, and_true, and_self, false_and, and_false, decide_true, decide_false, Bool.false_eq_true, Bool.true_eq_false, Bool.not_true, Bool.not_false, Bool.true_and, Bool.false_and, Bool.and_true, ge_iff_le, gt_iff_lt, Int.natCast_nonneg, Int.toNat_natCast, Int.reduceAdd, Int.reduceSub, Int.reduceNeg, Int.reduceToNat, Int.reduceLE, Int.reduceLT, Int.toNat_zero, Int.natCast_zero, List.mem_cons, List.not_mem_nil, or_false, or_true, true_or, false_or, Nat.le_refl, Nat.sub_self, Nat.sub_zero, forall_eq_or_imp, forall_eq, List.forall_mem_cons, List.forall_mem_nil, implies_true, Bool.false_or, Bool.true_or, Bool.or_false, Bool.or_true, List.length_set, List.map_nil, List.all_nil, List.getLast?_nil, srcRows, rowsOf, slLen, beq_self_eq_true, bne_self_eq_false, sz2, ag2, zr2, zok2, ii2, Try.underlying2, sz3, ag3, zr3, zok3, ii3, Try.underlying3, sz4, ag4, zr4, zok4, bt4, Try.underlying4, sz5, ag5, zr5, zok5, ii5, Try.underlying5, sz7, ag7, zr7, zok7, fl7_0, fl7_1, fl7_2, fl7_3, pl7, Try.underlying7, sz9, ag9, zr9, zok9, sq9, Try.underlying9, sz12, ag12, zr12, zok12, ii12, Try.underlying12, sz13, ag13, zr13, zok13, fl13_0, fl13_1, pl13, Try.underlying13, sz21, ag21, zr21, zok21, ii21, Try.underlying21, sz22, ag22, zr22, zok22, ist22, sq22, Try.underlying22, sz23, ag23, zr23, zok23, ist23, sq23, Try.underlying23, sz30, ag30, zr30, zok30, fl30_0, fl30_1, pl30, Try.underlying30, sz31, ag31, zr31, zok31, fl31_0, fl31_1, pl31, Try.underlying31, sz32, ag32, zr32, zok32, ist32, sq32, Try.underlying32, sz38, ag38, zr38, zok38, fl38_0, fl38_1, fl38_2, pl38, Try.underlying38, sz39, ag39, zr39, zok39, fl39_0, fl39_1, fl39_2, pl39, Try.underlying39, sz40, ag40, zr40, zok40, fl40_0, fl40_1, fl40_2, pl40, Try.underlying40, sz41, ag41, zr41, zok41, fl41_0, fl41_1, fl41_2, pl41, Try.underlying41, sz42, ag42, zr42, zok42, ist42, sq42, Try.underlying42, sz43, ag43, zr43, zok43, fl43_0, fl43_1, fl43_2, pl43, Try.underlying43, sz44, ag44, zr44, zok44, fl44_0, fl44_1, fl44_2, pl44, Try.underlying44, sz45, ag45, zr45, zok45, fl45_0, fl45_1, fl45_2, fl45_3, fl45_4, fl45_5, fl45_6, fl45_7, fl45_8, fl45_9, fl45_10, fl45_11, pl45, Try.underlying45, sz46, ag46, zr46, zok46, fl46_0, fl46_1, fl46_2, fl46_3, fl46_4, fl46_5, fl46_6, fl46_7, fl46_8, fl46_9, fl46_10, fl46_11, pl46, Try.underlying46, sz53, ag53, zr53, zok53, ii53, Try.underlying53, sz67, ag67, zr67, zok67, ii67, Try.underlying67, sz80, ag80, zr80, zok80, ist80, sq80, Try.underlying80, sz90, ag90, zr90, zok90, Try.underlying90, sz91, ag91, zr91, zok91, fl91_0, pl91, Try.underlying91, sz94, ag94, zr94, zok94, ii94, Try.underlying94, q1]
          exact hold q h1 h2
        · rw [htk, List.filter_append]; simp [hq, hi]
        · rw [htk, List.filter_append, List.map_append, ← hRi]; simp [hq]
        · exact so h6
    · have ej : j = l.length := by omega
      subst ej
      rw [List.take_length] at hi hRi
      refine go (And.intro h0' (And.intro h1 (And.intro h5 (And.intro h6 (And.intro hb' (And.intro hbe' (And.intro e1 (And.intro e2 (And.intro e3 (And.intro e4 hRl)))))))))) ?_
      refine x_clearN rfl rfl rfl rfl rfl rfl (sv trivial) (by decide) (sv (And.intro h0' (And.intro h1 (And.intro h5 (And.intro h6 hb'))))) (sv trivial) (by rfl) (by rfl) (sv hb') (by rfl) (by rfl) (by simp; omega) ?_
      refine go (And.intro h0' (And.intro h1 (And.intro h5 (And.intro h6 (And.intro hb' (And.intro hbe' (And.intro e1 (And.intro e2 (And.intro e3 (And.intro e4 hRl)))))))))) ?_
      refine x_inl (sr @Try.f44.eq_1) ?_
      have hil : i ≤ l.length := by rw [hi]; exact List.length_filter_le _ _
      have := hK n (upd h b (some ⟨4, R.take i ++ spare 4 (l.length - i) ++ R.drop (i + (l.length - i)), true⟩)) (spare 4 (l.length - i) ++ R.drop (i + (l.length - i))) hn (by simp only [upd_at, ↓reduceIte, hRi, List.append_assoc]) (by simp [spare_len, hRl, ← hi]; omega) (fun q q1 q2 => by simp only [upd_at, q2, if_false]; exact hold q q1 q2)
      rw [← hi] at this
      exact this
end Go.Proofs.Ytgohmphhgglmbaa

set_option linter.unusedVariables false
set_option linter.unusedSimpArgs false
set_option maxRecDepth 100000
set_option maxHeartbeats 4000000
namespace Go.Proofs.Ytgohmphhgglmbaa
open Go Go.RowKit Am

def cloneS {α : Type} (enc : α → List V) (z : Nat) : Fspec := fun _ ds r => ∃ v : List α, v.length ≤ 1099511627776 ∧ ds = [.sl (v.map enc)] ∧ r = .own z (v.map enc)
theorem cloneW_sound {plain : TypeId → Bool} {Γ : FuncId → Option Fspec} {Δ : FuncId → Option Pt} (hE : EnvOk ⟨Try.prog, plain, Γ, Δ, fun _ => none, 0⟩) : Sound Try.prog 34 (cloneS encW 4) := by
  refine sound_of_awp hE Try.func34 rfl (by kernel_rfl) ?_
  rintro Φ ds r ⟨v, hv, rfl, rfl⟩
  refine ⟨by simp [Try.f34], ?_⟩
  unfold st0
  refine W.out (E := ⟨Try.prog, plain, Γ, Δ, Φ, _⟩) ?_
  have hok : okRows 4 (v.map encW) := okRows_map _ _ _ fun a => ⟨rfl, by simp [encW, cellish]⟩
  refine go trivial ?_
  refine x_nilEq rfl rfl rfl (sc trivial) (sx trivial) (fun b hb => ?_)
  cases b
  · refine go trivial ?_
    refine x_append rfl rfl rfl rfl rfl rfl (sx trivial) (by decide) (sc trivial) (sx trivial) (sx trivial) hok (sx trivial) rfl rfl (by simp) (by simp) (by simp; omega) (fun cap hcap => ?_)
    refine go trivial ?_
    refine x_done (x_outO (sp := spare 4 (cap - v.length)) (sr @Try.f34.eq_1) (sc trivial) (by simp) (by simp [spare_len] at hcap ⊢; omega) (deep_map _ _ fun a => by simp [encW, deepc]))
  · have h0 : v = [] := List.eq_nil_of_length_eq_zero (by simp at hb; simpa using hb)
    subst h0
    refine go trivial ?_
    refine x_done (x_outO0 (sr @Try.f34.eq_1))
theorem cloneR_sound {plain : TypeId → Bool} {Γ : FuncId → Option Fspec} {Δ : FuncId → Option Pt} (hE : EnvOk ⟨Try.prog, plain, Γ, Δ, fun _ => none, 0⟩) : Sound Try.prog 26 (cloneS encR 4) := by
  refine sound_of_awp hE Try.func26 rfl (by kernel_rfl) ?_
  rintro Φ ds r ⟨v, hv, rfl, rfl⟩
  refine ⟨by simp [Try.f26], ?_⟩
  unfold st0
  refine W.out (E := ⟨Try.prog, plain, Γ, Δ, Φ, _⟩) ?_
  have hok : okRows 4 (v.map encR) := okRows_map _ _ _ fun a => ⟨rfl, by simp [encR, cellish]⟩
  refine go trivial ?_
  refine x_nilEq rfl rfl rfl (sc trivial) (sx trivial) (fun b hb => ?_)
  cases b
  · refine go trivial ?_
    refine x_append rfl rfl rfl rfl rfl rfl (sx trivial) (by decide) (sc trivial) (sx trivial) (sx trivial) hok (sx trivial) rfl rfl (by simp) (by simp) (by simp; omega) (fun cap hcap => ?_)
    refine go trivial ?_
    refine x_done (x_outO (sp := spare 4 (cap - v.length)) (sr @Try.f26.eq_1) (sc trivial) (by simp) (by simp [spare_len] at hcap ⊢; omega) (deep_map _ _ fun a => by simp [encR, deepc]))
  · have h0 : v = [] := List.eq_nil_of_length_eq_zero (by simp at hb; simpa using hb)
    subst h0
    refine go trivial ?_
    refine x_done (x_outO0 (sr @Try.f26.eq_1))
end Go.Proofs.Ytgohmphhgglmbaa

set_option linter.unusedVariables false
set_option linter.unusedSimpArgs false
set_option maxRecDepth 100000
set_option maxHeartbeats 8000000
namespace Go.Proofs.Ytgohmphhgglmbaa
open Go Go.RowKit Am

def mkW (e : Edt) : Wrt := ⟨e.id, e.clock, e.value⟩
def keptF (l : List Wrt) (e : Edt) : List Wrt := l.filter fun m => !wr1F e m
def insAt {α : Type} (l : List α) (i : Nat) (x : α) : List α := l.take i ++ [x] ++ l.drop i
def wrF (l : List Wrt) (e : Edt) : List Wrt := insAt (keptF l e) (bsF (cAt (fun m => cmpW m (mkW e)) (keptF l e)) 0 (keptF l e).length) (mkW e)
theorem bsF_le (c : Nat → Int) (i j : Nat) (h : i ≤ j) : i ≤ bsF c i j ∧ bsF c i j ≤ j := by
  induction hd : j - i using Nat.strongRecOn generalizing i j with
  | _ d ih =>
    rw [bsF]
    split
    · split
      · have := ih (j - ((i + j) / 2 + 1)) (by omega) ((i + j) / 2 + 1) j (by omega) rfl
        omega
      · have := ih ((i + j) / 2 - i) (by omega) i ((i + j) / 2) (by omega) rfl
        omega
    · omega
theorem insAt_map {α β : Type} (f : α → β) (l : List α) (i : Nat) (x : α) : (l.map f).take i ++ [f x] ++ (l.map f).drop i = (insAt l i x).map f := by simp [insAt]
theorem insAt_len {α : Type} (l : List α) (i : Nat) (x : α) : (insAt l i x).length = l.length + 1 := by simp [insAt]; omega
def wrS : Fspec := fun _ ds r => ∃ (l : List Wrt) (e : Edt), l.length ≤ 1048576 ∧ e.deps.length ≤ 1048576 ∧ ds = [.sl (l.map encW), .agg (encE e)] ∧ r = .sl ((wrF l e).map encW)
theorem written_sound {plain : TypeId → Bool} {Γ : FuncId → Option Fspec} {Δ : FuncId → Option Pt} (hE : EnvOk ⟨Try.prog, plain, Γ, Δ, fun _ => none, 0⟩) (hpl : plain 31 = true) (g_cl : Γ 34 = some (cloneS encW 4)) (g_bs : Γ 46 = some (bsS2 encW)) (g_cw : Γ 47 = some cmpWS)
    (hD : Δ 44 = some delT) (hI : Δ 48 = some (insT 4)) : Sound Try.prog 30 wrS := by
  refine sound_of_awp hE Try.func30 rfl (by kernel_rfl) ?_
  rintro Φ ds r ⟨l, e, hl, hd, rfl, rfl⟩
  refine ⟨by simp [Try.f30], ?_⟩
  unfold st0 encE
  refine W.out (E := ⟨Try.prog, plain, Γ, Δ, Φ, _⟩) ?_
  refine go trivial ?_
  refine x_callO rfl rfl rfl rfl (sv trivial) g_cl (sv trivial) (se trivial) ⟨l, by omega, rfl, rfl⟩ (by simp [touchA, touch]) (fun cap hcap => ?_)
  refine go trivial ?_
  refine x_callI rfl rfl rfl rfl (sv trivial) hD (sv trivial) ⟨1, cap, 0, l, spare 4 (cap - l.length), e, true, rfl, by omega, by omega, by omega, by show 1 < 2; omega, by show 0 < 2; omega, (sx trivial), (by simp [spare_len] at hcap ⊢; omega), (sx trivial), ?_⟩
  intro n' h' sp' hn hb hcap2 hold
  have hn2 : 2 ≤ n' := hn
  have hb0 : h' 0 = some ⟨18, [encE e], true⟩ := by rw [hold 0 (by show 0 < 2; omega) (by omega)]; rfl
  change h' 1 = some ⟨4, (keptF l e).map encW ++ sp', true⟩ at hb
  change cap = (keptF l e).length + sp'.length at hcap2
  have hkl : (keptF l e).length ≤ 1048576 := Nat.le_trans (List.length_filter_le _ _) hl
  have e1 : (0 = n') = False := by simp; omega
  have e2 : (1 = n') = False := by simp; omega
  have e3 : (0 = n' + 1) = False := by simp
  have e4 : (1 = n' + 1) = False := by simp; omega
  have e5 : (n' = n' + 1) = False := by simp
  generalize hk : keptF l e = k at *
  have tk : (k.map encW ++ sp').take k.length = k.map encW := List.take_left' (by simp)
  have ln : (k.map encW ++ sp').length = k.length + sp'.length := by simp
  have hx1 : ∀ h d, allO (allO (expo h d)) (k.map encW) = some (k.map encW) := fun h d => allO_rows h d (deep_map encW k (fun a => by simp [encW, deepc]))
  have hbs := bsF_le (cAt (fun m => cmpW m (mkW e)) k) 0 k.length (Nat.zero_le _)
  change WP _ _ _ _ _ _ ⟨_, h', n'⟩
  have hfe : l.filter (fun m => !wr1F e m) = k := hk
  refine go (And.intro hfe (And.intro hb (And.intro hb0 (And.intro e1 (And.intro e2 @encE.eq_1))))) ?_
  refine x_callN rfl rfl rfl rfl (sv (And.intro hb (And.intro hb0 (And.intro e1 (And.intro e2 (And.intro tk (And.intro ln (And.intro hx1 (And.intro @mkW.eq_1 @encW.eq_1))))))))) g_bs (sv (And.intro hb (And.intro hb0 (And.intro e1 (And.intro e2 (And.intro tk (And.intro ln (And.intro hx1 (And.intro @mkW.eq_1 @encW.eq_1))))))))) (se (And.intro hb (And.intro hb0 (And.intro e1 (And.intro e2 (And.intro tk (And.intro ln (And.intro hx1 (And.intro @mkW.eq_1 @encW.eq_1))))))))) ⟨k, mkW e, fun m => cmpW m (mkW e), _, by omega, rfl, (by simp only [phi, closS, allO, List.getElem?_cons_zero, List.getElem?_cons_succ, g_cw]; rfl), (by intro x _; exact ⟨x, mkW e, rfl, rfl⟩), rfl⟩ rfl ?_
  refine go (And.intro hb (And.intro hb0 (And.intro e1 (And.intro e2 (And.intro @encE.eq_1 (And.intro @mkW.eq_1 @encW.eq_1)))))) ?_
  refine x_callI rfl rfl rfl rfl (sv trivial) hI (sv trivial) ⟨1, cap, n' + 1, k.map encW, sp', bsF (cAt (fun m => cmpW m (mkW e)) k) 0 k.length, encW (mkW e), (by rw [List.length_map]; rfl), (by rw [List.length_map]; exact hbs.2), (by rw [List.length_map]; omega), by omega, by show 1 < n' + 1 + 1; omega, by show n' + 1 < n' + 1 + 1; omega, (sx (And.intro e2 (And.intro e4 hb))), (by rw [List.length_map]; exact hcap2), (sx (And.intro @mkW.eq_1 @encW.eq_1)), okRows_map _ _ _ (fun a => ⟨rfl, by simp [encW, cellish]⟩), (by intro r hr; simp at hr; subst hr; exact ⟨rfl, by simp [encW, cellish]⟩), ?_⟩
  intro b' cap' n2 h2 sp2 hb2 hn3 hbb hcc hold2 hor
  rw [insAt_map, List.length_map] at *
  have hw : wrF l e = insAt k (bsF (cAt (fun m => cmpW m (mkW e)) k) 0 k.length) (mkW e) := by simp only [wrF, hk]
  rw [← hw] at hbb
  have hwl : (wrF l e).length = k.length + 1 := by rw [hw, insAt_len]
  refine go trivial ?_
  refine x_done (x_outL (sp := sp2) (rows := (wrF l e).map encW) (sr @Try.f30.eq_1) hbb (by rw [List.length_map]; exact hwl) (deep_map _ _ fun a => by simp [encW, deepc]))
end Go.Proofs.Ytgohmphhgglmbaa

set_option linter.unusedVariables false
set_option linter.unusedSimpArgs false
set_option maxRecDepth 100000
set_option maxHeartbeats 16000000
namespace Go.Proofs.Ytgohmphhgglmbaa
open Go Go.RowKit Am

def tgt (e : Edt) : Rgs := ⟨e.node, e.field, []⟩
def rPos (L : List Rgs) (e : Edt) : Nat := bsF (cAt (fun x => cmpReg x (tgt e)) L) 0 L.length
def rHit (L : List Rgs) (e : Edt) : Bool := bsHit (fun x => cmpReg x (tgt e)) L
def rAt (L : List Rgs) (i : Nat) : Rgs := L.getD i ⟨⟨⟨#[]⟩, 0⟩, ⟨#[]⟩, []⟩
def setW (x : Rgs) (w : List Wrt) : Rgs := ⟨x.id, x.f, w⟩
def stepF (L : List Rgs) (e : Edt) : List Rgs := if e.kind == 3 then (if rHit L e then L.set (rPos L e) (setW (rAt L (rPos L e)) (wrF (rAt L (rPos L e)).w e)) else insAt L (rPos L e) (setW (tgt e) (wrF [] e))) else L
def appF (L : List Rgs) (es : List Edt) : List Rgs := es.foldl stepF L
def smallR (B : Nat) (L : List Rgs) : Prop := L.length ≤ B ∧ ∀ x ∈ L, x.w.length ≤ B
def appS : Fspec := fun _ ds r => ∃ (l : List Rgs) (es : List Edt), smallR 500000 l ∧ es.length ≤ 500000 ∧ (∀ e ∈ es, e.deps.length ≤ 500000) ∧ ds = [.sl (l.map encR), .sl (es.map encE)] ∧ r = .sl ((appF l es).map encR)
theorem wrF_len (l : List Wrt) (e : Edt) : (wrF l e).length ≤ l.length + 1 := by
  rw [wrF, insAt_len]
  have := List.length_filter_le (fun m => !wr1F e m) l
  unfold keptF
  omega
theorem step_small {B : Nat} {L : List Rgs} (e : Edt) (h : smallR B L) : smallR (B + 1) (stepF L e) := by
  unfold stepF
  split
  · split
    · refine ⟨by simp; have := h.1; omega, fun x hx => ?_⟩
      rcases List.mem_or_eq_of_mem_set hx with h1 | h1
      · have := h.2 x h1; omega
      · subst h1
        simp only [setW]
        have h2 := wrF_len (rAt L (rPos L e)).w e
        have h3 : (rAt L (rPos L e)).w.length ≤ B := by
          unfold rAt
          rw [List.getD_eq_getElem?_getD]
          cases hg : L[rPos L e]? with
          | none => simp
          | some y => exact h.2 y (List.mem_of_getElem? hg)
        omega
    · refine ⟨by rw [insAt_len]; have := h.1; omega, fun x hx => ?_⟩
      simp only [insAt, List.mem_append, List.mem_singleton] at hx
      rcases hx with (hx | hx) | hx
      · have := h.2 x (List.mem_of_mem_take hx); omega
      · subst hx
        have := wrF_len [] e
        simp only [setW]
        simp at this
        omega
      · have := h.2 x (List.mem_of_mem_drop hx); omega
  · exact ⟨by have := h.1; omega, fun x hx => by have := h.2 x hx; omega⟩
theorem encE_rows' (v : List Edt) : (∀ r ∈ v.map encE, r.length = 18) = True := rows_map _ _ _ fun _ => rfl
theorem encE_kind (e : Edt) : encE e = [.s (.string e.id.a), .s (.int .i64 e.id.n), .s (.int .i64 e.clock), .s (.int .i64 e.floor), .sl (e.deps.map encId), .s (.int .i64 e.kind), .s (.string e.node.a), .s (.int .i64 e.node.n), .s (.string e.parent.a), .s (.int .i64 e.parent.n), .s (.bool e.neg), .s (.string e.num), .s (.string e.den), .s (.string e.field), .s (.string e.value), .s (.string e.target.a), .s (.int .i64 e.target.n), .s (.string e.who)] := rfl
theorem set_row (L : List Rgs) (sp : List (List V)) (i : Nat) (h : i < L.length) (w : List Wrt) :
    (L.map encR ++ sp).set i [.s (.string (rAt L i).id.a), .s (.int .i64 (rAt L i).id.n), .s (.string (rAt L i).f), .sl (w.map encW)] = (L.set i (setW (rAt L i) w)).map encR ++ sp := by
  rw [List.set_append_left _ _ (by simpa using h), List.map_set]
  rfl
theorem getD_row (L : List Rgs) (sp : List (List V)) (i : Nat) (h : i < L.length) : (L.map encR ++ sp).getD i [] = [.s (.string (rAt L i).id.a), .s (.int .i64 (rAt L i).id.n), .s (.string (rAt L i).f), .sl ((rAt L i).w.map encW)] := by
  rw [List.getD_eq_getElem?_getD, List.getElem?_append_left (by simpa using h)]
  simp [h, rAt, encR]
theorem rAt_ins (L : List Rgs) (i : Nat) (x : Rgs) (h : i ≤ L.length) : rAt (insAt L i x) i = x := by
  have h1 : (L.take i ++ [x]).length = i + 1 := by simp; omega
  unfold rAt insAt
  rw [List.getD_eq_getElem?_getD, List.getElem?_append_left (by omega), List.getElem?_append_right (by simp; omega)]
  simp [Nat.min_eq_left h]
theorem set_ins (L : List Rgs) (i : Nat) (x y : Rgs) (h : i ≤ L.length) : (insAt L i x).set i y = insAt L i y := by
  have h1 : (L.take i).length = i := by simp; omega
  unfold insAt
  rw [List.append_assoc, List.set_append_right _ _ (by omega), h1, Nat.sub_self]
  simp
theorem app_sound {plain : TypeId → Bool} {Γ : FuncId → Option Fspec} {Δ : FuncId → Option Pt} (hE : EnvOk ⟨Try.prog, plain, Γ, Δ, fun _ => none, 0⟩) (hpl : plain 31 = true) (g_cl : Γ 26 = some (cloneS encR 4)) (g_bs : Γ 27 = some (bsS2 encR)) (g_cr : Γ 28 = some cmpRegS) (g_wr : Γ 30 = some wrS)
    (hI : Δ 29 = some (insT 4)) : Sound Try.prog 13 appS := by
  refine sound_of_awp hE Try.func13 rfl (by kernel_rfl) ?_
  rintro Φ ds r ⟨l, es, hl, hes, hdeps, rfl, rfl⟩
  refine ⟨by simp [Try.f13], ?_⟩
  unfold st0
  refine W.out (E := ⟨Try.prog, plain, Γ, Δ, Φ, _⟩) ?_
  have hre := encE_rows' es
  refine go trivial ?_
  refine x_callO rfl rfl rfl rfl (sv trivial) g_cl (sv trivial) (se trivial) ⟨l, by have := hl.1; omega, rfl, rfl⟩ (by simp [touchA, touch]) (fun cap hcap => ?_)
  refine go trivial ?_
  refine x_loop (fun σ => ∃ (i b cap : Nat) (L : List Rgs) (sp : List (List V)), σ.t 5 = .loc b 0 L.length cap ∧ σ.t 13 = .sl (es.map encE) ∧ σ.t 14 = .s (.int .i64 es.length) ∧ σ.t 15 = .s (.int .i64 i) ∧ σ.h b = some ⟨4, L.map encR ++ sp, true⟩ ∧ b < σ.n ∧ cap = L.length + sp.length ∧ i ≤ es.length ∧ smallR (500000 + i) L ∧ (es.drop i).foldl stepF L = appF l es) (fun σ => es.length - ix (σ.t 15))
    ⟨0, 0, cap, l, spare 4 (cap - l.length), (sc trivial), (sc trivial), (sc trivial), (sc trivial), (sc trivial), (by show 0 < 0 + 1; omega), (by simp [spare_len] at hcap ⊢; omega), Nat.zero_le _, hl, rfl⟩ ?_
  rintro t h n ⟨i, b, cap', L, sp, h5, h13, h14, h15, hb, hbn, hcp, hi, hsm, hf⟩
  simp only at h5 h13 h14 h15 hb hbn
  have e1 : (b = n) = False := by simp; omega
  have e2 : (b = n + 1) = False := by simp; omega
  have e2' : (b = n + 1 + 1) = False := by simp; omega
  have e3 : (n = n + 1) = False := by simp
  have e4 : (n + 1 = n) = False := by simp
  have e5 : (n = b) = False := by simp; omega
  have e6 : (n + 1 = b) = False := by simp; omega
  have tk : (L.map encR ++ sp).take L.length = L.map encR := List.take_left' (by simp)
  have ln : (L.map encR ++ sp).length = L.length + sp.length := by simp
  have hx1 : ∀ h d, allO (allO (expo h d)) (L.map encR) = some (L.map encR) := fun h d => allO_rows h d (deep_map encR L (fun a => by simp [encR, deepc]))
  refine go (And.intro h5 (And.intro h13 (And.intro h14 (And.intro h15 (And.intro hb e1))))) ?_
  refine x_condP (sv trivial) (fun hc => ?_) (fun hc => ?_)
  · have hi' : i < es.length := by omega
    rw [List.drop_eq_getElem_cons hi', List.foldl_cons] at hf
    have hde := hdeps _ (List.getElem_mem hi')
    generalize hee : es[i] = e at *
    cases hk : (e.kind == 3)
    · have hst : stepF L e = L := by simp [stepF, hk]
      have hk' : (e.kind != 3) = true := by simp [bne, hk]
      refine go (And.intro h5 (And.intro h13 (And.intro h14 (And.intro h15 (And.intro hb (And.intro hre (And.intro hee (And.intro @encE_kind (And.intro e1 (And.intro e2 hk')))))))))) ?_
      refine ⟨⟨i + 1, b, cap', L, sp, (sc h5), (sc h13), (sc h14), (sc (And.intro h15 @cast_succ)), (sc (And.intro hb e1)), (by show b < n + 1; omega), hcp, by omega, ⟨by have := hsm.1; omega, fun x hx => by have := hsm.2 x hx; omega⟩, by rw [hst] at hf; exact hf⟩, ?_⟩
      exact so h15
    · have hk' : (e.kind != 3) = false := by simp [bne, hk]
      have hbs := bsF_le (cAt (fun x => cmpReg x (tgt e)) L) 0 L.length (Nat.zero_le _)
      refine go (And.intro h5 (And.intro h13 (And.intro h14 (And.intro h15 (And.intro hb (And.intro hre (And.intro hee (And.intro @encE_kind (And.intro e1 (And.intro e2 (And.intro e3 (And.intro e4 hk')))))))))))) ?_
      refine x_callN rfl rfl rfl rfl (sv (And.intro hb (And.intro e1 (And.intro e2 (And.intro tk (And.intro ln (And.intro hx1 (And.intro @tgt.eq_1 @encR.eq_1)))))))) g_bs (sv (And.intro hb (And.intro e1 (And.intro e2 (And.intro tk (And.intro ln (And.intro hx1 (And.intro @tgt.eq_1 @encR.eq_1)))))))) (se (And.intro hb (And.intro e1 (And.intro e2 (And.intro tk (And.intro ln (And.intro hx1 (And.intro @tgt.eq_1 @encR.eq_1)))))))) ⟨L, tgt e, fun x => cmpReg x (tgt e), _, by have := hsm.1; omega, rfl, (by simp only [phi, closS, allO, List.getElem?_cons_zero, List.getElem?_cons_succ, g_cr]; rfl), (by intro x _; exact ⟨x, tgt e, rfl, rfl⟩), rfl⟩ rfl ?_
      have hbsp : bsF (cAt (fun x => cmpReg x (tgt e)) L) 0 L.length ≤ L.length := hbs.2
      cases hh : bsHit (fun x => cmpReg x (tgt e)) L
      · have hst : stepF L e = insAt L (rPos L e) (setW (tgt e) (wrF [] e)) := by simp [stepF, hk, rHit, hh]
        generalize hpos : bsF (cAt (fun x => cmpReg x (tgt e)) L) 0 L.length = pos at *
        have hpos' : rPos L e = pos := hpos
        rw [hst, hpos'] at hf
        refine go (And.intro h5 (And.intro h13 (And.intro h14 (And.intro h15 (And.intro hb (And.intro hre (And.intro hee (And.intro @encE_kind (And.intro e1 (And.intro e2 (And.intro e3 (And.intro e4 (And.intro hk' hh))))))))))))) ?_
        refine x_callI rfl rfl rfl rfl (sv trivial) hI (sv trivial) ⟨b, cap', n + 1 + 1, L.map encR, sp, pos, encR (tgt e), (by rw [List.length_map]), (by rw [List.length_map]; exact hbsp), (by rw [List.length_map]; have := hsm.1; omega), by omega, by show b < n + 1 + 1 + 1; omega, by show n + 1 + 1 < n + 1 + 1 + 1; omega, (sx (And.intro e1 (And.intro e2 (And.intro e2' hb)))), (by rw [List.length_map]; exact hcp), (sx (And.intro @tgt.eq_1 @encR.eq_1)), okRows_map _ _ _ (fun a => ⟨rfl, by simp [encR, cellish]⟩), (by intro r hr; simp at hr; subst hr; exact ⟨rfl, by simp [encR, cellish]⟩), ?_⟩
        intro b2 cap2 n2 h2 sp2 hb2 hn2 hbb hcc hold hor
        have hn2' : n + 1 + 1 + 1 ≤ n2 := hn2
        rw [insAt_map, List.length_map] at *
        have hln : (insAt L pos (tgt e)).length = L.length + 1 := insAt_len _ _ _
        have g0 := getD_row (insAt L pos (tgt e)) sp2 pos (by omega)
        rw [rAt_ins _ _ _ hbsp] at g0
        have g0' : ((insAt L pos (tgt e)).map encR ++ sp2).getD pos [] = [.s (.string e.node.a), .s (.int .i64 e.node.n), .s (.string e.field), .sl []] := g0
        have s0 : ((insAt L pos (tgt e)).map encR ++ sp2).set pos [.s (.string e.node.a), .s (.int .i64 e.node.n), .s (.string e.field), .sl ((wrF [] e).map encW)] = (insAt L pos (setW (tgt e) (wrF [] e))).map encR ++ sp2 := by
          have := set_row (insAt L pos (tgt e)) sp2 pos (by omega) (wrF [] e)
          rw [rAt_ins _ _ _ hbsp, set_ins _ _ _ _ hbsp] at this
          exact this
        have k0 : h2 n = some ⟨18, [encE e], true⟩ := by
          rw [hold n (by show n < n + 1 + 1 + 1; omega) (by omega)]
          exact sx e3
        have k1 : h2 (n + 1) = some ⟨4, [[.s (.string e.node.a), .s (.int .i64 e.node.n), .s (.string e.field), .sl []]], true⟩ := by
          rw [hold (n + 1) (by show n + 1 < n + 1 + 1 + 1; omega) (by omega)]
          exact sx e3
        have j0 : (n = b2) = False := by simp; rcases hor with h | h; (· omega); have h' : n + 1 + 1 + 1 ≤ b2 := h; omega
        have j1 : (n + 1 = b2) = False := by simp; rcases hor with h | h; (· omega); have h' : n + 1 + 1 + 1 ≤ b2 := h; omega
        have hlt2 : pos < (insAt L pos (tgt e)).length + sp2.length := by omega
        have hlt3 : pos < L.length + 1 := by omega
        have ln2 : ((insAt L pos (tgt e)).map encR ++ sp2).length = (insAt L pos (tgt e)).length + sp2.length := by simp
        refine go (And.intro hbb (And.intro k0 (And.intro k1 (And.intro j0 j1)))) ?_
        refine x_callS rfl rfl rfl rfl (sv (And.intro hbb (And.intro k0 (And.intro k1 @encE_kind)))) g_wr (sv (And.intro hbb (And.intro k0 (And.intro k1 @encE_kind)))) (se (And.intro hbb (And.intro k0 (And.intro k1 @encE_kind)))) ⟨[], e, by simp, by omega, rfl, rfl⟩ (by simp) (by simp [touchA, touch]) ?_
        refine go (And.intro hbb (And.intro k0 (And.intro k1 (And.intro j0 (And.intro j1 (And.intro g0' (And.intro hlt2 (And.intro hlt3 (And.intro ln2 (And.intro s0 h15)))))))))) ?_
        refine ⟨⟨i + 1, b2, cap2, insAt L pos (setW (tgt e) (wrF [] e)), sp2, (sc @insAt_len), (sc h13), (sc h14), (sc (And.intro h15 @cast_succ)), (sc (And.intro s0 g0')), hb2, by rw [insAt_len]; exact hcc, by omega, (by have := step_small e hsm; rw [hst, hpos'] at this; exact this), hf⟩, ?_⟩
        exact so h15
      · have hst : stepF L e = L.set (rPos L e) (setW (rAt L (rPos L e)) (wrF (rAt L (rPos L e)).w e)) := by simp [stepF, hk, rHit, hh]
        have hplt : bsF (cAt (fun x => cmpReg x (tgt e)) L) 0 L.length < L.length := by
          simp only [bsHit, Bool.and_eq_true, decide_eq_true_eq] at hh
          exact hh.1
        generalize hpos : bsF (cAt (fun x => cmpReg x (tgt e)) L) 0 L.length = pos at *
        have hpos' : rPos L e = pos := hpos
        rw [hst, hpos'] at hf
        have g0 := getD_row L sp pos hplt
        have hwl : (rAt L pos).w.length ≤ 1048576 := by
          have : (rAt L pos) ∈ L := by unfold rAt; rw [List.getD_eq_getElem?_getD, List.getElem?_eq_getElem hplt]; exact List.getElem_mem _
          have := hsm.2 _ this; omega
        have hlt2 : pos < L.length + sp.length := by omega
        refine go (And.intro h5 (And.intro h13 (And.intro h14 (And.intro h15 (And.intro hb (And.intro hre (And.intro hee (And.intro @encE_kind (And.intro e1 (And.intro e2 (And.intro e3 (And.intro e4 (And.intro hk' (And.intro hh (And.intro g0 (And.intro hplt (And.intro hlt2 ln))))))))))))))))) ?_
        refine x_callS rfl rfl rfl rfl (sv (And.intro hb (And.intro e1 (And.intro e2 @encE_kind)))) g_wr (sv (And.intro hb (And.intro e1 (And.intro e2 @encE_kind)))) (se (And.intro hb (And.intro e1 (And.intro e2 @encE_kind)))) ⟨(rAt L pos).w, e, hwl, by omega, rfl, rfl⟩ (by simp) (by simp [touchA, touch]) ?_
        have s1 := set_row L sp pos hplt (wrF (rAt L pos).w e)
        refine go (And.intro h5 (And.intro h13 (And.intro h14 (And.intro h15 (And.intro hb (And.intro hre (And.intro hee (And.intro @encE_kind (And.intro e1 (And.intro e2 (And.intro e3 (And.intro e4 (And.intro hk' (And.intro hh (And.intro g0 (And.intro hplt (And.intro hlt2 (And.intro ln s1)))))))))))))))))) ?_
        refine ⟨⟨i + 1, b, cap', L.set pos (setW (rAt L pos) (wrF (rAt L pos).w e)), sp, (sc h5), (sc h13), (sc h14), (sc (And.intro h15 @cast_succ)), (sc (And.intro s1 g0)), (by show b < n + 1 + 1; omega), by rw [List.length_set]; exact hcp, by omega, (by have := step_small e hsm; rw [hst, hpos'] at this; exact this), hf⟩, ?_⟩
        exact so h15
  · have e : i = es.length := by omega
    subst e
    rw [List.drop_length, List.foldl_nil] at hf
    rw [← hf]
    refine go (And.intro h5 (And.intro h13 (And.intro h14 h15))) ?_
    refine x_done (x_outL (b := b) (len := L.length) (cap := cap') (z := 4) (sp := sp) (rows := L.map encR) (sr (And.intro h5 @Try.f13.eq_1)) hb (by simp) (deep_map _ _ fun a => by simp [encR, deepc]))
end Go.Proofs.Ytgohmphhgglmbaa

set_option linter.unusedVariables false
set_option linter.unusedSimpArgs false
set_option maxRecDepth 100000
set_option maxHeartbeats 16000000
namespace Go.Proofs.Ytgohmphhgglmbaa
open Go Go.RowKit Am

def wAt (l : List Wrt) (i : Nat) : Wrt := l.getD i ⟨⟨⟨#[]⟩, 0⟩, 0, ⟨#[]⟩⟩
theorem rAt_lt {l : List Rgs} {i : Nat} (h : i < l.length) : rAt l i = l[i] := by simp [rAt, h]
theorem wAt_lt {l : List Wrt} {i : Nat} (h : i < l.length) : wAt l i = l[i] := by simp [wAt, h]
def eqI (a b : Idt) : Bool := (a.a.toList == b.a.toList) && (a.n == b.n)
def wBad (w : List Wrt) (k : Nat) : Bool := (decide (0 < (k : Int)) && !aheadF (wAt w (k - 1)) (wAt w k)) || decide (300 < ((wAt w k).x.size : Int))
def wDup (w : List Wrt) (k : Nat) : Bool := (w.take k).any fun n => eqI n.id (wAt w k).id
def wOkF (w : List Wrt) : Nat → Nat → Bool
  | 0, _ => true
  | n + 1, k => !wBad w k && !wDup w k && wOkF w n (k + 1)
def rBad (l : List Rgs) (i : Nat) : Bool := (decide (0 < (i : Int)) && !firstF (rAt l (i - 1)) (rAt l i)) || (((rAt l i).w.length : Int) == 0) || decide (30 < ((rAt l i).w.length : Int)) || decide (300 < ((rAt l i).f.size : Int))
def rOkF (l : List Rgs) : Nat → Nat → Bool
  | 0, _ => true
  | n + 1, i => !rBad l i && wOkF (rAt l i).w (rAt l i).w.length 0 && rOkF l n (i + 1)
def rightF (l : List Rgs) : Int := if 30 < (l.length : Int) then 0 else if rOkF l l.length 0 then 1 else 0
def rightS : Fspec := fun _ ds r => ∃ l : List Rgs, smallR 1048576 l ∧ ds = [.sl (l.map encR)] ∧ r = .s (.int .i64 (rightF l))
theorem right_sound {plain : TypeId → Bool} {Γ : FuncId → Option Fspec} {Δ : FuncId → Option Pt} (hE : EnvOk ⟨Try.prog, plain, Γ, Δ, fun _ => none, 0⟩) (hpl : plain 31 = true) (g_first : Γ 23 = some firstS) (g_ahead : Γ 24 = some aheadS) : Sound Try.prog 10 rightS := by
  refine sound_of_awp hE Try.func10 rfl (by kernel_rfl) ?_
  rintro Φ ds r ⟨l, hsm, rfl, rfl⟩
  refine ⟨by simp [Try.f10], ?_⟩
  unfold st0
  refine W.out (E := ⟨Try.prog, plain, Γ, Δ, Φ, _⟩) ?_
  have hr := encR_rows l
  have hl0 := hsm.1
  by_cases h30 : 30 < (l.length : Int)
  · refine go h30 ?_
    refine x_done (x_out (sr (And.intro @Try.f10.eq_1 (And.intro @rightF.eq_1 h30))) (by simp) (by simp) rfl)
  refine go h30 ?_
  refine x_loop (fun σ => ∃ (i : Nat), σ.t 0 = .sl (l.map encR) ∧ σ.t 12 = .sl (l.map encR) ∧ σ.t 13 = .s (.int .i64 l.length) ∧ σ.t 14 = .s (.int .i64 i) ∧ i ≤ l.length ∧ rOkF l (l.length - i) i = rOkF l l.length 0) (fun σ => l.length - ix (σ.t 14)) ⟨0, (by first | assumption | exact sxa trivial), (by first | assumption | exact sxa trivial), (by first | assumption | exact sxa trivial), (by first | assumption | exact sxa trivial), (by first | rfl | omega | assumption | (simp [*]; done)), (by first | rfl | omega | assumption | (simp [*]; done))⟩ ?_
  rintro t h n ⟨i, h0, h12, h13, h14, hf0, hf1⟩
  simp only at h0 h12 h13 h14
  refine go (And.intro h0 (And.intro h12 (And.intro h13 h14))) ?_
  refine x_condP (sv trivial) (fun hc => ?_) (fun hc => ?_)
  · have hi : i < l.length := by omega
    obtain ⟨m, hm⟩ : ∃ m, l.length - i = m + 1 := ⟨l.length - i - 1, by omega⟩
    have hm' : l.length - (i + 1) = m := by omega
    rw [hm, rOkF] at hf1
    have hri := rAt_lt hi
    have ei : ((i : Int) - 1).toNat = i - 1 := by omega
    have hri1 := rAt_lt (l := l) (i := i - 1) (by omega)
    refine goR trivial ?_
    refine x_seq ?_
    refine goR trivial ?_
    refine x_seq ?_
    refine goR (And.intro h0 (And.intro h12 (And.intro h13 (And.intro h14 (And.intro hr @encR.eq_1))))) ?_
    refine x_seq ?_
    refine x_cut (fun σ => σ.t 0 = .sl (l.map encR) ∧ σ.t 3 = .s (.int .i64 i) ∧ σ.t 4 = .ptr n 0 0 ∧ σ.t 12 = .sl (l.map encR) ∧ σ.t 13 = .s (.int .i64 l.length) ∧ σ.t 14 = .s (.int .i64 i) ∧ σ.t 48 = .s (.bool (rBad l i)) ∧ σ.h n = some ⟨4, [encR (rAt l i)], true⟩ ∧ n < σ.n) ?_ ?_
    · (have ee := (And.intro @encR.eq_1 ei); repeat' (first | refine go1aR ee ?_ | (refine x_callD rfl rfl rfl rfl rfl (sva ee) g_first (sva ee) (sea ee) ⟨_, _, rfl, rfl⟩ rfl ?_) | ((first | refine cbr ee ?_ ?_ | refine gbrt ee ?_ ?_ | refine gbrf ee ?_ ?_ | refine gbrtD ee ?_ ?_ | refine gbrfD ee ?_ ?_) <;> (first | intro hc ho | intro hc) <;> (try simp only [bne, Bool.not_eq_true', Bool.not_eq_false', Bool.not_eq_true, Bool.not_eq_false] at hc))))
      all_goals (refine ⟨?_, ?_, ?_, ?_, ?_, ?_, ?_, ?_, ?_⟩ <;> (first | omega | (dsimp only; omega) | exact sxa (And.intro @cast_succ (And.intro @rBad.eq_1 (And.intro @encR.eq_1 (And.intro hri hri1)))) | exact soa trivial | ((simp [rBad, encR, hri, hri1, upd_at, *]; done))))
    rintro t h n1 ⟨h0, h3, h4, h12, h13, h14, h48, hhn, hn1⟩
    simp only at h0 h3 h4 h12 h13 h14 h48 hhn hn1
    cases hb : rBad l i
    · refine goR (And.intro h0 (And.intro h3 (And.intro h4 (And.intro h12 (And.intro h13 (And.intro h14 (And.intro h48 hb))))))) ?_
      refine x_seq ?_
      refine goR (And.intro h0 (And.intro h3 (And.intro h4 (And.intro h12 (And.intro h13 (And.intro h14 (And.intro h48 (And.intro hb (And.intro hhn @encR.eq_1))))))))) ?_
      have hsw : (rAt l i).w.length ≤ 1048576 := hsm.2 _ (by rw [hri]; exact List.getElem_mem _)
      generalize hw : (rAt l i).w = w at *
      have hw2 : l[i].w = w := by rw [← hri]; exact hw
      have hrw := encW_rows w
      rw [hb] at hf1
      have hf1' := hf1
      refine x_loop (fun σ => ∃ (k : Nat), σ.t 0 = .sl (l.map encR) ∧ σ.t 3 = .s (.int .i64 i) ∧ σ.t 4 = .ptr n 0 0 ∧ σ.t 12 = .sl (l.map encR) ∧ σ.t 13 = .s (.int .i64 l.length) ∧ σ.t 14 = .s (.int .i64 i) ∧ σ.h n = some ⟨4, [encR (rAt l i)], true⟩ ∧ σ.t 50 = .sl (w.map encW) ∧ σ.t 51 = .s (.int .i64 w.length) ∧ σ.t 52 = .s (.int .i64 k) ∧ n < σ.n ∧ k ≤ w.length ∧ wOkF w (w.length - k) k = wOkF w w.length 0) (fun σ => w.length - ix (σ.t 52)) ⟨0, (by first | assumption | exact sxa trivial), (by first | assumption | exact sxa trivial), (by first | assumption | exact sxa trivial), (by first | assumption | exact sxa trivial), (by first | assumption | exact sxa trivial), (by first | assumption | exact sxa trivial), (by first | assumption | exact sxa trivial), (by first | assumption | exact sxa trivial), (by first | assumption | exact sxa trivial), (by first | assumption | exact sxa trivial), (by first | omega | (dsimp only; omega) | exact soa trivial | omega | (simp; done)), (by first | rfl | omega | assumption | (simp [*]; done)), (by first | rfl | omega | assumption | (simp [*]; done))⟩ ?_
      rintro t h n2 ⟨k, h0, h3, h4, h12, h13, h14, hhn, h50, h51, h52, hn1, hf0, hf1⟩
      simp only at h0 h3 h4 h12 h13 h14 hhn h50 h51 h52 hn1
      refine go (And.intro h0 (And.intro h3 (And.intro h4 (And.intro h12 (And.intro h13 (And.intro h14 (And.intro h50 (And.intro h51 h52)))))))) ?_
      refine x_condP (sv (And.intro h0 (And.intro h3 (And.intro h4 (And.intro h12 (And.intro h13 (And.intro h14 (And.intro h50 (And.intro h51 h52))))))))) (fun hc => ?_) (fun hc => ?_)
      · have hk : k < w.length := by omega
        obtain ⟨m2, hm2⟩ : ∃ m, w.length - k = m + 1 := ⟨w.length - k - 1, by omega⟩
        have hm2' : w.length - (k + 1) = m2 := by omega
        rw [hm2, wOkF] at hf1
        have hwk := wAt_lt hk
        have hwk1 := wAt_lt (l := w) (i := k - 1) (by omega)
        have ek : ((k : Int) - 1).toNat = k - 1 := by omega
        have en : (n = n2) = False := by simp; omega
        refine goR trivial ?_
        refine x_seq ?_
        refine goR trivial ?_
        refine x_seq ?_
        refine goR (And.intro h0 (And.intro h3 (And.intro h4 (And.intro h12 (And.intro h13 (And.intro h14 (And.intro h50 (And.intro h51 (And.intro h52 (And.intro hrw @encW.eq_1)))))))))) ?_
        refine x_seq ?_
        refine x_cut (fun σ => σ.t 0 = .sl (l.map encR) ∧ σ.t 3 = .s (.int .i64 i) ∧ σ.t 4 = .ptr n 0 0 ∧ σ.t 12 = .sl (l.map encR) ∧ σ.t 13 = .s (.int .i64 l.length) ∧ σ.t 14 = .s (.int .i64 i) ∧ σ.h n = some ⟨4, [encR (rAt l i)], true⟩ ∧ σ.t 50 = .sl (w.map encW) ∧ σ.t 51 = .s (.int .i64 w.length) ∧ σ.t 52 = .s (.int .i64 k) ∧ σ.t 5 = .s (.int .i64 k) ∧ σ.t 6 = .ptr n2 0 0 ∧ σ.h n2 = some ⟨4, [encW (wAt w k)], true⟩ ∧ σ.t 75 = .s (.bool (wBad w k)) ∧ n < σ.n ∧ n2 < σ.n) ?_ ?_
        · (have ee := (And.intro @encR.eq_1 (And.intro @encW.eq_1 (And.intro ek hw))); repeat' (first | refine go1aR ee ?_ | (refine x_callD rfl rfl rfl rfl rfl (sva ee) g_ahead (sva ee) (sea ee) ⟨_, _, rfl, rfl⟩ rfl ?_) | ((first | refine cbr ee ?_ ?_ | refine gbrt ee ?_ ?_ | refine gbrf ee ?_ ?_ | refine gbrtD ee ?_ ?_ | refine gbrfD ee ?_ ?_) <;> (first | intro hc ho | intro hc) <;> (try simp only [bne, Bool.not_eq_true', Bool.not_eq_false', Bool.not_eq_true, Bool.not_eq_false] at hc))))
          all_goals (refine ⟨?_, ?_, ?_, ?_, ?_, ?_, ?_, ?_, ?_, ?_, ?_, ?_, ?_, ?_, ?_, ?_⟩ <;> (first | omega | (dsimp only; omega) | exact sxa (And.intro @cast_succ (And.intro @wBad.eq_1 (And.intro @encR.eq_1 (And.intro @encW.eq_1 (And.intro hwk hwk1))))) | exact soa trivial | ((simp [wBad, encW, encR, hwk, hwk1, upd_at, *]; done))))
        rintro t h n3 ⟨h0, h3, h4, h12, h13, h14, hhn, h50, h51, h52, h5, h6, hhn2, h75, hn1, hn3⟩
        simp only at h0 h3 h4 h12 h13 h14 hhn h50 h51 h52 h5 h6 hhn2 h75 hn1 hn3
        have en3 : (n2 = n3) = False := by simp; omega
        have en4 : (n = n3) = False := by simp; omega
        cases hb2 : wBad w k
        · rw [hb2] at hf1
          refine goR (And.intro h75 hb2) ?_
          refine x_seq ?_
          refine goR (And.intro h4 (And.intro h5 (And.intro hhn (And.intro hw (And.intro hw2 (And.intro @encR.eq_1 hrw)))))) ?_
          have hrt : ((w.map encW).take k) = (w.take k).map encW := List.map_take.symm
          have hlt : (w.take k).length = k := by simp; omega
          have hrwt := encW_rows (w.take k)
          have hB := hf1
          refine x_loop (fun σ => ∃ (j : Nat), σ.t 0 = .sl (l.map encR) ∧ σ.t 3 = .s (.int .i64 i) ∧ σ.t 4 = .ptr n 0 0 ∧ σ.t 12 = .sl (l.map encR) ∧ σ.t 13 = .s (.int .i64 l.length) ∧ σ.t 14 = .s (.int .i64 i) ∧ σ.h n = some ⟨4, [encR (rAt l i)], true⟩ ∧ σ.t 50 = .sl (w.map encW) ∧ σ.t 51 = .s (.int .i64 w.length) ∧ σ.t 52 = .s (.int .i64 k) ∧ σ.t 5 = .s (.int .i64 k) ∧ σ.t 6 = .ptr n2 0 0 ∧ σ.h n2 = some ⟨4, [encW (wAt w k)], true⟩ ∧ σ.t 79 = .sl ((w.take k).map encW) ∧ σ.t 80 = .s (.int .i64 k) ∧ σ.t 81 = .s (.int .i64 j) ∧ n < σ.n ∧ n2 < σ.n ∧ j ≤ k ∧ ((w.take k).drop j).any (fun q => eqI q.id (wAt w k).id) = wDup w k) (fun σ => k - ix (σ.t 81)) ⟨0, (by first | assumption | exact sxa trivial), (by first | assumption | exact sxa trivial), (by first | assumption | exact sxa trivial), (by first | assumption | exact sxa trivial), (by first | assumption | exact sxa trivial), (by first | assumption | exact sxa trivial), (by first | assumption | exact sxa trivial), (by first | assumption | exact sxa trivial), (by first | assumption | exact sxa trivial), (by first | assumption | exact sxa trivial), (by first | assumption | exact sxa trivial), (by first | assumption | exact sxa trivial), (by first | assumption | exact sxa trivial), (by first | assumption | exact sxa trivial), (by first | assumption | exact sxa trivial), (by first | assumption | exact sxa trivial), (by first | omega | (dsimp only; omega) | exact soa trivial | omega | (simp; done)), (by first | omega | (dsimp only; omega) | exact soa trivial | omega | (simp; done)), (by first | rfl | omega | assumption | (simp [*]; done)), (by first | rfl | omega | assumption | (simp [*]; done))⟩ ?_
          rintro t h n4 ⟨j, h0, h3, h4, h12, h13, h14, hhn, h50, h51, h52, h5, h6, hhn2, h79, h80, h81, hn1, hn3, hf0, hf1⟩
          simp only at h0 h3 h4 h12 h13 h14 hhn h50 h51 h52 h5 h6 hhn2 h79 h80 h81 hn1 hn3
          refine go (And.intro h0 (And.intro h3 (And.intro h4 (And.intro h12 (And.intro h13 (And.intro h14 (And.intro h50 (And.intro h51 (And.intro h52 (And.intro h5 (And.intro h6 (And.intro h79 (And.intro h80 h81))))))))))))) ?_
          refine x_condP (sv (And.intro h0 (And.intro h3 (And.intro h4 (And.intro h12 (And.intro h13 (And.intro h14 (And.intro h50 (And.intro h51 (And.intro h52 (And.intro h5 (And.intro h6 (And.intro h79 (And.intro h80 h81)))))))))))))) (fun hc => ?_) (fun hc => ?_)
          · have hj : j < (w.take k).length := by omega
            rw [List.drop_eq_getElem_cons hj, List.any_cons] at hf1
            have en5 : (n2 = n4) = False := by simp; omega
            have en6 : (n = n4) = False := by simp; omega
            refine go (And.intro h0 (And.intro h3 (And.intro h4 (And.intro h12 (And.intro h13 (And.intro h14 (And.intro h50 (And.intro h51 (And.intro h52 (And.intro h5 (And.intro h6 (And.intro h79 (And.intro h80 (And.intro h81 (And.intro hhn2 (And.intro hhn (And.intro hrwt (And.intro @encW.eq_1 (And.intro hpl (And.intro hlt (And.intro en5 en6))))))))))))))))))))) ?_
            cases he : ((w.take k)[j].id.a.toList == (wAt w k).id.a.toList) && ((w.take k)[j].id.n == (wAt w k).id.n)
            · have he' : eqI (w.take k)[j].id (wAt w k).id = false := he
              rw [he', Bool.false_or] at hf1
              refine go (And.intro h0 (And.intro h3 (And.intro h4 (And.intro h12 (And.intro h13 (And.intro h14 (And.intro h50 (And.intro h51 (And.intro h52 (And.intro h5 (And.intro h6 (And.intro h79 (And.intro h80 (And.intro h81 (And.intro hhn2 (And.intro hhn (And.intro hrwt (And.intro @encW.eq_1 (And.intro hpl (And.intro hlt (And.intro en5 (And.intro en6 he)))))))))))))))))))))) ?_
              (refine ⟨⟨j + 1, ?_, ?_, ?_, ?_, ?_, ?_, ?_, ?_, ?_, ?_, ?_, ?_, ?_, ?_, ?_, ?_, ?_, ?_, ?_, ?_⟩, ?_⟩ <;> (first | omega | (dsimp only; omega) | ((exact hf1)) | exact sxa (And.intro @cast_succ (And.intro en5 en6)) | exact soa trivial))
            · have he' : eqI (w.take k)[j].id (wAt w k).id = true := he
              rw [he', Bool.true_or] at hf1
              have hz : rightF l = 0 := by
                rw [← hf1] at hB
                have hw0 : wOkF w w.length 0 = false := by rw [← hB]; rfl
                rw [hw0] at hf1'
                simp only [rightF, if_neg h30, ← hf1']
                rfl
              refine go (And.intro h0 (And.intro h3 (And.intro h4 (And.intro h12 (And.intro h13 (And.intro h14 (And.intro h50 (And.intro h51 (And.intro h52 (And.intro h5 (And.intro h6 (And.intro h79 (And.intro h80 (And.intro h81 (And.intro hhn2 (And.intro hhn (And.intro hrwt (And.intro @encW.eq_1 (And.intro hpl (And.intro hlt (And.intro en5 (And.intro en6 he)))))))))))))))))))))) ?_
              refine x_done (x_out (sr (And.intro @Try.f10.eq_1 hz)) (by simp) (by simp) rfl)
          · have ej : j = k := by omega
            rw [ej, List.drop_of_length_le (by omega), List.any_nil] at hf1
            rw [← hf1] at hB
            skip
            refine go (And.intro h0 (And.intro h3 (And.intro h4 (And.intro h12 (And.intro h13 (And.intro h14 (And.intro h50 (And.intro h51 (And.intro h52 (And.intro h5 h6)))))))))) ?_
            (refine ⟨⟨k + 1, ?_, ?_, ?_, ?_, ?_, ?_, ?_, ?_, ?_, ?_, ?_, ?_, ?_⟩, ?_⟩ <;> (first | omega | (dsimp only; omega) | ((rw [hm2', ← hB]; rfl)) | exact sxa @cast_succ | exact soa trivial))
        · have hz : rightF l = 0 := by
            rw [hb2] at hf1
            have : wOkF w w.length 0 = false := by rw [← hf1]; rfl
            simp only [rightF, if_neg h30, ← hf1', this]
            rfl
          refine go (And.intro h75 hb2) ?_
          refine x_done (x_out (sr (And.intro @Try.f10.eq_1 hz)) (by simp) (by simp) rfl)
      · have ek2 : k = w.length := by omega
        subst ek2
        rw [Nat.sub_self, wOkF] at hf1
        rw [← hf1] at hf1'
        skip
        refine go (And.intro h0 (And.intro h3 (And.intro h4 (And.intro h12 (And.intro h13 (And.intro h14 (And.intro h50 (And.intro h51 h52)))))))) ?_
        (refine ⟨⟨i + 1, ?_, ?_, ?_, ?_, ?_, ?_⟩, ?_⟩ <;> (first | omega | (dsimp only; omega) | ((rw [hm', ← hf1']; rfl)) | exact sxa @cast_succ | exact soa trivial))
    · have hz : rightF l = 0 := by
        rw [hb] at hf1
        simp only [rightF, if_neg h30, ← hf1]
        rfl
      refine go (And.intro h48 hb) ?_
      refine x_done (x_out (sr (And.intro @Try.f10.eq_1 hz)) (by simp) (by simp) rfl)
  · have e : i = l.length := by omega
    subst e
    rw [Nat.sub_self, rOkF] at hf1
    have hz : rightF l = 1 := by
      simp only [rightF, if_neg h30, ← hf1]
      rfl
    refine go (And.intro h0 (And.intro h12 (And.intro h13 h14))) ?_
    refine x_done (x_out (sr (And.intro @Try.f10.eq_1 hz)) (by simp) (by simp) rfl)
end Go.Proofs.Ytgohmphhgglmbaa

set_option linter.unusedVariables false
set_option linter.unusedSimpArgs false
set_option maxRecDepth 100000
set_option maxHeartbeats 4000000
namespace Go.Proofs.Ytgohmphhgglmbaa
open Go Go.RowKit Am

def setF (au : ByteArray) (n c : Int) (tx : ByteArray) (deps : List Idt) : Edt := ⟨⟨au, n⟩, c, 0, deps, 3, ⟨⟨#[97, 110, 110]⟩, 1⟩, ⟨⟨#[]⟩, 0⟩, false, ⟨#[]⟩, ⟨#[]⟩, ⟨#[102]⟩, tx, ⟨⟨#[]⟩, 0⟩, ⟨#[]⟩⟩
def setS : Fspec := fun _ ds r => ∃ (au : ByteArray) (n c : Int) (tx : ByteArray) (deps : List Idt), ds = [.s (.string au), .s (.int .i64 n), .s (.int .i64 c), .s (.string tx), .sl (deps.map encId)] ∧ r = .agg (encE (setF au n c tx deps))
theorem set_sound {plain : TypeId → Bool} {Γ : FuncId → Option Fspec} {Δ : FuncId → Option Pt} (hE : EnvOk ⟨Try.prog, plain, Γ, Δ, fun _ => none, 0⟩) : Sound Try.prog 22 setS := by
  refine sound_of_awp hE Try.func22 rfl (by kernel_rfl) ?_
  rintro Φ ds r ⟨au, n, c, tx, deps, rfl, rfl⟩
  refine ⟨by simp [Try.f22], ?_⟩
  unfold st0
  refine W.out (E := ⟨Try.prog, plain, Γ, Δ, Φ, _⟩) ?_
  refine go trivial ?_
  refine x_done (x_out (sr (And.intro @Try.f22.eq_1 (And.intro @encE.eq_1 @setF.eq_1))) (by simp) (by simp) rfl)
end Go.Proofs.Ytgohmphhgglmbaa

set_option linter.unusedVariables false
set_option linter.unusedSimpArgs false
set_option maxRecDepth 100000
set_option maxHeartbeats 4000000
namespace Go.Proofs.Ytgohmphhgglmbaa
open Go Go.RowKit Am

def lk1S : Fspec := fun _ ds r => ∃ (x : Rgs) (y : Idt) (f : ByteArray), ds = [.agg (encR x), .pc (encId y), .pc [.s (.string f)]] ∧ r = .s (.bool (((x.id.a.toList == y.a.toList) && (x.id.n == y.n)) && (x.f.toList == f.toList)))
theorem lk1_sound {plain : TypeId → Bool} {Γ : FuncId → Option Fspec} {Δ : FuncId → Option Pt} (hE : EnvOk ⟨Try.prog, plain, Γ, Δ, fun _ => none, 0⟩) (hpl : plain 31 = true) : Sound Try.prog 33 lk1S := by
  refine sound_of_awp hE Try.func33 rfl (by kernel_rfl) ?_
  rintro Φ ds r ⟨x, y, f, rfl, rfl⟩
  refine ⟨by simp [Try.f33], ?_⟩
  unfold st0 encR encId
  refine W.out (E := ⟨Try.prog, plain, Γ, Δ, Φ, _⟩) ?_
  cases ha : ((x.id.a.toList == y.a.toList) && (x.id.n == y.n))
  · refine go (And.intro hpl ha) ?_
    refine x_done (x_out (sr (And.intro @Try.f33.eq_1 ha)) (by simp) (by simp) rfl)
  · refine go (And.intro hpl ha) ?_
    refine x_done (x_out (sr (And.intro @Try.f33.eq_1 ha)) (by simp) (by simp) rfl)
end Go.Proofs.Ytgohmphhgglmbaa

set_option linter.unusedVariables false
set_option linter.unusedSimpArgs false
set_option maxRecDepth 100000
set_option maxHeartbeats 4000000
namespace Go.Proofs.Ytgohmphhgglmbaa
open Go Go.RowKit Am

def lkP (y : Idt) (f : ByteArray) (x : Rgs) : Bool := ((x.id.a.toList == y.a.toList) && (x.id.n == y.n)) && (x.f.toList == f.toList)
theorem idx_get (y : Idt) (f : ByteArray) : ∀ (l : List Rgs) (k : Nat), (idxF (lkP y f) l k = -1 ∧ getF l y f = []) ∨ ∃ (i : Nat) (h : i < l.length), idxF (lkP y f) l k = ((k + i : Nat) : Int) ∧ getF l y f = l[i].w
  | [], k => .inl ⟨rfl, rfl⟩
  | x :: l, k => by
    simp only [idxF, getF]
    cases hp : lkP y f x
    · have hp' := hp
      unfold lkP at hp'
      simp only [hp', Bool.false_eq_true, if_false]
      rcases idx_get y f l (k + 1) with h | ⟨i, h1, h2, h3⟩
      · exact .inl h
      · exact .inr ⟨i + 1, by simpa using h1, by rw [h2]; congr 1; omega, by simpa using h3⟩
    · have hp' := hp
      unfold lkP at hp'
      simp only [hp', if_true]
      exact .inr ⟨0, by simp, by simp, by simp⟩
def lookS : Fspec := fun _ ds r => ∃ (l : List Rgs) (y : Idt) (f : ByteArray), l.length ≤ 1099511627776 ∧ (∀ x ∈ l, x.w.length ≤ 1099511627776) ∧ ds = [.sl (l.map encR), .agg (encId y), .s (.string f)] ∧ r = .sl ((getF l y f).map encW)
theorem look_sound {plain : TypeId → Bool} {Γ : FuncId → Option Fspec} {Δ : FuncId → Option Pt} (hE : EnvOk ⟨Try.prog, plain, Γ, Δ, fun _ => none, 0⟩) (g_idx : Γ 32 = some (idxS encR)) (g_lk : Γ 33 = some lk1S) (g_cl : Γ 34 = some (cloneS encW 4)) : Sound Try.prog 15 lookS := by
  refine sound_of_awp hE Try.func15 rfl (by kernel_rfl) ?_
  rintro Φ ds r ⟨v, y, f, hv, hw, rfl, rfl⟩
  refine ⟨by simp [Try.f15], ?_⟩
  unfold st0
  refine W.out (E := ⟨Try.prog, plain, Γ, Δ, Φ, _⟩) ?_
  have hr := encR_rows v
  refine go @encId.eq_1 ?_
  refine x_callN rfl rfl rfl rfl (sv @encId.eq_1) g_idx (sv @encId.eq_1) (se @encId.eq_1) ⟨v, lkP y f, _, hv, rfl, (by simp only [phi, closS, allO, List.getElem?_cons_zero, List.getElem?_cons_succ, g_lk]; rfl), (by intro x _; exact ⟨x, y, f, rfl, rfl⟩), rfl⟩ rfl ?_
  rcases idx_get y f v 0 with ⟨h1, h2⟩ | ⟨i, h1, h2, h3⟩
  · refine go h1 ?_
    rw [h2]
    refine x_done (x_outV (sr @Try.f15.eq_1) (by simp) (by simp) rfl)
  · simp only [Nat.zero_add] at h2
    have hn : ¬ ((i : Int) < 0) := by omega
    refine go (And.intro h2 (And.intro hn (And.intro hr @encR.eq_1))) ?_
    refine x_callO rfl rfl rfl rfl (sv trivial) g_cl (sv trivial) (se trivial) ⟨v[i].w, hw _ (List.getElem_mem h1), rfl, rfl⟩ (by simp [touchA, touch]) (fun cap hcap => ?_)
    refine go trivial ?_
    rw [h3]
    refine x_done (x_outL (sp := spare 4 (cap - (v[i].w.map encW).length)) (sr @Try.f15.eq_1) (sx trivial) (by simp) (deep_map _ _ fun a => by simp [encW, deepc]))
end Go.Proofs.Ytgohmphhgglmbaa

set_option linter.unusedVariables false
set_option linter.unusedSimpArgs false
set_option maxRecDepth 100000
set_option maxHeartbeats 4000000
namespace Go.Proofs.Ytgohmphhgglmbaa
open Go Go.RowKit Am

def lastF (l : List Wrt) : ByteArray × Bool := match l.getLast? with
  | some x => (x.x, true)
  | none => (⟨#[]⟩, false)
theorem lastF_at (v : List Wrt) (h : ((v.length : Int) - 1).toNat < v.length) : lastF v = (v[((v.length : Int) - 1).toNat].x, true) := by
  unfold lastF
  rw [List.getLast?_eq_getElem?, show v.length - 1 = ((v.length : Int) - 1).toNat by omega, List.getElem?_eq_getElem h]
def lastS : Fspec := fun _ ds r => ∃ v : List Wrt, v.length ≤ 1099511627776 ∧ ds = [.sl (v.map encW)] ∧ r = .tup [.s (.string (lastF v).1), .s (.bool (lastF v).2)]
theorem last_sound {plain : TypeId → Bool} {Γ : FuncId → Option Fspec} {Δ : FuncId → Option Pt} (hE : EnvOk ⟨Try.prog, plain, Γ, Δ, fun _ => none, 0⟩) : Sound Try.prog 18 lastS := by
  refine sound_of_awp hE Try.func18 rfl (by kernel_rfl) ?_
  rintro Φ ds r ⟨v, hv, rfl, rfl⟩
  refine ⟨by simp [Try.f18], ?_⟩
  unfold st0
  refine W.out (E := ⟨Try.prog, plain, Γ, Δ, Φ, _⟩) ?_
  have hr := encW_rows v
  by_cases h0 : v.length = 0
  · have hb : ((v.length : Int) == 0) = true := by simp [h0]
    have hl : v = [] := List.eq_nil_of_length_eq_zero h0
    refine go hb ?_
    subst hl
    refine x_done (x_outT (sr (And.intro @Try.f18.eq_1 @lastF.eq_1)) rfl)
  · have hb : ((v.length : Int) == 0) = false := beq_eq_false_iff_ne.2 (by omega)
    have hi : ((v.length : Int) - 1).toNat < v.length := by omega
    refine go (And.intro hb (And.intro hr @encW.eq_1)) ?_
    rw [lastF_at v hi]
    refine x_done (x_outT (sr @Try.f18.eq_1) rfl)
theorem winner_sound {plain : TypeId → Bool} {Γ : FuncId → Option Fspec} {Δ : FuncId → Option Pt} (hE : EnvOk ⟨Try.prog, plain, Γ, Δ, fun _ => none, 0⟩) : Sound Try.prog 17 lastS := by
  refine sound_of_awp hE Try.func17 rfl (by kernel_rfl) ?_
  rintro Φ ds r ⟨v, hv, rfl, rfl⟩
  refine ⟨by simp [Try.f17], ?_⟩
  unfold st0
  refine W.out (E := ⟨Try.prog, plain, Γ, Δ, Φ, _⟩) ?_
  have hr := encW_rows v
  by_cases h0 : v.length = 0
  · have hb : ((v.length : Int) == 0) = true := by simp [h0]
    have hl : v = [] := List.eq_nil_of_length_eq_zero h0
    refine go hb ?_
    subst hl
    refine x_done (x_outT (sr (And.intro @Try.f17.eq_1 @lastF.eq_1)) rfl)
  · have hb : ((v.length : Int) == 0) = false := beq_eq_false_iff_ne.2 (by omega)
    have hi : ((v.length : Int) - 1).toNat < v.length := by omega
    refine go (And.intro hb (And.intro hr @encW.eq_1)) ?_
    rw [lastF_at v hi]
    refine x_done (x_outT (sr @Try.f17.eq_1) rfl)

def eqW (a b : Wrt) : Bool := (a.id.a.toList == b.id.a.toList) && ((a.id.n == b.id.n) && ((a.c == b.c) && (a.x.toList == b.x.toList)))
def marksF : List Wrt → List Wrt → Bool
  | [], [] => true
  | x :: a, y :: b => eqW x y && marksF a b
  | _, _ => false
theorem marksF_len : ∀ (a b : List Wrt), a.length ≠ b.length → marksF a b = false
  | [], [], h => by simp at h
  | [], y :: b, _ => rfl
  | x :: a, [], _ => rfl
  | x :: a, y :: b, h => by simp only [marksF]; rw [marksF_len a b (by simpa using h)]; simp
def marksS : Fspec := fun _ ds r => ∃ a b : List Wrt, a.length ≤ 1099511627776 ∧ b.length ≤ 1099511627776 ∧ ds = [.sl (a.map encW), .sl (b.map encW)] ∧ r = .s (.bool (marksF a b))
theorem marks_sound {plain : TypeId → Bool} {Γ : FuncId → Option Fspec} {Δ : FuncId → Option Pt} (hE : EnvOk ⟨Try.prog, plain, Γ, Δ, fun _ => none, 0⟩) (hpl : plain 41 = true) : Sound Try.prog 19 marksS := by
  refine sound_of_awp hE Try.func19 rfl (by kernel_rfl) ?_
  rintro Φ ds r ⟨a, b, ha, hb, rfl, rfl⟩
  refine ⟨by simp [Try.f19], ?_⟩
  unfold st0
  refine W.out (E := ⟨Try.prog, plain, Γ, Δ, Φ, _⟩) ?_
  have hra := encW_rows a
  have hrb := encW_rows b
  by_cases hl : a.length = b.length
  · have hb : ((a.length : Int) != (b.length : Int)) = false := by simp [hl]
    refine go hb ?_
    refine x_loop (fun σ => ∃ i : Nat, i ≤ a.length ∧ σ.t 0 = .sl (a.map encW) ∧ σ.t 1 = .sl (b.map encW) ∧ σ.t 12 = .s (.int .i64 a.length) ∧ σ.t 13 = .s (.int .i64 i) ∧ marksF (a.drop i) (b.drop i) = marksF a b) (fun σ => a.length - ix (σ.t 13)) ⟨0, Nat.zero_le _, (sc trivial), (sc trivial), (sc trivial), (sc trivial), rfl⟩ ?_
    rintro t h n ⟨i, hi, h0, h1, h12, h13, hf⟩
    simp only at h0 h1 h12 h13
    refine go (And.intro h0 (And.intro h1 (And.intro h12 h13))) ?_
    refine x_condP (sv trivial) (fun hc => ?_) (fun hc => ?_)
    · have hi' : i < a.length := by omega
      have hi2 : i < b.length := by omega
      rw [List.drop_eq_getElem_cons hi', List.drop_eq_getElem_cons hi2, marksF] at hf
      have he : eqW a[i] b[i] = ((a[i].id.a.toList == b[i].id.a.toList) && ((a[i].id.n == b[i].id.n) && ((a[i].c == b[i].c) && (a[i].x.toList == b[i].x.toList)))) := rfl
      cases hz : eqW a[i] b[i]
      · rw [hz] at hf he
        have he := he.symm
        refine go (And.intro h0 (And.intro h1 (And.intro h12 (And.intro h13 (And.intro hra (And.intro hrb (And.intro @encW.eq_1 (And.intro hpl he)))))))) ?_
        have hf' : marksF a b = false := by rw [← hf]; rfl
        refine x_done (x_out (sr (And.intro @Try.f19.eq_1 hf')) (by simp) (by simp) rfl)
      · rw [hz] at hf he
        have he := he.symm
        refine go (And.intro h0 (And.intro h1 (And.intro h12 (And.intro h13 (And.intro hra (And.intro hrb (And.intro @encW.eq_1 (And.intro hpl he)))))))) ?_
        refine ⟨⟨i + 1, by omega, (sc h0), (sc h1), (sc h12), (sc (And.intro h13 @cast_succ)), by simpa using hf⟩, ?_⟩
        exact so h13
    · have e : i = a.length := by omega
      subst e
      rw [List.drop_length, hl, List.drop_length] at hf
      refine go (And.intro h0 (And.intro h1 (And.intro h12 h13))) ?_
      have hf' : marksF a b = true := by rw [← hf]; rfl
      refine x_done (x_out (sr (And.intro @Try.f19.eq_1 hf')) (by simp) (by simp) rfl)
  · have hb : ((a.length : Int) != (b.length : Int)) = true := by simp; omega
    refine go hb ?_
    refine x_done (x_out (sr (And.intro @Try.f19.eq_1 ((marksF_len a b hl)))) (by simp) (by simp) rfl)
end Go.Proofs.Ytgohmphhgglmbaa

set_option linter.unusedVariables false
set_option linter.unusedSimpArgs false
set_option maxRecDepth 100000
set_option maxHeartbeats 16000000
namespace Go.Proofs.Ytgohmphhgglmbaa
open Go Go.RowKit Am

abbrev bAnn : ByteArray := ⟨#[97, 110, 110]⟩
abbrev bBob : ByteArray := ⟨#[98, 111, 98]⟩
theorem al1 : appF [] [setF bAnn 1 1 ⟨#[97]⟩ [], setF bBob 1 1 ⟨#[98]⟩ []] = [⟨⟨bAnn, 1⟩, ⟨#[102]⟩, [⟨⟨bAnn, 1⟩, 1, ⟨#[97]⟩⟩, ⟨⟨bBob, 1⟩, 1, ⟨#[98]⟩⟩]⟩] := by kernel_rfl
theorem al2 : getF [⟨⟨bAnn, 1⟩, ⟨#[102]⟩, [⟨⟨bAnn, 1⟩, 1, ⟨#[97]⟩⟩, ⟨⟨bBob, 1⟩, 1, ⟨#[98]⟩⟩]⟩] ⟨bAnn, 1⟩ ⟨#[102]⟩ = [⟨⟨bAnn, 1⟩, 1, ⟨#[97]⟩⟩, ⟨⟨bBob, 1⟩, 1, ⟨#[98]⟩⟩] := by kernel_rfl
theorem al3 : appF [⟨⟨bAnn, 1⟩, ⟨#[102]⟩, [⟨⟨bAnn, 1⟩, 1, ⟨#[97]⟩⟩, ⟨⟨bBob, 1⟩, 1, ⟨#[98]⟩⟩]⟩] [setF bAnn 2 2 ⟨#[99]⟩ [⟨bAnn, 1⟩, ⟨bBob, 1⟩]] = [⟨⟨bAnn, 1⟩, ⟨#[102]⟩, [⟨⟨bAnn, 2⟩, 2, ⟨#[99]⟩⟩]⟩] := by kernel_rfl
theorem al4 : getF [⟨⟨bAnn, 1⟩, ⟨#[102]⟩, [⟨⟨bAnn, 2⟩, 2, ⟨#[99]⟩⟩]⟩] ⟨bAnn, 1⟩ ⟨#[102]⟩ = [⟨⟨bAnn, 2⟩, 2, ⟨#[99]⟩⟩] := by kernel_rfl
theorem al5 : lastF [⟨⟨bAnn, 2⟩, 2, ⟨#[99]⟩⟩] = (⟨#[99]⟩, true) := by kernel_rfl
theorem al6 : ((⟨#[97]⟩ : ByteArray).toList == (⟨#[97]⟩ : ByteArray).toList) = true := by kernel_rfl
theorem al7 : ((⟨#[98]⟩ : ByteArray).toList == (⟨#[98]⟩ : ByteArray).toList) = true := by kernel_rfl
theorem al8 : ((⟨#[99]⟩ : ByteArray).toList == (⟨#[99]⟩ : ByteArray).toList) = true := by kernel_rfl
theorem tr2 : (((2 : Nat) : Int) == 2) = true := rfl
theorem tr1 : (((1 : Nat) : Int) == 1) = true := rfl
def aliveS : Fspec := fun _ ds r => ds = [] ∧ r = .s (.bool true)
theorem alive_sound {plain : TypeId → Bool} {Γ : FuncId → Option Fspec} {Δ : FuncId → Option Pt} (hE : EnvOk ⟨Try.prog, plain, Γ, Δ, fun _ => none, 0⟩) (g_set : Γ 22 = some setS) (g_app : Γ 13 = some appS) (g_look : Γ 15 = some lookS) (g_win : Γ 17 = some lastS) : Sound Try.prog 9 aliveS := by
  refine sound_of_awp hE Try.func9 rfl (by kernel_rfl) ?_
  rintro Φ ds r ⟨rfl, rfl⟩
  refine ⟨by simp [Try.f9], ?_⟩
  unfold st0
  refine W.out (E := ⟨Try.prog, plain, Γ, Δ, Φ, _⟩) ?_
  refine go trivial ?_
  refine x_callS rfl rfl rfl rfl (sv trivial) g_set (sv trivial) (se trivial) ⟨bAnn, 1, 1, ⟨#[97]⟩, [], rfl, rfl⟩ (by simp) (by simp [touchA, touch]) ?_
  refine go trivial ?_
  refine x_callS rfl rfl rfl rfl (sv (And.intro @encE.eq_1 @setF.eq_1)) g_set (sv (And.intro @encE.eq_1 @setF.eq_1)) (se (And.intro @encE.eq_1 @setF.eq_1)) ⟨bBob, 1, 1, ⟨#[98]⟩, [], rfl, rfl⟩ (by simp) (by simp [touchA, touch]) ?_
  refine go (And.intro @encE.eq_1 @setF.eq_1) ?_
  refine x_callF rfl rfl rfl rfl (sv trivial) g_app (sv trivial) (se trivial) ⟨[], [setF bAnn 1 1 ⟨#[97]⟩ [], setF bBob 1 1 ⟨#[98]⟩ []], ⟨by simp, by simp⟩, by simp, by simp [setF], rfl, rfl⟩ (by simp) (fun h2 hold => ?_)
  have hb0 : h2 0 = some ⟨2, [[.s (.string bAnn), .s (.int .i64 1)]], true⟩ := by
    rw [hold 0 (by simp [touchA, touch, upd_at, rowsOf])]
    rfl
  clear hold
  rw [al1]
  refine go (And.intro hb0 (And.intro @encE.eq_1 @setF.eq_1)) ?_
  refine x_callS rfl rfl rfl rfl (sv trivial) g_look (sv trivial) (se trivial) ⟨[⟨⟨bAnn, 1⟩, ⟨#[102]⟩, [⟨⟨bAnn, 1⟩, 1, ⟨#[97]⟩⟩, ⟨⟨bBob, 1⟩, 1, ⟨#[98]⟩⟩]⟩], ⟨bAnn, 1⟩, ⟨#[102]⟩, by simp, by simp, rfl, rfl⟩ (by simp) (by simp [touchA, touch]) ?_
  rw [al2]
  refine go hb0 ?_
  refine x_callF rfl rfl rfl rfl (sv (And.intro @encE.eq_1 @setF.eq_1)) g_set (sv (And.intro @encE.eq_1 @setF.eq_1)) (se (And.intro @encE.eq_1 @setF.eq_1)) ⟨bAnn, 2, 2, ⟨#[99]⟩, [⟨bAnn, 1⟩, ⟨bBob, 1⟩], rfl, rfl⟩ (by simp) (fun h2 hold => ?_)
  have hb1 : h2 0 = some ⟨2, [[.s (.string bAnn), .s (.int .i64 1)]], true⟩ := by
    rw [hold 0 (by simp [touchA, touch, upd_at, rowsOf])]
    exact sx hb0
  clear hold hb0
  refine go (And.intro hb1 (And.intro @encE.eq_1 @setF.eq_1)) ?_
  refine x_callF rfl rfl rfl rfl (sv trivial) g_app (sv trivial) (se trivial) ⟨[⟨⟨bAnn, 1⟩, ⟨#[102]⟩, [⟨⟨bAnn, 1⟩, 1, ⟨#[97]⟩⟩, ⟨⟨bBob, 1⟩, 1, ⟨#[98]⟩⟩]⟩], [setF bAnn 2 2 ⟨#[99]⟩ [⟨bAnn, 1⟩, ⟨bBob, 1⟩]], ⟨by simp, by simp⟩, by simp, by simp [setF], rfl, rfl⟩ (by simp) (fun h2 hold => ?_)
  have hb0 : h2 0 = some ⟨2, [[.s (.string bAnn), .s (.int .i64 1)]], true⟩ := by
    rw [hold 0 (by simp [touchA, touch, upd_at, rowsOf])]
    exact sx hb1
  clear hold hb1
  rw [al3]
  refine go hb0 ?_
  refine x_callS rfl rfl rfl rfl (sv trivial) g_look (sv trivial) (se trivial) ⟨[⟨⟨bAnn, 1⟩, ⟨#[102]⟩, [⟨⟨bAnn, 2⟩, 2, ⟨#[99]⟩⟩]⟩], ⟨bAnn, 1⟩, ⟨#[102]⟩, by simp, by simp, rfl, rfl⟩ (by simp) (by simp [touchA, touch]) ?_
  rw [al4]
  refine go hb0 ?_
  refine x_callN rfl rfl rfl rfl (sv trivial) g_win (sv trivial) (se trivial) ⟨[⟨⟨bAnn, 2⟩, 2, ⟨#[99]⟩⟩], by simp, rfl, rfl⟩ rfl ?_
  rw [al5]
  refine go (And.intro hb0 (And.intro @tr1 (And.intro @tr2 (And.intro @al6 (And.intro @al7 (And.intro @al8 @encW.eq_1)))))) ?_
  refine x_callS rfl rfl rfl rfl (sv trivial) g_look (sv trivial) (se trivial) ⟨[⟨⟨bAnn, 1⟩, ⟨#[102]⟩, [⟨⟨bAnn, 2⟩, 2, ⟨#[99]⟩⟩]⟩], ⟨bAnn, 1⟩, ⟨#[102]⟩, by simp, by simp, rfl, rfl⟩ (by simp) (by simp [touchA, touch]) ?_
  rw [al4]
  refine go (And.intro hb0 (And.intro @tr1 (And.intro @tr2 (And.intro @al6 (And.intro @al7 @al8))))) ?_
  refine x_done (x_out (sr @Try.f9.eq_1) (by simp) (by simp) rfl)
end Go.Proofs.Ytgohmphhgglmbaa

set_option linter.unusedVariables false
set_option linter.unusedSimpArgs false
set_option maxRecDepth 100000
set_option maxHeartbeats 8000000
namespace Go.Proofs.Ytgohmphhgglmbaa
open Go Go.RowKit Am

def rEq (x y : Rgs) : Bool := (((x.id.a.toList == y.id.a.toList) && (x.id.n == y.id.n)) && (x.f.toList == y.f.toList)) && marksF x.w y.w
def sameF : List Rgs → List Rgs → Bool
  | [], [] => true
  | x :: a, y :: b => rEq x y && sameF a b
  | _, _ => false
theorem sameF_len : ∀ (a b : List Rgs), a.length ≠ b.length → sameF a b = false
  | [], [], h => by simp at h
  | [], y :: b, _ => rfl
  | x :: a, [], _ => rfl
  | x :: a, y :: b, h => by simp only [sameF]; rw [sameF_len a b (by simpa using h)]; simp
def sameS : Fspec := fun _ ds r => ∃ a b : List Rgs, a.length ≤ 1099511627776 ∧ b.length ≤ 1099511627776 ∧ (∀ x ∈ a, x.w.length ≤ 1099511627776) ∧ (∀ x ∈ b, x.w.length ≤ 1099511627776) ∧ ds = [.sl (a.map encR), .sl (b.map encR)] ∧ r = .s (.bool (sameF a b))
theorem same_sound {plain : TypeId → Bool} {Γ : FuncId → Option Fspec} {Δ : FuncId → Option Pt} (hE : EnvOk ⟨Try.prog, plain, Γ, Δ, fun _ => none, 0⟩) (hpl : plain 31 = true) (g_marks : Γ 19 = some marksS) : Sound Try.prog 12 sameS := by
  refine sound_of_awp hE Try.func12 rfl (by kernel_rfl) ?_
  rintro Φ ds r ⟨a, b, ha, hb, hwa, hwb, rfl, rfl⟩
  refine ⟨by simp [Try.f12], ?_⟩
  unfold st0
  refine W.out (E := ⟨Try.prog, plain, Γ, Δ, Φ, _⟩) ?_
  have hra := encR_rows a
  have hrb := encR_rows b
  by_cases hl : a.length = b.length
  · have hb : ((a.length : Int) != (b.length : Int)) = false := by simp [hl]
    refine go hb ?_
    refine x_loop (fun σ => ∃ i : Nat, i ≤ a.length ∧ σ.t 0 = .sl (a.map encR) ∧ σ.t 1 = .sl (b.map encR) ∧ σ.t 12 = .s (.int .i64 a.length) ∧ σ.t 13 = .s (.int .i64 i) ∧ sameF (a.drop i) (b.drop i) = sameF a b) (fun σ => a.length - ix (σ.t 13)) ⟨0, Nat.zero_le _, (sc trivial), (sc trivial), (sc trivial), (sc trivial), rfl⟩ ?_
    rintro t h n ⟨i, hi, h0, h1, h12, h13, hf⟩
    simp only at h0 h1 h12 h13
    refine go (And.intro h0 (And.intro h1 (And.intro h12 h13))) ?_
    refine x_condP (sv trivial) (fun hc => ?_) (fun hc => ?_)
    · have hi' : i < a.length := by omega
      have hi2 : i < b.length := by omega
      rw [List.drop_eq_getElem_cons hi', List.drop_eq_getElem_cons hi2, sameF] at hf
      cases e1 : ((a[i].id.a.toList == b[i].id.a.toList) && (a[i].id.n == b[i].id.n))
      · have hf' : sameF a b = false := by rw [← hf]; simp only [rEq, e1]; rfl
        refine go (And.intro h0 (And.intro h1 (And.intro h12 (And.intro h13 (And.intro hra (And.intro hrb (And.intro @encR.eq_1 (And.intro hpl e1)))))))) ?_
        refine x_done (x_out (sr (And.intro @Try.f12.eq_1 hf')) (by simp) (by simp) rfl)
      · cases e2 : (a[i].f.toList == b[i].f.toList)
        · have hf' : sameF a b = false := by rw [← hf]; simp only [rEq, e1, e2]; rfl
          refine go (And.intro h0 (And.intro h1 (And.intro h12 (And.intro h13 (And.intro hra (And.intro hrb (And.intro @encR.eq_1 (And.intro hpl (And.intro e1 e2))))))))) ?_
          refine x_done (x_out (sr (And.intro @Try.f12.eq_1 hf')) (by simp) (by simp) rfl)
        · refine go (And.intro h0 (And.intro h1 (And.intro h12 (And.intro h13 (And.intro hra (And.intro hrb (And.intro @encR.eq_1 (And.intro hpl (And.intro e1 e2))))))))) ?_
          refine x_callD rfl rfl rfl rfl rfl (sv trivial) g_marks (sv trivial) (se trivial) ⟨a[i].w, b[i].w, hwa _ (List.getElem_mem hi'), hwb _ (List.getElem_mem hi2), rfl, rfl⟩ rfl ?_
          cases e3 : marksF a[i].w b[i].w
          · have hf' : sameF a b = false := by rw [← hf]; simp only [rEq, e1, e2, e3]; rfl
            refine go (And.intro h0 (And.intro h1 (And.intro h12 (And.intro h13 e3)))) ?_
            refine x_done (x_out (sr (And.intro @Try.f12.eq_1 hf')) (by simp) (by simp) rfl)
          · refine go (And.intro h0 (And.intro h1 (And.intro h12 (And.intro h13 e3)))) ?_
            refine ⟨⟨i + 1, by omega, (sc h0), (sc h1), (sc h12), (sc (And.intro h13 @cast_succ)), by rw [← hf]; simp only [rEq, e1, e2, e3]; simp⟩, ?_⟩
            exact so h13
    · have e : i = a.length := by omega
      subst e
      rw [List.drop_length, hl, List.drop_length] at hf
      refine go (And.intro h0 (And.intro h1 (And.intro h12 h13))) ?_
      have hf' : sameF a b = true := by rw [← hf]; rfl
      refine x_done (x_out (sr (And.intro @Try.f12.eq_1 hf')) (by simp) (by simp) rfl)
  · have hb : ((a.length : Int) != (b.length : Int)) = true := by simp; omega
    refine go hb ?_
    refine x_done (x_out (sr (And.intro @Try.f12.eq_1 ((sameF_len a b hl)))) (by simp) (by simp) rfl)
end Go.Proofs.Ytgohmphhgglmbaa

set_option linter.unusedVariables false
set_option linter.unusedSimpArgs false
set_option maxRecDepth 100000
set_option maxHeartbeats 4000000
namespace Go.Proofs.Ytgohmphhgglmbaa
open Go Go.RowKit Am

/-- A byte at a place, as a number. -/
def bAt (s : ByteArray) (i : Nat) : Int := ((byteAt s i).toNat : Int)
def badAt (s : ByteArray) (i : Nat) : Bool := !(decide (97 ≤ bAt s i) && decide (bAt s i ≤ 122)) && (decide (i = 0) || (decide (bAt s i < 48) || decide (57 < bAt s i)))
/-- The first n places from i on are good. -/
def goodFrom (s : ByteArray) : Nat → Nat → Bool
  | 0, _ => true
  | n + 1, i => !badAt s i && goodFrom s n (i + 1)
def authF (s : ByteArray) : Bool := goodFrom s s.size 0 && (decide (0 < (s.size : Int)) && decide ((s.size : Int) ≤ 24))
def authS : Fspec := fun _ ds r => ∃ s : ByteArray, s.size ≤ 1099511627776 ∧ ds = [.s (.string s)] ∧ r = .s (.bool (authF s))
theorem auth_sound {plain : TypeId → Bool} {Γ : FuncId → Option Fspec} {Δ : FuncId → Option Pt} (hE : EnvOk ⟨Try.prog, plain, Γ, Δ, fun _ => none, 0⟩) : Sound Try.prog 38 authS := by
  refine sound_of_awp hE Try.func38 rfl (by kernel_rfl) ?_
  rintro Φ ds r ⟨s, hs, rfl, rfl⟩
  refine ⟨by simp [Try.f38], ?_⟩
  unfold st0
  refine W.out (E := ⟨Try.prog, plain, Γ, Δ, Φ, _⟩) ?_
  refine go trivial ?_
  refine x_loop (fun σ => ∃ i : Nat, i ≤ s.size ∧ σ.t 0 = .s (.string s) ∧ σ.t 3 = .s (.int .i64 i) ∧ goodFrom s (s.size - i) i = goodFrom s s.size 0) (fun σ => s.size - ix (σ.t 3)) ⟨0, Nat.zero_le _, (sc trivial), (sc trivial), rfl⟩ ?_
  rintro t h n ⟨i, hi, h0, h3, hf⟩
  simp only at h0 h3
  refine go (And.intro h0 h3) ?_
  refine x_condP (sv trivial) (fun hc => ?_) (fun hc => ?_)
  · have hi' : i < s.size := by omega
    obtain ⟨m, hm⟩ : ∃ m, s.size - i = m + 1 := ⟨s.size - i - 1, by omega⟩
    rw [hm, goodFrom] at hf
    have e0 : ((i : Int) == 0) = decide (i = 0) := by rw [beq_eq_decide]; simp
    have eb : ((byteAt s i).toNat : Int) = bAt s i := rfl
    by_cases c1 : 97 ≤ bAt s i
    · by_cases c2 : bAt s i ≤ 122
      · have hb : badAt s i = false := by simp [badAt, c1, c2]
        rw [hb] at hf
        refine go (And.intro h0 (And.intro h3 (And.intro e0 (And.intro eb (And.intro c1 c2))))) ?_
        refine ⟨⟨i + 1, by omega, (sc h0), (sc (And.intro h3 @cast_succ)), by rw [show s.size - (i + 1) = m by omega]; simpa using hf⟩, ?_⟩
        exact so h3
      · skip
        by_cases c3 : i = 0
        · have c3' : (i = 0) = True := by simp [c3]
          · have hb : badAt s i = true := by simp [badAt, c1, c2, c3']
            rw [hb] at hf
            have hz : authF s = false := by simp only [authF, ← hf]; rfl
            refine go (And.intro h0 (And.intro h3 (And.intro e0 (And.intro eb (And.intro c1 (And.intro c2 c3')))))) ?_
            refine x_done (x_out (sr (And.intro @Try.f38.eq_1 hz)) (by simp) (by simp) rfl)
        · have c3' : (i = 0) = False := by simp [c3]
          by_cases c4 : bAt s i < 48
          · exact (by omega : False).elim
          · by_cases c5 : 57 < bAt s i
            · have hb : badAt s i = true := by simp [badAt, c1, c2, c3', c4, c5]
              rw [hb] at hf
              have hz : authF s = false := by simp only [authF, ← hf]; rfl
              refine go (And.intro h0 (And.intro h3 (And.intro e0 (And.intro eb (And.intro c1 (And.intro c2 (And.intro c3' (And.intro c4 c5)))))))) ?_
              refine x_done (x_out (sr (And.intro @Try.f38.eq_1 hz)) (by simp) (by simp) rfl)
            · exact (by omega : False).elim
    · skip
      by_cases c3 : i = 0
      · have c3' : (i = 0) = True := by simp [c3]
        · have hb : badAt s i = true := by simp [badAt, c1, c3']
          rw [hb] at hf
          have hz : authF s = false := by simp only [authF, ← hf]; rfl
          refine go (And.intro h0 (And.intro h3 (And.intro e0 (And.intro eb (And.intro c1 c3'))))) ?_
          refine x_done (x_out (sr (And.intro @Try.f38.eq_1 hz)) (by simp) (by simp) rfl)
      · have c3' : (i = 0) = False := by simp [c3]
        by_cases c4 : bAt s i < 48
        · have hb : badAt s i = true := by simp [badAt, c1, c3', c4]
          rw [hb] at hf
          have hz : authF s = false := by simp only [authF, ← hf]; rfl
          refine go (And.intro h0 (And.intro h3 (And.intro e0 (And.intro eb (And.intro c1 (And.intro c3' c4)))))) ?_
          refine x_done (x_out (sr (And.intro @Try.f38.eq_1 hz)) (by simp) (by simp) rfl)
        · by_cases c5 : 57 < bAt s i
          · have hb : badAt s i = true := by simp [badAt, c1, c3', c4, c5]
            rw [hb] at hf
            have hz : authF s = false := by simp only [authF, ← hf]; rfl
            refine go (And.intro h0 (And.intro h3 (And.intro e0 (And.intro eb (And.intro c1 (And.intro c3' (And.intro c4 c5))))))) ?_
            refine x_done (x_out (sr (And.intro @Try.f38.eq_1 hz)) (by simp) (by simp) rfl)
          · have hb : badAt s i = false := by simp [badAt, c1, c3', c4, c5]
            rw [hb] at hf
            refine go (And.intro h0 (And.intro h3 (And.intro e0 (And.intro eb (And.intro c1 (And.intro c3' (And.intro c4 c5))))))) ?_
            refine ⟨⟨i + 1, by omega, (sc h0), (sc (And.intro h3 @cast_succ)), by rw [show s.size - (i + 1) = m by omega]; simpa using hf⟩, ?_⟩
            exact so h3
  · have e : i = s.size := by omega
    subst e
    rw [Nat.sub_self, goodFrom] at hf
    by_cases d1 : 0 < (s.size : Int)
    · refine go (And.intro h0 (And.intro h3 d1)) ?_
      refine x_done (x_out (sr (And.intro @Try.f38.eq_1 (And.intro @authF.eq_1 (And.intro (hf).symm d1)))) (by simp) (by simp) rfl)
    · refine go (And.intro h0 (And.intro h3 d1)) ?_
      refine x_done (x_out (sr (And.intro @Try.f38.eq_1 (And.intro @authF.eq_1 (And.intro (hf).symm d1)))) (by simp) (by simp) rfl)
end Go.Proofs.Ytgohmphhgglmbaa

set_option linter.unusedVariables false
set_option linter.unusedSimpArgs false
set_option maxRecDepth 100000
set_option maxHeartbeats 8000000
namespace Go.Proofs.Ytgohmphhgglmbaa
open Go Go.RowKit Am

def idAt (v : List Idt) (i : Nat) : Idt := v[i]?.getD ⟨⟨#[]⟩, 0⟩
theorem idAt_lt (v : List Idt) {i : Nat} (h : i < v.length) : idAt v i = v[i] := by simp [idAt, h]
def chkAt (v : List Idt) (i : Nat) : Int :=
  if authF (idAt v i).a = false then 7 else if (idAt v i).n < 1 then 2 else
  if (decide (0 < i) && ((idAt v i).a.toList == (idAt v (i - 1)).a.toList)) = true then 8 else
  if (decide (0 < i) && Op.bytesLess (idAt v i).a.toList (idAt v (i - 1)).a.toList) = true then 3 else 0
def chkFrom (v : List Idt) : Nat → Nat → Int
  | 0, _ => 0
  | m + 1, i => if chkAt v i = 0 then chkFrom v m (i + 1) else chkAt v i
def chkF (v : List Idt) : Int := chkFrom v v.length 0
def chkS : Fspec := fun _ ds r => ∃ v : List Idt, v.length ≤ 1099511627776 ∧ (∀ x ∈ v, x.a.size ≤ 1099511627776) ∧ ds = [encIds v] ∧ r = .s (.int .i64 (chkF v))
theorem chk_sound {plain : TypeId → Bool} {Γ : FuncId → Option Fspec} {Δ : FuncId → Option Pt} (hE : EnvOk ⟨Try.prog, plain, Γ, Δ, fun _ => none, 0⟩) (g_auth : Γ 38 = some authS) : Sound Try.prog 25 chkS := by
  refine sound_of_awp hE Try.func25 rfl (by kernel_rfl) ?_
  rintro Φ ds r ⟨v, hv, hs, rfl, rfl⟩
  refine ⟨by simp [Try.f25], ?_⟩
  unfold st0 encIds
  refine W.out (E := ⟨Try.prog, plain, Γ, Δ, Φ, _⟩) ?_
  have hr := encId_rows v
  refine go trivial ?_
  refine x_loop (fun σ => ∃ i : Nat, i ≤ v.length ∧ σ.t 0 = .sl (v.map encId) ∧ σ.t 3 = .s (.int .i64 i) ∧ chkFrom v (v.length - i) i = chkFrom v v.length 0) (fun σ => v.length - ix (σ.t 3)) ⟨0, Nat.zero_le _, (sc trivial), (sc trivial), rfl⟩ ?_
  rintro t h n ⟨i, hi, h0, h3, hf⟩
  simp only at h0 h3
  refine go (And.intro h0 h3) ?_
  refine x_condP (sv trivial) (fun hc => ?_) (fun hc => ?_)
  · have hi' : i < v.length := by omega
    obtain ⟨m, hm⟩ : ∃ m, v.length - i = m + 1 := ⟨v.length - i - 1, by omega⟩
    rw [hm, chkFrom] at hf
    refine go (And.intro h0 (And.intro h3 (And.intro hr @encId.eq_1))) ?_
    refine x_callN rfl rfl rfl rfl (sv trivial) g_auth (sv trivial) (se trivial) ⟨v[i].a, hs _ (List.getElem_mem hi'), rfl, rfl⟩ rfl ?_
    have hat := idAt_lt v hi'
    have bad : ∀ q : Int, chkAt v i = q → q ≠ 0 → chkF v = q := fun q h1 h2 => by rw [h1, if_neg h2] at hf; exact hf.symm
    have good : chkAt v i = 0 → chkFrom v (v.length - (i + 1)) (i + 1) = chkFrom v v.length 0 := fun h1 => by rw [h1, if_pos rfl] at hf; rw [show v.length - (i + 1) = m by omega]; exact hf
    cases a1 : authF v[i].a
    · have hz := bad 7 (by simp [chkAt, hat, a1]) (by decide)
      refine go (And.intro h0 (And.intro h3 (And.intro hr (And.intro @encId.eq_1 a1)))) ?_
      refine x_done (x_out (sr (And.intro @Try.f25.eq_1 hz)) (by simp) (by simp) rfl)
    · by_cases a2 : v[i].n < 1
      · have hz := bad 2 (by simp [chkAt, hat, a1, a2]) (by decide)
        refine go (And.intro h0 (And.intro h3 (And.intro hr (And.intro @encId.eq_1 (And.intro a1 a2))))) ?_
        refine x_done (x_out (sr (And.intro @Try.f25.eq_1 hz)) (by simp) (by simp) rfl)
      · by_cases a3 : 0 < i
        · have a3' : (0 < (i : Int)) = True := by simp; omega
          have ej : (i : Int) - 1 = ((i - 1 : Nat) : Int) := by omega
          have hj' : i - 1 < v.length := by omega
          have hjt := idAt_lt v hj'
          cases a4 : (v[i].a.toList == v[i - 1].a.toList)
          · cases a5 : Op.bytesLess v[i].a.toList v[i - 1].a.toList
            · have hz := good (by simp only [chkAt, hat, hjt, a1, a2, a4, a5]; simp)
              refine go (And.intro h0 (And.intro h3 (And.intro hr (And.intro @encId.eq_1 (And.intro a1 (And.intro a2 (And.intro a3' (And.intro ej (And.intro a4 a5))))))))) ?_
              refine ⟨⟨i + 1, by omega, (sc h0), (sc (And.intro h3 @cast_succ)), hz⟩, ?_⟩
              exact so h3
            · have hz := bad 3 (by simp only [chkAt, hat, hjt, a1, a2, a4, a5]; simp [a3]) (by decide)
              refine go (And.intro h0 (And.intro h3 (And.intro hr (And.intro @encId.eq_1 (And.intro a1 (And.intro a2 (And.intro a3' (And.intro ej (And.intro a4 a5))))))))) ?_
              refine x_done (x_out (sr (And.intro @Try.f25.eq_1 hz)) (by simp) (by simp) rfl)
          · have hz := bad 8 (by simp only [chkAt, hat, hjt, a1, a2, a4]; simp [a3]) (by decide)
            refine go (And.intro h0 (And.intro h3 (And.intro hr (And.intro @encId.eq_1 (And.intro a1 (And.intro a2 (And.intro a3' (And.intro ej a4)))))))) ?_
            refine x_done (x_out (sr (And.intro @Try.f25.eq_1 hz)) (by simp) (by simp) rfl)
        · have a3' : (0 < (i : Int)) = False := by simp; omega
          have hz := good (by simp only [chkAt, hat, a1, a2]; simp [a3])
          refine go (And.intro h0 (And.intro h3 (And.intro hr (And.intro @encId.eq_1 (And.intro a1 (And.intro a2 a3')))))) ?_
          refine ⟨⟨i + 1, by omega, (sc h0), (sc (And.intro h3 @cast_succ)), hz⟩, ?_⟩
          exact so h3
  · have e : i = v.length := by omega
    subst e
    rw [Nat.sub_self, chkFrom] at hf
    have hz : chkF v = 0 := hf.symm
    refine go (And.intro h0 h3) ?_
    refine x_done (x_out (sr (And.intro @Try.f25.eq_1 hz)) (by simp) (by simp) rfl)
end Go.Proofs.Ytgohmphhgglmbaa

set_option linter.unusedVariables false
set_option linter.unusedSimpArgs false
set_option maxRecDepth 100000
set_option maxHeartbeats 4000000
namespace Go.Proofs.Ytgohmphhgglmbaa
open Go Go.RowKit Am

theorem encE_rows (v : List Edt) : (∀ r ∈ v.map encE, r.length = 18) = True := rows_map _ _ _ fun _ => rfl
def fineE (e : Edt) : Bool := (decide ((e.field.size : Int) + (e.value.size : Int) ≤ 500) && decide ((e.deps.length : Int) ≤ 12)) && (chkF e.deps == 0)
def fineF (l : List Edt) : Bool := l.all fineE && decide ((l.length : Int) ≤ 30)
def fineS : Fspec := fun _ ds r => ∃ l : List Edt, l.length ≤ 1099511627776 ∧ (∀ e ∈ l, e.field.size ≤ 1099511627776 ∧ e.value.size ≤ 1099511627776 ∧ e.deps.length ≤ 1099511627776 ∧ ∀ x ∈ e.deps, x.a.size ≤ 1099511627776) ∧ ds = [.sl (l.map encE)] ∧ r = .s (.bool (fineF l))
theorem fine_sound {plain : TypeId → Bool} {Γ : FuncId → Option Fspec} {Δ : FuncId → Option Pt} (hE : EnvOk ⟨Try.prog, plain, Γ, Δ, fun _ => none, 0⟩) (g_chk : Γ 25 = some chkS) : Sound Try.prog 11 fineS := by
  refine sound_of_awp hE Try.func11 rfl (by kernel_rfl) ?_
  rintro Φ ds r ⟨v, hv, hs, rfl, rfl⟩
  refine ⟨by simp [Try.f11], ?_⟩
  unfold st0
  refine W.out (E := ⟨Try.prog, plain, Γ, Δ, Φ, _⟩) ?_
  have hr := encE_rows v
  refine go trivial ?_
  refine x_loop (fun σ => ∃ i : Nat, i ≤ v.length ∧ σ.t 0 = .sl (v.map encE) ∧ σ.t 5 = .sl (v.map encE) ∧ σ.t 6 = .s (.int .i64 v.length) ∧ σ.t 7 = .s (.int .i64 i) ∧ (v.drop i).all fineE = v.all fineE) (fun σ => v.length - ix (σ.t 7)) ⟨0, Nat.zero_le _, (sc trivial), (sc trivial), (sc trivial), (sc trivial), rfl⟩ ?_
  rintro t h n ⟨i, hi, h0, h5, h6, h7, hf⟩
  simp only at h0 h5 h6 h7
  refine go (And.intro h0 (And.intro h5 (And.intro h6 h7))) ?_
  refine x_condP (sv trivial) (fun hc => ?_) (fun hc => ?_)
  · have hi' : i < v.length := by omega
    obtain ⟨b1, b2, b3, b4⟩ := hs _ (List.getElem_mem hi')
    rw [List.drop_eq_getElem_cons hi', List.all_cons] at hf
    by_cases c1 : 500 < (v[i].field.size : Int) + (v[i].value.size : Int)
    · have c1' : ¬ ((v[i].field.size : Int) + (v[i].value.size : Int) ≤ 500) := by omega
      have hz : fineF v = false := by simp only [fineF, ← hf, fineE, c1']; simp
      refine go (And.intro h0 (And.intro h5 (And.intro h6 (And.intro h7 (And.intro hr (And.intro @encE.eq_1 c1)))))) ?_
      refine x_done (x_out (sr (And.intro @Try.f11.eq_1 hz)) (by simp) (by simp) rfl)
    · have c1' : (v[i].field.size : Int) + (v[i].value.size : Int) ≤ 500 := by omega
      by_cases c2 : 12 < (v[i].deps.length : Int)
      · have c2' : ¬ ((v[i].deps.length : Int) ≤ 12) := by omega
        have hz : fineF v = false := by simp only [fineF, ← hf, fineE, c2']; simp
        refine go (And.intro h0 (And.intro h5 (And.intro h6 (And.intro h7 (And.intro hr (And.intro @encE.eq_1 (And.intro c1 c2))))))) ?_
        refine x_done (x_out (sr (And.intro @Try.f11.eq_1 hz)) (by simp) (by simp) rfl)
      · have c2' : (v[i].deps.length : Int) ≤ 12 := by omega
        refine go (And.intro h0 (And.intro h5 (And.intro h6 (And.intro h7 (And.intro hr (And.intro @encE.eq_1 (And.intro c1 c2))))))) ?_
        refine x_callN rfl rfl rfl rfl (sv trivial) g_chk (sv trivial) (se trivial) ⟨v[i].deps, b3, b4, rfl, rfl⟩ rfl ?_
        by_cases c3 : chkF v[i].deps = 0
        · have c4 : (chkF v[i].deps != 0) = false := by simp [c3]
          refine go (And.intro h0 (And.intro h5 (And.intro h6 (And.intro h7 (And.intro hr (And.intro @encE.eq_1 c4)))))) ?_
          refine ⟨⟨i + 1, by omega, (sc h0), (sc h5), (sc h6), (sc (And.intro h7 @cast_succ)), by rw [← hf]; simp [fineE, c1', c2', c3]⟩, ?_⟩
          exact so h7
        · have c4 : (chkF v[i].deps != 0) = true := by simp [c3]
          have hz : fineF v = false := by simp only [fineF, ← hf, fineE]; simp [c3]
          refine go (And.intro h0 (And.intro h5 (And.intro h6 (And.intro h7 (And.intro hr (And.intro @encE.eq_1 c4)))))) ?_
          refine x_done (x_out (sr (And.intro @Try.f11.eq_1 hz)) (by simp) (by simp) rfl)
  · have e : i = v.length := by omega
    subst e
    rw [List.drop_length] at hf
    refine go (And.intro h0 (And.intro h5 (And.intro h6 h7))) ?_
    refine x_done (x_out (sr (And.intro @Try.f11.eq_1 (And.intro @fineF.eq_1 (hf).symm))) (by simp) (by simp) rfl)
end Go.Proofs.Ytgohmphhgglmbaa

set_option linter.unusedVariables false
set_option linter.unusedSimpArgs false
set_option maxRecDepth 100000
set_option maxHeartbeats 16000000
namespace Go.Proofs.Ytgohmphhgglmbaa
open Go Go.RowKit Am

theorem wOk_at (w : List Wrt) : ∀ (n k : Nat), wOkF w n k = true → ∀ j, k ≤ j → j < k + n → wBad w j = false ∧ wDup w j = false
  | 0, k, _, j, h1, h2 => by omega
  | n + 1, k, h, j, h1, h2 => by
    simp only [wOkF, Bool.and_eq_true, Bool.not_eq_true'] at h
    by_cases hj : j = k
    · subst hj; exact h.1
    · exact wOk_at w n (k + 1) h.2 j (by omega) (by omega)
theorem rOk_at (l : List Rgs) : ∀ (n i : Nat), rOkF l n i = true → ∀ j, i ≤ j → j < i + n → rBad l j = false ∧ wOkF (rAt l j).w (rAt l j).w.length 0 = true
  | 0, k, _, j, h1, h2 => by omega
  | n + 1, k, h, j, h1, h2 => by
    simp only [rOkF, Bool.and_eq_true, Bool.not_eq_true'] at h
    by_cases hj : j = k
    · subst hj; exact h.1
    · exact rOk_at l n (k + 1) h.2 j (by omega) (by omega)
/-- What 'Right' says of its registers. -/
structure RightP (l : List Rgs) : Prop where
  len : l.length ≤ 30
  bad : ∀ j, j < l.length → rBad l j = false
  wok : ∀ j, j < l.length → wOkF (rAt l j).w (rAt l j).w.length 0 = true
theorem right_p {l : List Rgs} (h : (rightF l == 0) = false) : RightP l := by
  have h30 : ¬ 30 < (l.length : Int) := fun h1 => by simp [rightF, h1] at h
  have hok : rOkF l l.length 0 = true := by
    cases hb : rOkF l l.length 0
    · simp [rightF, h30, hb] at h
    · rfl
  have := rOk_at l l.length 0 hok
  exact ⟨by omega, fun j hj => (this j (Nat.zero_le _) (by omega)).1, fun j hj => (this j (Nat.zero_le _) (by omega)).2⟩
theorem RightP.small {l : List Rgs} (h : RightP l) : smallR 30 l := by
  refine ⟨h.len, fun x hx => ?_⟩
  obtain ⟨j, hj, rfl⟩ := List.getElem_of_mem hx
  have := h.bad j hj
  rw [rBad, rAt_lt hj] at this
  simp only [Bool.or_eq_false_iff, decide_eq_false_iff_not] at this
  omega
theorem fine_small {es : List Edt} (h : fineF es = true) : es.length ≤ 30 ∧ ∀ e ∈ es, e.deps.length ≤ 12 := by
  simp only [fineF, fineE, Bool.and_eq_true, List.all_eq_true, decide_eq_true_eq] at h
  exact ⟨by omega, fun e he => by have := (h.1 e he).1.2; omega⟩
theorem app_small {B : Nat} : ∀ (es : List Edt) {l : List Rgs}, smallR B l → smallR (B + es.length) (appF l es)
  | [], l, h => h
  | e :: es, l, h => by
    have := app_small (B := B + 1) es (step_small e h)
    have e1 : B + (e :: es).length = B + 1 + es.length := by simp; omega
    rw [e1]
    exact this
theorem smallR.mono {B C : Nat} {l : List Rgs} (h : smallR B l) (hc : B ≤ C) : smallR C l := ⟨Nat.le_trans h.1 hc, fun x hx => Nat.le_trans (h.2 x hx) hc⟩
theorem marksF_refl' : ∀ w : List Wrt, marksF w w = true
  | [] => rfl
  | x :: w => by simp [marksF, eqW, marksF_refl' w]
theorem sameF_refl : ∀ l : List Rgs, sameF l l = true
  | [] => rfl
  | x :: l => by simp [sameF, rEq, marksF_refl', sameF_refl l]
theorem appF_append (l : List Rgs) (a b : List Edt) : appF (appF l a) b = appF l (a ++ b) := (List.foldl_append).symm
def isSet (e : Edt) : Bool := e.kind == 3
theorem appF_filter : ∀ (es : List Edt) (l : List Rgs), appF l (es.filter isSet) = appF l es
  | [], l => rfl
  | e :: es, l => by
    cases hk : isSet e
    · have : stepF l e = l := by simp only [isSet] at hk; simp [stepF, hk]
      rw [List.filter_cons, hk]
      simp only [Bool.false_eq_true, if_false]
      rw [appF_filter es l]
      show _ = appF (stepF l e) es
      rw [this]
    · rw [List.filter_cons, hk]
      simp only [if_true]
      exact appF_filter es (stepF l e)
end Go.Proofs.Ytgohmphhgglmbaa

set_option linter.unusedVariables false
set_option linter.unusedSimpArgs false
namespace Go.Proofs.Ytgohmphhgglmbaa
open Go Go.RowKit Am

/-- A comparison that answers xs an order of keys does. -/
structure OrdC {α κ : Type} (key : α → κ) (c : α → α → Int) : Prop where
  z : ∀ a b, c a b = 0 ↔ key a = key b
  an : ∀ a b, c a b < 0 ↔ 0 < c b a
  tr : ∀ a b d, c a b < 0 → c b d < 0 → c a d < 0
namespace OrdC
variable {α κ : Type} {key : α → κ} {c : α → α → Int}
theorem congL (o : OrdC key c) {a b : α} (d : α) (h : key a = key b) (h1 : c b d < 0) : c a d < 0 := by
  have hz := (o.z a b).2 h
  have hz2 := (o.z b a).2 h.symm
  rcases Int.lt_trichotomy (c a d) 0 with h2 | h2 | h2
  · exact h2
  · have := (o.z a d).1 h2
    have := (o.z b d).2 (h.symm.trans this)
    omega
  · have h3 := (o.an d a).2 h2
    have := o.tr b d a h1 h3
    omega
theorem congR (o : OrdC key c) {a b : α} (d : α) (h : key a = key b) (h1 : c d b < 0) : c d a < 0 := by
  have hz2 := (o.z b a).2 h.symm
  rcases Int.lt_trichotomy (c d a) 0 with h2 | h2 | h2
  · exact h2
  · have := (o.z d a).1 h2
    have := (o.z d b).2 (this.trans h)
    omega
  · have h3 := (o.an a d).2 h2
    have := o.tr a d b h3 h1
    have := (o.z a b).2 h
    omega
theorem comap {β : Type} (o : OrdC key c) (f : β → α) : OrdC (fun x => key (f x)) (fun x y => c (f x) (f y)) :=
  ⟨fun a b => o.z _ _, fun a b => o.an _ _, fun a b d => o.tr _ _ _⟩
theorem lex {κ' : Type} {key' : α → κ'} {c' : α → α → Int} (o : OrdC key c) (o' : OrdC key' c') : OrdC (fun x => (key x, key' x)) (fun x y => orF [c x y, c' x y]) := by
  have e : ∀ x y, orF [c x y, c' x y] = if c x y = 0 then c' x y else c x y := by
    intro x y
    simp only [orF]
    split
    · split <;> simp_all
    · rfl
  refine ⟨fun a b => ?_, fun a b => ?_, fun a b d => ?_⟩
  · simp only [e, Prod.mk.injEq, ← o.z, ← o'.z]
    split <;> simp_all
  · have h1 := o.an a b; have h2 := o.an b a; have h3 := o'.an a b
    simp only [e]
    by_cases h : c a b = 0
    · have h4 : c b a = 0 := by omega
      simp [h, h4, h3]
    · have h4 : ¬ c b a = 0 := by omega
      simp [h, h4, h1]
  · simp only [e]
    intro h1 h2
    by_cases ha : c a b = 0
    · rw [if_pos ha] at h1
      by_cases hb : c b d = 0
      · rw [if_pos hb] at h2
        have hk := ((o.z a b).1 ha).trans ((o.z b d).1 hb)
        rw [if_pos ((o.z a d).2 hk)]
        exact o'.tr a b d h1 h2
      · rw [if_neg hb] at h2
        have := o.congL d ((o.z a b).1 ha) h2
        rw [if_neg (by omega)]
        exact this
    · rw [if_neg ha] at h1
      by_cases hb : c b d = 0
      · have := o.congR a ((o.z b d).1 hb).symm h1
        rw [if_neg (by omega)]
        exact this
      · rw [if_neg hb] at h2
        have := o.tr a b d h1 h2
        rw [if_neg (by omega)]
        exact this
end OrdC
theorem cmpBytes_z : ∀ a b : List UInt8, Lib.compareBytes a b = 0 ↔ a = b
  | [], [] => by simp [Lib.compareBytes]
  | [], b :: bs => by simp [Lib.compareBytes]
  | a :: xs, [] => by simp [Lib.compareBytes]
  | a :: xs, b :: bs => by
    simp only [Lib.compareBytes, List.cons.injEq]
    split
    · rename_i h
      have : a ≠ b := by rintro rfl; simp at h
      simp [this]
    · split
      · rename_i h
        have : a ≠ b := by rintro rfl; simp at h
        simp [this]
      · rename_i h1 h2
        have : a = b := UInt8.le_antisymm (UInt8.not_lt.1 h2) (UInt8.not_lt.1 h1)
        simp [this, cmpBytes_z xs bs]
theorem cmpBytes_as : ∀ a b : List UInt8, Lib.compareBytes a b < 0 ↔ 0 < Lib.compareBytes b a
  | [], [] => by simp [Lib.compareBytes]
  | [], b :: bs => by simp [Lib.compareBytes]
  | a :: xs, [] => by simp [Lib.compareBytes]
  | a :: xs, b :: bs => by
    simp only [Lib.compareBytes]
    by_cases h1 : a < b
    · have h2 : ¬ b < a := UInt8.not_lt.2 (UInt8.le_of_lt h1)
      simp [h1, h2]
    · by_cases h2 : b < a
      · simp [h1, h2]
      · simp [h1, h2, cmpBytes_as xs bs]
theorem cmpBytes_tr : ∀ a b d : List UInt8, Lib.compareBytes a b < 0 → Lib.compareBytes b d < 0 → Lib.compareBytes a d < 0
  | _, _, [], _, h => by rename_i b _; cases b <;> simp [Lib.compareBytes] at h
  | [], _, d :: ds, _, _ => by simp [Lib.compareBytes]
  | a :: xs, [], d :: ds, h, _ => by simp [Lib.compareBytes] at h
  | a :: xs, b :: bs, d :: ds, h1, h2 => by
    simp only [Lib.compareBytes] at h1 h2 ⊢
    by_cases hab : a < b
    · by_cases hbd : b < d
      · have : a < d := UInt8.lt_trans hab hbd
        simp [this]
      · by_cases hdb : d < b
        · simp [hbd, hdb] at h2
        · have e : b = d := UInt8.le_antisymm (UInt8.not_lt.1 hdb) (UInt8.not_lt.1 hbd)
          subst e
          simp [hab]
    · by_cases hba : b < a
      · simp [hab, hba] at h1
      · have e : a = b := UInt8.le_antisymm (UInt8.not_lt.1 hba) (UInt8.not_lt.1 hab)
        subst e
        simp only [hab, if_false] at h1
        by_cases had : a < d
        · simp [had]
        · by_cases hda : d < a
          · simp [had, hda] at h2
          · simp only [had, hda, if_false] at h2 ⊢
            exact cmpBytes_tr xs bs ds h1 h2
theorem ordB : OrdC (fun a : ByteArray => a) cmpB := ⟨fun a b => by rw [cmpB, cmpBytes_z]; exact ⟨Go.WideShapes.bytes_inj, fun h => by rw [h]⟩, fun a b => cmpBytes_as _ _, fun a b d => cmpBytes_tr _ _ _⟩
theorem ordI : OrdC (fun a : Int => a) cmpI := ⟨fun a b => by unfold cmpI; constructor <;> intro h <;> (try split at h) <;> (try split at h) <;> (try split) <;> (try split) <;> omega, fun a b => by unfold cmpI; constructor <;> intro h <;> (try split at h) <;> (try split at h) <;> (try split) <;> (try split) <;> omega, fun a b d h1 h2 => by unfold cmpI at *; (try split at h1) <;> (try split at h1) <;> (try split at h2) <;> (try split at h2) <;> (try split) <;> (try split) <;> omega⟩
theorem ordId : OrdC (fun x : Idt => (x.a, x.n)) cmpId := (ordB.comap Idt.a).lex (ordI.comap Idt.n)
theorem ordReg : OrdC (fun x : Rgs => ((x.id.a, x.id.n), x.f)) cmpReg := (ordId.comap Rgs.id).lex (ordB.comap Rgs.f)
theorem ordW : OrdC (fun x : Wrt => (x.c, (x.id.a, x.id.n))) cmpW := (ordI.comap Wrt.c).lex (ordId.comap Wrt.id)
end Go.Proofs.Ytgohmphhgglmbaa

set_option linter.unusedVariables false
set_option linter.unusedSimpArgs false
namespace Go.Proofs.Ytgohmphhgglmbaa
open Go Go.RowKit Am

theorem bsF_eq (c : Nat → Int) (p : Nat) : ∀ (d i j : Nat), j - i ≤ d → i ≤ p → p ≤ j → (∀ k, i ≤ k → k < p → c k < 0) → (∀ k, p ≤ k → k < j → ¬ c k < 0) → bsF c i j = p
  | 0, i, j, hd, h1, h2, _, _ => by
    rw [bsF, if_neg (by omega)]
    omega
  | d + 1, i, j, hd, h1, h2, h3, h4 => by
    rw [bsF]
    split
    · rename_i hij
      split
      · rename_i hc
        have : (i + j) / 2 < p := by
          rcases Nat.lt_or_ge ((i + j) / 2) p with h | h
          · exact h
          · exact absurd hc (h4 _ h (by omega))
        exact bsF_eq c p d _ _ (by omega) (by omega) h2 (fun k k1 k2 => h3 k (by omega) k2) h4
      · rename_i hc
        have : p ≤ (i + j) / 2 := by
          rcases Nat.lt_or_ge ((i + j) / 2) p with h | h
          · exact absurd (h3 _ (by omega) h) hc
          · exact h
        exact bsF_eq c p d _ _ (by omega) h1 this h3 (fun k k1 k2 => h4 k k1 (by omega))
    · omega
theorem bsF_lb (c : Nat → Int) (n : Nat) (mono : ∀ k m, k ≤ m → m < n → c m < 0 → c k < 0) : ∀ (d i j : Nat), j - i ≤ d → i ≤ j → j ≤ n → (∀ k, k < i → c k < 0) → (∀ k, j ≤ k → k < n → ¬ c k < 0) → (∀ k, k < bsF c i j → c k < 0) ∧ (∀ k, bsF c i j ≤ k → k < n → ¬ c k < 0)
  | 0, i, j, hd, h1, h2, h3, h4 => by
    rw [bsF, if_neg (by omega)]
    exact ⟨h3, fun k k1 => h4 k (by omega)⟩
  | d + 1, i, j, hd, h1, h2, h3, h4 => by
    rw [bsF]
    split
    · rename_i hij
      split
      · rename_i hc
        exact bsF_lb c n mono d _ _ (by omega) (by omega) h2 (fun k k1 => mono k _ (by omega) (by omega) hc) h4
      · rename_i hc
        exact bsF_lb c n mono d _ _ (by omega) (by omega) (by omega) h3 (fun k k1 k2 h => hc (mono _ k k1 k2 h))
    · exact ⟨h3, fun k k1 => h4 k (by omega)⟩
def Srt (L : List Rgs) : Prop := ∀ i j, i < j → j < L.length → cmpReg (rAt L i) (rAt L j) < 0
theorem cAt_rAt (g : Rgs → Int) {L : List Rgs} {k : Nat} (h : k < L.length) : cAt g L k = g (rAt L k) := by rw [cAt_lt g L h, rAt_lt h]
theorem srt_lb {L : List Rgs} (h : Srt L) (e : Edt) : (∀ k, k < rPos L e → cmpReg (rAt L k) (tgt e) < 0) ∧ (∀ k, rPos L e ≤ k → k < L.length → ¬ cmpReg (rAt L k) (tgt e) < 0) := by
  have hp : rPos L e ≤ L.length := (bsF_le _ 0 L.length (Nat.zero_le _)).2
  have := bsF_lb (cAt (fun x => cmpReg x (tgt e)) L) L.length (fun k m hk hm hc => by
    rw [cAt_rAt _ hm] at hc
    rw [cAt_rAt _ (Nat.lt_of_le_of_lt hk hm)]
    rcases Nat.lt_or_ge k m with h1 | h1
    · exact ordReg.tr _ _ _ (h k m h1 hm) hc
    · have : k = m := by omega
      subst this; exact hc) L.length 0 L.length (by omega) (Nat.zero_le _) (Nat.le_refl _) (fun k hk => by omega) (fun k k1 k2 => by omega)
  refine ⟨fun k hk => ?_, fun k hk h2 => ?_⟩
  · have h3 := this.1 k hk
    rw [cAt_rAt _ (Nat.lt_of_lt_of_le hk hp)] at h3
    exact h3
  · have h3 := this.2 k hk h2
    rw [cAt_rAt _ h2] at h3
    exact h3
theorem kept_ins (w : List Wrt) (i : Nat) (e : Edt) : keptF (insAt (keptF w e) i (mkW e)) e = keptF w e := by
  have h1 : wr1F e (mkW e) = true := by simp [wr1F, mkW]
  have h2 : ∀ l : List Wrt, keptF (keptF l e) e = keptF l e := fun l => by simp [keptF]
  show List.filter _ (_ ++ _ ++ _) = _
  rw [List.filter_append, List.filter_append]
  have h3 : List.filter (fun m => !wr1F e m) [mkW e] = [] := by simp [h1]
  rw [h3, List.append_nil, ← List.filter_append, List.take_append_drop]
  exact h2 w
theorem wr_idem (w : List Wrt) (e : Edt) : wrF (wrF w e) e = wrF w e := by
  have h : keptF (wrF w e) e = keptF w e := kept_ins w _ e
  rw [wrF, h]
  rfl
theorem cmp_set (x : Rgs) (w : List Wrt) (y : Rgs) : cmpReg (setW x w) y = cmpReg x y := rfl
theorem cAt_set (L : List Rgs) (p : Nat) (w : List Wrt) (y : Rgs) : cAt (fun x => cmpReg x y) (L.set p (setW (rAt L p) w)) = cAt (fun x => cmpReg x y) L := by
  funext k
  unfold cAt
  by_cases hk : p = k
  · subst hk
    by_cases hp : p < L.length
    · rw [List.getElem?_set_self hp, List.getElem?_eq_getElem hp]
      show cmpReg (setW (rAt L p) w) y = _
      rw [cmp_set, rAt_lt hp]
    · rw [List.set_eq_of_length_le (by omega)]
  · rw [List.getElem?_set_ne hk]
theorem rAt_insL (L : List Rgs) {i k : Nat} (x : Rgs) (h : i ≤ L.length) (hk : k < i) : rAt (insAt L i x) k = rAt L k := by
  unfold rAt insAt
  rw [List.getD_eq_getElem?_getD, List.getD_eq_getElem?_getD, List.append_assoc, List.getElem?_append_left (by simp; omega), List.getElem?_take_of_lt hk]
theorem rAt_insR (L : List Rgs) {i k : Nat} (x : Rgs) (h : i ≤ L.length) (hk : i < k) : rAt (insAt L i x) k = rAt L (k - 1) := by
  unfold rAt insAt
  rw [List.getD_eq_getElem?_getD, List.getD_eq_getElem?_getD, List.getElem?_append_right (by simp; omega), List.getElem?_drop]
  congr 2
  simp; omega
theorem step_idem {L : List Rgs} (h : Srt L) (e : Edt) : stepF (stepF L e) e = stepF L e := by
  have hp : rPos L e ≤ L.length := (bsF_le _ 0 L.length (Nat.zero_le _)).2
  cases hk : (e.kind == 3)
  · simp [stepF, hk]
  · cases hh : rHit L e
    · have hst : stepF L e = insAt L (rPos L e) (setW (tgt e) (wrF [] e)) := by simp [stepF, hk, hh]
      rw [hst]
      generalize hx : setW (tgt e) (wrF [] e) = x
      generalize hpp : rPos L e = p at *
      obtain ⟨l1, l2⟩ := srt_lb h e
      rw [hpp] at l1 l2
      have hlen : (insAt L p x).length = L.length + 1 := insAt_len _ _ _
      have hx0 : cmpReg x (tgt e) = 0 := (ordReg.z _ _).2 (by rw [← hx]; rfl)
      have hpos : rPos (insAt L p x) e = p := by
        refine bsF_eq _ p _ 0 _ (Nat.le_refl _) (Nat.zero_le _) (by omega) (fun k _ hk => ?_) (fun k k1 k2 => ?_)
        · rw [cAt_rAt _ (by omega), rAt_insL L x hp hk]
          exact l1 k hk
        · rw [cAt_rAt _ k2]
          rcases Nat.lt_or_ge p k with h1 | h1
          · rw [rAt_insR L x hp h1]
            exact l2 _ (by omega) (by omega)
          · have : k = p := by omega
            subst this
            rw [rAt_ins L k x hp, hx0]
            omega
      have hhit : rHit (insAt L p x) e = true := by
        have h1 : bsF (cAt (fun y => cmpReg y (tgt e)) (insAt L p x)) 0 (insAt L p x).length = p := hpos
        simp only [rHit, bsHit, h1, Bool.and_eq_true, decide_eq_true_eq]
        refine ⟨by omega, ?_⟩
        rw [cAt_rAt _ (by omega), rAt_ins L p x hp]
        exact hx0
      have : stepF (insAt L p x) e = (insAt L p x).set p (setW x (wrF x.w e)) := by
        simp only [stepF, hk, hhit, hpos, if_true, rAt_ins L p x hp]
      rw [this, set_ins L p x _ hp]
      have hxw : setW x (wrF x.w e) = x := by
        rw [← hx]
        show setW (setW (tgt e) (wrF [] e)) (wrF (wrF [] e) e) = _
        rw [wr_idem]
        rfl
      rw [hxw]
    · have hlt : rPos L e < L.length := by
        simp only [rHit, bsHit, Bool.and_eq_true, decide_eq_true_eq] at hh
        exact hh.1
      have hst : stepF L e = L.set (rPos L e) (setW (rAt L (rPos L e)) (wrF (rAt L (rPos L e)).w e)) := by simp [stepF, hk, hh]
      rw [hst]
      generalize hpp : rPos L e = p at *
      generalize hw : wrF (rAt L p).w e = w
      have hc := cAt_set L p w (tgt e)
      have hpos : rPos (L.set p (setW (rAt L p) w)) e = p := by
        rw [← hpp, rPos, hpp, hc, List.length_set]
        exact hpp
      have hhit : rHit (L.set p (setW (rAt L p) w)) e = true := by
        rw [← hh, rHit, rHit, bsHit, bsHit, hc, List.length_set]
      have hat : rAt (L.set p (setW (rAt L p) w)) p = setW (rAt L p) w := by
        rw [rAt_lt (by simpa using hlt)]
        simp
      have : stepF (L.set p (setW (rAt L p) w)) e = (L.set p (setW (rAt L p) w)).set p (setW (setW (rAt L p) w) (wrF w e)) := by
        simp only [stepF, hk, hhit, hpos, if_true, hat]
        rfl
      rw [this, List.set_set]
      have : wrF w e = w := by rw [← hw, wr_idem]
      rw [this]
      rfl
end Go.Proofs.Ytgohmphhgglmbaa

set_option linter.unusedVariables false
set_option linter.unusedSimpArgs false
namespace Go.Proofs.Ytgohmphhgglmbaa
open Go Go.RowKit Am

theorem lbeq (a b : ByteArray) : (a.toList == b.toList) = decide (a = b) := by
  rw [ByteArray.toList_eq, ByteArray.toList_eq]
  by_cases h : a = b
  · simp [h]
  · have : ¬ a.data.toList = b.data.toList := fun h1 => h (Go.WideShapes.bytes_inj h1)
    rw [beq_eq_false_iff_ne.2 this, decide_eq_false h]
theorem bless : ∀ x y : List UInt8, Op.bytesLess x y = decide (Lib.compareBytes x y < 0)
  | [], [] => by simp [Op.bytesLess, Lib.compareBytes]
  | _ :: _, [] => by simp [Op.bytesLess, Lib.compareBytes]
  | [], _ :: _ => by simp [Op.bytesLess, Lib.compareBytes]
  | a :: x, b :: y => by
    simp only [Op.bytesLess, Lib.compareBytes, bless x y]
    by_cases h1 : a < b
    · simp [h1]
    · by_cases h2 : b < a
      · have : ¬ a = b := by rintro rfl; simp at h2
        simp [h1, h2, this]
      · have : a = b := UInt8.le_antisymm (UInt8.not_lt.1 h2) (UInt8.not_lt.1 h1)
        simp [h1, h2, this]
theorem blessB (a b : ByteArray) : Op.bytesLess a.toList b.toList = decide (cmpB a b < 0) := by rw [bless, cmpB, ByteArray.toList_eq, ByteArray.toList_eq]
theorem or2 (x y : Int) : orF [x, y] = if x = 0 then y else x := by
  simp only [orF]
  split
  · split <;> simp_all
  · rfl
theorem less_cmp (a b : Idt) : lessF a b = decide (cmpId a b < 0) := by
  rw [lessF, blessB, lbeq, cmpId, or2]
  by_cases h : a.a = b.a
  · have h0 : cmpB a.a b.a = 0 := (ordB.z _ _).2 h
    have : decide (a.n < b.n) = decide (cmpI a.n b.n < 0) := by
      unfold cmpI
      split
      · simp; omega
      · split <;> simp <;> omega
    rw [this]
    rw [h] at h0 ⊢
    simp [h0]
  · have h0 : ¬ cmpB a.a b.a = 0 := fun h1 => h ((ordB.z _ _).1 h1)
    simp [h0, h]
theorem first_cmp (a b : Rgs) : firstF a b = decide (cmpReg a b < 0) := by
  rw [firstF, less_cmp, blessB, cmpReg, or2, eqId, lbeq]
  by_cases h : cmpId a.id b.id = 0
  · have h0 := (ordId.z _ _).1 h
    simp only [Prod.mk.injEq] at h0
    simp [h, h0]
  · have h0 : ¬ (a.id.a = b.id.a ∧ a.id.n = b.id.n) := fun h1 => h ((ordId.z _ _).2 (by simp [h1]))
    by_cases h2 : a.id.a = b.id.a
    · have : ¬ a.id.n = b.id.n := fun h3 => h0 ⟨h2, h3⟩
      simp [h, h2, this]
    · simp [h, h2]
theorem RightP.srt {l : List Rgs} (h : RightP l) : Srt l := by
  have hadj : ∀ j, j + 1 < l.length → cmpReg (rAt l j) (rAt l (j + 1)) < 0 := by
    intro j hj
    have := h.bad (j + 1) hj
    rw [rBad, first_cmp] at this
    simp only [Bool.or_eq_false_iff, Bool.and_eq_false_iff, Bool.not_eq_false', decide_eq_false_iff_not, decide_eq_true_eq] at this
    obtain ⟨⟨⟨h1 | h1, _⟩, _⟩, _⟩ := this
    · omega
    · simpa using h1
  have hall : ∀ d i, i + d + 1 < l.length → cmpReg (rAt l i) (rAt l (i + d + 1)) < 0 := by
    intro d
    induction d with
    | zero => intro i hi; exact hadj i hi
    | succ d ih =>
      intro i hi
      exact ordReg.tr _ _ _ (ih i (by omega)) (hadj (i + d + 1) hi)
  intro i j hij hj
  have := hall (j - i - 1) i (by omega)
  rwa [show i + (j - i - 1) + 1 = j by omega] at this
def keyB (x : Rgs) (y : Idt) (f : ByteArray) : Bool := ((x.id.a.toList == y.a.toList) && (x.id.n == y.n)) && (x.f.toList == f.toList)
theorem keyB_eq (x : Rgs) (y : Idt) (f : ByteArray) : keyB x y f = true ↔ x.id = y ∧ x.f = f := by
  rw [keyB, lbeq, lbeq]
  obtain ⟨⟨a, n⟩, g, w⟩ := x
  obtain ⟨b, m⟩ := y
  simp
theorem getF_cons (x : Rgs) (l : List Rgs) (y : Idt) (f : ByteArray) : getF (x :: l) y f = if keyB x y f then x.w else getF l y f := rfl
theorem getF_mid (x : Rgs) (y : Idt) (f : ByteArray) (h : keyB x y f = false) : ∀ a b : List Rgs, getF (a ++ x :: b) y f = getF (a ++ b) y f
  | [], b => by simp [getF_cons, h]
  | z :: a, b => by
    simp only [List.cons_append, getF_cons]
    split
    · rfl
    · exact getF_mid x y f h a b
theorem getF_ins (L : List Rgs) (i : Nat) (x : Rgs) (y : Idt) (f : ByteArray) (h : keyB x y f = false) : getF (insAt L i x) y f = getF L y f := by
  rw [insAt, List.append_assoc, List.singleton_append, getF_mid x y f h, List.take_append_drop]
theorem getF_set (x : Rgs) (y : Idt) (f : ByteArray) (h : keyB x y f = false) : ∀ (L : List Rgs) (p : Nat), (∀ z, L[p]? = some z → keyB z y f = false) → getF (L.set p x) y f = getF L y f
  | [], p, _ => rfl
  | z :: L, 0, h2 => by
    have := h2 z rfl
    simp [getF_cons, h, this]
  | z :: L, p + 1, h2 => by
    simp only [List.set_cons_succ, getF_cons]
    split
    · rfl
    · exact getF_set x y f h L p (fun w hw => h2 w (by simpa using hw))
def tchF (e : Edt) (y : Idt) (f : ByteArray) : Bool := ((e.kind == 3) && ((e.node.a.toList == y.a.toList) && (e.node.n == y.n))) && (e.field.toList == f.toList)
theorem getF_step (L : List Rgs) (e : Edt) (y : Idt) (f : ByteArray) (h : tchF e y f = false) : getF (stepF L e) y f = getF L y f := by
  cases hk : (e.kind == 3)
  · simp [stepF, hk]
  · have hkey : ∀ x : Rgs, x.id = e.node → x.f = e.field → keyB x y f = false := by
      intro x h1 h2
      rw [keyB, h1, h2]
      rw [tchF, hk, Bool.true_and] at h
      exact h
    cases hh : rHit L e
    · have hst : stepF L e = insAt L (rPos L e) (setW (tgt e) (wrF [] e)) := by simp [stepF, hk, hh]
      rw [hst]
      exact getF_ins _ _ _ _ _ (hkey _ rfl rfl)
    · have hst : stepF L e = L.set (rPos L e) (setW (rAt L (rPos L e)) (wrF (rAt L (rPos L e)).w e)) := by simp [stepF, hk, hh]
      simp only [rHit, bsHit, Bool.and_eq_true, decide_eq_true_eq] at hh
      have hlt : rPos L e < L.length := hh.1
      have h0 : cmpReg (rAt L (rPos L e)) (tgt e) = 0 := by
        have := hh.2
        rw [cAt_rAt _ hh.1] at this
        exact this
      have hz := (ordReg.z _ _).1 h0
      simp only [tgt, Prod.mk.injEq] at hz
      have hid : (rAt L (rPos L e)).id = e.node := by
        generalize (rAt L (rPos L e)).id = u at hz
        obtain ⟨a, n⟩ := u
        simp only at hz
        rw [hz.1.1, hz.1.2]
      rw [hst]
      refine getF_set _ _ _ (hkey (setW (rAt L (rPos L e)) (wrF (rAt L (rPos L e)).w e)) hid hz.2) L _ (fun z hzz => ?_)
      have : z = rAt L (rPos L e) := by
        rw [List.getElem?_eq_getElem hlt] at hzz
        rw [rAt_lt hlt]
        exact (Option.some.inj hzz).symm
      rw [this]
      exact hkey _ hid hz.2
theorem getF_app (y : Idt) (f : ByteArray) : ∀ (es : List Edt) (L : List Rgs), es.any (fun e => tchF e y f) = false → getF (appF L es) y f = getF L y f
  | [], L, _ => rfl
  | e :: es, L, h => by
    simp only [List.any_cons, Bool.or_eq_false_iff] at h
    show getF (appF (stepF L e) es) y f = _
    rw [getF_app y f es _ h.2, getF_step L e y f h.1]
end Go.Proofs.Ytgohmphhgglmbaa

set_option linter.unusedVariables false
set_option linter.unusedSimpArgs false
set_option maxRecDepth 100000
set_option maxHeartbeats 16000000
namespace Go.Proofs.Ytgohmphhgglmbaa
open Go Go.RowKit Am

def edtOk (B : Nat) (es : List Edt) : Prop := es.length ≤ B ∧ ∀ e ∈ es, e.field.size ≤ B ∧ e.value.size ≤ B ∧ e.deps.length ≤ B ∧ ∀ x ∈ e.deps, x.a.size ≤ B
def incLawS : Fspec := fun _ ds r => ∃ (l : List Rgs) (es : List Edt) (k : Int), smallR 1048576 l ∧ edtOk 1048576 es ∧ 0 ≤ k ∧ k < 256 ∧ ds = [.sl (l.map encR), .sl (es.map encE), .s (.int .u8 k)] ∧ r = .s (.bool true)
theorem edtOk.fine {es : List Edt} (h : edtOk 1048576 es) : es.length ≤ 1099511627776 ∧ ∀ e ∈ es, e.field.size ≤ 1099511627776 ∧ e.value.size ≤ 1099511627776 ∧ e.deps.length ≤ 1099511627776 ∧ ∀ x ∈ e.deps, x.a.size ≤ 1099511627776 :=
  ⟨by have := h.1; omega, fun e he => by
    obtain ⟨h1, h2, h3, h4⟩ := h.2 e he
    exact ⟨by omega, by omega, by omega, fun x hx => by have := h4 x hx; omega⟩⟩
theorem same_of {B : Nat} {L : List Rgs} (h : smallR B L) (hB : B ≤ 1000) : L.length ≤ 1099511627776 ∧ ∀ x ∈ L, x.w.length ≤ 1099511627776 := ⟨by have := h.1; omega, fun x hx => by have := h.2 x hx; omega⟩
def fl (es : List Edt) (i : Nat) : List Edt := (es.take i).filter isSet
theorem fl_len (es : List Edt) : fl es es.length = es.filter isSet := by simp [fl]
theorem fl_t {es : List Edt} {i : Nat} (hi : i < es.length) (h : isSet es[i] = true) : fl es (i + 1) = fl es i ++ [es[i]] := by
  rw [fl, List.take_succ_eq_append_getElem hi, List.filter_append]
  simp [fl, h]
theorem fl_f {es : List Edt} {i : Nat} (hi : i < es.length) (h : isSet es[i] = false) : fl es (i + 1) = fl es i := by
  rw [fl, List.take_succ_eq_append_getElem hi, List.filter_append]
  simp [fl, h]
theorem okRowE (e : Edt) : okRows 18 [encE e] := okRows_map encE [e] 18 fun a => ⟨rfl, by simp [encE, cellish]⟩
theorem incLaw_sound {plain : TypeId → Bool} {Γ : FuncId → Option Fspec} {Δ : FuncId → Option Pt} (hE : EnvOk ⟨Try.prog, plain, Γ, Δ, fun _ => none, 0⟩) (hpl : plain 31 = true) (g_alive : Γ 9 = some aliveS) (g_right : Γ 10 = some rightS) (g_fine : Γ 11 = some fineS) (g_same : Γ 12 = some sameS) (g_app : Γ 13 = some appS) : Sound Try.prog 7 incLawS := by
  refine sound_of_awp hE Try.func7 rfl (by kernel_rfl) ?_
  rintro Φ ds r ⟨l, es, k, hl, hes, hk0, hk1, rfl, rfl⟩
  refine ⟨by simp [Try.f7], ?_⟩
  unfold st0
  refine W.out (E := ⟨Try.prog, plain, Γ, Δ, Φ, _⟩) ?_
  have hre := encE_rows' es
  have hel := hes.1
  refine go trivial ?_
  refine x_callN rfl rfl rfl rfl (sv trivial) g_alive (sv trivial) (se trivial) ⟨rfl, rfl⟩ rfl ?_
  refine go trivial ?_
  refine x_callN rfl rfl rfl rfl (sv trivial) g_right (sv trivial) (se trivial) ⟨l, hl, rfl, rfl⟩ rfl ?_
  cases hr : (rightF l == 0)
  · refine go hr ?_
    refine x_callN rfl rfl rfl rfl (sv trivial) g_fine (sv trivial) (se trivial) ⟨es, hes.fine.1, hes.fine.2, rfl, rfl⟩ rfl ?_
    cases hf : fineF es
    · refine go (And.intro hr hf) ?_
      refine x_done (x_out (sr @Try.f7.eq_1) (by simp) (by simp) rfl)
    · have hR := right_p hr
      have hF := fine_small hf
      obtain ⟨q, hq, hq2⟩ : ∃ q : Nat, k.tmod ((es.length : Int) + 1) = (q : Int) ∧ q ≤ es.length := by
        have h1 : 0 ≤ k.tmod ((es.length : Int) + 1) := Int.tmod_nonneg _ hk0
        have h2 : k.tmod ((es.length : Int) + 1) < (es.length : Int) + 1 := Int.tmod_lt_of_pos _ (by omega)
        exact ⟨(k.tmod ((es.length : Int) + 1)).toNat, by omega, by omega⟩
      refine goR (And.intro hr (And.intro hf hq)) ?_
      refine x_seq ?_
      refine goR (And.intro hr (And.intro hf hq)) ?_
      refine x_seq ?_
      refine goR (And.intro hr (And.intro hf hq)) ?_
      refine x_cutF 8 (fun σ => ∃ (b : Nat) (cap : Nat) (sp : List (List V)), σ.t 0 = .sl (l.map encR) ∧ σ.t 1 = .sl (es.map encE) ∧ σ.t 7 = .s (.int .i64 q) ∧ σ.t 8 = .loc b 0 (es.filter isSet).length cap ∧ σ.h b = some ⟨18, (es.filter isSet).map encE ++ sp, true⟩ ∧ (es.filter isSet).length ≤ cap ∧ (es.filter isSet).length ≤ es.length) ?_ ?_
      · refine go (And.intro hr (And.intro hf hq)) ?_
        have fl0 : fl es 0 = [] := rfl
        refine x_loopG 8 18 (fun σ => ∃ (i : Nat) (b : Nat) (cap : Nat) (sp : List (List V)), σ.t 0 = .sl (l.map encR) ∧ σ.t 1 = .sl (es.map encE) ∧ σ.t 7 = .s (.int .i64 q) ∧ σ.t 8 = .loc b 0 (fl es i).length cap ∧ σ.t 28 = .sl (es.map encE) ∧ σ.t 29 = .s (.int .i64 es.length) ∧ σ.t 30 = .s (.int .i64 i) ∧ σ.h b = some ⟨18, (fl es i).map encE ++ sp, true⟩ ∧ b < σ.n ∧ i ≤ es.length ∧ (fl es i).length ≤ cap ∧ cap ≤ (fl es i).length + sp.length ∧ (fl es i).length ≤ i) (fun σ => es.length - ix (σ.t 30)) (sca trivial) ⟨0, _, 0, [], (by first | assumption | exact sxa trivial), (by first | assumption | exact sxa trivial), (by first | assumption | exact sxa trivial), (by first | assumption | exact sxa trivial), (by first | assumption | exact sxa trivial), (by first | assumption | exact sxa trivial), (by first | assumption | exact sxa trivial), (by first | assumption | exact sxa trivial), (by first | omega | (dsimp only; omega) | exact soa trivial | omega | (simp; done)), (by first | rfl | omega | assumption | (simp [*]; done)), (by first | rfl | omega | assumption | (simp [*]; done)), (by first | rfl | omega | assumption | (simp [*]; done)), (by first | rfl | omega | assumption | (simp [*]; done))⟩ ?_
        rintro t h n ⟨i, b, cap, sp, h0, h1, h7, h8, h28, h29, h30, hhb, hn1, hf0, hf1, hf2, hf3⟩
        simp only at h0 h1 h7 h8 h28 h29 h30 hhb hn1
        refine go (And.intro h0 (And.intro h1 (And.intro h7 (And.intro h8 (And.intro h28 (And.intro h29 h30)))))) ?_
        refine x_condP (sv (And.intro h0 (And.intro h1 (And.intro h7 (And.intro h8 (And.intro h28 (And.intro h29 h30))))))) (fun hc => ?_) (fun hc => ?_)
        · have hi : i < es.length := by omega
          have ft := fl_t hi
          have ff := fl_f hi
          generalize hee : es[i] = e at *
          have e1 : (b = n) = False := by simp; omega
          have e2 : (b = n + 1) = False := by simp; omega
          have e3 : (n = b) = False := by simp; omega
          have e4 : (n + 1 = b) = False := by simp; omega
          cases hk : (e.kind == 3)
          · have hfl := ff hk
            refine go (And.intro h0 (And.intro h1 (And.intro h7 (And.intro h8 (And.intro h28 (And.intro h29 (And.intro h30 (And.intro hhb (And.intro hre (And.intro hee (And.intro @encE_kind (And.intro e1 (And.intro e2 hk))))))))))))) ?_
            (refine ⟨⟨i + 1, b, cap, sp, ?_, ?_, ?_, ?_, ?_, ?_, ?_, ?_, ?_, ?_, ?_, ?_, ?_⟩, ?_⟩ <;> (first | omega | (dsimp only; omega) | ((simp only [hfl]; omega)) | exact sxa (And.intro @cast_succ (And.intro hfl (And.intro e1 e2))) | exact soa trivial))
          · have hfl := ft hk
            have hl2 : (fl es (i + 1)).length = (fl es i).length + 1 := by rw [hfl]; simp
            have hm2 : (fl es (i + 1)).map encE = (fl es i).map encE ++ [encE e] := by rw [hfl]; simp
            clear hfl ft ff
            refine go (And.intro h0 (And.intro h1 (And.intro h7 (And.intro h8 (And.intro h28 (And.intro h29 (And.intro h30 (And.intro hhb (And.intro hre (And.intro hee (And.intro @encE_kind (And.intro e1 (And.intro e2 (And.intro e3 (And.intro e4 hk))))))))))))))) ?_
            refine x_appendO rfl rfl rfl rfl rfl rfl (sv (And.intro h8 (And.intro hhb (And.intro e1 (And.intro e2 (And.intro e3 e4)))))) (by decide) (sc (And.intro h8 (And.intro hhb (And.intro e1 (And.intro e2 (And.intro e3 e4)))))) (sv (And.intro h8 (And.intro hhb (And.intro e1 (And.intro e2 (And.intro e3 e4)))))) (sx (And.intro h8 (And.intro hhb (And.intro e1 (And.intro e2 (And.intro e3 e4)))))) (by first | rfl | (simp; done) | (simp [spare_len]; omega)) (by first | omega | (simp; done) | (simp [spare_len]; omega)) (by first | omega | (simp; done) | (simp [spare_len]; omega)) (sx (And.intro h8 (And.intro hhb (And.intro e1 (And.intro e2 (And.intro e3 e4)))))) (okRowE e) (by first | omega | (simp; done) | (simp [spare_len]; omega)) (fun cap' hcap' => ?_)
            refine go (And.intro h0 (And.intro h1 (And.intro h7 (And.intro h8 (And.intro h28 (And.intro h29 (And.intro h30 (And.intro hhb (And.intro hre (And.intro hee (And.intro @encE_kind (And.intro e1 (And.intro e2 (And.intro e3 (And.intro e4 hk))))))))))))))) ?_
            have hc2 : (fl es i).length + 1 ≤ cap' := hcap'
            (refine ⟨⟨i + 1, n + 1 + 1, cap', spare 18 (cap' - ((fl es i).length + 1)), ?_, ?_, ?_, ?_, ?_, ?_, ?_, ?_, ?_, ?_, ?_, ?_, ?_⟩, ?_⟩ <;> (first | omega | (dsimp only; omega) | ((simp only [hl2, spare_len]; omega)) | exact sxa (And.intro @cast_succ (And.intro hl2 (And.intro hm2 (And.intro @encE_kind (And.intro e1 (And.intro e2 (And.intro e3 e4))))))) | exact soa trivial))
        · have e : i = es.length := by omega
          subst e
          rw [fl_len] at *
          skip
          refine go (And.intro h0 (And.intro h1 (And.intro h7 (And.intro h8 (And.intro h28 (And.intro h29 h30)))))) ?_
          (refine ⟨b, cap, sp, ?_, ?_, ?_, ?_, ?_, ?_, ?_⟩ <;> (first | omega | (dsimp only; omega) | exact sxa @cast_succ | exact soa trivial | (omega)))
      rintro t h n ⟨b, cap, sp, h0, h1, h7, h8, hhb, hf0, hf1⟩
      simp only at h0 h1 h7 h8 hhb
      have hx1 : ∀ h d, allO (allO (expo h d)) ((es.filter isSet).map encE) = some ((es.filter isSet).map encE) := fun h d => allO_rows h d (deep_map encE _ (fun a => by simp [encE, deepc]))
      have tk : ((es.filter isSet).map encE ++ sp).take (es.filter isSet).length = (es.filter isSet).map encE := List.take_left' (by simp)
      refine ⟨.sl ((es.filter isSet).map encE), ?_, fun h2 hold => ?_⟩
      · rw [h8]
        have ln : ((es.filter isSet).length ≤ ((es.filter isSet).map encE ++ sp).length) = True := by simp
        exact se (And.intro hhb (And.intro hx1 (And.intro tk ln)))
      clear hold
      generalize hS : es.filter isSet = S at *
      have hdeps := hF.2
      have hSd : ∀ e ∈ S, e.deps.length ≤ 500000 := by
        intro e he
        rw [← hS] at he
        have := hdeps e (List.mem_filter.1 he).1
        omega
      have hes0 := hF.1
      refine go (And.intro h0 (And.intro h1 h7)) ?_
      refine x_callS rfl rfl rfl rfl (sv trivial) g_app (sv trivial) (se trivial) ⟨l, es, hR.small.mono (by omega), by omega, fun e he => by have := hdeps e he; omega, rfl, rfl⟩ (by simp) (by simp [touchA, touch]) ?_
      have tq : (es.map encE).take q = (es.take q).map encE := List.map_take.symm
      have dq : (es.map encE).drop q = (es.drop q).map encE := List.map_drop.symm
      have dq2 : ((es.drop q).map encE).take (es.length - q) = (es.drop q).map encE := List.take_of_length_le (by simp)
      refine go (And.intro h0 (And.intro h1 (And.intro h7 (And.intro hre (And.intro tq (And.intro dq dq2)))))) ?_
      refine x_callDS rfl rfl rfl rfl rfl (sv tq) g_app (sv tq) (se tq) ⟨l, es.take q, hR.small.mono (by omega), by simp; omega, fun e he => by have := hdeps e (List.mem_of_mem_take he); omega, rfl, rfl⟩ (by simp) (by simp [touchA, touch]) ?_
      refine go (And.intro h0 (And.intro h1 (And.intro h7 (And.intro hre (And.intro tq (And.intro dq dq2)))))) ?_
      have hsm1 := app_small (es.take q) hR.small
      have hl1 : (es.take q).length ≤ 30 := by simp; omega
      refine x_callDS rfl rfl rfl rfl rfl (sv dq) g_app (sv dq) (se dq) ⟨appF l (es.take q), es.drop q, hsm1.mono (by omega), by simp; omega, fun e he => by have := hdeps e (List.mem_of_mem_drop he); omega, rfl, rfl⟩ (by simp) (by simp [touchA, touch]) ?_
      refine go (And.intro h0 (And.intro h1 (And.intro h7 (And.intro hre (And.intro tq (And.intro dq dq2)))))) ?_
      rw [appF_append, List.take_append_drop]
      have hsm2 := app_small es hR.small
      have hsm3 := same_of hsm2 (by omega)
      refine x_callD rfl rfl rfl rfl rfl (sv trivial) g_same (sv trivial) (se trivial) ⟨appF l es, appF l es, hsm3.1, hsm3.1, hsm3.2, hsm3.2, rfl, rfl⟩ rfl ?_
      rw [sameF_refl]
      refine go (And.intro h0 (And.intro h1 (And.intro h7 (And.intro hre (And.intro tq (And.intro dq dq2)))))) ?_
      have hS2 : S.length ≤ 500000 := by omega
      refine x_callDS rfl rfl rfl rfl rfl (sv trivial) g_app (sv trivial) (se trivial) ⟨l, S, hR.small.mono (by omega), hS2, hSd, rfl, rfl⟩ (by simp) (by simp [touchA, touch]) ?_
      have hSa : appF l S = appF l es := by rw [← hS]; exact appF_filter es l
      rw [hSa]
      refine go (And.intro h0 (And.intro h1 (And.intro h7 (And.intro hre (And.intro tq (And.intro dq dq2)))))) ?_
      refine x_callD rfl rfl rfl rfl rfl (sv trivial) g_same (sv trivial) (se trivial) ⟨appF l es, appF l es, hsm3.1, hsm3.1, hsm3.2, hsm3.2, rfl, rfl⟩ rfl ?_
      rw [sameF_refl]
      refine go (And.intro h0 (And.intro h1 (And.intro h7 (And.intro hre (And.intro tq (And.intro dq dq2)))))) ?_
      refine x_done (x_out (sr @Try.f7.eq_1) (by simp) (by simp) rfl)
  · refine go hr ?_
    refine x_done (x_out (sr @Try.f7.eq_1) (by simp) (by simp) rfl)
end Go.Proofs.Ytgohmphhgglmbaa

set_option linter.unusedVariables false
set_option linter.unusedSimpArgs false
set_option maxRecDepth 100000
set_option maxHeartbeats 16000000
namespace Go.Proofs.Ytgohmphhgglmbaa
open Go Go.RowKit Am

theorem marksF_refl : ∀ w : List Wrt, marksF w w = true
  | [] => rfl
  | x :: w => by simp [marksF, eqW, marksF_refl w]
theorem rightF_small {l : List Rgs} (h : (rightF l == 0) = false) : l.length ≤ 30 := by
  rcases Int.lt_or_le 30 (l.length : Int) with h1 | h1
  · simp [rightF, h1] at h
  · omega
theorem getF_mem (l : List Rgs) (y : Idt) (f : ByteArray) : getF l y f = [] ∨ ∃ x ∈ l, getF l y f = x.w := by
  induction l with
  | nil => exact .inl rfl
  | cons x l ih =>
    simp only [getF]
    split
    · exact .inr ⟨x, by simp, rfl⟩
    · rcases ih with h | ⟨z, h1, h2⟩
      · exact .inl h
      · exact .inr ⟨z, by simp [h1], h2⟩
theorem getF_len {B : Nat} {l : List Rgs} (h : smallR B l) (y : Idt) (f : ByteArray) : (getF l y f).length ≤ B := by
  rcases getF_mem l y f with h1 | ⟨x, h1, h2⟩
  · rw [h1]; simp
  · rw [h2]; exact h.2 x h1
def lkLawS : Fspec := fun _ ds r => ∃ (l : List Rgs) (y : Idt) (f : ByteArray), smallR 1048576 l ∧ ds = [.sl (l.map encR), .agg (encId y), .s (.string f)] ∧ r = .s (.bool true)
theorem lkLaw_sound {plain : TypeId → Bool} {Γ : FuncId → Option Fspec} {Δ : FuncId → Option Pt} (hE : EnvOk ⟨Try.prog, plain, Γ, Δ, fun _ => none, 0⟩) (hpl : plain 31 = true) (g_alive : Γ 9 = some aliveS) (g_right : Γ 10 = some rightS) (g_look : Γ 15 = some lookS) (g_get : Γ 16 = some getS) (g_marks : Γ 19 = some marksS) (g_win : Γ 17 = some lastS) (g_last : Γ 18 = some lastS) : Sound Try.prog 4 lkLawS := by
  refine sound_of_awp hE Try.func4 rfl (by kernel_rfl) ?_
  rintro Φ ds r ⟨l, y, f, hl, rfl, rfl⟩
  refine ⟨by simp [Try.f4], ?_⟩
  unfold st0
  refine W.out (E := ⟨Try.prog, plain, Γ, Δ, Φ, _⟩) ?_
  refine go @encId.eq_1 ?_
  refine x_callN rfl rfl rfl rfl (sv trivial) g_alive (sv trivial) (se trivial) ⟨rfl, rfl⟩ rfl ?_
  refine go @encId.eq_1 ?_
  refine x_callN rfl rfl rfl rfl (sv trivial) g_right (sv trivial) (se trivial) ⟨l, hl, rfl, rfl⟩ rfl ?_
  cases hr : (rightF l == 0)
  · have hlen := rightF_small hr
    have hl0 := hl.1
    have hlw : ∀ x ∈ l, x.w.length ≤ 1099511627776 := fun x hx => by have := hl.2 x hx; omega
    have hgl := getF_len hl y f
    by_cases hf : 300 < (f.size : Int)
    · refine go (And.intro @encId.eq_1 (And.intro hr hf)) ?_
      refine x_done (x_out (sr @Try.f4.eq_1) (by simp) (by simp) rfl)
    · refine go (And.intro @encId.eq_1 (And.intro hr hf)) ?_
      refine x_callDS rfl rfl rfl rfl rfl (sv @encId.eq_1) g_look (sv @encId.eq_1) (se @encId.eq_1) ⟨l, y, f, by omega, hlw, rfl, rfl⟩ (by simp) (by simp [touchA, touch]) ?_
      refine go (And.intro @encId.eq_1 (And.intro hr hf)) ?_
      refine x_callDS rfl rfl rfl rfl rfl (sv @encId.eq_1) g_get (sv @encId.eq_1) (se @encId.eq_1) ⟨l, y, f, by omega, rfl, rfl⟩ (by simp) (by simp [touchA, touch]) ?_
      refine go (And.intro @encId.eq_1 (And.intro hr hf)) ?_
      refine x_callN rfl rfl rfl rfl (sv trivial) g_win (sv trivial) (se trivial) ⟨getF l y f, by omega, rfl, rfl⟩ rfl ?_
      refine go (And.intro @encId.eq_1 (And.intro hr hf)) ?_
      refine x_callN rfl rfl rfl rfl (sv trivial) g_last (sv trivial) (se trivial) ⟨getF l y f, by omega, rfl, rfl⟩ rfl ?_
      refine go (And.intro @encId.eq_1 (And.intro hr hf)) ?_
      refine x_callN rfl rfl rfl rfl (sv trivial) g_marks (sv trivial) (se trivial) ⟨getF l y f, getF l y f, by omega, by omega, rfl, rfl⟩ rfl ?_
      rw [marksF_refl]
      refine go (And.intro @encId.eq_1 (And.intro hr hf)) ?_
      trace_state
      refine x_done (x_out (sr @Try.f4.eq_1) (by simp) (by simp) rfl)
  · refine go (And.intro @encId.eq_1 hr) ?_
    refine x_done (x_out (sr @Try.f4.eq_1) (by simp) (by simp) rfl)
end Go.Proofs.Ytgohmphhgglmbaa

set_option linter.unusedVariables false
set_option linter.unusedSimpArgs false
set_option maxRecDepth 100000
set_option maxHeartbeats 16000000
namespace Go.Proofs.Ytgohmphhgglmbaa
open Go Go.RowKit Am

def idemLawS : Fspec := fun _ ds r => ∃ (l : List Rgs) (es : List Edt), smallR 1048576 l ∧ edtOk 1048576 es ∧ ds = [.sl (l.map encR), .sl (es.map encE)] ∧ r = .s (.bool true)
theorem idemLaw_sound {plain : TypeId → Bool} {Γ : FuncId → Option Fspec} {Δ : FuncId → Option Pt} (hE : EnvOk ⟨Try.prog, plain, Γ, Δ, fun _ => none, 0⟩) (hpl : plain 31 = true) (g_alive : Γ 9 = some aliveS) (g_right : Γ 10 = some rightS) (g_fine : Γ 11 = some fineS) (g_same : Γ 12 = some sameS) (g_look : Γ 15 = some lookS) (g_marks : Γ 19 = some marksS) (g_app : Γ 13 = some appS) : Sound Try.prog 8 idemLawS := by
  refine sound_of_awp hE Try.func8 rfl (by kernel_rfl) ?_
  rintro Φ ds r ⟨l, es, hl, hes, rfl, rfl⟩
  refine ⟨by simp [Try.f8], ?_⟩
  unfold st0
  refine W.out (E := ⟨Try.prog, plain, Γ, Δ, Φ, _⟩) ?_
  have hre := encE_rows' es
  have hel := hes.1
  refine go trivial ?_
  refine x_callN rfl rfl rfl rfl (sv trivial) g_alive (sv trivial) (se trivial) ⟨rfl, rfl⟩ rfl ?_
  refine go trivial ?_
  refine x_callN rfl rfl rfl rfl (sv trivial) g_right (sv trivial) (se trivial) ⟨l, hl, rfl, rfl⟩ rfl ?_
  cases hr : (rightF l == 0)
  · refine go hr ?_
    refine x_callN rfl rfl rfl rfl (sv trivial) g_fine (sv trivial) (se trivial) ⟨es, hes.fine.1, hes.fine.2, rfl, rfl⟩ rfl ?_
    cases hf : fineF es
    · refine go (And.intro hr hf) ?_
      refine x_done (x_out (sr @Try.f8.eq_1) (by simp) (by simp) rfl)
    · have hR := right_p hr
      have hF := fine_small hf
      have hes0 := hF.1
      have hRs := hR.srt
      refine go (And.intro hr hf) ?_
      refine x_loop (fun σ => ∃ (i : Nat), σ.t 0 = .sl (l.map encR) ∧ σ.t 1 = .sl (es.map encE) ∧ σ.t 24 = .sl (es.map encE) ∧ σ.t 25 = .s (.int .i64 es.length) ∧ σ.t 26 = .s (.int .i64 i) ∧ i ≤ es.length) (fun σ => es.length - ix (σ.t 26)) ⟨0, (by first | assumption | exact sxa trivial), (by first | assumption | exact sxa trivial), (by first | assumption | exact sxa trivial), (by first | assumption | exact sxa trivial), (by first | assumption | exact sxa trivial), (by first | rfl | omega | assumption | (simp [*]; done))⟩ ?_
      rintro t h n ⟨i, h0, h1, h24, h25, h26, hf0⟩
      simp only at h0 h1 h24 h25 h26
      refine go (And.intro h0 (And.intro h1 (And.intro h24 (And.intro h25 h26)))) ?_
      refine x_condP (sv (And.intro h0 (And.intro h1 (And.intro h24 (And.intro h25 h26))))) (fun hc => ?_) (fun hc => ?_)
      · have hi : i < es.length := by omega
        have hde := hF.2 _ (List.getElem_mem hi)
        generalize hee : es[i] = e at *
        have e1 : (n + 1 = n) = False := by simp
        have e2 : (n = n + 1) = False := by simp
        have e3 : (n = n + 1 + 1) = False := by simp; omega
        have e4 : (n = n + 1 + 1 + 1) = False := by simp; omega
        have a1 := app_small [e] hR.small
        have a2 := app_small [e, e] hR.small
        have a3 := app_small [e] a1
        have hs1 := same_of a1 (by simp)
        have d1 : appF l [e, e] = appF l [e] := step_idem hRs e
        have d2 : appF (appF l [e]) [e] = appF l [e] := step_idem hRs e
        refine go (And.intro h0 (And.intro h1 (And.intro h24 (And.intro h25 (And.intro h26 (And.intro hre (And.intro hee (And.intro @encE_kind (And.intro e1 e2))))))))) ?_
        refine x_callF rfl rfl rfl rfl (sv (And.intro @encE_kind (And.intro e1 e2))) g_app (sv (And.intro @encE_kind (And.intro e1 e2))) (se (And.intro @encE_kind (And.intro e1 e2))) ⟨l, [e], hR.small.mono (by omega), by simp, by (intro x hx; simp at hx; subst hx; omega), rfl, rfl⟩ (by simp) (fun h2 hold => ?_)
        have hb0 : h2 n = some ⟨18, [encE e], true⟩ := by
          rw [hold n (by simp [touchA, touch, upd_at, rowsOf, encE] <;> omega)]
          exact sx (And.intro @encE_kind (And.intro e1 e2))
        clear hold
        refine go (And.intro h0 (And.intro h1 (And.intro h24 (And.intro h25 (And.intro h26 (And.intro hre (And.intro hee (And.intro hb0 (And.intro @encE_kind (And.intro e1 (And.intro e2 (And.intro e3 e4)))))))))))) ?_
        refine x_callF rfl rfl rfl rfl (sv (And.intro @encE_kind (And.intro e1 (And.intro e2 (And.intro e3 e4))))) g_app (sv (And.intro @encE_kind (And.intro e1 (And.intro e2 (And.intro e3 e4))))) (se (And.intro @encE_kind (And.intro e1 (And.intro e2 (And.intro e3 e4))))) ⟨l, [e, e], hR.small.mono (by omega), by simp, by (intro x hx; simp at hx; subst hx; omega), rfl, rfl⟩ (by simp) (fun h2 hold => ?_)
        have hb1 : h2 n = some ⟨18, [encE e], true⟩ := by
          rw [hold n (by simp [touchA, touch, upd_at, rowsOf, encE] <;> omega)]
          exact sx (And.intro @encE_kind (And.intro hb0 (And.intro e1 (And.intro e2 (And.intro e3 e4)))))
        clear hold hb0
        refine go (And.intro h0 (And.intro h1 (And.intro h24 (And.intro h25 (And.intro h26 (And.intro hb1 (And.intro @encE_kind (And.intro e1 (And.intro e2 (And.intro e3 e4)))))))))) ?_
        refine x_callN rfl rfl rfl rfl (sv trivial) g_same (sv trivial) (se trivial) ⟨appF l [e, e], appF l [e], (same_of a2 (by simp)).1, hs1.1, (same_of a2 (by simp)).2, hs1.2, rfl, rfl⟩ rfl ?_
        rw [d1, sameF_refl]
        refine go (And.intro h0 (And.intro h1 (And.intro h24 (And.intro h25 (And.intro h26 (And.intro hb1 (And.intro @encE_kind (And.intro e1 (And.intro e2 (And.intro e3 e4)))))))))) ?_
        refine x_callF rfl rfl rfl rfl (sv (And.intro @encE_kind (And.intro e1 (And.intro e2 (And.intro e3 e4))))) g_app (sv (And.intro @encE_kind (And.intro e1 (And.intro e2 (And.intro e3 e4))))) (se (And.intro @encE_kind (And.intro e1 (And.intro e2 (And.intro e3 e4))))) ⟨appF l [e], [e], a1.mono (by simp), by simp, by (intro x hx; simp at hx; subst hx; omega), rfl, rfl⟩ (by simp) (fun h2 hold => ?_)
        clear hold
        refine go (And.intro h0 (And.intro h1 (And.intro h24 (And.intro h25 (And.intro h26 (And.intro hb1 (And.intro @encE_kind (And.intro e1 (And.intro e2 (And.intro e3 e4)))))))))) ?_
        refine x_callN rfl rfl rfl rfl (sv trivial) g_same (sv trivial) (se trivial) ⟨appF (appF l [e]) [e], appF l [e], (same_of a3 (by simp)).1, hs1.1, (same_of a3 (by simp)).2, hs1.2, rfl, rfl⟩ rfl ?_
        rw [d2, sameF_refl]
        refine go (And.intro h0 (And.intro h1 (And.intro h24 (And.intro h25 (And.intro h26 (And.intro hb1 (And.intro @encE_kind (And.intro e1 (And.intro e2 (And.intro e3 e4)))))))))) ?_
        (refine ⟨⟨i + 1, ?_, ?_, ?_, ?_, ?_, ?_⟩, ?_⟩ <;> (first | omega | (dsimp only; omega) | (omega) | exact sxa @cast_succ | exact soa trivial))
      · have ei : i = es.length := by omega
        subst ei
        skip
        have b1 := app_small es hR.small
        refine go (And.intro h0 (And.intro h1 (And.intro h24 (And.intro h25 h26)))) ?_
        refine x_callS rfl rfl rfl rfl (sv trivial) g_app (sv trivial) (se trivial) ⟨l, es, hR.small.mono (by omega), by omega, fun e he => by have := hF.2 e he; omega, rfl, rfl⟩ (by simp) (by simp [touchA, touch]) ?_
        have hXf : ∀ (y : Idt) (f : ByteArray), es.any (fun e => tchF e y f) = false → getF (appF l es) y f = getF l y f := fun y f h => getF_app y f es l h
        generalize hX : appF l es = X at *
        have okl : okRows 4 (l.map encR) := okRows_map encR l 4 fun a => ⟨rfl, by simp [encR, cellish]⟩
        have okX : okRows 4 (X.map encR) := okRows_map encR X 4 fun a => ⟨rfl, by simp [encR, cellish]⟩
        have hl0 := hR.small.1
        have hX0 := b1.1
        have e1 : (n + 1 = n) = False := by simp
        have e2 : (n = n + 1) = False := by simp
        have e3 : (n = n + 1 + 1) = False := by simp; omega
        have e4 : (n + 1 = n + 1 + 1) = False := by simp
        refine go (And.intro h0 h1) ?_
        refine x_append rfl rfl rfl rfl rfl rfl (sv (And.intro e1 (And.intro e2 (And.intro e3 e4)))) (by decide) (sc (And.intro e1 (And.intro e2 (And.intro e3 e4)))) (sv (And.intro e1 (And.intro e2 (And.intro e3 e4)))) (sx (And.intro e1 (And.intro e2 (And.intro e3 e4)))) okl (sx (And.intro e1 (And.intro e2 (And.intro e3 e4)))) (by first | rfl | (simp; done)) (by first | rfl | (simp; done)) (by first | omega | (simp; done) | (simp [spare_len]; omega)) (by first | omega | (simp; done) | (simp [spare_len]; omega)) (by first | omega | (simp; done) | (simp [spare_len]; omega)) (fun cap' hcap' => ?_)
        have hc1 : l.length ≤ cap' := by simpa using hcap'
        refine go (And.intro h0 h1) ?_
        refine x_appendO rfl rfl rfl rfl rfl rfl (sv (And.intro e1 (And.intro e2 (And.intro e3 e4)))) (by decide) (sc (And.intro e1 (And.intro e2 (And.intro e3 e4)))) (sv (And.intro e1 (And.intro e2 (And.intro e3 e4)))) (sx (And.intro e1 (And.intro e2 (And.intro e3 e4)))) (by first | rfl | (simp; done) | (simp [spare_len]; omega)) (by first | omega | (simp; done) | (simp [spare_len]; omega)) (by first | omega | (simp; done) | (simp [spare_len]; omega)) (sx (And.intro e1 (And.intro e2 (And.intro e3 e4)))) okX (by first | omega | (simp; done) | (simp [spare_len]; omega)) (fun cap' hcap' => ?_)
        refine go (And.intro h0 h1) ?_
        have hc2 : l.length + X.length ≤ cap' := by simpa using hcap'
        have rl : (l ++ X).length = l.length + X.length := List.length_append
        have rm : (l ++ X).map encR = l.map encR ++ X.map encR := List.map_append
        refine x_loop (fun σ => ∃ (i : Nat) (b : Nat) (cap : Nat) (sp : List (List V)), σ.t 0 = .sl (l.map encR) ∧ σ.t 1 = .sl (es.map encE) ∧ σ.t 8 = .sl (X.map encR) ∧ σ.t 59 = .loc b 0 (l ++ X).length cap ∧ σ.t 60 = .s (.int .i64 (l ++ X).length) ∧ σ.t 61 = .s (.int .i64 i) ∧ σ.h b = some ⟨4, (l ++ X).map encR ++ sp, true⟩ ∧ b < σ.n ∧ i ≤ (l ++ X).length) (fun σ => (l ++ X).length - ix (σ.t 61)) ⟨0, n + 1 + 1, _, _, (by first | assumption | exact sxa trivial), (by first | assumption | exact sxa trivial), (by first | assumption | exact sxa trivial), (by first | assumption | exact sxa trivial), (by first | assumption | exact sxa trivial), (by first | assumption | exact sxa trivial), (by first | assumption | exact sxa trivial), (by first | omega | (dsimp only; omega) | exact soa trivial | omega | (simp; done)), (by first | rfl | omega | assumption | (simp [*]; done))⟩ ?_
        rintro t h n2 ⟨i, b, cap, sp, h0, h1, h8, h59, h60, h61, hhb, hn1, hf0⟩
        simp only at h0 h1 h8 h59 h60 h61 hhb hn1
        have hYl : (l ++ X).length ≤ 1000 := by rw [rl]; omega
        clear rl rm
        generalize hY : l ++ X = Y at *
        refine go (And.intro h0 (And.intro h1 (And.intro h8 (And.intro h59 (And.intro h60 h61))))) ?_
        refine x_condP (sv (And.intro h0 (And.intro h1 (And.intro h8 (And.intro h59 (And.intro h60 h61)))))) (fun hc => ?_) (fun hc => ?_)
        · have hi : i < Y.length := by omega
          have gr := getD_row Y sp i hi
          have ln : (Y.map encR ++ sp).length = Y.length + sp.length := by simp
          have e1 : (b = n2) = False := by simp; omega
          have e2 : (b = n2 + 1) = False := by simp; omega
          have e3 : (n2 = b) = False := by simp; omega
          generalize hrr : rAt Y i = r at *
          refine go (And.intro h0 (And.intro h1 (And.intro h8 (And.intro h59 (And.intro h60 (And.intro h61 (And.intro hhb (And.intro gr (And.intro ln (And.intro e1 (And.intro e2 e3))))))))))) ?_
          refine x_loop (fun σ => ∃ (j : Nat) (w : Bool), σ.t 0 = .sl (l.map encR) ∧ σ.t 1 = .sl (es.map encE) ∧ σ.t 8 = .sl (X.map encR) ∧ σ.t 59 = .loc b 0 Y.length cap ∧ σ.t 60 = .s (.int .i64 Y.length) ∧ σ.t 61 = .s (.int .i64 i) ∧ σ.h b = some ⟨4, Y.map encR ++ sp, true⟩ ∧ σ.h n2 = some ⟨4, [encR r], true⟩ ∧ σ.t 10 = .ptr n2 0 0 ∧ σ.t 65 = .sl (es.map encE) ∧ σ.t 66 = .s (.int .i64 es.length) ∧ σ.t 67 = .s (.int .i64 j) ∧ σ.t 11 = .s (.bool w) ∧ b < σ.n ∧ n2 < σ.n ∧ j ≤ es.length ∧ (w || (es.drop j).any (fun e => tchF e r.id r.f)) = es.any (fun e => tchF e r.id r.f)) (fun σ => es.length - ix (σ.t 67)) ⟨0, false, (by first | assumption | exact sxa trivial), (by first | assumption | exact sxa trivial), (by first | assumption | exact sxa trivial), (by first | assumption | exact sxa trivial), (by first | assumption | exact sxa trivial), (by first | assumption | exact sxa trivial), (by first | assumption | exact sxa trivial), (by first | assumption | exact sxa trivial), (by first | assumption | exact sxa trivial), (by first | assumption | exact sxa trivial), (by first | assumption | exact sxa trivial), (by first | assumption | exact sxa trivial), (by first | assumption | exact sxa trivial), (by first | omega | (dsimp only; omega) | exact soa trivial | omega | (simp; done)), (by first | omega | (dsimp only; omega) | exact soa trivial | omega | (simp; done)), (by first | rfl | omega | assumption | (simp [*]; done)), (by first | rfl | omega | assumption | (simp [*]; done))⟩ ?_
          rintro t h n4 ⟨j, w, h0, h1, h8, h59, h60, h61, hhb, hhn2, h10, h65, h66, h67, h11, hn1, hn3, hf0, hf1⟩
          simp only at h0 h1 h8 h59 h60 h61 hhb hhn2 h10 h65 h66 h67 h11 hn1 hn3
          refine go (And.intro h0 (And.intro h1 (And.intro h8 (And.intro h59 (And.intro h60 (And.intro h61 (And.intro h10 (And.intro h65 (And.intro h66 (And.intro h67 h11)))))))))) ?_
          refine x_condP (sv (And.intro h0 (And.intro h1 (And.intro h8 (And.intro h59 (And.intro h60 (And.intro h61 (And.intro h10 (And.intro h65 (And.intro h66 (And.intro h67 h11))))))))))) (fun hc => ?_) (fun hc => ?_)
          · have hj : j < es.length := by omega
            rw [List.drop_eq_getElem_cons hj, List.any_cons] at hf1
            generalize hee : es[j] = e at *
            have e4 : (b = n4) = False := by simp; omega
            have e5 : (n2 = n4) = False := by simp; omega
            have e6 : (n4 = n2) = False := by simp; omega
            have e7 : (n4 = b) = False := by simp; omega
            cases w
            · cases hk : (e.kind == 3)
              · have htc : tchF e r.id r.f = false := by simp [tchF, hk]
                rw [htc, Bool.false_or] at hf1
                refine go (And.intro h0 (And.intro h1 (And.intro h8 (And.intro h59 (And.intro h60 (And.intro h61 (And.intro h10 (And.intro h65 (And.intro h66 (And.intro h67 (And.intro h11 (And.intro hhb (And.intro hhn2 (And.intro hre (And.intro hee (And.intro @encE_kind (And.intro @encR.eq_1 (And.intro hpl (And.intro hk (And.intro e4 (And.intro e5 (And.intro e6 e7)))))))))))))))))))))) ?_
                (refine ⟨⟨j + 1, false, ?_, ?_, ?_, ?_, ?_, ?_, ?_, ?_, ?_, ?_, ?_, ?_, ?_, ?_, ?_, ?_, ?_⟩, ?_⟩ <;> (first | omega | (dsimp only; omega) | ((exact hf1)) | exact sxa (And.intro @cast_succ (And.intro e4 (And.intro e5 (And.intro e6 e7)))) | exact soa trivial))
              · cases hn : ((e.node.a.toList == r.id.a.toList) && (e.node.n == r.id.n))
                · have htc : tchF e r.id r.f = false := by simp only [tchF, hk, hn]; rfl
                  rw [htc, Bool.false_or] at hf1
                  refine go (And.intro h0 (And.intro h1 (And.intro h8 (And.intro h59 (And.intro h60 (And.intro h61 (And.intro h10 (And.intro h65 (And.intro h66 (And.intro h67 (And.intro h11 (And.intro hhb (And.intro hhn2 (And.intro hre (And.intro hee (And.intro @encE_kind (And.intro @encR.eq_1 (And.intro hpl (And.intro hk (And.intro hn (And.intro e4 (And.intro e5 (And.intro e6 e7))))))))))))))))))))))) ?_
                  (refine ⟨⟨j + 1, false, ?_, ?_, ?_, ?_, ?_, ?_, ?_, ?_, ?_, ?_, ?_, ?_, ?_, ?_, ?_, ?_, ?_⟩, ?_⟩ <;> (first | omega | (dsimp only; omega) | ((exact hf1)) | exact sxa (And.intro @cast_succ (And.intro e4 (And.intro e5 (And.intro e6 e7)))) | exact soa trivial))
                · have htc : tchF e r.id r.f = (e.field.toList == r.f.toList) := by simp only [tchF, hk, hn]; rfl
                  rw [htc, Bool.false_or] at hf1
                  refine go (And.intro h0 (And.intro h1 (And.intro h8 (And.intro h59 (And.intro h60 (And.intro h61 (And.intro h10 (And.intro h65 (And.intro h66 (And.intro h67 (And.intro h11 (And.intro hhb (And.intro hhn2 (And.intro hre (And.intro hee (And.intro @encE_kind (And.intro @encR.eq_1 (And.intro hpl (And.intro hk (And.intro hn (And.intro e4 (And.intro e5 (And.intro e6 e7))))))))))))))))))))))) ?_
                  (refine ⟨⟨j + 1, e.field.toList == r.f.toList, ?_, ?_, ?_, ?_, ?_, ?_, ?_, ?_, ?_, ?_, ?_, ?_, ?_, ?_, ?_, ?_, ?_⟩, ?_⟩ <;> (first | omega | (dsimp only; omega) | ((exact hf1)) | exact sxa (And.intro @cast_succ (And.intro e4 (And.intro e5 (And.intro e6 e7)))) | exact soa trivial))
            · refine go (And.intro h0 (And.intro h1 (And.intro h8 (And.intro h59 (And.intro h60 (And.intro h61 (And.intro h10 (And.intro h65 (And.intro h66 (And.intro h67 (And.intro h11 (And.intro hhb (And.intro hhn2 (And.intro hre (And.intro hee (And.intro @encE_kind (And.intro @encR.eq_1 (And.intro hpl (And.intro e4 (And.intro e5 (And.intro e6 e7))))))))))))))))))))) ?_
              (refine ⟨⟨j + 1, true, ?_, ?_, ?_, ?_, ?_, ?_, ?_, ?_, ?_, ?_, ?_, ?_, ?_, ?_, ?_, ?_, ?_⟩, ?_⟩ <;> (first | omega | (dsimp only; omega) | ((rw [Bool.true_or] at hf1 ⊢; exact hf1)) | exact sxa (And.intro @cast_succ (And.intro e4 (And.intro e5 (And.intro e6 e7)))) | exact soa trivial))
          · have ej : j = es.length := by omega
            rw [ej, List.drop_of_length_le (Nat.le_refl _), List.any_nil, Bool.or_false] at hf1
            skip
            cases w
            · have hx1 := hXf r.id r.f hf1.symm
              refine go (And.intro h0 (And.intro h1 (And.intro h8 (And.intro h59 (And.intro h60 (And.intro h61 (And.intro h10 (And.intro h65 (And.intro h66 (And.intro h67 (And.intro h11 (And.intro hhb (And.intro hhn2 @encR.eq_1))))))))))))) ?_
              refine x_callDS rfl rfl rfl rfl rfl (sv @encId.eq_1) g_look (sv @encId.eq_1) (se @encId.eq_1) ⟨X, r.id, r.f, (same_of b1 (by omega)).1, (same_of b1 (by omega)).2, rfl, rfl⟩ (by simp) (by simp [touchA, touch]) ?_
              refine go (And.intro h0 (And.intro h1 (And.intro h8 (And.intro h59 (And.intro h60 (And.intro h61 (And.intro h10 (And.intro h65 (And.intro h66 (And.intro h67 (And.intro h11 (And.intro hhb (And.intro hhn2 @encR.eq_1))))))))))))) ?_
              refine x_callDS rfl rfl rfl rfl rfl (sv @encId.eq_1) g_look (sv @encId.eq_1) (se @encId.eq_1) ⟨l, r.id, r.f, (same_of hR.small (by omega)).1, (same_of hR.small (by omega)).2, rfl, rfl⟩ (by simp) (by simp [touchA, touch]) ?_
              refine go (And.intro h0 (And.intro h1 (And.intro h8 (And.intro h59 (And.intro h60 (And.intro h61 (And.intro h10 (And.intro h65 (And.intro h66 (And.intro h67 (And.intro h11 (And.intro hhb (And.intro hhn2 @encR.eq_1))))))))))))) ?_
              rw [hx1]
              have hgl := getF_len hR.small r.id r.f
              refine x_callD rfl rfl rfl rfl rfl (sv trivial) g_marks (sv trivial) (se trivial) ⟨getF l r.id r.f, getF l r.id r.f, by omega, by omega, rfl, rfl⟩ rfl ?_
              rw [marksF_refl']
              refine go (And.intro h0 (And.intro h1 (And.intro h8 (And.intro h59 (And.intro h60 (And.intro h61 (And.intro h10 (And.intro h65 (And.intro h66 (And.intro h67 (And.intro h11 (And.intro hhb (And.intro hhn2 @encR.eq_1))))))))))))) ?_
              (refine ⟨⟨i + 1, b, cap, sp, ?_, ?_, ?_, ?_, ?_, ?_, ?_, ?_, ?_⟩, ?_⟩ <;> (first | omega | (dsimp only; omega) | (omega) | exact sxa @cast_succ | exact soa trivial))
            · refine go (And.intro h0 (And.intro h1 (And.intro h8 (And.intro h59 (And.intro h60 (And.intro h61 (And.intro h10 (And.intro h65 (And.intro h66 (And.intro h67 (And.intro h11 (And.intro hhb (And.intro hhn2 @encR.eq_1))))))))))))) ?_
              (refine ⟨⟨i + 1, b, cap, sp, ?_, ?_, ?_, ?_, ?_, ?_, ?_, ?_, ?_⟩, ?_⟩ <;> (first | omega | (dsimp only; omega) | (omega) | exact sxa @cast_succ | exact soa trivial))
        · have ei : i = Y.length := by omega
          subst ei
          skip
          refine go (And.intro h0 (And.intro h1 (And.intro h8 (And.intro h59 (And.intro h60 h61))))) ?_
          refine x_done (x_out (sr @Try.f8.eq_1) (by simp) (by simp) rfl)
  · refine go hr ?_
    refine x_done (x_out (sr @Try.f8.eq_1) (by simp) (by simp) rfl)
end Go.Proofs.Ytgohmphhgglmbaa

set_option linter.unusedVariables false
set_option linter.unusedSimpArgs false
set_option maxRecDepth 100000
namespace Go.Proofs.Ytgohmphhgglmbaa
open Go Go.RowKit Am

theorem eqf_cons {P : Program} {d : Nat} {xs ys : Array Value} {f : Field} {fs : List Field} {a b : Value} {r s : Bool} {w : World} (hn : (f.name == "_") = false) (ha : (part f.type xs f.offset).run P w = .ok a w) (hb : (part f.type ys f.offset).run P w = .ok b w) (he : (Op.equalIn d f.type a b).run P w = .ok r w)
    (hr : (Op.eqFields d xs ys fs).run P w = .ok s w) : (Op.eqFields d xs ys (f :: fs)).run P w = .ok (r && s) w := by
  have hn' : f.name ≠ "_" := by simpa using hn
  rw [Op.eqFields]
  simp only [if_pos hn', Sem.run_bind, ha, hb, he, Result.andThen_ok]
  cases r
  · simp
  · simpa using hr
theorem eqf_nil {P : Program} {d : Nat} {xs ys : Array Value} {w : World} : (Op.eqFields d xs ys []).run P w = .ok true w := by simp [Op.eqFields]
theorem eq_str {P : Program} {d T : Nat} {a b : ByteArray} {w : World} (hu : P.underlying T = some .string) : (Op.equalIn (d + 1) T (.string a) (.string b)).run P w = .ok (a.toList == b.toList) w := by
  rw [← beq_toListBytes]
  simp [Op.equalIn, run_under hu, Sem.run, pure]
theorem eq_int {P : Program} {d T : Nat} {k : IntKind} {a b : Int} {w : World} (hu : P.underlying T = some (.int k)) : (Op.equalIn (d + 1) T (.int k a) (.int k b)).run P w = .ok (a == b) w := by
  simp [Op.equalIn, run_under hu, Sem.run, pure]
theorem agS : aggo Try.prog 9 = some false := by kernel_rfl
theorem agI : aggo Try.prog 3 = some false := by kernel_rfl
theorem agD : aggo Try.prog 31 = some true := by kernel_rfl
theorem szD : szo Try.prog 31 = some 2 := by kernel_rfl
theorem unS : Program.underlying Try.prog 9 = some .string := by kernel_rfl
theorem unI : Program.underlying Try.prog 3 = some (.int .i64) := by kernel_rfl
theorem p0 {P : Program} {T : Nat} {x : Value} {xs : Array Value} {o : Nat} {w : World} (hg : aggo P T = some false) (ho : xs[o]? = some x) : (part T xs o).run P w = .ok x w := by
  obtain ⟨h1, h2⟩ := Array.getElem?_eq_some_iff.1 ho
  rw [run_part_one hg h1]
  simp [h1, h2]
theorem idFields {P : Program} (h9 : aggo P 9 = some false) (h3 : aggo P 3 = some false) (u9 : P.underlying 9 = some .string) (u3 : P.underlying 3 = some (.int .i64)) (f0 f1 : Field) (n0 : (f0.name == "_") = false) (n1 : (f1.name == "_") = false) (t0 : f0.type = 9) (t1 : f1.type = 3) (o0 : f0.offset = 0) (o1 : f1.offset = 1) (d : Nat) (a b : ByteArray) (m n : Int) (w : World) :
    (Op.eqFields (d + 1) #[.string a, .int .i64 m] #[.string b, .int .i64 n] [f0, f1]).run P w = .ok ((a.toList == b.toList) && ((m == n) && true)) w := by
  refine eqf_cons (a := .string a) (b := .string b) n0 (by rw [t0, o0]; exact p0 h9 rfl) (by rw [t0, o0]; exact p0 h9 rfl) (by rw [t0]; exact eq_str u9) ?_
  refine eqf_cons (a := .int .i64 m) (b := .int .i64 n) n1 (by rw [t1, o1]; exact p0 h3 rfl) (by rw [t1, o1]; exact p0 h3 rfl) (by rw [t1]; exact eq_int u3) ?_
  exact eqf_nil
theorem wFields {P : Program} {ID : Nat} (h9 : aggo P 9 = some false) (h3 : aggo P 3 = some false) (hD : aggo P ID = some true) (sD : szo P ID = some 2) (u9 : P.underlying 9 = some .string) (u3 : P.underlying 3 = some (.int .i64)) (f0 f1 f2 : Field) (n0 : (f0.name == "_") = false) (n1 : (f1.name == "_") = false) (n2 : (f2.name == "_") = false) (t0 : f0.type = ID) (t1 : f1.type = 3) (t2 : f2.type = 9) (o0 : f0.offset = 0) (o1 : f1.offset = 2) (o2 : f2.offset = 3) (d : Nat) (a b x y : ByteArray) (m n p q : Int) (w : World)
    (hid : (Op.equalIn (d + 1) ID (.agg #[.string a, .int .i64 m]) (.agg #[.string b, .int .i64 n])).run P w = .ok ((a.toList == b.toList) && ((m == n) && true)) w) :
    (Op.eqFields (d + 1) #[.string a, .int .i64 m, .int .i64 p, .string x] #[.string b, .int .i64 n, .int .i64 q, .string y] [f0, f1, f2]).run P w = .ok (((a.toList == b.toList) && ((m == n) && true)) && ((p == q) && ((x.toList == y.toList) && true))) w := by
  refine eqf_cons (a := .agg #[.string a, .int .i64 m]) (b := .agg #[.string b, .int .i64 n]) n0 (by rw [t0, o0]; exact run_part_agg hD sD) (by rw [t0, o0]; exact run_part_agg hD sD) (by rw [t0]; exact hid) ?_
  refine eqf_cons (a := .int .i64 p) (b := .int .i64 q) n1 (by rw [t1, o1]; exact p0 h3 rfl) (by rw [t1, o1]; exact p0 h3 rfl) (by rw [t1]; exact eq_int u3) ?_
  refine eqf_cons (a := .string x) (b := .string y) n2 (by rw [t2, o2]; exact p0 h9 rfl) (by rw [t2, o2]; exact p0 h9 rfl) (by rw [t2]; exact eq_str u9) ?_
  exact eqf_nil
theorem eqId_run (d : Nat) (a b : ByteArray) (m n : Int) (w : World) : (Op.equalIn (d + 2) 31 (.agg #[.string a, .int .i64 m]) (.agg #[.string b, .int .i64 n])).run Try.prog w = .ok ((a.toList == b.toList) && ((m == n) && true)) w := by
  have hu := Try.underlying31
  rw [run_equalIn_struct (P := Try.prog) (w := w) (d + 1) 31 _ _ (by kernel_rfl) (by kernel_rfl)]
  simp only [Program.fieldsOf, hu]
  exact idFields agS agI unS unI _ _ rfl rfl rfl rfl rfl rfl d a b m n w
theorem eqW_run (d : Nat) (a b x y : ByteArray) (m n p q : Int) (w : World) : (Op.equalIn (d + 3) 41 (.agg #[.string a, .int .i64 m, .int .i64 p, .string x]) (.agg #[.string b, .int .i64 n, .int .i64 q, .string y])).run Try.prog w = .ok (((a.toList == b.toList) && ((m == n) && true)) && ((p == q) && ((x.toList == y.toList) && true))) w := by
  have hu := Try.underlying41
  rw [run_equalIn_struct (P := Try.prog) (w := w) (d + 2) 41 _ _ (by kernel_rfl) (by kernel_rfl)]
  simp only [Program.fieldsOf, hu]
  exact wFields agS agI agD szD unS unI _ _ _ rfl rfl rfl rfl rfl rfl rfl rfl rfl (d + 1) a b x y m n p q w (eqId_run d a b m n w)
def plainT (T : TypeId) : Bool := T == 31 || T == 41
theorem fit_s {a : ByteArray} {x : Value} (h : fit1 (.string a) x = true) : ∃ s, x = .string s := by
  cases x <;> simp [fit1] at h
  exact ⟨_, rfl⟩
theorem fit_i {k : IntKind} {a : Int} {x : Value} (h : fit1 (.int k a) x = true) : ∃ s, x = .int k s := by
  cases x <;> simp [fit1] at h
  subst h
  exact ⟨_, rfl⟩
theorem fits2 {a : ByteArray} {m : Int} {k : IntKind} : ∀ {X : List Value}, fits [.string a, .int k m] X = true → ∃ s n, X = [.string s, .int k n]
  | [], h => by simp [fits] at h
  | [x], h => by simp [fits] at h
  | x :: y :: z :: l, h => by simp [fits] at h
  | [x, y], h => by
    simp only [fits, Bool.and_eq_true] at h
    obtain ⟨s, rfl⟩ := fit_s h.1
    obtain ⟨n, rfl⟩ := fit_i h.2.1
    exact ⟨_, _, rfl⟩
theorem fits4 {a b : ByteArray} {m n : Int} {k k2 : IntKind} : ∀ {X : List Value}, fits [.string a, .int k m, .int k2 n, .string b] X = true → ∃ s p q t, X = [.string s, .int k p, .int k2 q, .string t]
  | [], h => by simp [fits] at h
  | [x], h => by simp [fits] at h
  | [x, y], h => by simp [fits] at h
  | [x, y, z], h => by simp [fits] at h
  | x :: y :: z :: u :: v :: l, h => by simp [fits] at h
  | [x, y, z, u], h => by
    simp only [fits, Bool.and_eq_true] at h
    obtain ⟨s, rfl⟩ := fit_s h.1
    obtain ⟨p, rfl⟩ := fit_i h.2.1
    obtain ⟨q, rfl⟩ := fit_i h.2.2.1
    obtain ⟨t, rfl⟩ := fit_s h.2.2.2.1
    exact ⟨_, _, _, _, rfl⟩
theorem plain_ok : PlainOk Try.prog plainT := by
  refine ⟨fun T hT zs X Y b hz hX hY hb w => ?_, fun T hT => ?_⟩
  · simp only [plainT, Bool.or_eq_true, beq_iff_eq] at hT
    rcases hT with rfl | rfl
    · rw [zr31] at hz
      cases hz
      obtain ⟨s, n, rfl⟩ := fits2 hX
      obtain ⟨t, m, rfl⟩ := fits2 hY
      simp only [eqL, if_true, Option.map_some, Option.some.injEq] at hb
      subst hb
      have h := eqId_run 9998 s t n m w
      generalize (s.toList == t.toList && (n == m && true)) = q at *
      exact h
    · rw [zr41] at hz
      cases hz
      obtain ⟨s, n, p, u, rfl⟩ := fits4 hX
      obtain ⟨t, m, q, v, rfl⟩ := fits4 hY
      simp only [eqL, if_true, Option.map_some, Option.some.injEq] at hb
      subst hb
      have := eqW_run 9997 s t u v n m p q w
      simp only [Bool.and_true] at this ⊢
      rw [Bool.and_assoc] at this
      exact this
  · simp only [plainT, Bool.or_eq_true, beq_iff_eq] at hT
    rcases hT with rfl | rfl <;> kernel_rfl
end Go.Proofs.Ytgohmphhgglmbaa

set_option linter.unusedVariables false
set_option maxRecDepth 100000
namespace Go.Proofs.Ytgohmphhgglmbaa
open Go Go.RowKit Am

theorem env0 : EnvOk ⟨Try.prog, plainT, (fun _ => none), (fun _ => none), fun _ => none, 0⟩ := ⟨plain_ok, (fun _ _ h => by cases h), (fun _ _ h => by cases h), by kernel_rfl, (fun _ _ h => by cases h)⟩
def ga0 : FuncId → Option Fspec := fun _ => none
def de0 : FuncId → Option Pt := fun _ => none
theorem ok0_0 : EnvOk ⟨Try.prog, plainT, ga0, de0, fun _ => none, 0⟩ := env0
def de1 : FuncId → Option Pt := upd de0 59 (some (cmpT))
theorem ok0_1 : EnvOk ⟨Try.prog, plainT, ga0, de1, fun _ => none, 0⟩ := EnvOk.addT ok0_0 (cmpT_sound)
def de2 : FuncId → Option Pt := upd de1 56 (some (overT 4))
theorem ok0_2 : EnvOk ⟨Try.prog, plainT, ga0, de2, fun _ => none, 0⟩ := EnvOk.addT ok0_1 (overT_sound (tS := 32) (tR := 4) (e := 41) Try.func56 (by kernel_rfl) (by kernel_rfl) (by kernel_rfl) (by kernel_rfl) (by kernel_rfl) (by kernel_rfl) (by decide) (by decide))
def de3 : FuncId → Option Pt := upd de2 42 (some (overT 4))
theorem ok0_3 : EnvOk ⟨Try.prog, plainT, ga0, de3, fun _ => none, 0⟩ := EnvOk.addT ok0_2 (overT_sound (tS := 22) (tR := 4) (e := 39) Try.func42 (by kernel_rfl) (by kernel_rfl) (by kernel_rfl) (by kernel_rfl) (by kernel_rfl) (by kernel_rfl) (by decide) (by decide))
def ga1 : FuncId → Option Fspec := upd ga0 53 (some compareS)
theorem ok1_3 : EnvOk ⟨Try.prog, plainT, ga1, de3, fun _ => none, 0⟩ := EnvOk.add ok0_3 (by first | exact compareString_sound ok0_3 | exact compareString_sound ok0_3 rfl | exact compareString_sound ok0_3 rfl rfl | exact compareString_sound ok0_3 rfl rfl rfl | exact compareString_sound ok0_3 rfl rfl rfl rfl | exact compareString_sound ok0_3 rfl rfl rfl rfl rfl | exact compareString_sound ok0_3 rfl rfl rfl rfl rfl rfl | exact compareString_sound ok0_3 rfl rfl rfl rfl rfl rfl rfl | exact compareString_sound ok0_3 rfl rfl rfl rfl rfl rfl rfl rfl | exact compareString_sound ok0_3 rfl rfl rfl rfl rfl rfl rfl rfl rfl | exact compareString_sound ok0_3 rfl rfl rfl rfl rfl rfl rfl rfl rfl rfl | exact compareString_sound ok0_3 rfl rfl rfl rfl rfl rfl rfl rfl rfl rfl rfl | exact compareString_sound ok0_3 rfl rfl rfl rfl rfl rfl rfl rfl rfl rfl rfl rfl) (by kernel_rfl)
def ga2 : FuncId → Option Fspec := upd ga1 41 (some compareS)
theorem ok2_3 : EnvOk ⟨Try.prog, plainT, ga2, de3, fun _ => none, 0⟩ := EnvOk.add ok1_3 (by first | exact compare_sound ok1_3 | exact compare_sound ok1_3 rfl | exact compare_sound ok1_3 rfl rfl | exact compare_sound ok1_3 rfl rfl rfl | exact compare_sound ok1_3 rfl rfl rfl rfl | exact compare_sound ok1_3 rfl rfl rfl rfl rfl | exact compare_sound ok1_3 rfl rfl rfl rfl rfl rfl | exact compare_sound ok1_3 rfl rfl rfl rfl rfl rfl rfl | exact compare_sound ok1_3 rfl rfl rfl rfl rfl rfl rfl rfl | exact compare_sound ok1_3 rfl rfl rfl rfl rfl rfl rfl rfl rfl | exact compare_sound ok1_3 rfl rfl rfl rfl rfl rfl rfl rfl rfl rfl | exact compare_sound ok1_3 rfl rfl rfl rfl rfl rfl rfl rfl rfl rfl rfl | exact compare_sound ok1_3 rfl rfl rfl rfl rfl rfl rfl rfl rfl rfl rfl rfl) (by kernel_rfl)
def ga3 : FuncId → Option Fspec := upd ga2 58 (some nanS)
theorem ok3_3 : EnvOk ⟨Try.prog, plainT, ga3, de3, fun _ => none, 0⟩ := EnvOk.add ok2_3 (by first | exact nan_sound ok2_3 | exact nan_sound ok2_3 rfl | exact nan_sound ok2_3 rfl rfl | exact nan_sound ok2_3 rfl rfl rfl | exact nan_sound ok2_3 rfl rfl rfl rfl | exact nan_sound ok2_3 rfl rfl rfl rfl rfl | exact nan_sound ok2_3 rfl rfl rfl rfl rfl rfl | exact nan_sound ok2_3 rfl rfl rfl rfl rfl rfl rfl | exact nan_sound ok2_3 rfl rfl rfl rfl rfl rfl rfl rfl | exact nan_sound ok2_3 rfl rfl rfl rfl rfl rfl rfl rfl rfl | exact nan_sound ok2_3 rfl rfl rfl rfl rfl rfl rfl rfl rfl rfl | exact nan_sound ok2_3 rfl rfl rfl rfl rfl rfl rfl rfl rfl rfl rfl | exact nan_sound ok2_3 rfl rfl rfl rfl rfl rfl rfl rfl rfl rfl rfl rfl) (by kernel_rfl)
def ga4 : FuncId → Option Fspec := upd ga3 52 (some cmpIS)
theorem ok4_3 : EnvOk ⟨Try.prog, plainT, ga4, de3, fun _ => none, 0⟩ := EnvOk.add ok3_3 (by first | exact cmpI_sound ok3_3 | exact cmpI_sound ok3_3 rfl | exact cmpI_sound ok3_3 rfl rfl | exact cmpI_sound ok3_3 rfl rfl rfl | exact cmpI_sound ok3_3 rfl rfl rfl rfl | exact cmpI_sound ok3_3 rfl rfl rfl rfl rfl | exact cmpI_sound ok3_3 rfl rfl rfl rfl rfl rfl | exact cmpI_sound ok3_3 rfl rfl rfl rfl rfl rfl rfl | exact cmpI_sound ok3_3 rfl rfl rfl rfl rfl rfl rfl rfl | exact cmpI_sound ok3_3 rfl rfl rfl rfl rfl rfl rfl rfl rfl | exact cmpI_sound ok3_3 rfl rfl rfl rfl rfl rfl rfl rfl rfl rfl | exact cmpI_sound ok3_3 rfl rfl rfl rfl rfl rfl rfl rfl rfl rfl rfl | exact cmpI_sound ok3_3 rfl rfl rfl rfl rfl rfl rfl rfl rfl rfl rfl rfl) (by kernel_rfl)
def ga5 : FuncId → Option Fspec := upd ga4 39 (some orS)
theorem ok5_3 : EnvOk ⟨Try.prog, plainT, ga5, de3, fun _ => none, 0⟩ := EnvOk.add ok4_3 (by first | exact or_sound ok4_3 | exact or_sound ok4_3 rfl | exact or_sound ok4_3 rfl rfl | exact or_sound ok4_3 rfl rfl rfl | exact or_sound ok4_3 rfl rfl rfl rfl | exact or_sound ok4_3 rfl rfl rfl rfl rfl | exact or_sound ok4_3 rfl rfl rfl rfl rfl rfl | exact or_sound ok4_3 rfl rfl rfl rfl rfl rfl rfl | exact or_sound ok4_3 rfl rfl rfl rfl rfl rfl rfl rfl | exact or_sound ok4_3 rfl rfl rfl rfl rfl rfl rfl rfl rfl | exact or_sound ok4_3 rfl rfl rfl rfl rfl rfl rfl rfl rfl rfl | exact or_sound ok4_3 rfl rfl rfl rfl rfl rfl rfl rfl rfl rfl rfl | exact or_sound ok4_3 rfl rfl rfl rfl rfl rfl rfl rfl rfl rfl rfl rfl) (by kernel_rfl)
def ga6 : FuncId → Option Fspec := upd ga5 50 (some (bsS encId))
theorem ok6_3 : EnvOk ⟨Try.prog, plainT, ga6, de3, fun _ => none, 0⟩ := EnvOk.add ok5_3 (by first | exact bsI_sound ok5_3 | exact bsI_sound ok5_3 rfl | exact bsI_sound ok5_3 rfl rfl | exact bsI_sound ok5_3 rfl rfl rfl | exact bsI_sound ok5_3 rfl rfl rfl rfl | exact bsI_sound ok5_3 rfl rfl rfl rfl rfl | exact bsI_sound ok5_3 rfl rfl rfl rfl rfl rfl | exact bsI_sound ok5_3 rfl rfl rfl rfl rfl rfl rfl | exact bsI_sound ok5_3 rfl rfl rfl rfl rfl rfl rfl rfl | exact bsI_sound ok5_3 rfl rfl rfl rfl rfl rfl rfl rfl rfl | exact bsI_sound ok5_3 rfl rfl rfl rfl rfl rfl rfl rfl rfl rfl | exact bsI_sound ok5_3 rfl rfl rfl rfl rfl rfl rfl rfl rfl rfl rfl | exact bsI_sound ok5_3 rfl rfl rfl rfl rfl rfl rfl rfl rfl rfl rfl rfl) (by kernel_rfl)
def ga7 : FuncId → Option Fspec := upd ga6 27 (some (bsS2 encR))
theorem ok7_3 : EnvOk ⟨Try.prog, plainT, ga7, de3, fun _ => none, 0⟩ := EnvOk.add ok6_3 (by first | exact bsR_sound ok6_3 | exact bsR_sound ok6_3 rfl | exact bsR_sound ok6_3 rfl rfl | exact bsR_sound ok6_3 rfl rfl rfl | exact bsR_sound ok6_3 rfl rfl rfl rfl | exact bsR_sound ok6_3 rfl rfl rfl rfl rfl | exact bsR_sound ok6_3 rfl rfl rfl rfl rfl rfl | exact bsR_sound ok6_3 rfl rfl rfl rfl rfl rfl rfl | exact bsR_sound ok6_3 rfl rfl rfl rfl rfl rfl rfl rfl | exact bsR_sound ok6_3 rfl rfl rfl rfl rfl rfl rfl rfl rfl | exact bsR_sound ok6_3 rfl rfl rfl rfl rfl rfl rfl rfl rfl rfl | exact bsR_sound ok6_3 rfl rfl rfl rfl rfl rfl rfl rfl rfl rfl rfl | exact bsR_sound ok6_3 rfl rfl rfl rfl rfl rfl rfl rfl rfl rfl rfl rfl) (by kernel_rfl)
def ga8 : FuncId → Option Fspec := upd ga7 46 (some (bsS2 encW))
theorem ok8_3 : EnvOk ⟨Try.prog, plainT, ga8, de3, fun _ => none, 0⟩ := EnvOk.add ok7_3 (by first | exact bsW_sound ok7_3 | exact bsW_sound ok7_3 rfl | exact bsW_sound ok7_3 rfl rfl | exact bsW_sound ok7_3 rfl rfl rfl | exact bsW_sound ok7_3 rfl rfl rfl rfl | exact bsW_sound ok7_3 rfl rfl rfl rfl rfl | exact bsW_sound ok7_3 rfl rfl rfl rfl rfl rfl | exact bsW_sound ok7_3 rfl rfl rfl rfl rfl rfl rfl | exact bsW_sound ok7_3 rfl rfl rfl rfl rfl rfl rfl rfl | exact bsW_sound ok7_3 rfl rfl rfl rfl rfl rfl rfl rfl rfl | exact bsW_sound ok7_3 rfl rfl rfl rfl rfl rfl rfl rfl rfl rfl | exact bsW_sound ok7_3 rfl rfl rfl rfl rfl rfl rfl rfl rfl rfl rfl | exact bsW_sound ok7_3 rfl rfl rfl rfl rfl rfl rfl rfl rfl rfl rfl rfl) (by kernel_rfl)
def ga9 : FuncId → Option Fspec := upd ga8 40 (some cmpIdS)
theorem ok9_3 : EnvOk ⟨Try.prog, plainT, ga9, de3, fun _ => none, 0⟩ := EnvOk.add ok8_3 (by first | exact cmpId_sound ok8_3 | exact cmpId_sound ok8_3 rfl | exact cmpId_sound ok8_3 rfl rfl | exact cmpId_sound ok8_3 rfl rfl rfl | exact cmpId_sound ok8_3 rfl rfl rfl rfl | exact cmpId_sound ok8_3 rfl rfl rfl rfl rfl | exact cmpId_sound ok8_3 rfl rfl rfl rfl rfl rfl | exact cmpId_sound ok8_3 rfl rfl rfl rfl rfl rfl rfl | exact cmpId_sound ok8_3 rfl rfl rfl rfl rfl rfl rfl rfl | exact cmpId_sound ok8_3 rfl rfl rfl rfl rfl rfl rfl rfl rfl | exact cmpId_sound ok8_3 rfl rfl rfl rfl rfl rfl rfl rfl rfl rfl | exact cmpId_sound ok8_3 rfl rfl rfl rfl rfl rfl rfl rfl rfl rfl rfl | exact cmpId_sound ok8_3 rfl rfl rfl rfl rfl rfl rfl rfl rfl rfl rfl rfl) (by kernel_rfl)
def ga10 : FuncId → Option Fspec := upd ga9 28 (some cmpRegS)
theorem ok10_3 : EnvOk ⟨Try.prog, plainT, ga10, de3, fun _ => none, 0⟩ := EnvOk.add ok9_3 (by first | exact cmpReg_sound ok9_3 | exact cmpReg_sound ok9_3 rfl | exact cmpReg_sound ok9_3 rfl rfl | exact cmpReg_sound ok9_3 rfl rfl rfl | exact cmpReg_sound ok9_3 rfl rfl rfl rfl | exact cmpReg_sound ok9_3 rfl rfl rfl rfl rfl | exact cmpReg_sound ok9_3 rfl rfl rfl rfl rfl rfl | exact cmpReg_sound ok9_3 rfl rfl rfl rfl rfl rfl rfl | exact cmpReg_sound ok9_3 rfl rfl rfl rfl rfl rfl rfl rfl | exact cmpReg_sound ok9_3 rfl rfl rfl rfl rfl rfl rfl rfl rfl | exact cmpReg_sound ok9_3 rfl rfl rfl rfl rfl rfl rfl rfl rfl rfl | exact cmpReg_sound ok9_3 rfl rfl rfl rfl rfl rfl rfl rfl rfl rfl rfl | exact cmpReg_sound ok9_3 rfl rfl rfl rfl rfl rfl rfl rfl rfl rfl rfl rfl) (by kernel_rfl)
def ga11 : FuncId → Option Fspec := upd ga10 47 (some cmpWS)
theorem ok11_3 : EnvOk ⟨Try.prog, plainT, ga11, de3, fun _ => none, 0⟩ := EnvOk.add ok10_3 (by first | exact cmpW_sound ok10_3 | exact cmpW_sound ok10_3 rfl | exact cmpW_sound ok10_3 rfl rfl | exact cmpW_sound ok10_3 rfl rfl rfl | exact cmpW_sound ok10_3 rfl rfl rfl rfl | exact cmpW_sound ok10_3 rfl rfl rfl rfl rfl | exact cmpW_sound ok10_3 rfl rfl rfl rfl rfl rfl | exact cmpW_sound ok10_3 rfl rfl rfl rfl rfl rfl rfl | exact cmpW_sound ok10_3 rfl rfl rfl rfl rfl rfl rfl rfl | exact cmpW_sound ok10_3 rfl rfl rfl rfl rfl rfl rfl rfl rfl | exact cmpW_sound ok10_3 rfl rfl rfl rfl rfl rfl rfl rfl rfl rfl | exact cmpW_sound ok10_3 rfl rfl rfl rfl rfl rfl rfl rfl rfl rfl rfl | exact cmpW_sound ok10_3 rfl rfl rfl rfl rfl rfl rfl rfl rfl rfl rfl rfl) (by kernel_rfl)
def ga12 : FuncId → Option Fspec := upd ga11 51 (some plac1S)
theorem ok12_3 : EnvOk ⟨Try.prog, plainT, ga12, de3, fun _ => none, 0⟩ := EnvOk.add ok11_3 (by first | exact plac1_sound ok11_3 | exact plac1_sound ok11_3 rfl | exact plac1_sound ok11_3 rfl rfl | exact plac1_sound ok11_3 rfl rfl rfl | exact plac1_sound ok11_3 rfl rfl rfl rfl | exact plac1_sound ok11_3 rfl rfl rfl rfl rfl | exact plac1_sound ok11_3 rfl rfl rfl rfl rfl rfl | exact plac1_sound ok11_3 rfl rfl rfl rfl rfl rfl rfl | exact plac1_sound ok11_3 rfl rfl rfl rfl rfl rfl rfl rfl | exact plac1_sound ok11_3 rfl rfl rfl rfl rfl rfl rfl rfl rfl | exact plac1_sound ok11_3 rfl rfl rfl rfl rfl rfl rfl rfl rfl rfl | exact plac1_sound ok11_3 rfl rfl rfl rfl rfl rfl rfl rfl rfl rfl rfl | exact plac1_sound ok11_3 rfl rfl rfl rfl rfl rfl rfl rfl rfl rfl rfl rfl) (by kernel_rfl)
def ga13 : FuncId → Option Fspec := upd ga12 36 (some placS)
theorem ok13_3 : EnvOk ⟨Try.prog, plainT, ga13, de3, fun _ => none, 0⟩ := EnvOk.add ok12_3 (by first | exact plac_sound ok12_3 | exact plac_sound ok12_3 rfl | exact plac_sound ok12_3 rfl rfl | exact plac_sound ok12_3 rfl rfl rfl | exact plac_sound ok12_3 rfl rfl rfl rfl | exact plac_sound ok12_3 rfl rfl rfl rfl rfl | exact plac_sound ok12_3 rfl rfl rfl rfl rfl rfl | exact plac_sound ok12_3 rfl rfl rfl rfl rfl rfl rfl | exact plac_sound ok12_3 rfl rfl rfl rfl rfl rfl rfl rfl | exact plac_sound ok12_3 rfl rfl rfl rfl rfl rfl rfl rfl rfl | exact plac_sound ok12_3 rfl rfl rfl rfl rfl rfl rfl rfl rfl rfl | exact plac_sound ok12_3 rfl rfl rfl rfl rfl rfl rfl rfl rfl rfl rfl | exact plac_sound ok12_3 rfl rfl rfl rfl rfl rfl rfl rfl rfl rfl rfl rfl) (by kernel_rfl)
def ga14 : FuncId → Option Fspec := upd ga13 49 (some uptoS)
theorem ok14_3 : EnvOk ⟨Try.prog, plainT, ga14, de3, fun _ => none, 0⟩ := EnvOk.add ok13_3 (by first | exact upto_sound ok13_3 | exact upto_sound ok13_3 rfl | exact upto_sound ok13_3 rfl rfl | exact upto_sound ok13_3 rfl rfl rfl | exact upto_sound ok13_3 rfl rfl rfl rfl | exact upto_sound ok13_3 rfl rfl rfl rfl rfl | exact upto_sound ok13_3 rfl rfl rfl rfl rfl rfl | exact upto_sound ok13_3 rfl rfl rfl rfl rfl rfl rfl | exact upto_sound ok13_3 rfl rfl rfl rfl rfl rfl rfl rfl | exact upto_sound ok13_3 rfl rfl rfl rfl rfl rfl rfl rfl rfl | exact upto_sound ok13_3 rfl rfl rfl rfl rfl rfl rfl rfl rfl rfl | exact upto_sound ok13_3 rfl rfl rfl rfl rfl rfl rfl rfl rfl rfl rfl | exact upto_sound ok13_3 rfl rfl rfl rfl rfl rfl rfl rfl rfl rfl rfl rfl) (by kernel_rfl)
def ga15 : FuncId → Option Fspec := upd ga14 35 (some hasS)
theorem ok15_3 : EnvOk ⟨Try.prog, plainT, ga15, de3, fun _ => none, 0⟩ := EnvOk.add ok14_3 (by first | exact has_sound ok14_3 | exact has_sound ok14_3 rfl | exact has_sound ok14_3 rfl rfl | exact has_sound ok14_3 rfl rfl rfl | exact has_sound ok14_3 rfl rfl rfl rfl | exact has_sound ok14_3 rfl rfl rfl rfl rfl | exact has_sound ok14_3 rfl rfl rfl rfl rfl rfl | exact has_sound ok14_3 rfl rfl rfl rfl rfl rfl rfl | exact has_sound ok14_3 rfl rfl rfl rfl rfl rfl rfl rfl | exact has_sound ok14_3 rfl rfl rfl rfl rfl rfl rfl rfl rfl | exact has_sound ok14_3 rfl rfl rfl rfl rfl rfl rfl rfl rfl rfl | exact has_sound ok14_3 rfl rfl rfl rfl rfl rfl rfl rfl rfl rfl rfl | exact has_sound ok14_3 rfl rfl rfl rfl rfl rfl rfl rfl rfl rfl rfl rfl) (by kernel_rfl)
def ga16 : FuncId → Option Fspec := upd ga15 21 (some contS)
theorem ok16_3 : EnvOk ⟨Try.prog, plainT, ga16, de3, fun _ => none, 0⟩ := EnvOk.add ok15_3 (by first | exact cont_sound ok15_3 | exact cont_sound ok15_3 rfl | exact cont_sound ok15_3 rfl rfl | exact cont_sound ok15_3 rfl rfl rfl | exact cont_sound ok15_3 rfl rfl rfl rfl | exact cont_sound ok15_3 rfl rfl rfl rfl rfl | exact cont_sound ok15_3 rfl rfl rfl rfl rfl rfl | exact cont_sound ok15_3 rfl rfl rfl rfl rfl rfl rfl | exact cont_sound ok15_3 rfl rfl rfl rfl rfl rfl rfl rfl | exact cont_sound ok15_3 rfl rfl rfl rfl rfl rfl rfl rfl rfl | exact cont_sound ok15_3 rfl rfl rfl rfl rfl rfl rfl rfl rfl rfl | exact cont_sound ok15_3 rfl rfl rfl rfl rfl rfl rfl rfl rfl rfl rfl | exact cont_sound ok15_3 rfl rfl rfl rfl rfl rfl rfl rfl rfl rfl rfl rfl) (by kernel_rfl)
def ga17 : FuncId → Option Fspec := upd ga16 37 (some lessS)
theorem ok17_3 : EnvOk ⟨Try.prog, plainT, ga17, de3, fun _ => none, 0⟩ := EnvOk.add ok16_3 (by first | exact less_sound ok16_3 | exact less_sound ok16_3 rfl | exact less_sound ok16_3 rfl rfl | exact less_sound ok16_3 rfl rfl rfl | exact less_sound ok16_3 rfl rfl rfl rfl | exact less_sound ok16_3 rfl rfl rfl rfl rfl | exact less_sound ok16_3 rfl rfl rfl rfl rfl rfl | exact less_sound ok16_3 rfl rfl rfl rfl rfl rfl rfl | exact less_sound ok16_3 rfl rfl rfl rfl rfl rfl rfl rfl | exact less_sound ok16_3 rfl rfl rfl rfl rfl rfl rfl rfl rfl | exact less_sound ok16_3 rfl rfl rfl rfl rfl rfl rfl rfl rfl rfl | exact less_sound ok16_3 rfl rfl rfl rfl rfl rfl rfl rfl rfl rfl rfl | exact less_sound ok16_3 rfl rfl rfl rfl rfl rfl rfl rfl rfl rfl rfl rfl) (by kernel_rfl)
def ga18 : FuncId → Option Fspec := upd ga17 24 (some aheadS)
theorem ok18_3 : EnvOk ⟨Try.prog, plainT, ga18, de3, fun _ => none, 0⟩ := EnvOk.add ok17_3 (by first | exact ahead_sound ok17_3 | exact ahead_sound ok17_3 rfl | exact ahead_sound ok17_3 rfl rfl | exact ahead_sound ok17_3 rfl rfl rfl | exact ahead_sound ok17_3 rfl rfl rfl rfl | exact ahead_sound ok17_3 rfl rfl rfl rfl rfl | exact ahead_sound ok17_3 rfl rfl rfl rfl rfl rfl | exact ahead_sound ok17_3 rfl rfl rfl rfl rfl rfl rfl | exact ahead_sound ok17_3 rfl rfl rfl rfl rfl rfl rfl rfl | exact ahead_sound ok17_3 rfl rfl rfl rfl rfl rfl rfl rfl rfl | exact ahead_sound ok17_3 rfl rfl rfl rfl rfl rfl rfl rfl rfl rfl | exact ahead_sound ok17_3 rfl rfl rfl rfl rfl rfl rfl rfl rfl rfl rfl | exact ahead_sound ok17_3 rfl rfl rfl rfl rfl rfl rfl rfl rfl rfl rfl rfl) (by kernel_rfl)
def ga19 : FuncId → Option Fspec := upd ga18 23 (some firstS)
theorem ok19_3 : EnvOk ⟨Try.prog, plainT, ga19, de3, fun _ => none, 0⟩ := EnvOk.add ok18_3 (by first | exact first_sound ok18_3 | exact first_sound ok18_3 rfl | exact first_sound ok18_3 rfl rfl | exact first_sound ok18_3 rfl rfl rfl | exact first_sound ok18_3 rfl rfl rfl rfl | exact first_sound ok18_3 rfl rfl rfl rfl rfl | exact first_sound ok18_3 rfl rfl rfl rfl rfl rfl | exact first_sound ok18_3 rfl rfl rfl rfl rfl rfl rfl | exact first_sound ok18_3 rfl rfl rfl rfl rfl rfl rfl rfl | exact first_sound ok18_3 rfl rfl rfl rfl rfl rfl rfl rfl rfl | exact first_sound ok18_3 rfl rfl rfl rfl rfl rfl rfl rfl rfl rfl | exact first_sound ok18_3 rfl rfl rfl rfl rfl rfl rfl rfl rfl rfl rfl | exact first_sound ok18_3 rfl rfl rfl rfl rfl rfl rfl rfl rfl rfl rfl rfl) (by kernel_rfl)
def ga20 : FuncId → Option Fspec := upd ga19 18 (some lastS)
theorem ok20_3 : EnvOk ⟨Try.prog, plainT, ga20, de3, fun _ => none, 0⟩ := EnvOk.add ok19_3 (by first | exact last_sound ok19_3 | exact last_sound ok19_3 rfl | exact last_sound ok19_3 rfl rfl | exact last_sound ok19_3 rfl rfl rfl | exact last_sound ok19_3 rfl rfl rfl rfl | exact last_sound ok19_3 rfl rfl rfl rfl rfl | exact last_sound ok19_3 rfl rfl rfl rfl rfl rfl | exact last_sound ok19_3 rfl rfl rfl rfl rfl rfl rfl | exact last_sound ok19_3 rfl rfl rfl rfl rfl rfl rfl rfl | exact last_sound ok19_3 rfl rfl rfl rfl rfl rfl rfl rfl rfl | exact last_sound ok19_3 rfl rfl rfl rfl rfl rfl rfl rfl rfl rfl | exact last_sound ok19_3 rfl rfl rfl rfl rfl rfl rfl rfl rfl rfl rfl | exact last_sound ok19_3 rfl rfl rfl rfl rfl rfl rfl rfl rfl rfl rfl rfl) (by kernel_rfl)
def ga21 : FuncId → Option Fspec := upd ga20 17 (some lastS)
theorem ok21_3 : EnvOk ⟨Try.prog, plainT, ga21, de3, fun _ => none, 0⟩ := EnvOk.add ok20_3 (by first | exact winner_sound ok20_3 | exact winner_sound ok20_3 rfl | exact winner_sound ok20_3 rfl rfl | exact winner_sound ok20_3 rfl rfl rfl | exact winner_sound ok20_3 rfl rfl rfl rfl | exact winner_sound ok20_3 rfl rfl rfl rfl rfl | exact winner_sound ok20_3 rfl rfl rfl rfl rfl rfl | exact winner_sound ok20_3 rfl rfl rfl rfl rfl rfl rfl | exact winner_sound ok20_3 rfl rfl rfl rfl rfl rfl rfl rfl | exact winner_sound ok20_3 rfl rfl rfl rfl rfl rfl rfl rfl rfl | exact winner_sound ok20_3 rfl rfl rfl rfl rfl rfl rfl rfl rfl rfl | exact winner_sound ok20_3 rfl rfl rfl rfl rfl rfl rfl rfl rfl rfl rfl | exact winner_sound ok20_3 rfl rfl rfl rfl rfl rfl rfl rfl rfl rfl rfl rfl) (by kernel_rfl)
def ga22 : FuncId → Option Fspec := upd ga21 19 (some marksS)
theorem ok22_3 : EnvOk ⟨Try.prog, plainT, ga22, de3, fun _ => none, 0⟩ := EnvOk.add ok21_3 (by first | exact marks_sound ok21_3 | exact marks_sound ok21_3 rfl | exact marks_sound ok21_3 rfl rfl | exact marks_sound ok21_3 rfl rfl rfl | exact marks_sound ok21_3 rfl rfl rfl rfl | exact marks_sound ok21_3 rfl rfl rfl rfl rfl | exact marks_sound ok21_3 rfl rfl rfl rfl rfl rfl | exact marks_sound ok21_3 rfl rfl rfl rfl rfl rfl rfl | exact marks_sound ok21_3 rfl rfl rfl rfl rfl rfl rfl rfl | exact marks_sound ok21_3 rfl rfl rfl rfl rfl rfl rfl rfl rfl | exact marks_sound ok21_3 rfl rfl rfl rfl rfl rfl rfl rfl rfl rfl | exact marks_sound ok21_3 rfl rfl rfl rfl rfl rfl rfl rfl rfl rfl rfl | exact marks_sound ok21_3 rfl rfl rfl rfl rfl rfl rfl rfl rfl rfl rfl rfl) (by kernel_rfl)
def ga23 : FuncId → Option Fspec := upd ga22 16 (some getS)
theorem ok23_3 : EnvOk ⟨Try.prog, plainT, ga23, de3, fun _ => none, 0⟩ := EnvOk.add ok22_3 (by first | exact get_sound ok22_3 | exact get_sound ok22_3 rfl | exact get_sound ok22_3 rfl rfl | exact get_sound ok22_3 rfl rfl rfl | exact get_sound ok22_3 rfl rfl rfl rfl | exact get_sound ok22_3 rfl rfl rfl rfl rfl | exact get_sound ok22_3 rfl rfl rfl rfl rfl rfl | exact get_sound ok22_3 rfl rfl rfl rfl rfl rfl rfl | exact get_sound ok22_3 rfl rfl rfl rfl rfl rfl rfl rfl | exact get_sound ok22_3 rfl rfl rfl rfl rfl rfl rfl rfl rfl | exact get_sound ok22_3 rfl rfl rfl rfl rfl rfl rfl rfl rfl rfl | exact get_sound ok22_3 rfl rfl rfl rfl rfl rfl rfl rfl rfl rfl rfl | exact get_sound ok22_3 rfl rfl rfl rfl rfl rfl rfl rfl rfl rfl rfl rfl) (by kernel_rfl)
def ga24 : FuncId → Option Fspec := upd ga23 32 (some (idxS encR))
theorem ok24_3 : EnvOk ⟨Try.prog, plainT, ga24, de3, fun _ => none, 0⟩ := EnvOk.add ok23_3 (by first | exact idxR_sound ok23_3 | exact idxR_sound ok23_3 rfl | exact idxR_sound ok23_3 rfl rfl | exact idxR_sound ok23_3 rfl rfl rfl | exact idxR_sound ok23_3 rfl rfl rfl rfl | exact idxR_sound ok23_3 rfl rfl rfl rfl rfl | exact idxR_sound ok23_3 rfl rfl rfl rfl rfl rfl | exact idxR_sound ok23_3 rfl rfl rfl rfl rfl rfl rfl | exact idxR_sound ok23_3 rfl rfl rfl rfl rfl rfl rfl rfl | exact idxR_sound ok23_3 rfl rfl rfl rfl rfl rfl rfl rfl rfl | exact idxR_sound ok23_3 rfl rfl rfl rfl rfl rfl rfl rfl rfl rfl | exact idxR_sound ok23_3 rfl rfl rfl rfl rfl rfl rfl rfl rfl rfl rfl | exact idxR_sound ok23_3 rfl rfl rfl rfl rfl rfl rfl rfl rfl rfl rfl rfl) (by kernel_rfl)
def ga25 : FuncId → Option Fspec := upd ga24 55 (some (idxS encW))
theorem ok25_3 : EnvOk ⟨Try.prog, plainT, ga25, de3, fun _ => none, 0⟩ := EnvOk.add ok24_3 (by first | exact idxW_sound ok24_3 | exact idxW_sound ok24_3 rfl | exact idxW_sound ok24_3 rfl rfl | exact idxW_sound ok24_3 rfl rfl rfl | exact idxW_sound ok24_3 rfl rfl rfl rfl | exact idxW_sound ok24_3 rfl rfl rfl rfl rfl | exact idxW_sound ok24_3 rfl rfl rfl rfl rfl rfl | exact idxW_sound ok24_3 rfl rfl rfl rfl rfl rfl rfl | exact idxW_sound ok24_3 rfl rfl rfl rfl rfl rfl rfl rfl | exact idxW_sound ok24_3 rfl rfl rfl rfl rfl rfl rfl rfl rfl | exact idxW_sound ok24_3 rfl rfl rfl rfl rfl rfl rfl rfl rfl rfl | exact idxW_sound ok24_3 rfl rfl rfl rfl rfl rfl rfl rfl rfl rfl rfl | exact idxW_sound ok24_3 rfl rfl rfl rfl rfl rfl rfl rfl rfl rfl rfl rfl) (by kernel_rfl)
def ga26 : FuncId → Option Fspec := upd ga25 33 (some lk1S)
theorem ok26_3 : EnvOk ⟨Try.prog, plainT, ga26, de3, fun _ => none, 0⟩ := EnvOk.add ok25_3 (by first | exact lk1_sound ok25_3 | exact lk1_sound ok25_3 rfl | exact lk1_sound ok25_3 rfl rfl | exact lk1_sound ok25_3 rfl rfl rfl | exact lk1_sound ok25_3 rfl rfl rfl rfl | exact lk1_sound ok25_3 rfl rfl rfl rfl rfl | exact lk1_sound ok25_3 rfl rfl rfl rfl rfl rfl | exact lk1_sound ok25_3 rfl rfl rfl rfl rfl rfl rfl | exact lk1_sound ok25_3 rfl rfl rfl rfl rfl rfl rfl rfl | exact lk1_sound ok25_3 rfl rfl rfl rfl rfl rfl rfl rfl rfl | exact lk1_sound ok25_3 rfl rfl rfl rfl rfl rfl rfl rfl rfl rfl | exact lk1_sound ok25_3 rfl rfl rfl rfl rfl rfl rfl rfl rfl rfl rfl | exact lk1_sound ok25_3 rfl rfl rfl rfl rfl rfl rfl rfl rfl rfl rfl rfl) (by kernel_rfl)
def ga27 : FuncId → Option Fspec := upd ga26 34 (some (cloneS encW 4))
theorem ok27_3 : EnvOk ⟨Try.prog, plainT, ga27, de3, fun _ => none, 0⟩ := EnvOk.add ok26_3 (by first | exact cloneW_sound ok26_3 | exact cloneW_sound ok26_3 rfl | exact cloneW_sound ok26_3 rfl rfl | exact cloneW_sound ok26_3 rfl rfl rfl | exact cloneW_sound ok26_3 rfl rfl rfl rfl | exact cloneW_sound ok26_3 rfl rfl rfl rfl rfl | exact cloneW_sound ok26_3 rfl rfl rfl rfl rfl rfl | exact cloneW_sound ok26_3 rfl rfl rfl rfl rfl rfl rfl | exact cloneW_sound ok26_3 rfl rfl rfl rfl rfl rfl rfl rfl | exact cloneW_sound ok26_3 rfl rfl rfl rfl rfl rfl rfl rfl rfl | exact cloneW_sound ok26_3 rfl rfl rfl rfl rfl rfl rfl rfl rfl rfl | exact cloneW_sound ok26_3 rfl rfl rfl rfl rfl rfl rfl rfl rfl rfl rfl | exact cloneW_sound ok26_3 rfl rfl rfl rfl rfl rfl rfl rfl rfl rfl rfl rfl) (by kernel_rfl)
def ga28 : FuncId → Option Fspec := upd ga27 26 (some (cloneS encR 4))
theorem ok28_3 : EnvOk ⟨Try.prog, plainT, ga28, de3, fun _ => none, 0⟩ := EnvOk.add ok27_3 (by first | exact cloneR_sound ok27_3 | exact cloneR_sound ok27_3 rfl | exact cloneR_sound ok27_3 rfl rfl | exact cloneR_sound ok27_3 rfl rfl rfl | exact cloneR_sound ok27_3 rfl rfl rfl rfl | exact cloneR_sound ok27_3 rfl rfl rfl rfl rfl | exact cloneR_sound ok27_3 rfl rfl rfl rfl rfl rfl | exact cloneR_sound ok27_3 rfl rfl rfl rfl rfl rfl rfl | exact cloneR_sound ok27_3 rfl rfl rfl rfl rfl rfl rfl rfl | exact cloneR_sound ok27_3 rfl rfl rfl rfl rfl rfl rfl rfl rfl | exact cloneR_sound ok27_3 rfl rfl rfl rfl rfl rfl rfl rfl rfl rfl | exact cloneR_sound ok27_3 rfl rfl rfl rfl rfl rfl rfl rfl rfl rfl rfl | exact cloneR_sound ok27_3 rfl rfl rfl rfl rfl rfl rfl rfl rfl rfl rfl rfl) (by kernel_rfl)
def ga29 : FuncId → Option Fspec := upd ga28 15 (some lookS)
theorem ok29_3 : EnvOk ⟨Try.prog, plainT, ga29, de3, fun _ => none, 0⟩ := EnvOk.add ok28_3 (by first | exact look_sound ok28_3 | exact look_sound ok28_3 rfl | exact look_sound ok28_3 rfl rfl | exact look_sound ok28_3 rfl rfl rfl | exact look_sound ok28_3 rfl rfl rfl rfl | exact look_sound ok28_3 rfl rfl rfl rfl rfl | exact look_sound ok28_3 rfl rfl rfl rfl rfl rfl | exact look_sound ok28_3 rfl rfl rfl rfl rfl rfl rfl | exact look_sound ok28_3 rfl rfl rfl rfl rfl rfl rfl rfl | exact look_sound ok28_3 rfl rfl rfl rfl rfl rfl rfl rfl rfl | exact look_sound ok28_3 rfl rfl rfl rfl rfl rfl rfl rfl rfl rfl | exact look_sound ok28_3 rfl rfl rfl rfl rfl rfl rfl rfl rfl rfl rfl | exact look_sound ok28_3 rfl rfl rfl rfl rfl rfl rfl rfl rfl rfl rfl rfl) (by kernel_rfl)
def ga30 : FuncId → Option Fspec := upd ga29 38 (some authS)
theorem ok30_3 : EnvOk ⟨Try.prog, plainT, ga30, de3, fun _ => none, 0⟩ := EnvOk.add ok29_3 (by first | exact auth_sound ok29_3 | exact auth_sound ok29_3 rfl | exact auth_sound ok29_3 rfl rfl | exact auth_sound ok29_3 rfl rfl rfl | exact auth_sound ok29_3 rfl rfl rfl rfl | exact auth_sound ok29_3 rfl rfl rfl rfl rfl | exact auth_sound ok29_3 rfl rfl rfl rfl rfl rfl | exact auth_sound ok29_3 rfl rfl rfl rfl rfl rfl rfl | exact auth_sound ok29_3 rfl rfl rfl rfl rfl rfl rfl rfl | exact auth_sound ok29_3 rfl rfl rfl rfl rfl rfl rfl rfl rfl | exact auth_sound ok29_3 rfl rfl rfl rfl rfl rfl rfl rfl rfl rfl | exact auth_sound ok29_3 rfl rfl rfl rfl rfl rfl rfl rfl rfl rfl rfl | exact auth_sound ok29_3 rfl rfl rfl rfl rfl rfl rfl rfl rfl rfl rfl rfl) (by kernel_rfl)
def ga31 : FuncId → Option Fspec := upd ga30 25 (some chkS)
theorem ok31_3 : EnvOk ⟨Try.prog, plainT, ga31, de3, fun _ => none, 0⟩ := EnvOk.add ok30_3 (by first | exact chk_sound ok30_3 | exact chk_sound ok30_3 rfl | exact chk_sound ok30_3 rfl rfl | exact chk_sound ok30_3 rfl rfl rfl | exact chk_sound ok30_3 rfl rfl rfl rfl | exact chk_sound ok30_3 rfl rfl rfl rfl rfl | exact chk_sound ok30_3 rfl rfl rfl rfl rfl rfl | exact chk_sound ok30_3 rfl rfl rfl rfl rfl rfl rfl | exact chk_sound ok30_3 rfl rfl rfl rfl rfl rfl rfl rfl | exact chk_sound ok30_3 rfl rfl rfl rfl rfl rfl rfl rfl rfl | exact chk_sound ok30_3 rfl rfl rfl rfl rfl rfl rfl rfl rfl rfl | exact chk_sound ok30_3 rfl rfl rfl rfl rfl rfl rfl rfl rfl rfl rfl | exact chk_sound ok30_3 rfl rfl rfl rfl rfl rfl rfl rfl rfl rfl rfl rfl) (by kernel_rfl)
def ga32 : FuncId → Option Fspec := upd ga31 45 (some wr1S)
theorem ok32_3 : EnvOk ⟨Try.prog, plainT, ga32, de3, fun _ => none, 0⟩ := EnvOk.add ok31_3 (by first | exact wr1_sound ok31_3 | exact wr1_sound ok31_3 rfl | exact wr1_sound ok31_3 rfl rfl | exact wr1_sound ok31_3 rfl rfl rfl | exact wr1_sound ok31_3 rfl rfl rfl rfl | exact wr1_sound ok31_3 rfl rfl rfl rfl rfl | exact wr1_sound ok31_3 rfl rfl rfl rfl rfl rfl | exact wr1_sound ok31_3 rfl rfl rfl rfl rfl rfl rfl | exact wr1_sound ok31_3 rfl rfl rfl rfl rfl rfl rfl rfl | exact wr1_sound ok31_3 rfl rfl rfl rfl rfl rfl rfl rfl rfl | exact wr1_sound ok31_3 rfl rfl rfl rfl rfl rfl rfl rfl rfl rfl | exact wr1_sound ok31_3 rfl rfl rfl rfl rfl rfl rfl rfl rfl rfl rfl | exact wr1_sound ok31_3 rfl rfl rfl rfl rfl rfl rfl rfl rfl rfl rfl rfl) (by kernel_rfl)
def ga33 : FuncId → Option Fspec := upd ga32 12 (some sameS)
theorem ok33_3 : EnvOk ⟨Try.prog, plainT, ga33, de3, fun _ => none, 0⟩ := EnvOk.add ok32_3 (by first | exact same_sound ok32_3 | exact same_sound ok32_3 rfl | exact same_sound ok32_3 rfl rfl | exact same_sound ok32_3 rfl rfl rfl | exact same_sound ok32_3 rfl rfl rfl rfl | exact same_sound ok32_3 rfl rfl rfl rfl rfl | exact same_sound ok32_3 rfl rfl rfl rfl rfl rfl | exact same_sound ok32_3 rfl rfl rfl rfl rfl rfl rfl | exact same_sound ok32_3 rfl rfl rfl rfl rfl rfl rfl rfl | exact same_sound ok32_3 rfl rfl rfl rfl rfl rfl rfl rfl rfl | exact same_sound ok32_3 rfl rfl rfl rfl rfl rfl rfl rfl rfl rfl | exact same_sound ok32_3 rfl rfl rfl rfl rfl rfl rfl rfl rfl rfl rfl | exact same_sound ok32_3 rfl rfl rfl rfl rfl rfl rfl rfl rfl rfl rfl rfl) (by kernel_rfl)
def ga34 : FuncId → Option Fspec := upd ga33 22 (some setS)
theorem ok34_3 : EnvOk ⟨Try.prog, plainT, ga34, de3, fun _ => none, 0⟩ := EnvOk.add ok33_3 (by first | exact set_sound ok33_3 | exact set_sound ok33_3 rfl | exact set_sound ok33_3 rfl rfl | exact set_sound ok33_3 rfl rfl rfl | exact set_sound ok33_3 rfl rfl rfl rfl | exact set_sound ok33_3 rfl rfl rfl rfl rfl | exact set_sound ok33_3 rfl rfl rfl rfl rfl rfl | exact set_sound ok33_3 rfl rfl rfl rfl rfl rfl rfl | exact set_sound ok33_3 rfl rfl rfl rfl rfl rfl rfl rfl | exact set_sound ok33_3 rfl rfl rfl rfl rfl rfl rfl rfl rfl | exact set_sound ok33_3 rfl rfl rfl rfl rfl rfl rfl rfl rfl rfl | exact set_sound ok33_3 rfl rfl rfl rfl rfl rfl rfl rfl rfl rfl rfl | exact set_sound ok33_3 rfl rfl rfl rfl rfl rfl rfl rfl rfl rfl rfl rfl) (by kernel_rfl)
def ga35 : FuncId → Option Fspec := upd ga34 11 (some fineS)
theorem ok35_3 : EnvOk ⟨Try.prog, plainT, ga35, de3, fun _ => none, 0⟩ := EnvOk.add ok34_3 (by first | exact fine_sound ok34_3 | exact fine_sound ok34_3 rfl | exact fine_sound ok34_3 rfl rfl | exact fine_sound ok34_3 rfl rfl rfl | exact fine_sound ok34_3 rfl rfl rfl rfl | exact fine_sound ok34_3 rfl rfl rfl rfl rfl | exact fine_sound ok34_3 rfl rfl rfl rfl rfl rfl | exact fine_sound ok34_3 rfl rfl rfl rfl rfl rfl rfl | exact fine_sound ok34_3 rfl rfl rfl rfl rfl rfl rfl rfl | exact fine_sound ok34_3 rfl rfl rfl rfl rfl rfl rfl rfl rfl | exact fine_sound ok34_3 rfl rfl rfl rfl rfl rfl rfl rfl rfl rfl | exact fine_sound ok34_3 rfl rfl rfl rfl rfl rfl rfl rfl rfl rfl rfl | exact fine_sound ok34_3 rfl rfl rfl rfl rfl rfl rfl rfl rfl rfl rfl rfl) (by kernel_rfl)
def de4 : FuncId → Option Pt := upd de3 48 (some (insT 4))
theorem ok35_4 : EnvOk ⟨Try.prog, plainT, ga35, de4, fun _ => none, 0⟩ := EnvOk.addT ok35_3 (by first | exact insW_sound ok35_3 | exact insW_sound ok35_3 rfl | exact insW_sound ok35_3 rfl rfl | exact insW_sound ok35_3 rfl rfl rfl | exact insW_sound ok35_3 rfl rfl rfl rfl | exact insW_sound ok35_3 rfl rfl rfl rfl rfl | exact insW_sound ok35_3 rfl rfl rfl rfl rfl rfl | exact insW_sound ok35_3 rfl rfl rfl rfl rfl rfl rfl | exact insW_sound ok35_3 rfl rfl rfl rfl rfl rfl rfl rfl | exact insW_sound ok35_3 rfl rfl rfl rfl rfl rfl rfl rfl rfl | exact insW_sound ok35_3 rfl rfl rfl rfl rfl rfl rfl rfl rfl rfl | exact insW_sound ok35_3 rfl rfl rfl rfl rfl rfl rfl rfl rfl rfl rfl | exact insW_sound ok35_3 rfl rfl rfl rfl rfl rfl rfl rfl rfl rfl rfl rfl)
def de5 : FuncId → Option Pt := upd de4 29 (some (insT 4))
theorem ok35_5 : EnvOk ⟨Try.prog, plainT, ga35, de5, fun _ => none, 0⟩ := EnvOk.addT ok35_4 (by first | exact insR_sound ok35_4 | exact insR_sound ok35_4 rfl | exact insR_sound ok35_4 rfl rfl | exact insR_sound ok35_4 rfl rfl rfl | exact insR_sound ok35_4 rfl rfl rfl rfl | exact insR_sound ok35_4 rfl rfl rfl rfl rfl | exact insR_sound ok35_4 rfl rfl rfl rfl rfl rfl | exact insR_sound ok35_4 rfl rfl rfl rfl rfl rfl rfl | exact insR_sound ok35_4 rfl rfl rfl rfl rfl rfl rfl rfl | exact insR_sound ok35_4 rfl rfl rfl rfl rfl rfl rfl rfl rfl | exact insR_sound ok35_4 rfl rfl rfl rfl rfl rfl rfl rfl rfl rfl | exact insR_sound ok35_4 rfl rfl rfl rfl rfl rfl rfl rfl rfl rfl rfl | exact insR_sound ok35_4 rfl rfl rfl rfl rfl rfl rfl rfl rfl rfl rfl rfl)
def de6 : FuncId → Option Pt := upd de5 44 (some (delT))
theorem ok35_6 : EnvOk ⟨Try.prog, plainT, ga35, de6, fun _ => none, 0⟩ := EnvOk.addT ok35_5 (by first | exact del_sound ok35_5 | exact del_sound ok35_5 rfl | exact del_sound ok35_5 rfl rfl | exact del_sound ok35_5 rfl rfl rfl | exact del_sound ok35_5 rfl rfl rfl rfl | exact del_sound ok35_5 rfl rfl rfl rfl rfl | exact del_sound ok35_5 rfl rfl rfl rfl rfl rfl | exact del_sound ok35_5 rfl rfl rfl rfl rfl rfl rfl | exact del_sound ok35_5 rfl rfl rfl rfl rfl rfl rfl rfl | exact del_sound ok35_5 rfl rfl rfl rfl rfl rfl rfl rfl rfl | exact del_sound ok35_5 rfl rfl rfl rfl rfl rfl rfl rfl rfl rfl | exact del_sound ok35_5 rfl rfl rfl rfl rfl rfl rfl rfl rfl rfl rfl | exact del_sound ok35_5 rfl rfl rfl rfl rfl rfl rfl rfl rfl rfl rfl rfl)
def ga36 : FuncId → Option Fspec := upd ga35 30 (some wrS)
theorem ok36_6 : EnvOk ⟨Try.prog, plainT, ga36, de6, fun _ => none, 0⟩ := EnvOk.add ok35_6 (by first | exact written_sound ok35_6 | exact written_sound ok35_6 rfl | exact written_sound ok35_6 rfl rfl | exact written_sound ok35_6 rfl rfl rfl | exact written_sound ok35_6 rfl rfl rfl rfl | exact written_sound ok35_6 rfl rfl rfl rfl rfl | exact written_sound ok35_6 rfl rfl rfl rfl rfl rfl | exact written_sound ok35_6 rfl rfl rfl rfl rfl rfl rfl | exact written_sound ok35_6 rfl rfl rfl rfl rfl rfl rfl rfl | exact written_sound ok35_6 rfl rfl rfl rfl rfl rfl rfl rfl rfl | exact written_sound ok35_6 rfl rfl rfl rfl rfl rfl rfl rfl rfl rfl | exact written_sound ok35_6 rfl rfl rfl rfl rfl rfl rfl rfl rfl rfl rfl | exact written_sound ok35_6 rfl rfl rfl rfl rfl rfl rfl rfl rfl rfl rfl rfl) (by kernel_rfl)
def ga37 : FuncId → Option Fspec := upd ga36 13 (some appS)
theorem ok37_6 : EnvOk ⟨Try.prog, plainT, ga37, de6, fun _ => none, 0⟩ := EnvOk.add ok36_6 (by first | exact app_sound ok36_6 | exact app_sound ok36_6 rfl | exact app_sound ok36_6 rfl rfl | exact app_sound ok36_6 rfl rfl rfl | exact app_sound ok36_6 rfl rfl rfl rfl | exact app_sound ok36_6 rfl rfl rfl rfl rfl | exact app_sound ok36_6 rfl rfl rfl rfl rfl rfl | exact app_sound ok36_6 rfl rfl rfl rfl rfl rfl rfl | exact app_sound ok36_6 rfl rfl rfl rfl rfl rfl rfl rfl | exact app_sound ok36_6 rfl rfl rfl rfl rfl rfl rfl rfl rfl | exact app_sound ok36_6 rfl rfl rfl rfl rfl rfl rfl rfl rfl rfl | exact app_sound ok36_6 rfl rfl rfl rfl rfl rfl rfl rfl rfl rfl rfl | exact app_sound ok36_6 rfl rfl rfl rfl rfl rfl rfl rfl rfl rfl rfl rfl) (by kernel_rfl)
def ga38 : FuncId → Option Fspec := upd ga37 10 (some rightS)
theorem ok38_6 : EnvOk ⟨Try.prog, plainT, ga38, de6, fun _ => none, 0⟩ := EnvOk.add ok37_6 (by first | exact right_sound ok37_6 | exact right_sound ok37_6 rfl | exact right_sound ok37_6 rfl rfl | exact right_sound ok37_6 rfl rfl rfl | exact right_sound ok37_6 rfl rfl rfl rfl | exact right_sound ok37_6 rfl rfl rfl rfl rfl | exact right_sound ok37_6 rfl rfl rfl rfl rfl rfl | exact right_sound ok37_6 rfl rfl rfl rfl rfl rfl rfl | exact right_sound ok37_6 rfl rfl rfl rfl rfl rfl rfl rfl | exact right_sound ok37_6 rfl rfl rfl rfl rfl rfl rfl rfl rfl | exact right_sound ok37_6 rfl rfl rfl rfl rfl rfl rfl rfl rfl rfl | exact right_sound ok37_6 rfl rfl rfl rfl rfl rfl rfl rfl rfl rfl rfl | exact right_sound ok37_6 rfl rfl rfl rfl rfl rfl rfl rfl rfl rfl rfl rfl) (by kernel_rfl)
def ga39 : FuncId → Option Fspec := upd ga38 9 (some aliveS)
theorem ok39_6 : EnvOk ⟨Try.prog, plainT, ga39, de6, fun _ => none, 0⟩ := EnvOk.add ok38_6 (by first | exact alive_sound ok38_6 | exact alive_sound ok38_6 rfl | exact alive_sound ok38_6 rfl rfl | exact alive_sound ok38_6 rfl rfl rfl | exact alive_sound ok38_6 rfl rfl rfl rfl | exact alive_sound ok38_6 rfl rfl rfl rfl rfl | exact alive_sound ok38_6 rfl rfl rfl rfl rfl rfl | exact alive_sound ok38_6 rfl rfl rfl rfl rfl rfl rfl | exact alive_sound ok38_6 rfl rfl rfl rfl rfl rfl rfl rfl | exact alive_sound ok38_6 rfl rfl rfl rfl rfl rfl rfl rfl rfl | exact alive_sound ok38_6 rfl rfl rfl rfl rfl rfl rfl rfl rfl rfl | exact alive_sound ok38_6 rfl rfl rfl rfl rfl rfl rfl rfl rfl rfl rfl | exact alive_sound ok38_6 rfl rfl rfl rfl rfl rfl rfl rfl rfl rfl rfl rfl) (by kernel_rfl)
abbrev gaE := ga39
abbrev deE := de6
theorem okE : EnvOk ⟨Try.prog, plainT, gaE, deE, fun _ => none, 0⟩ := ok39_6

end Go.Proofs.Ytgohmphhgglmbaa

set_option linter.unusedVariables false
set_option maxRecDepth 100000
namespace Go.Proofs.Ytgohmphhgglmbaa
open Go Go.RowKit Am Go.ChangeShapes Go.WideShapes

theorem bulk_pos {H : Type} (d : DataW H) : 1 ≤ Rows.uptoBulk d := by
  cases d with
  | lit l => cases l <;> simp [Rows.uptoBulk]
  | _ => simp [Rows.uptoBulk]
def bulk : Bulk where
  bk := Rows.uptoBulk
  bks := Rows.uptoBulkAll
  str := fun b => by simp only [Rows.uptoBulk]
  sl := fun e s => by simp only [Rows.uptoBulk]
  agg := fun e => by simp only [Rows.uptoBulk]
  pos := bulk_pos
  nil := by intro H; simp only [Rows.uptoBulkAll]
  cons := fun d r => by simp only [Rows.uptoBulkAll]
theorem opnStr : Opn bulk Try.prog 9 encStr bdStr := .str (by kernel_rfl)
theorem opnInt : Opn bulk Try.prog 3 (encInt .i64) (bdInt .i64) := .int (by kernel_rfl)
theorem opnU8 : Opn bulk Try.prog 5 (encInt .u8) (bdInt .u8) := .int (by kernel_rfl)
theorem opnBool : Opn bulk Try.prog 4 encBool bdBool := .bool (by kernel_rfl)
def bdId (x : Idt) (m : Nat) : Prop := x.a.size < m
theorem opnId : Opn bulk Try.prog 31 encId bdId := by
  refine Opn.map (fun p : ByteArray × Int × Unit => (⟨p.1, p.2.1⟩ : Idt)) (Opn.struct (enc := fun p => encStr p.1 ++ ((encInt .i64) p.2.1 ++ ([]))) (bd := fun p m => bdStr p.1 m ∧ ((bdInt .i64) p.2.1 m ∧ (True))) Try.underlying31 ?_) (fun _ => rfl) (by intro p m h; exact h.1) (by intro b m m' h h2; exact Nat.lt_of_lt_of_le h2 h)
  rw [show Program.cellsOf Try.prog 31 = 2 by kernel_rfl]
  exact OpnF.cons (enc := encStr) (bd := bdStr) (z := 1) rfl (by kernel_rfl) (fun _ => rfl) opnStr (OpnF.cons (enc := (encInt .i64)) (bd := (bdInt .i64)) (z := 1) rfl (by kernel_rfl) (fun _ => rfl) opnInt OpnF.nil)
instance : Inhabited Idt := ⟨⟨⟨#[]⟩, 0⟩⟩
def bdW (x : Wrt) (m : Nat) : Prop := x.id.a.size < m ∧ x.x.size < m
theorem opnW : Opn bulk Try.prog 41 encW bdW := by
  refine Opn.map (fun p : Idt × Int × ByteArray × Unit => (⟨p.1, p.2.1, p.2.2.1⟩ : Wrt)) (Opn.struct (enc := fun p => encId p.1 ++ ((encInt .i64) p.2.1 ++ (encStr p.2.2.1 ++ ([])))) (bd := fun p m => bdId p.1 m ∧ ((bdInt .i64) p.2.1 m ∧ (bdStr p.2.2.1 m ∧ (True)))) Try.underlying41 ?_) (fun _ => rfl) (by intro p m h; exact ⟨h.1, h.2.2.1⟩) (by intro b m m' h h2; exact ⟨Nat.lt_of_lt_of_le h2.1 h, Nat.lt_of_lt_of_le h2.2 h⟩)
  rw [show Program.cellsOf Try.prog 41 = 4 by kernel_rfl]
  exact OpnF.cons (enc := encId) (bd := bdId) (z := 2) rfl (by kernel_rfl) (fun _ => rfl) opnId (OpnF.cons (enc := (encInt .i64)) (bd := (bdInt .i64)) (z := 1) rfl (by kernel_rfl) (fun _ => rfl) opnInt (OpnF.cons (enc := encStr) (bd := bdStr) (z := 1) rfl (by kernel_rfl) (fun _ => rfl) opnStr OpnF.nil))
instance : Inhabited Wrt := ⟨⟨default, 0, ⟨#[]⟩⟩⟩
def bdR (x : Rgs) (m : Nat) : Prop := x.id.a.size < m ∧ x.f.size < m ∧ x.w.length < m ∧ ∀ y ∈ x.w, bdW y m
theorem opnWs : Opn bulk Try.prog 32 (encSl encW) (bdSl bdW) := Opn.slice (z := 4) Try.underlying32 (by kernel_rfl) (by decide) (fun _ => rfl) opnW
theorem opnR : Opn bulk Try.prog 39 encR bdR := by
  refine Opn.map (fun p : Idt × ByteArray × (List Wrt) × Unit => (⟨p.1, p.2.1, p.2.2.1⟩ : Rgs)) (Opn.struct (enc := fun p => encId p.1 ++ (encStr p.2.1 ++ ((encSl encW) p.2.2.1 ++ ([])))) (bd := fun p m => bdId p.1 m ∧ (bdStr p.2.1 m ∧ ((bdSl bdW) p.2.2.1 m ∧ (True)))) Try.underlying39 ?_) (fun _ => rfl) (by intro p m h; exact ⟨h.1, h.2.1, h.2.2.1.1, h.2.2.1.2⟩) (by intro b m m' h h2; exact ⟨Nat.lt_of_lt_of_le h2.1 h, Nat.lt_of_lt_of_le h2.2.1 h, Nat.lt_of_lt_of_le h2.2.2.1 h, fun y hy => opnW.1 y m m' h (h2.2.2.2 y hy)⟩)
  rw [show Program.cellsOf Try.prog 39 = 4 by kernel_rfl]
  exact OpnF.cons (enc := encId) (bd := bdId) (z := 2) rfl (by kernel_rfl) (fun _ => rfl) opnId (OpnF.cons (enc := encStr) (bd := bdStr) (z := 1) rfl (by kernel_rfl) (fun _ => rfl) opnStr (OpnF.cons (enc := (encSl encW)) (bd := (bdSl bdW)) (z := 1) rfl (by kernel_rfl) (fun _ => rfl) opnWs OpnF.nil))
instance : Inhabited Rgs := ⟨⟨default, ⟨#[]⟩, []⟩⟩
theorem opnRs : Opn bulk Try.prog 22 (encSl encR) (bdSl bdR) := Opn.slice (z := 4) Try.underlying22 (by kernel_rfl) (by decide) (fun _ => rfl) opnR
theorem small_of {l : List Rgs} {m : Nat} (h : bdSl bdR l m) (hm : m ≤ 1048576) : smallR 1048576 l := ⟨by have := h.1; omega, fun x hx => by have := (h.2 x hx).2.2.1; omega⟩
theorem own : ownKnob Try.prog.godebug = none := by kernel_rfl
theorem laidOut : laidOutB Try.prog = true := by kernel_rfl
end Go.Proofs.Ytgohmphhgglmbaa

set_option linter.unusedVariables false
set_option maxRecDepth 100000
namespace Go.Proofs.Ytgohmphhgglmbaa
open Go Go.RowKit Am Go.ChangeShapes Go.WideShapes

theorem opnIds : Opn bulk Try.prog 42 (encSl encId) (bdSl bdId) := Opn.slice (z := 2) Try.underlying42 (by kernel_rfl) (by decide) (fun _ => rfl) opnId
def encRat (x : Bool × ByteArray × ByteArray) : List V := [.s (.bool x.1), .s (.string x.2.1), .s (.string x.2.2)]
def bdRat (x : Bool × ByteArray × ByteArray) (m : Nat) : Prop := True
theorem opnRat : Opn bulk Try.prog 44 encRat bdRat := by
  refine Opn.map (fun p : Bool × ByteArray × ByteArray × Unit => ((p.1, p.2.1, p.2.2.1) : (Bool × ByteArray × ByteArray))) (Opn.struct (enc := fun p => encBool p.1 ++ (encStr p.2.1 ++ (encStr p.2.2.1 ++ ([])))) (bd := fun p m => bdBool p.1 m ∧ (bdStr p.2.1 m ∧ (bdStr p.2.2.1 m ∧ (True)))) Try.underlying44 ?_) (fun _ => rfl) (by intro p m h; exact trivial) (by intro b m m' h h2; exact trivial)
  rw [show Program.cellsOf Try.prog 44 = 3 by kernel_rfl]
  exact OpnF.cons (enc := encBool) (bd := bdBool) (z := 1) rfl (by kernel_rfl) (fun _ => rfl) opnBool (OpnF.cons (enc := encStr) (bd := bdStr) (z := 1) rfl (by kernel_rfl) (fun _ => rfl) opnStr (OpnF.cons (enc := encStr) (bd := bdStr) (z := 1) rfl (by kernel_rfl) (fun _ => rfl) opnStr OpnF.nil))
def bdE (x : Edt) (m : Nat) : Prop := x.field.size < m ∧ x.value.size < m ∧ x.deps.length < m ∧ ∀ y ∈ x.deps, bdId y m
instance : Inhabited Edt := ⟨⟨default, 0, 0, [], 0, default, default, false, ⟨#[]⟩, ⟨#[]⟩, ⟨#[]⟩, ⟨#[]⟩, default, ⟨#[]⟩⟩⟩
theorem opnE : Opn bulk Try.prog 46 encE bdE := by
  refine Opn.map (fun p : Idt × Int × Int × (List Idt) × Int × Idt × Idt × (Bool × ByteArray × ByteArray) × ByteArray × ByteArray × Idt × ByteArray × Unit => (⟨p.1, p.2.1, p.2.2.1, p.2.2.2.1, p.2.2.2.2.1, p.2.2.2.2.2.1, p.2.2.2.2.2.2.1, p.2.2.2.2.2.2.2.1.1, p.2.2.2.2.2.2.2.1.2.1, p.2.2.2.2.2.2.2.1.2.2, p.2.2.2.2.2.2.2.2.1, p.2.2.2.2.2.2.2.2.2.1, p.2.2.2.2.2.2.2.2.2.2.1, p.2.2.2.2.2.2.2.2.2.2.2.1⟩ : Edt)) (Opn.struct (enc := fun p => encId p.1 ++ ((encInt .i64) p.2.1 ++ ((encInt .i64) p.2.2.1 ++ ((encSl encId) p.2.2.2.1 ++ ((encInt .i64) p.2.2.2.2.1 ++ (encId p.2.2.2.2.2.1 ++ (encId p.2.2.2.2.2.2.1 ++ (encRat p.2.2.2.2.2.2.2.1 ++ (encStr p.2.2.2.2.2.2.2.2.1 ++ (encStr p.2.2.2.2.2.2.2.2.2.1 ++ (encId p.2.2.2.2.2.2.2.2.2.2.1 ++ (encStr p.2.2.2.2.2.2.2.2.2.2.2.1 ++ ([]))))))))))))) (bd := fun p m => bdId p.1 m ∧ ((bdInt .i64) p.2.1 m ∧ ((bdInt .i64) p.2.2.1 m ∧ ((bdSl bdId) p.2.2.2.1 m ∧ ((bdInt .i64) p.2.2.2.2.1 m ∧ (bdId p.2.2.2.2.2.1 m ∧ (bdId p.2.2.2.2.2.2.1 m ∧ (bdRat p.2.2.2.2.2.2.2.1 m ∧ (bdStr p.2.2.2.2.2.2.2.2.1 m ∧ (bdStr p.2.2.2.2.2.2.2.2.2.1 m ∧ (bdId p.2.2.2.2.2.2.2.2.2.2.1 m ∧ (bdStr p.2.2.2.2.2.2.2.2.2.2.2.1 m ∧ (True))))))))))))) Try.underlying46 ?_) (fun _ => rfl) (by intro p m h; exact ⟨h.2.2.2.2.2.2.2.2.1, h.2.2.2.2.2.2.2.2.2.1, h.2.2.2.1.1, h.2.2.2.1.2⟩) (by intro b m m' h h2; exact ⟨Nat.lt_of_lt_of_le h2.1 h, Nat.lt_of_lt_of_le h2.2.1 h, Nat.lt_of_lt_of_le h2.2.2.1 h, fun y hy => opnId.1 y m m' h (h2.2.2.2 y hy)⟩)
  rw [show Program.cellsOf Try.prog 46 = 18 by kernel_rfl]
  exact OpnF.cons (enc := encId) (bd := bdId) (z := 2) rfl (by kernel_rfl) (fun _ => rfl) opnId (OpnF.cons (enc := (encInt .i64)) (bd := (bdInt .i64)) (z := 1) rfl (by kernel_rfl) (fun _ => rfl) opnInt (OpnF.cons (enc := (encInt .i64)) (bd := (bdInt .i64)) (z := 1) rfl (by kernel_rfl) (fun _ => rfl) opnInt (OpnF.cons (enc := (encSl encId)) (bd := (bdSl bdId)) (z := 1) rfl (by kernel_rfl) (fun _ => rfl) opnIds (OpnF.cons (enc := (encInt .i64)) (bd := (bdInt .i64)) (z := 1) rfl (by kernel_rfl) (fun _ => rfl) opnInt (OpnF.cons (enc := encId) (bd := bdId) (z := 2) rfl (by kernel_rfl) (fun _ => rfl) opnId (OpnF.cons (enc := encId) (bd := bdId) (z := 2) rfl (by kernel_rfl) (fun _ => rfl) opnId (OpnF.cons (enc := encRat) (bd := bdRat) (z := 3) rfl (by kernel_rfl) (fun _ => rfl) opnRat (OpnF.cons (enc := encStr) (bd := bdStr) (z := 1) rfl (by kernel_rfl) (fun _ => rfl) opnStr (OpnF.cons (enc := encStr) (bd := bdStr) (z := 1) rfl (by kernel_rfl) (fun _ => rfl) opnStr (OpnF.cons (enc := encId) (bd := bdId) (z := 2) rfl (by kernel_rfl) (fun _ => rfl) opnId (OpnF.cons (enc := encStr) (bd := bdStr) (z := 1) rfl (by kernel_rfl) (fun _ => rfl) opnStr OpnF.nil)))))))))))
theorem opnEs : Opn bulk Try.prog 23 (encSl encE) (bdSl bdE) := Opn.slice (z := 18) Try.underlying23 (by kernel_rfl) (by decide) (fun _ => rfl) opnE
end Go.Proofs.Ytgohmphhgglmbaa
