/- Texts that the law's proof stands on: V24, V18, V11, V13, V8, V25, V26, V27, V17, V14, V15, V19, V51, V31, V35, V36, V37. -/
import Derived.Test.YtgohmphhgglmbaaB6
import Derived.Test.YtgohmphhgglmbaaB5
import Derived.Test.YtgohmphhgglmbaaB4
import Derived.Laws.StructEq
set_option linter.unusedVariables false
set_option linter.unusedSimpArgs false
set_option maxRecDepth 100000
set_option maxHeartbeats 16000000
namespace Go.Proofs.Ytgohmphhgglmbaa
open Go Go.RowKit Am

def wAt (l : List Wrt) (i : Nat) : Wrt := l.getD i ⟨⟨⟨#[]⟩, 0⟩, 0, ⟨#[]⟩⟩
theorem rAt_lt {l : List Rgs} {i : Nat} (h : i < l.length) : rAt l i = l[i] := by simp [rAt, h]
theorem wAt_lt {l : List Wrt} {i : Nat} (h : i < l.length) : wAt l i = l[i] := by simp [wAt, h]
def eqI (a b : Idt) : Bool := (a.a.toList == b.a.toList) && (a.n == b.n)
def wBad (w : List Wrt) (k : Nat) : Bool := (decide (0 < (k : Int)) && !aheadF (wAt w (k - 1)) (wAt w k)) || decide (300 < ((wAt w k).x.size : Int))
def wDup (w : List Wrt) (k : Nat) : Bool := (w.take k).any fun n => eqI n.id (wAt w k).id
def wOkF (w : List Wrt) : Nat → Nat → Bool
  | 0, _ => true
  | n + 1, k => !wBad w k && !wDup w k && wOkF w n (k + 1)
def rBad (l : List Rgs) (i : Nat) : Bool := (decide (0 < (i : Int)) && !firstF (rAt l (i - 1)) (rAt l i)) || (((rAt l i).w.length : Int) == 0) || decide (30 < ((rAt l i).w.length : Int)) || decide (300 < ((rAt l i).f.size : Int))
def rOkF (l : List Rgs) : Nat → Nat → Bool
  | 0, _ => true
  | n + 1, i => !rBad l i && wOkF (rAt l i).w (rAt l i).w.length 0 && rOkF l n (i + 1)
def rightF (l : List Rgs) : Int := if 30 < (l.length : Int) then 0 else if rOkF l l.length 0 then 1 else 0
def rightS : Fspec := fun _ ds r => ∃ l : List Rgs, smallR 1048576 l ∧ ds = [.sl (l.map encR)] ∧ r = .s (.int .i64 (rightF l))
theorem right_sound {plain : TypeId → Bool} {Γ : FuncId → Option Fspec} {Δ : FuncId → Option Pt} (hE : EnvOk ⟨Try.prog, plain, Γ, Δ, fun _ => none, 0⟩) (hpl : plain 31 = true) (g_first : Γ 23 = some firstS) (g_ahead : Γ 24 = some aheadS) : Sound Try.prog 10 rightS := by
  refine sound_of_awp hE Try.func10 rfl (by kernel_rfl) ?_
  rintro Φ ds r ⟨l, hsm, rfl, rfl⟩
  refine ⟨by simp [Try.f10], ?_⟩
  unfold st0
  refine W.out (E := ⟨Try.prog, plain, Γ, Δ, Φ, _⟩) ?_
  have hr := encR_rows l
  have hl0 := hsm.1
  by_cases h30 : 30 < (l.length : Int)
  · refine go h30 ?_
    refine x_done (x_out (sr (And.intro @Try.f10.eq_1 (And.intro @rightF.eq_1 h30))) (by simp) (by simp) rfl)
  refine go h30 ?_
  refine x_loop (fun σ => ∃ (i : Nat), σ.t 0 = .sl (l.map encR) ∧ σ.t 12 = .sl (l.map encR) ∧ σ.t 13 = .s (.int .i64 l.length) ∧ σ.t 14 = .s (.int .i64 i) ∧ i ≤ l.length ∧ rOkF l (l.length - i) i = rOkF l l.length 0) (fun σ => l.length - ix (σ.t 14)) ⟨0, (by first | assumption | exact sxa trivial), (by first | assumption | exact sxa trivial), (by first | assumption | exact sxa trivial), (by first | assumption | exact sxa trivial), (by first | rfl | omega | assumption | (simp [*]; done)), (by first | rfl | omega | assumption | (simp [*]; done))⟩ ?_
  rintro t h n ⟨i, h0, h12, h13, h14, hf0, hf1⟩
  simp only at h0 h12 h13 h14
  refine go (And.intro h0 (And.intro h12 (And.intro h13 h14))) ?_
  refine x_condP (sv trivial) (fun hc => ?_) (fun hc => ?_)
  · have hi : i < l.length := by omega
    obtain ⟨m, hm⟩ : ∃ m, l.length - i = m + 1 := ⟨l.length - i - 1, by omega⟩
    have hm' : l.length - (i + 1) = m := by omega
    rw [hm, rOkF] at hf1
    have hri := rAt_lt hi
    have ei : ((i : Int) - 1).toNat = i - 1 := by omega
    have hri1 := rAt_lt (l := l) (i := i - 1) (by omega)
    refine goR trivial ?_
    refine x_seq ?_
    refine goR trivial ?_
    refine x_seq ?_
    refine goR (And.intro h0 (And.intro h12 (And.intro h13 (And.intro h14 (And.intro hr @encR.eq_1))))) ?_
    refine x_seq ?_
    refine x_cut (fun σ => σ.t 0 = .sl (l.map encR) ∧ σ.t 3 = .s (.int .i64 i) ∧ σ.t 4 = .ptr n 0 0 ∧ σ.t 12 = .sl (l.map encR) ∧ σ.t 13 = .s (.int .i64 l.length) ∧ σ.t 14 = .s (.int .i64 i) ∧ σ.t 48 = .s (.bool (rBad l i)) ∧ σ.h n = some ⟨4, [encR (rAt l i)], true⟩ ∧ n < σ.n) ?_ ?_
    · (have ee := (And.intro @encR.eq_1 ei); repeat' (first | refine go1aR ee ?_ | (refine x_callD rfl rfl rfl rfl rfl (sva ee) g_first (sva ee) (sea ee) ⟨_, _, rfl, rfl⟩ rfl ?_) | ((first | refine cbr ee ?_ ?_ | refine gbrt ee ?_ ?_ | refine gbrf ee ?_ ?_ | refine gbrtD ee ?_ ?_ | refine gbrfD ee ?_ ?_) <;> (first | intro hc ho | intro hc) <;> (try simp only [bne, Bool.not_eq_true', Bool.not_eq_false', Bool.not_eq_true, Bool.not_eq_false] at hc))))
      all_goals (refine ⟨?_, ?_, ?_, ?_, ?_, ?_, ?_, ?_, ?_⟩ <;> (first | omega | (dsimp only; omega) | exact sxa (And.intro @cast_succ (And.intro @rBad.eq_1 (And.intro @encR.eq_1 (And.intro hri hri1)))) | exact soa trivial | ((simp [rBad, encR, hri, hri1, upd_at, *]; done))))
    rintro t h n1 ⟨h0, h3, h4, h12, h13, h14, h48, hhn, hn1⟩
    simp only at h0 h3 h4 h12 h13 h14 h48 hhn hn1
    cases hb : rBad l i
    · refine goR (And.intro h0 (And.intro h3 (And.intro h4 (And.intro h12 (And.intro h13 (And.intro h14 (And.intro h48 hb))))))) ?_
      refine x_seq ?_
      refine goR (And.intro h0 (And.intro h3 (And.intro h4 (And.intro h12 (And.intro h13 (And.intro h14 (And.intro h48 (And.intro hb (And.intro hhn @encR.eq_1))))))))) ?_
      have hsw : (rAt l i).w.length ≤ 1048576 := hsm.2 _ (by rw [hri]; exact List.getElem_mem _)
      generalize hw : (rAt l i).w = w at *
      have hw2 : l[i].w = w := by rw [← hri]; exact hw
      have hrw := encW_rows w
      rw [hb] at hf1
      have hf1' := hf1
      refine x_loop (fun σ => ∃ (k : Nat), σ.t 0 = .sl (l.map encR) ∧ σ.t 3 = .s (.int .i64 i) ∧ σ.t 4 = .ptr n 0 0 ∧ σ.t 12 = .sl (l.map encR) ∧ σ.t 13 = .s (.int .i64 l.length) ∧ σ.t 14 = .s (.int .i64 i) ∧ σ.h n = some ⟨4, [encR (rAt l i)], true⟩ ∧ σ.t 50 = .sl (w.map encW) ∧ σ.t 51 = .s (.int .i64 w.length) ∧ σ.t 52 = .s (.int .i64 k) ∧ n < σ.n ∧ k ≤ w.length ∧ wOkF w (w.length - k) k = wOkF w w.length 0) (fun σ => w.length - ix (σ.t 52)) ⟨0, (by first | assumption | exact sxa trivial), (by first | assumption | exact sxa trivial), (by first | assumption | exact sxa trivial), (by first | assumption | exact sxa trivial), (by first | assumption | exact sxa trivial), (by first | assumption | exact sxa trivial), (by first | assumption | exact sxa trivial), (by first | assumption | exact sxa trivial), (by first | assumption | exact sxa trivial), (by first | assumption | exact sxa trivial), (by first | omega | (dsimp only; omega) | exact soa trivial | omega | (simp; done)), (by first | rfl | omega | assumption | (simp [*]; done)), (by first | rfl | omega | assumption | (simp [*]; done))⟩ ?_
      rintro t h n2 ⟨k, h0, h3, h4, h12, h13, h14, hhn, h50, h51, h52, hn1, hf0, hf1⟩
      simp only at h0 h3 h4 h12 h13 h14 hhn h50 h51 h52 hn1
      refine go (And.intro h0 (And.intro h3 (And.intro h4 (And.intro h12 (And.intro h13 (And.intro h14 (And.intro h50 (And.intro h51 h52)))))))) ?_
      refine x_condP (sv (And.intro h0 (And.intro h3 (And.intro h4 (And.intro h12 (And.intro h13 (And.intro h14 (And.intro h50 (And.intro h51 h52))))))))) (fun hc => ?_) (fun hc => ?_)
      · have hk : k < w.length := by omega
        obtain ⟨m2, hm2⟩ : ∃ m, w.length - k = m + 1 := ⟨w.length - k - 1, by omega⟩
        have hm2' : w.length - (k + 1) = m2 := by omega
        rw [hm2, wOkF] at hf1
        have hwk := wAt_lt hk
        have hwk1 := wAt_lt (l := w) (i := k - 1) (by omega)
        have ek : ((k : Int) - 1).toNat = k - 1 := by omega
        have en : (n = n2) = False := by simp; omega
        refine goR trivial ?_
        refine x_seq ?_
        refine goR trivial ?_
        refine x_seq ?_
        refine goR (And.intro h0 (And.intro h3 (And.intro h4 (And.intro h12 (And.intro h13 (And.intro h14 (And.intro h50 (And.intro h51 (And.intro h52 (And.intro hrw @encW.eq_1)))))))))) ?_
        refine x_seq ?_
        refine x_cut (fun σ => σ.t 0 = .sl (l.map encR) ∧ σ.t 3 = .s (.int .i64 i) ∧ σ.t 4 = .ptr n 0 0 ∧ σ.t 12 = .sl (l.map encR) ∧ σ.t 13 = .s (.int .i64 l.length) ∧ σ.t 14 = .s (.int .i64 i) ∧ σ.h n = some ⟨4, [encR (rAt l i)], true⟩ ∧ σ.t 50 = .sl (w.map encW) ∧ σ.t 51 = .s (.int .i64 w.length) ∧ σ.t 52 = .s (.int .i64 k) ∧ σ.t 5 = .s (.int .i64 k) ∧ σ.t 6 = .ptr n2 0 0 ∧ σ.h n2 = some ⟨4, [encW (wAt w k)], true⟩ ∧ σ.t 75 = .s (.bool (wBad w k)) ∧ n < σ.n ∧ n2 < σ.n) ?_ ?_
        · (have ee := (And.intro @encR.eq_1 (And.intro @encW.eq_1 (And.intro ek hw))); repeat' (first | refine go1aR ee ?_ | (refine x_callD rfl rfl rfl rfl rfl (sva ee) g_ahead (sva ee) (sea ee) ⟨_, _, rfl, rfl⟩ rfl ?_) | ((first | refine cbr ee ?_ ?_ | refine gbrt ee ?_ ?_ | refine gbrf ee ?_ ?_ | refine gbrtD ee ?_ ?_ | refine gbrfD ee ?_ ?_) <;> (first | intro hc ho | intro hc) <;> (try simp only [bne, Bool.not_eq_true', Bool.not_eq_false', Bool.not_eq_true, Bool.not_eq_false] at hc))))
          all_goals (refine ⟨?_, ?_, ?_, ?_, ?_, ?_, ?_, ?_, ?_, ?_, ?_, ?_, ?_, ?_, ?_, ?_⟩ <;> (first | omega | (dsimp only; omega) | exact sxa (And.intro @cast_succ (And.intro @wBad.eq_1 (And.intro @encR.eq_1 (And.intro @encW.eq_1 (And.intro hwk hwk1))))) | exact soa trivial | ((simp [wBad, encW, encR, hwk, hwk1, upd_at, *]; done))))
        rintro t h n3 ⟨h0, h3, h4, h12, h13, h14, hhn, h50, h51, h52, h5, h6, hhn2, h75, hn1, hn3⟩
        simp only at h0 h3 h4 h12 h13 h14 hhn h50 h51 h52 h5 h6 hhn2 h75 hn1 hn3
        have en3 : (n2 = n3) = False := by simp; omega
        have en4 : (n = n3) = False := by simp; omega
        cases hb2 : wBad w k
        · rw [hb2] at hf1
          refine goR (And.intro h75 hb2) ?_
          refine x_seq ?_
          refine goR (And.intro h4 (And.intro h5 (And.intro hhn (And.intro hw (And.intro hw2 (And.intro @encR.eq_1 hrw)))))) ?_
          have hrt : ((w.map encW).take k) = (w.take k).map encW := List.map_take.symm
          have hlt : (w.take k).length = k := by simp; omega
          have hrwt := encW_rows (w.take k)
          have hB := hf1
          refine x_loop (fun σ => ∃ (j : Nat), σ.t 0 = .sl (l.map encR) ∧ σ.t 3 = .s (.int .i64 i) ∧ σ.t 4 = .ptr n 0 0 ∧ σ.t 12 = .sl (l.map encR) ∧ σ.t 13 = .s (.int .i64 l.length) ∧ σ.t 14 = .s (.int .i64 i) ∧ σ.h n = some ⟨4, [encR (rAt l i)], true⟩ ∧ σ.t 50 = .sl (w.map encW) ∧ σ.t 51 = .s (.int .i64 w.length) ∧ σ.t 52 = .s (.int .i64 k) ∧ σ.t 5 = .s (.int .i64 k) ∧ σ.t 6 = .ptr n2 0 0 ∧ σ.h n2 = some ⟨4, [encW (wAt w k)], true⟩ ∧ σ.t 79 = .sl ((w.take k).map encW) ∧ σ.t 80 = .s (.int .i64 k) ∧ σ.t 81 = .s (.int .i64 j) ∧ n < σ.n ∧ n2 < σ.n ∧ j ≤ k ∧ ((w.take k).drop j).any (fun q => eqI q.id (wAt w k).id) = wDup w k) (fun σ => k - ix (σ.t 81)) ⟨0, (by first | assumption | exact sxa trivial), (by first | assumption | exact sxa trivial), (by first | assumption | exact sxa trivial), (by first | assumption | exact sxa trivial), (by first | assumption | exact sxa trivial), (by first | assumption | exact sxa trivial), (by first | assumption | exact sxa trivial), (by first | assumption | exact sxa trivial), (by first | assumption | exact sxa trivial), (by first | assumption | exact sxa trivial), (by first | assumption | exact sxa trivial), (by first | assumption | exact sxa trivial), (by first | assumption | exact sxa trivial), (by first | assumption | exact sxa trivial), (by first | assumption | exact sxa trivial), (by first | assumption | exact sxa trivial), (by first | omega | (dsimp only; omega) | exact soa trivial | omega | (simp; done)), (by first | omega | (dsimp only; omega) | exact soa trivial | omega | (simp; done)), (by first | rfl | omega | assumption | (simp [*]; done)), (by first | rfl | omega | assumption | (simp [*]; done))⟩ ?_
          rintro t h n4 ⟨j, h0, h3, h4, h12, h13, h14, hhn, h50, h51, h52, h5, h6, hhn2, h79, h80, h81, hn1, hn3, hf0, hf1⟩
          simp only at h0 h3 h4 h12 h13 h14 hhn h50 h51 h52 h5 h6 hhn2 h79 h80 h81 hn1 hn3
          refine go (And.intro h0 (And.intro h3 (And.intro h4 (And.intro h12 (And.intro h13 (And.intro h14 (And.intro h50 (And.intro h51 (And.intro h52 (And.intro h5 (And.intro h6 (And.intro h79 (And.intro h80 h81))))))))))))) ?_
          refine x_condP (sv (And.intro h0 (And.intro h3 (And.intro h4 (And.intro h12 (And.intro h13 (And.intro h14 (And.intro h50 (And.intro h51 (And.intro h52 (And.intro h5 (And.intro h6 (And.intro h79 (And.intro h80 h81)))))))))))))) (fun hc => ?_) (fun hc => ?_)
          · have hj : j < (w.take k).length := by omega
            rw [List.drop_eq_getElem_cons hj, List.any_cons] at hf1
            have en5 : (n2 = n4) = False := by simp; omega
            have en6 : (n = n4) = False := by simp; omega
            refine go (And.intro h0 (And.intro h3 (And.intro h4 (And.intro h12 (And.intro h13 (And.intro h14 (And.intro h50 (And.intro h51 (And.intro h52 (And.intro h5 (And.intro h6 (And.intro h79 (And.intro h80 (And.intro h81 (And.intro hhn2 (And.intro hhn (And.intro hrwt (And.intro @encW.eq_1 (And.intro hpl (And.intro hlt (And.intro en5 en6))))))))))))))))))))) ?_
            cases he : ((w.take k)[j].id.a.toList == (wAt w k).id.a.toList) && ((w.take k)[j].id.n == (wAt w k).id.n)
            · have he' : eqI (w.take k)[j].id (wAt w k).id = false := he
              rw [he', Bool.false_or] at hf1
              refine go (And.intro h0 (And.intro h3 (And.intro h4 (And.intro h12 (And.intro h13 (And.intro h14 (And.intro h50 (And.intro h51 (And.intro h52 (And.intro h5 (And.intro h6 (And.intro h79 (And.intro h80 (And.intro h81 (And.intro hhn2 (And.intro hhn (And.intro hrwt (And.intro @encW.eq_1 (And.intro hpl (And.intro hlt (And.intro en5 (And.intro en6 he)))))))))))))))))))))) ?_
              (refine ⟨⟨j + 1, ?_, ?_, ?_, ?_, ?_, ?_, ?_, ?_, ?_, ?_, ?_, ?_, ?_, ?_, ?_, ?_, ?_, ?_, ?_, ?_⟩, ?_⟩ <;> (first | omega | (dsimp only; omega) | ((exact hf1)) | exact sxa (And.intro @cast_succ (And.intro en5 en6)) | exact soa trivial))
            · have he' : eqI (w.take k)[j].id (wAt w k).id = true := he
              rw [he', Bool.true_or] at hf1
              have hz : rightF l = 0 := by
                rw [← hf1] at hB
                have hw0 : wOkF w w.length 0 = false := by rw [← hB]; rfl
                rw [hw0] at hf1'
                simp only [rightF, if_neg h30, ← hf1']
                rfl
              refine go (And.intro h0 (And.intro h3 (And.intro h4 (And.intro h12 (And.intro h13 (And.intro h14 (And.intro h50 (And.intro h51 (And.intro h52 (And.intro h5 (And.intro h6 (And.intro h79 (And.intro h80 (And.intro h81 (And.intro hhn2 (And.intro hhn (And.intro hrwt (And.intro @encW.eq_1 (And.intro hpl (And.intro hlt (And.intro en5 (And.intro en6 he)))))))))))))))))))))) ?_
              refine x_done (x_out (sr (And.intro @Try.f10.eq_1 hz)) (by simp) (by simp) rfl)
          · have ej : j = k := by omega
            rw [ej, List.drop_of_length_le (by omega), List.any_nil] at hf1
            rw [← hf1] at hB
            skip
            refine go (And.intro h0 (And.intro h3 (And.intro h4 (And.intro h12 (And.intro h13 (And.intro h14 (And.intro h50 (And.intro h51 (And.intro h52 (And.intro h5 h6)))))))))) ?_
            (refine ⟨⟨k + 1, ?_, ?_, ?_, ?_, ?_, ?_, ?_, ?_, ?_, ?_, ?_, ?_, ?_⟩, ?_⟩ <;> (first | omega | (dsimp only; omega) | ((rw [hm2', ← hB]; rfl)) | exact sxa @cast_succ | exact soa trivial))
        · have hz : rightF l = 0 := by
            rw [hb2] at hf1
            have : wOkF w w.length 0 = false := by rw [← hf1]; rfl
            simp only [rightF, if_neg h30, ← hf1', this]
            rfl
          refine go (And.intro h75 hb2) ?_
          refine x_done (x_out (sr (And.intro @Try.f10.eq_1 hz)) (by simp) (by simp) rfl)
      · have ek2 : k = w.length := by omega
        subst ek2
        rw [Nat.sub_self, wOkF] at hf1
        rw [← hf1] at hf1'
        skip
        refine go (And.intro h0 (And.intro h3 (And.intro h4 (And.intro h12 (And.intro h13 (And.intro h14 (And.intro h50 (And.intro h51 h52)))))))) ?_
        (refine ⟨⟨i + 1, ?_, ?_, ?_, ?_, ?_, ?_⟩, ?_⟩ <;> (first | omega | (dsimp only; omega) | ((rw [hm', ← hf1']; rfl)) | exact sxa @cast_succ | exact soa trivial))
    · have hz : rightF l = 0 := by
        rw [hb] at hf1
        simp only [rightF, if_neg h30, ← hf1]
        rfl
      refine go (And.intro h48 hb) ?_
      refine x_done (x_out (sr (And.intro @Try.f10.eq_1 hz)) (by simp) (by simp) rfl)
  · have e : i = l.length := by omega
    subst e
    rw [Nat.sub_self, rOkF] at hf1
    have hz : rightF l = 1 := by
      simp only [rightF, if_neg h30, ← hf1]
      rfl
    refine go (And.intro h0 (And.intro h12 (And.intro h13 h14))) ?_
    refine x_done (x_out (sr (And.intro @Try.f10.eq_1 hz)) (by simp) (by simp) rfl)
end Go.Proofs.Ytgohmphhgglmbaa

set_option linter.unusedVariables false
set_option linter.unusedSimpArgs false
set_option maxRecDepth 100000
set_option maxHeartbeats 4000000
namespace Go.Proofs.Ytgohmphhgglmbaa
open Go Go.RowKit Am

def setF (au : ByteArray) (n c : Int) (tx : ByteArray) (deps : List Idt) : Edt := ⟨⟨au, n⟩, c, 0, deps, 3, ⟨⟨#[97, 110, 110]⟩, 1⟩, ⟨⟨#[]⟩, 0⟩, false, ⟨#[]⟩, ⟨#[]⟩, ⟨#[102]⟩, tx, ⟨⟨#[]⟩, 0⟩, ⟨#[]⟩⟩
def setS : Fspec := fun _ ds r => ∃ (au : ByteArray) (n c : Int) (tx : ByteArray) (deps : List Idt), ds = [.s (.string au), .s (.int .i64 n), .s (.int .i64 c), .s (.string tx), .sl (deps.map encId)] ∧ r = .agg (encE (setF au n c tx deps))
theorem set_sound {plain : TypeId → Bool} {Γ : FuncId → Option Fspec} {Δ : FuncId → Option Pt} (hE : EnvOk ⟨Try.prog, plain, Γ, Δ, fun _ => none, 0⟩) : Sound Try.prog 22 setS := by
  refine sound_of_awp hE Try.func22 rfl (by kernel_rfl) ?_
  rintro Φ ds r ⟨au, n, c, tx, deps, rfl, rfl⟩
  refine ⟨by simp [Try.f22], ?_⟩
  unfold st0
  refine W.out (E := ⟨Try.prog, plain, Γ, Δ, Φ, _⟩) ?_
  refine go trivial ?_
  refine x_done (x_out (sr (And.intro @Try.f22.eq_1 (And.intro @encE.eq_1 @setF.eq_1))) (by simp) (by simp) rfl)
end Go.Proofs.Ytgohmphhgglmbaa

set_option linter.unusedVariables false
set_option linter.unusedSimpArgs false
set_option maxRecDepth 100000
set_option maxHeartbeats 4000000
namespace Go.Proofs.Ytgohmphhgglmbaa
open Go Go.RowKit Am

def lk1S : Fspec := fun _ ds r => ∃ (x : Rgs) (y : Idt) (f : ByteArray), ds = [.agg (encR x), .pc (encId y), .pc [.s (.string f)]] ∧ r = .s (.bool (((x.id.a.toList == y.a.toList) && (x.id.n == y.n)) && (x.f.toList == f.toList)))
theorem lk1_sound {plain : TypeId → Bool} {Γ : FuncId → Option Fspec} {Δ : FuncId → Option Pt} (hE : EnvOk ⟨Try.prog, plain, Γ, Δ, fun _ => none, 0⟩) (hpl : plain 31 = true) : Sound Try.prog 33 lk1S := by
  refine sound_of_awp hE Try.func33 rfl (by kernel_rfl) ?_
  rintro Φ ds r ⟨x, y, f, rfl, rfl⟩
  refine ⟨by simp [Try.f33], ?_⟩
  unfold st0 encR encId
  refine W.out (E := ⟨Try.prog, plain, Γ, Δ, Φ, _⟩) ?_
  cases ha : ((x.id.a.toList == y.a.toList) && (x.id.n == y.n))
  · refine go (And.intro hpl ha) ?_
    refine x_done (x_out (sr (And.intro @Try.f33.eq_1 ha)) (by simp) (by simp) rfl)
  · refine go (And.intro hpl ha) ?_
    refine x_done (x_out (sr (And.intro @Try.f33.eq_1 ha)) (by simp) (by simp) rfl)
end Go.Proofs.Ytgohmphhgglmbaa

set_option linter.unusedVariables false
set_option linter.unusedSimpArgs false
set_option maxRecDepth 100000
set_option maxHeartbeats 4000000
namespace Go.Proofs.Ytgohmphhgglmbaa
open Go Go.RowKit Am

def lkP (y : Idt) (f : ByteArray) (x : Rgs) : Bool := ((x.id.a.toList == y.a.toList) && (x.id.n == y.n)) && (x.f.toList == f.toList)
theorem idx_get (y : Idt) (f : ByteArray) : ∀ (l : List Rgs) (k : Nat), (idxF (lkP y f) l k = -1 ∧ getF l y f = []) ∨ ∃ (i : Nat) (h : i < l.length), idxF (lkP y f) l k = ((k + i : Nat) : Int) ∧ getF l y f = l[i].w
  | [], k => .inl ⟨rfl, rfl⟩
  | x :: l, k => by
    simp only [idxF, getF]
    cases hp : lkP y f x
    · have hp' := hp
      unfold lkP at hp'
      simp only [hp', Bool.false_eq_true, if_false]
      rcases idx_get y f l (k + 1) with h | ⟨i, h1, h2, h3⟩
      · exact .inl h
      · exact .inr ⟨i + 1, by simpa using h1, by rw [h2]; congr 1; omega, by simpa using h3⟩
    · have hp' := hp
      unfold lkP at hp'
      simp only [hp', if_true]
      exact .inr ⟨0, by simp, by simp, by simp⟩
def lookS : Fspec := fun _ ds r => ∃ (l : List Rgs) (y : Idt) (f : ByteArray), l.length ≤ 1099511627776 ∧ (∀ x ∈ l, x.w.length ≤ 1099511627776) ∧ ds = [.sl (l.map encR), .agg (encId y), .s (.string f)] ∧ r = .sl ((getF l y f).map encW)
theorem look_sound {plain : TypeId → Bool} {Γ : FuncId → Option Fspec} {Δ : FuncId → Option Pt} (hE : EnvOk ⟨Try.prog, plain, Γ, Δ, fun _ => none, 0⟩) (g_idx : Γ 32 = some (idxS encR)) (g_lk : Γ 33 = some lk1S) (g_cl : Γ 34 = some (cloneS encW 4)) : Sound Try.prog 15 lookS := by
  refine sound_of_awp hE Try.func15 rfl (by kernel_rfl) ?_
  rintro Φ ds r ⟨v, y, f, hv, hw, rfl, rfl⟩
  refine ⟨by simp [Try.f15], ?_⟩
  unfold st0
  refine W.out (E := ⟨Try.prog, plain, Γ, Δ, Φ, _⟩) ?_
  have hr := encR_rows v
  refine go @encId.eq_1 ?_
  refine x_callN rfl rfl rfl rfl (sv @encId.eq_1) g_idx (sv @encId.eq_1) (se @encId.eq_1) ⟨v, lkP y f, _, hv, rfl, (by simp only [phi, closS, allO, List.getElem?_cons_zero, List.getElem?_cons_succ, g_lk]; rfl), (by intro x _; exact ⟨x, y, f, rfl, rfl⟩), rfl⟩ rfl ?_
  rcases idx_get y f v 0 with ⟨h1, h2⟩ | ⟨i, h1, h2, h3⟩
  · refine go h1 ?_
    rw [h2]
    refine x_done (x_outV (sr @Try.f15.eq_1) (by simp) (by simp) rfl)
  · simp only [Nat.zero_add] at h2
    have hn : ¬ ((i : Int) < 0) := by omega
    refine go (And.intro h2 (And.intro hn (And.intro hr @encR.eq_1))) ?_
    refine x_callO rfl rfl rfl rfl (sv trivial) g_cl (sv trivial) (se trivial) ⟨v[i].w, hw _ (List.getElem_mem h1), rfl, rfl⟩ (by simp [touchA, touch]) (fun cap hcap => ?_)
    refine go trivial ?_
    rw [h3]
    refine x_done (x_outL (sp := spare 4 (cap - (v[i].w.map encW).length)) (sr @Try.f15.eq_1) (sx trivial) (by simp) (deep_map _ _ fun a => by simp [encW, deepc]))
end Go.Proofs.Ytgohmphhgglmbaa

set_option linter.unusedVariables false
set_option linter.unusedSimpArgs false
set_option maxRecDepth 100000
set_option maxHeartbeats 4000000
namespace Go.Proofs.Ytgohmphhgglmbaa
open Go Go.RowKit Am

def lastF (l : List Wrt) : ByteArray × Bool := match l.getLast? with
  | some x => (x.x, true)
  | none => (⟨#[]⟩, false)
theorem lastF_at (v : List Wrt) (h : ((v.length : Int) - 1).toNat < v.length) : lastF v = (v[((v.length : Int) - 1).toNat].x, true) := by
  unfold lastF
  rw [List.getLast?_eq_getElem?, show v.length - 1 = ((v.length : Int) - 1).toNat by omega, List.getElem?_eq_getElem h]
def lastS : Fspec := fun _ ds r => ∃ v : List Wrt, v.length ≤ 1099511627776 ∧ ds = [.sl (v.map encW)] ∧ r = .tup [.s (.string (lastF v).1), .s (.bool (lastF v).2)]
theorem last_sound {plain : TypeId → Bool} {Γ : FuncId → Option Fspec} {Δ : FuncId → Option Pt} (hE : EnvOk ⟨Try.prog, plain, Γ, Δ, fun _ => none, 0⟩) : Sound Try.prog 18 lastS := by
  refine sound_of_awp hE Try.func18 rfl (by kernel_rfl) ?_
  rintro Φ ds r ⟨v, hv, rfl, rfl⟩
  refine ⟨by simp [Try.f18], ?_⟩
  unfold st0
  refine W.out (E := ⟨Try.prog, plain, Γ, Δ, Φ, _⟩) ?_
  have hr := encW_rows v
  by_cases h0 : v.length = 0
  · have hb : ((v.length : Int) == 0) = true := by simp [h0]
    have hl : v = [] := List.eq_nil_of_length_eq_zero h0
    refine go hb ?_
    subst hl
    refine x_done (x_outT (sr (And.intro @Try.f18.eq_1 @lastF.eq_1)) rfl)
  · have hb : ((v.length : Int) == 0) = false := beq_eq_false_iff_ne.2 (by omega)
    have hi : ((v.length : Int) - 1).toNat < v.length := by omega
    refine go (And.intro hb (And.intro hr @encW.eq_1)) ?_
    rw [lastF_at v hi]
    refine x_done (x_outT (sr @Try.f18.eq_1) rfl)
theorem winner_sound {plain : TypeId → Bool} {Γ : FuncId → Option Fspec} {Δ : FuncId → Option Pt} (hE : EnvOk ⟨Try.prog, plain, Γ, Δ, fun _ => none, 0⟩) : Sound Try.prog 17 lastS := by
  refine sound_of_awp hE Try.func17 rfl (by kernel_rfl) ?_
  rintro Φ ds r ⟨v, hv, rfl, rfl⟩
  refine ⟨by simp [Try.f17], ?_⟩
  unfold st0
  refine W.out (E := ⟨Try.prog, plain, Γ, Δ, Φ, _⟩) ?_
  have hr := encW_rows v
  by_cases h0 : v.length = 0
  · have hb : ((v.length : Int) == 0) = true := by simp [h0]
    have hl : v = [] := List.eq_nil_of_length_eq_zero h0
    refine go hb ?_
    subst hl
    refine x_done (x_outT (sr (And.intro @Try.f17.eq_1 @lastF.eq_1)) rfl)
  · have hb : ((v.length : Int) == 0) = false := beq_eq_false_iff_ne.2 (by omega)
    have hi : ((v.length : Int) - 1).toNat < v.length := by omega
    refine go (And.intro hb (And.intro hr @encW.eq_1)) ?_
    rw [lastF_at v hi]
    refine x_done (x_outT (sr @Try.f17.eq_1) rfl)

def eqW (a b : Wrt) : Bool := (a.id.a.toList == b.id.a.toList) && ((a.id.n == b.id.n) && ((a.c == b.c) && (a.x.toList == b.x.toList)))
def marksF : List Wrt → List Wrt → Bool
  | [], [] => true
  | x :: a, y :: b => eqW x y && marksF a b
  | _, _ => false
theorem marksF_len : ∀ (a b : List Wrt), a.length ≠ b.length → marksF a b = false
  | [], [], h => by simp at h
  | [], y :: b, _ => rfl
  | x :: a, [], _ => rfl
  | x :: a, y :: b, h => by simp only [marksF]; rw [marksF_len a b (by simpa using h)]; simp
def marksS : Fspec := fun _ ds r => ∃ a b : List Wrt, a.length ≤ 1099511627776 ∧ b.length ≤ 1099511627776 ∧ ds = [.sl (a.map encW), .sl (b.map encW)] ∧ r = .s (.bool (marksF a b))
theorem marks_sound {plain : TypeId → Bool} {Γ : FuncId → Option Fspec} {Δ : FuncId → Option Pt} (hE : EnvOk ⟨Try.prog, plain, Γ, Δ, fun _ => none, 0⟩) (hpl : plain 41 = true) : Sound Try.prog 19 marksS := by
  refine sound_of_awp hE Try.func19 rfl (by kernel_rfl) ?_
  rintro Φ ds r ⟨a, b, ha, hb, rfl, rfl⟩
  refine ⟨by simp [Try.f19], ?_⟩
  unfold st0
  refine W.out (E := ⟨Try.prog, plain, Γ, Δ, Φ, _⟩) ?_
  have hra := encW_rows a
  have hrb := encW_rows b
  by_cases hl : a.length = b.length
  · have hb : ((a.length : Int) != (b.length : Int)) = false := by simp [hl]
    refine go hb ?_
    refine x_loop (fun σ => ∃ i : Nat, i ≤ a.length ∧ σ.t 0 = .sl (a.map encW) ∧ σ.t 1 = .sl (b.map encW) ∧ σ.t 12 = .s (.int .i64 a.length) ∧ σ.t 13 = .s (.int .i64 i) ∧ marksF (a.drop i) (b.drop i) = marksF a b) (fun σ => a.length - ix (σ.t 13)) ⟨0, Nat.zero_le _, (sc trivial), (sc trivial), (sc trivial), (sc trivial), rfl⟩ ?_
    rintro t h n ⟨i, hi, h0, h1, h12, h13, hf⟩
    simp only at h0 h1 h12 h13
    refine go (And.intro h0 (And.intro h1 (And.intro h12 h13))) ?_
    refine x_condP (sv trivial) (fun hc => ?_) (fun hc => ?_)
    · have hi' : i < a.length := by omega
      have hi2 : i < b.length := by omega
      rw [List.drop_eq_getElem_cons hi', List.drop_eq_getElem_cons hi2, marksF] at hf
      have he : eqW a[i] b[i] = ((a[i].id.a.toList == b[i].id.a.toList) && ((a[i].id.n == b[i].id.n) && ((a[i].c == b[i].c) && (a[i].x.toList == b[i].x.toList)))) := rfl
      cases hz : eqW a[i] b[i]
      · rw [hz] at hf he
        have he := he.symm
        refine go (And.intro h0 (And.intro h1 (And.intro h12 (And.intro h13 (And.intro hra (And.intro hrb (And.intro @encW.eq_1 (And.intro hpl he)))))))) ?_
        have hf' : marksF a b = false := by rw [← hf]; rfl
        refine x_done (x_out (sr (And.intro @Try.f19.eq_1 hf')) (by simp) (by simp) rfl)
      · rw [hz] at hf he
        have he := he.symm
        refine go (And.intro h0 (And.intro h1 (And.intro h12 (And.intro h13 (And.intro hra (And.intro hrb (And.intro @encW.eq_1 (And.intro hpl he)))))))) ?_
        refine ⟨⟨i + 1, by omega, (sc h0), (sc h1), (sc h12), (sc (And.intro h13 @cast_succ)), by simpa using hf⟩, ?_⟩
        exact so h13
    · have e : i = a.length := by omega
      subst e
      rw [List.drop_length, hl, List.drop_length] at hf
      refine go (And.intro h0 (And.intro h1 (And.intro h12 h13))) ?_
      have hf' : marksF a b = true := by rw [← hf]; rfl
      refine x_done (x_out (sr (And.intro @Try.f19.eq_1 hf')) (by simp) (by simp) rfl)
  · have hb : ((a.length : Int) != (b.length : Int)) = true := by simp; omega
    refine go hb ?_
    refine x_done (x_out (sr (And.intro @Try.f19.eq_1 ((marksF_len a b hl)))) (by simp) (by simp) rfl)
end Go.Proofs.Ytgohmphhgglmbaa

set_option linter.unusedVariables false
set_option linter.unusedSimpArgs false
set_option maxRecDepth 100000
set_option maxHeartbeats 16000000
namespace Go.Proofs.Ytgohmphhgglmbaa
open Go Go.RowKit Am

abbrev bAnn : ByteArray := ⟨#[97, 110, 110]⟩
abbrev bBob : ByteArray := ⟨#[98, 111, 98]⟩
theorem al1 : appF [] [setF bAnn 1 1 ⟨#[97]⟩ [], setF bBob 1 1 ⟨#[98]⟩ []] = [⟨⟨bAnn, 1⟩, ⟨#[102]⟩, [⟨⟨bAnn, 1⟩, 1, ⟨#[97]⟩⟩, ⟨⟨bBob, 1⟩, 1, ⟨#[98]⟩⟩]⟩] := by kernel_rfl
theorem al2 : getF [⟨⟨bAnn, 1⟩, ⟨#[102]⟩, [⟨⟨bAnn, 1⟩, 1, ⟨#[97]⟩⟩, ⟨⟨bBob, 1⟩, 1, ⟨#[98]⟩⟩]⟩] ⟨bAnn, 1⟩ ⟨#[102]⟩ = [⟨⟨bAnn, 1⟩, 1, ⟨#[97]⟩⟩, ⟨⟨bBob, 1⟩, 1, ⟨#[98]⟩⟩] := by kernel_rfl
theorem al3 : appF [⟨⟨bAnn, 1⟩, ⟨#[102]⟩, [⟨⟨bAnn, 1⟩, 1, ⟨#[97]⟩⟩, ⟨⟨bBob, 1⟩, 1, ⟨#[98]⟩⟩]⟩] [setF bAnn 2 2 ⟨#[99]⟩ [⟨bAnn, 1⟩, ⟨bBob, 1⟩]] = [⟨⟨bAnn, 1⟩, ⟨#[102]⟩, [⟨⟨bAnn, 2⟩, 2, ⟨#[99]⟩⟩]⟩] := by kernel_rfl
theorem al4 : getF [⟨⟨bAnn, 1⟩, ⟨#[102]⟩, [⟨⟨bAnn, 2⟩, 2, ⟨#[99]⟩⟩]⟩] ⟨bAnn, 1⟩ ⟨#[102]⟩ = [⟨⟨bAnn, 2⟩, 2, ⟨#[99]⟩⟩] := by kernel_rfl
theorem al5 : lastF [⟨⟨bAnn, 2⟩, 2, ⟨#[99]⟩⟩] = (⟨#[99]⟩, true) := by kernel_rfl
theorem al6 : ((⟨#[97]⟩ : ByteArray).toList == (⟨#[97]⟩ : ByteArray).toList) = true := by kernel_rfl
theorem al7 : ((⟨#[98]⟩ : ByteArray).toList == (⟨#[98]⟩ : ByteArray).toList) = true := by kernel_rfl
theorem al8 : ((⟨#[99]⟩ : ByteArray).toList == (⟨#[99]⟩ : ByteArray).toList) = true := by kernel_rfl
theorem tr2 : (((2 : Nat) : Int) == 2) = true := rfl
theorem tr1 : (((1 : Nat) : Int) == 1) = true := rfl
def aliveS : Fspec := fun _ ds r => ds = [] ∧ r = .s (.bool true)
theorem alive_sound {plain : TypeId → Bool} {Γ : FuncId → Option Fspec} {Δ : FuncId → Option Pt} (hE : EnvOk ⟨Try.prog, plain, Γ, Δ, fun _ => none, 0⟩) (g_set : Γ 22 = some setS) (g_app : Γ 13 = some appS) (g_look : Γ 15 = some lookS) (g_win : Γ 17 = some lastS) : Sound Try.prog 9 aliveS := by
  refine sound_of_awp hE Try.func9 rfl (by kernel_rfl) ?_
  rintro Φ ds r ⟨rfl, rfl⟩
  refine ⟨by simp [Try.f9], ?_⟩
  unfold st0
  refine W.out (E := ⟨Try.prog, plain, Γ, Δ, Φ, _⟩) ?_
  refine go trivial ?_
  refine x_callS rfl rfl rfl rfl (sv trivial) g_set (sv trivial) (se trivial) ⟨bAnn, 1, 1, ⟨#[97]⟩, [], rfl, rfl⟩ (by simp) (by simp [touchA, touch]) ?_
  refine go trivial ?_
  refine x_callS rfl rfl rfl rfl (sv (And.intro @encE.eq_1 @setF.eq_1)) g_set (sv (And.intro @encE.eq_1 @setF.eq_1)) (se (And.intro @encE.eq_1 @setF.eq_1)) ⟨bBob, 1, 1, ⟨#[98]⟩, [], rfl, rfl⟩ (by simp) (by simp [touchA, touch]) ?_
  refine go (And.intro @encE.eq_1 @setF.eq_1) ?_
  refine x_callF rfl rfl rfl rfl (sv trivial) g_app (sv trivial) (se trivial) ⟨[], [setF bAnn 1 1 ⟨#[97]⟩ [], setF bBob 1 1 ⟨#[98]⟩ []], ⟨by simp, by simp⟩, by simp, by simp [setF], rfl, rfl⟩ (by simp) (fun h2 hold => ?_)
  have hb0 : h2 0 = some ⟨2, [[.s (.string bAnn), .s (.int .i64 1)]], true⟩ := by
    rw [hold 0 (by simp [touchA, touch, upd_at, rowsOf])]
    rfl
  clear hold
  rw [al1]
  refine go (And.intro hb0 (And.intro @encE.eq_1 @setF.eq_1)) ?_
  refine x_callS rfl rfl rfl rfl (sv trivial) g_look (sv trivial) (se trivial) ⟨[⟨⟨bAnn, 1⟩, ⟨#[102]⟩, [⟨⟨bAnn, 1⟩, 1, ⟨#[97]⟩⟩, ⟨⟨bBob, 1⟩, 1, ⟨#[98]⟩⟩]⟩], ⟨bAnn, 1⟩, ⟨#[102]⟩, by simp, by simp, rfl, rfl⟩ (by simp) (by simp [touchA, touch]) ?_
  rw [al2]
  refine go hb0 ?_
  refine x_callF rfl rfl rfl rfl (sv (And.intro @encE.eq_1 @setF.eq_1)) g_set (sv (And.intro @encE.eq_1 @setF.eq_1)) (se (And.intro @encE.eq_1 @setF.eq_1)) ⟨bAnn, 2, 2, ⟨#[99]⟩, [⟨bAnn, 1⟩, ⟨bBob, 1⟩], rfl, rfl⟩ (by simp) (fun h2 hold => ?_)
  have hb1 : h2 0 = some ⟨2, [[.s (.string bAnn), .s (.int .i64 1)]], true⟩ := by
    rw [hold 0 (by simp [touchA, touch, upd_at, rowsOf])]
    exact sx hb0
  clear hold hb0
  refine go (And.intro hb1 (And.intro @encE.eq_1 @setF.eq_1)) ?_
  refine x_callF rfl rfl rfl rfl (sv trivial) g_app (sv trivial) (se trivial) ⟨[⟨⟨bAnn, 1⟩, ⟨#[102]⟩, [⟨⟨bAnn, 1⟩, 1, ⟨#[97]⟩⟩, ⟨⟨bBob, 1⟩, 1, ⟨#[98]⟩⟩]⟩], [setF bAnn 2 2 ⟨#[99]⟩ [⟨bAnn, 1⟩, ⟨bBob, 1⟩]], ⟨by simp, by simp⟩, by simp, by simp [setF], rfl, rfl⟩ (by simp) (fun h2 hold => ?_)
  have hb0 : h2 0 = some ⟨2, [[.s (.string bAnn), .s (.int .i64 1)]], true⟩ := by
    rw [hold 0 (by simp [touchA, touch, upd_at, rowsOf])]
    exact sx hb1
  clear hold hb1
  rw [al3]
  refine go hb0 ?_
  refine x_callS rfl rfl rfl rfl (sv trivial) g_look (sv trivial) (se trivial) ⟨[⟨⟨bAnn, 1⟩, ⟨#[102]⟩, [⟨⟨bAnn, 2⟩, 2, ⟨#[99]⟩⟩]⟩], ⟨bAnn, 1⟩, ⟨#[102]⟩, by simp, by simp, rfl, rfl⟩ (by simp) (by simp [touchA, touch]) ?_
  rw [al4]
  refine go hb0 ?_
  refine x_callN rfl rfl rfl rfl (sv trivial) g_win (sv trivial) (se trivial) ⟨[⟨⟨bAnn, 2⟩, 2, ⟨#[99]⟩⟩], by simp, rfl, rfl⟩ rfl ?_
  rw [al5]
  refine go (And.intro hb0 (And.intro @tr1 (And.intro @tr2 (And.intro @al6 (And.intro @al7 (And.intro @al8 @encW.eq_1)))))) ?_
  refine x_callS rfl rfl rfl rfl (sv trivial) g_look (sv trivial) (se trivial) ⟨[⟨⟨bAnn, 1⟩, ⟨#[102]⟩, [⟨⟨bAnn, 2⟩, 2, ⟨#[99]⟩⟩]⟩], ⟨bAnn, 1⟩, ⟨#[102]⟩, by simp, by simp, rfl, rfl⟩ (by simp) (by simp [touchA, touch]) ?_
  rw [al4]
  refine go (And.intro hb0 (And.intro @tr1 (And.intro @tr2 (And.intro @al6 (And.intro @al7 @al8))))) ?_
  refine x_done (x_out (sr @Try.f9.eq_1) (by simp) (by simp) rfl)
end Go.Proofs.Ytgohmphhgglmbaa

set_option linter.unusedVariables false
set_option linter.unusedSimpArgs false
set_option maxRecDepth 100000
set_option maxHeartbeats 16000000
namespace Go.Proofs.Ytgohmphhgglmbaa
open Go Go.RowKit Am

theorem marksF_refl : ∀ w : List Wrt, marksF w w = true
  | [] => rfl
  | x :: w => by simp [marksF, eqW, marksF_refl w]
theorem rightF_small {l : List Rgs} (h : (rightF l == 0) = false) : l.length ≤ 30 := by
  rcases Int.lt_or_le 30 (l.length : Int) with h1 | h1
  · simp [rightF, h1] at h
  · omega
theorem getF_mem (l : List Rgs) (y : Idt) (f : ByteArray) : getF l y f = [] ∨ ∃ x ∈ l, getF l y f = x.w := by
  induction l with
  | nil => exact .inl rfl
  | cons x l ih =>
    simp only [getF]
    split
    · exact .inr ⟨x, by simp, rfl⟩
    · rcases ih with h | ⟨z, h1, h2⟩
      · exact .inl h
      · exact .inr ⟨z, by simp [h1], h2⟩
theorem getF_len {B : Nat} {l : List Rgs} (h : smallR B l) (y : Idt) (f : ByteArray) : (getF l y f).length ≤ B := by
  rcases getF_mem l y f with h1 | ⟨x, h1, h2⟩
  · rw [h1]; simp
  · rw [h2]; exact h.2 x h1
def lkLawS : Fspec := fun _ ds r => ∃ (l : List Rgs) (y : Idt) (f : ByteArray), smallR 1048576 l ∧ ds = [.sl (l.map encR), .agg (encId y), .s (.string f)] ∧ r = .s (.bool true)
theorem lkLaw_sound {plain : TypeId → Bool} {Γ : FuncId → Option Fspec} {Δ : FuncId → Option Pt} (hE : EnvOk ⟨Try.prog, plain, Γ, Δ, fun _ => none, 0⟩) (hpl : plain 31 = true) (g_alive : Γ 9 = some aliveS) (g_right : Γ 10 = some rightS) (g_look : Γ 15 = some lookS) (g_get : Γ 16 = some getS) (g_marks : Γ 19 = some marksS) (g_win : Γ 17 = some lastS) (g_last : Γ 18 = some lastS) : Sound Try.prog 4 lkLawS := by
  refine sound_of_awp hE Try.func4 rfl (by kernel_rfl) ?_
  rintro Φ ds r ⟨l, y, f, hl, rfl, rfl⟩
  refine ⟨by simp [Try.f4], ?_⟩
  unfold st0
  refine W.out (E := ⟨Try.prog, plain, Γ, Δ, Φ, _⟩) ?_
  refine go @encId.eq_1 ?_
  refine x_callN rfl rfl rfl rfl (sv trivial) g_alive (sv trivial) (se trivial) ⟨rfl, rfl⟩ rfl ?_
  refine go @encId.eq_1 ?_
  refine x_callN rfl rfl rfl rfl (sv trivial) g_right (sv trivial) (se trivial) ⟨l, hl, rfl, rfl⟩ rfl ?_
  cases hr : (rightF l == 0)
  · have hlen := rightF_small hr
    have hl0 := hl.1
    have hlw : ∀ x ∈ l, x.w.length ≤ 1099511627776 := fun x hx => by have := hl.2 x hx; omega
    have hgl := getF_len hl y f
    by_cases hf : 300 < (f.size : Int)
    · refine go (And.intro @encId.eq_1 (And.intro hr hf)) ?_
      refine x_done (x_out (sr @Try.f4.eq_1) (by simp) (by simp) rfl)
    · refine go (And.intro @encId.eq_1 (And.intro hr hf)) ?_
      refine x_callDS rfl rfl rfl rfl rfl (sv @encId.eq_1) g_look (sv @encId.eq_1) (se @encId.eq_1) ⟨l, y, f, by omega, hlw, rfl, rfl⟩ (by simp) (by simp [touchA, touch]) ?_
      refine go (And.intro @encId.eq_1 (And.intro hr hf)) ?_
      refine x_callDS rfl rfl rfl rfl rfl (sv @encId.eq_1) g_get (sv @encId.eq_1) (se @encId.eq_1) ⟨l, y, f, by omega, rfl, rfl⟩ (by simp) (by simp [touchA, touch]) ?_
      refine go (And.intro @encId.eq_1 (And.intro hr hf)) ?_
      refine x_callN rfl rfl rfl rfl (sv trivial) g_win (sv trivial) (se trivial) ⟨getF l y f, by omega, rfl, rfl⟩ rfl ?_
      refine go (And.intro @encId.eq_1 (And.intro hr hf)) ?_
      refine x_callN rfl rfl rfl rfl (sv trivial) g_last (sv trivial) (se trivial) ⟨getF l y f, by omega, rfl, rfl⟩ rfl ?_
      refine go (And.intro @encId.eq_1 (And.intro hr hf)) ?_
      refine x_callN rfl rfl rfl rfl (sv trivial) g_marks (sv trivial) (se trivial) ⟨getF l y f, getF l y f, by omega, by omega, rfl, rfl⟩ rfl ?_
      rw [marksF_refl]
      refine go (And.intro @encId.eq_1 (And.intro hr hf)) ?_
      trace_state
      refine x_done (x_out (sr @Try.f4.eq_1) (by simp) (by simp) rfl)
  · refine go (And.intro @encId.eq_1 hr) ?_
    refine x_done (x_out (sr @Try.f4.eq_1) (by simp) (by simp) rfl)
end Go.Proofs.Ytgohmphhgglmbaa

set_option linter.unusedVariables false
set_option linter.unusedSimpArgs false
set_option maxRecDepth 100000
namespace Go.Proofs.Ytgohmphhgglmbaa
open Go Go.RowKit Am

theorem eqf_cons {P : Program} {d : Nat} {xs ys : Array Value} {f : Field} {fs : List Field} {a b : Value} {r s : Bool} {w : World} (hn : (f.name == "_") = false) (ha : (part f.type xs f.offset).run P w = .ok a w) (hb : (part f.type ys f.offset).run P w = .ok b w) (he : (Op.equalIn d f.type a b).run P w = .ok r w)
    (hr : (Op.eqFields d xs ys fs).run P w = .ok s w) : (Op.eqFields d xs ys (f :: fs)).run P w = .ok (r && s) w := by
  have hn' : f.name ≠ "_" := by simpa using hn
  rw [Op.eqFields]
  simp only [if_pos hn', Sem.run_bind, ha, hb, he, Result.andThen_ok]
  cases r
  · simp
  · simpa using hr
theorem eqf_nil {P : Program} {d : Nat} {xs ys : Array Value} {w : World} : (Op.eqFields d xs ys []).run P w = .ok true w := by simp [Op.eqFields]
theorem eq_str {P : Program} {d T : Nat} {a b : ByteArray} {w : World} (hu : P.underlying T = some .string) : (Op.equalIn (d + 1) T (.string a) (.string b)).run P w = .ok (a.toList == b.toList) w := by
  rw [← beq_toListBytes]
  simp [Op.equalIn, run_under hu, Sem.run, pure]
theorem eq_int {P : Program} {d T : Nat} {k : IntKind} {a b : Int} {w : World} (hu : P.underlying T = some (.int k)) : (Op.equalIn (d + 1) T (.int k a) (.int k b)).run P w = .ok (a == b) w := by
  simp [Op.equalIn, run_under hu, Sem.run, pure]
theorem agS : aggo Try.prog 9 = some false := by kernel_rfl
theorem agI : aggo Try.prog 3 = some false := by kernel_rfl
theorem agD : aggo Try.prog 31 = some true := by kernel_rfl
theorem szD : szo Try.prog 31 = some 2 := by kernel_rfl
theorem unS : Program.underlying Try.prog 9 = some .string := by kernel_rfl
theorem unI : Program.underlying Try.prog 3 = some (.int .i64) := by kernel_rfl
theorem p0 {P : Program} {T : Nat} {x : Value} {xs : Array Value} {o : Nat} {w : World} (hg : aggo P T = some false) (ho : xs[o]? = some x) : (part T xs o).run P w = .ok x w := by
  obtain ⟨h1, h2⟩ := Array.getElem?_eq_some_iff.1 ho
  rw [run_part_one hg h1]
  simp [h1, h2]
theorem idFields {P : Program} (h9 : aggo P 9 = some false) (h3 : aggo P 3 = some false) (u9 : P.underlying 9 = some .string) (u3 : P.underlying 3 = some (.int .i64)) (f0 f1 : Field) (n0 : (f0.name == "_") = false) (n1 : (f1.name == "_") = false) (t0 : f0.type = 9) (t1 : f1.type = 3) (o0 : f0.offset = 0) (o1 : f1.offset = 1) (d : Nat) (a b : ByteArray) (m n : Int) (w : World) :
    (Op.eqFields (d + 1) #[.string a, .int .i64 m] #[.string b, .int .i64 n] [f0, f1]).run P w = .ok ((a.toList == b.toList) && ((m == n) && true)) w := by
  refine eqf_cons (a := .string a) (b := .string b) n0 (by rw [t0, o0]; exact p0 h9 rfl) (by rw [t0, o0]; exact p0 h9 rfl) (by rw [t0]; exact eq_str u9) ?_
  refine eqf_cons (a := .int .i64 m) (b := .int .i64 n) n1 (by rw [t1, o1]; exact p0 h3 rfl) (by rw [t1, o1]; exact p0 h3 rfl) (by rw [t1]; exact eq_int u3) ?_
  exact eqf_nil
theorem wFields {P : Program} {ID : Nat} (h9 : aggo P 9 = some false) (h3 : aggo P 3 = some false) (hD : aggo P ID = some true) (sD : szo P ID = some 2) (u9 : P.underlying 9 = some .string) (u3 : P.underlying 3 = some (.int .i64)) (f0 f1 f2 : Field) (n0 : (f0.name == "_") = false) (n1 : (f1.name == "_") = false) (n2 : (f2.name == "_") = false) (t0 : f0.type = ID) (t1 : f1.type = 3) (t2 : f2.type = 9) (o0 : f0.offset = 0) (o1 : f1.offset = 2) (o2 : f2.offset = 3) (d : Nat) (a b x y : ByteArray) (m n p q : Int) (w : World)
    (hid : (Op.equalIn (d + 1) ID (.agg #[.string a, .int .i64 m]) (.agg #[.string b, .int .i64 n])).run P w = .ok ((a.toList == b.toList) && ((m == n) && true)) w) :
    (Op.eqFields (d + 1) #[.string a, .int .i64 m, .int .i64 p, .string x] #[.string b, .int .i64 n, .int .i64 q, .string y] [f0, f1, f2]).run P w = .ok (((a.toList == b.toList) && ((m == n) && true)) && ((p == q) && ((x.toList == y.toList) && true))) w := by
  refine eqf_cons (a := .agg #[.string a, .int .i64 m]) (b := .agg #[.string b, .int .i64 n]) n0 (by rw [t0, o0]; exact run_part_agg hD sD) (by rw [t0, o0]; exact run_part_agg hD sD) (by rw [t0]; exact hid) ?_
  refine eqf_cons (a := .int .i64 p) (b := .int .i64 q) n1 (by rw [t1, o1]; exact p0 h3 rfl) (by rw [t1, o1]; exact p0 h3 rfl) (by rw [t1]; exact eq_int u3) ?_
  refine eqf_cons (a := .string x) (b := .string y) n2 (by rw [t2, o2]; exact p0 h9 rfl) (by rw [t2, o2]; exact p0 h9 rfl) (by rw [t2]; exact eq_str u9) ?_
  exact eqf_nil
theorem eqId_run (d : Nat) (a b : ByteArray) (m n : Int) (w : World) : (Op.equalIn (d + 2) 31 (.agg #[.string a, .int .i64 m]) (.agg #[.string b, .int .i64 n])).run Try.prog w = .ok ((a.toList == b.toList) && ((m == n) && true)) w := by
  have hu := Try.underlying31
  rw [run_equalIn_struct (P := Try.prog) (w := w) (d + 1) 31 _ _ (by kernel_rfl) (by kernel_rfl)]
  simp only [Program.fieldsOf, hu]
  exact idFields agS agI unS unI _ _ rfl rfl rfl rfl rfl rfl d a b m n w
theorem eqW_run (d : Nat) (a b x y : ByteArray) (m n p q : Int) (w : World) : (Op.equalIn (d + 3) 41 (.agg #[.string a, .int .i64 m, .int .i64 p, .string x]) (.agg #[.string b, .int .i64 n, .int .i64 q, .string y])).run Try.prog w = .ok (((a.toList == b.toList) && ((m == n) && true)) && ((p == q) && ((x.toList == y.toList) && true))) w := by
  have hu := Try.underlying41
  rw [run_equalIn_struct (P := Try.prog) (w := w) (d + 2) 41 _ _ (by kernel_rfl) (by kernel_rfl)]
  simp only [Program.fieldsOf, hu]
  exact wFields agS agI agD szD unS unI _ _ _ rfl rfl rfl rfl rfl rfl rfl rfl rfl (d + 1) a b x y m n p q w (eqId_run d a b m n w)
def plainT (T : TypeId) : Bool := T == 31 || T == 41
theorem fit_s {a : ByteArray} {x : Value} (h : fit1 (.string a) x = true) : ∃ s, x = .string s := by
  cases x <;> simp [fit1] at h
  exact ⟨_, rfl⟩
theorem fit_i {k : IntKind} {a : Int} {x : Value} (h : fit1 (.int k a) x = true) : ∃ s, x = .int k s := by
  cases x <;> simp [fit1] at h
  subst h
  exact ⟨_, rfl⟩
theorem fits2 {a : ByteArray} {m : Int} {k : IntKind} : ∀ {X : List Value}, fits [.string a, .int k m] X = true → ∃ s n, X = [.string s, .int k n]
  | [], h => by simp [fits] at h
  | [x], h => by simp [fits] at h
  | x :: y :: z :: l, h => by simp [fits] at h
  | [x, y], h => by
    simp only [fits, Bool.and_eq_true] at h
    obtain ⟨s, rfl⟩ := fit_s h.1
    obtain ⟨n, rfl⟩ := fit_i h.2.1
    exact ⟨_, _, rfl⟩
theorem fits4 {a b : ByteArray} {m n : Int} {k k2 : IntKind} : ∀ {X : List Value}, fits [.string a, .int k m, .int k2 n, .string b] X = true → ∃ s p q t, X = [.string s, .int k p, .int k2 q, .string t]
  | [], h => by simp [fits] at h
  | [x], h => by simp [fits] at h
  | [x, y], h => by simp [fits] at h
  | [x, y, z], h => by simp [fits] at h
  | x :: y :: z :: u :: v :: l, h => by simp [fits] at h
  | [x, y, z, u], h => by
    simp only [fits, Bool.and_eq_true] at h
    obtain ⟨s, rfl⟩ := fit_s h.1
    obtain ⟨p, rfl⟩ := fit_i h.2.1
    obtain ⟨q, rfl⟩ := fit_i h.2.2.1
    obtain ⟨t, rfl⟩ := fit_s h.2.2.2.1
    exact ⟨_, _, _, _, rfl⟩
theorem plain_ok : PlainOk Try.prog plainT := by
  refine ⟨fun T hT zs X Y b hz hX hY hb w => ?_, fun T hT => ?_⟩
  · simp only [plainT, Bool.or_eq_true, beq_iff_eq] at hT
    rcases hT with rfl | rfl
    · rw [zr31] at hz
      cases hz
      obtain ⟨s, n, rfl⟩ := fits2 hX
      obtain ⟨t, m, rfl⟩ := fits2 hY
      simp only [eqL, if_true, Option.map_some, Option.some.injEq] at hb
      subst hb
      have h := eqId_run 9998 s t n m w
      generalize (s.toList == t.toList && (n == m && true)) = q at *
      exact h
    · rw [zr41] at hz
      cases hz
      obtain ⟨s, n, p, u, rfl⟩ := fits4 hX
      obtain ⟨t, m, q, v, rfl⟩ := fits4 hY
      simp only [eqL, if_true, Option.map_some, Option.some.injEq] at hb
      subst hb
      have := eqW_run 9997 s t u v n m p q w
      simp only [Bool.and_true] at this ⊢
      rw [Bool.and_assoc] at this
      exact this
  · simp only [plainT, Bool.or_eq_true, beq_iff_eq] at hT
    rcases hT with rfl | rfl <;> kernel_rfl
end Go.Proofs.Ytgohmphhgglmbaa

set_option linter.unusedVariables false
set_option linter.unusedSimpArgs false
set_option maxRecDepth 100000
set_option maxHeartbeats 8000000
namespace Go.Proofs.Ytgohmphhgglmbaa
open Go Go.RowKit Am

def rEq (x y : Rgs) : Bool := (((x.id.a.toList == y.id.a.toList) && (x.id.n == y.id.n)) && (x.f.toList == y.f.toList)) && marksF x.w y.w
def sameF : List Rgs → List Rgs → Bool
  | [], [] => true
  | x :: a, y :: b => rEq x y && sameF a b
  | _, _ => false
theorem sameF_len : ∀ (a b : List Rgs), a.length ≠ b.length → sameF a b = false
  | [], [], h => by simp at h
  | [], y :: b, _ => rfl
  | x :: a, [], _ => rfl
  | x :: a, y :: b, h => by simp only [sameF]; rw [sameF_len a b (by simpa using h)]; simp
def sameS : Fspec := fun _ ds r => ∃ a b : List Rgs, a.length ≤ 1099511627776 ∧ b.length ≤ 1099511627776 ∧ (∀ x ∈ a, x.w.length ≤ 1099511627776) ∧ (∀ x ∈ b, x.w.length ≤ 1099511627776) ∧ ds = [.sl (a.map encR), .sl (b.map encR)] ∧ r = .s (.bool (sameF a b))
theorem same_sound {plain : TypeId → Bool} {Γ : FuncId → Option Fspec} {Δ : FuncId → Option Pt} (hE : EnvOk ⟨Try.prog, plain, Γ, Δ, fun _ => none, 0⟩) (hpl : plain 31 = true) (g_marks : Γ 19 = some marksS) : Sound Try.prog 12 sameS := by
  refine sound_of_awp hE Try.func12 rfl (by kernel_rfl) ?_
  rintro Φ ds r ⟨a, b, ha, hb, hwa, hwb, rfl, rfl⟩
  refine ⟨by simp [Try.f12], ?_⟩
  unfold st0
  refine W.out (E := ⟨Try.prog, plain, Γ, Δ, Φ, _⟩) ?_
  have hra := encR_rows a
  have hrb := encR_rows b
  by_cases hl : a.length = b.length
  · have hb : ((a.length : Int) != (b.length : Int)) = false := by simp [hl]
    refine go hb ?_
    refine x_loop (fun σ => ∃ i : Nat, i ≤ a.length ∧ σ.t 0 = .sl (a.map encR) ∧ σ.t 1 = .sl (b.map encR) ∧ σ.t 12 = .s (.int .i64 a.length) ∧ σ.t 13 = .s (.int .i64 i) ∧ sameF (a.drop i) (b.drop i) = sameF a b) (fun σ => a.length - ix (σ.t 13)) ⟨0, Nat.zero_le _, (sc trivial), (sc trivial), (sc trivial), (sc trivial), rfl⟩ ?_
    rintro t h n ⟨i, hi, h0, h1, h12, h13, hf⟩
    simp only at h0 h1 h12 h13
    refine go (And.intro h0 (And.intro h1 (And.intro h12 h13))) ?_
    refine x_condP (sv trivial) (fun hc => ?_) (fun hc => ?_)
    · have hi' : i < a.length := by omega
      have hi2 : i < b.length := by omega
      rw [List.drop_eq_getElem_cons hi', List.drop_eq_getElem_cons hi2, sameF] at hf
      cases e1 : ((a[i].id.a.toList == b[i].id.a.toList) && (a[i].id.n == b[i].id.n))
      · have hf' : sameF a b = false := by rw [← hf]; simp only [rEq, e1]; rfl
        refine go (And.intro h0 (And.intro h1 (And.intro h12 (And.intro h13 (And.intro hra (And.intro hrb (And.intro @encR.eq_1 (And.intro hpl e1)))))))) ?_
        refine x_done (x_out (sr (And.intro @Try.f12.eq_1 hf')) (by simp) (by simp) rfl)
      · cases e2 : (a[i].f.toList == b[i].f.toList)
        · have hf' : sameF a b = false := by rw [← hf]; simp only [rEq, e1, e2]; rfl
          refine go (And.intro h0 (And.intro h1 (And.intro h12 (And.intro h13 (And.intro hra (And.intro hrb (And.intro @encR.eq_1 (And.intro hpl (And.intro e1 e2))))))))) ?_
          refine x_done (x_out (sr (And.intro @Try.f12.eq_1 hf')) (by simp) (by simp) rfl)
        · refine go (And.intro h0 (And.intro h1 (And.intro h12 (And.intro h13 (And.intro hra (And.intro hrb (And.intro @encR.eq_1 (And.intro hpl (And.intro e1 e2))))))))) ?_
          refine x_callD rfl rfl rfl rfl rfl (sv trivial) g_marks (sv trivial) (se trivial) ⟨a[i].w, b[i].w, hwa _ (List.getElem_mem hi'), hwb _ (List.getElem_mem hi2), rfl, rfl⟩ rfl ?_
          cases e3 : marksF a[i].w b[i].w
          · have hf' : sameF a b = false := by rw [← hf]; simp only [rEq, e1, e2, e3]; rfl
            refine go (And.intro h0 (And.intro h1 (And.intro h12 (And.intro h13 e3)))) ?_
            refine x_done (x_out (sr (And.intro @Try.f12.eq_1 hf')) (by simp) (by simp) rfl)
          · refine go (And.intro h0 (And.intro h1 (And.intro h12 (And.intro h13 e3)))) ?_
            refine ⟨⟨i + 1, by omega, (sc h0), (sc h1), (sc h12), (sc (And.intro h13 @cast_succ)), by rw [← hf]; simp only [rEq, e1, e2, e3]; simp⟩, ?_⟩
            exact so h13
    · have e : i = a.length := by omega
      subst e
      rw [List.drop_length, hl, List.drop_length] at hf
      refine go (And.intro h0 (And.intro h1 (And.intro h12 h13))) ?_
      have hf' : sameF a b = true := by rw [← hf]; rfl
      refine x_done (x_out (sr (And.intro @Try.f12.eq_1 hf')) (by simp) (by simp) rfl)
  · have hb : ((a.length : Int) != (b.length : Int)) = true := by simp; omega
    refine go hb ?_
    refine x_done (x_out (sr (And.intro @Try.f12.eq_1 ((sameF_len a b hl)))) (by simp) (by simp) rfl)
end Go.Proofs.Ytgohmphhgglmbaa

set_option linter.unusedVariables false
set_option linter.unusedSimpArgs false
set_option maxRecDepth 100000
set_option maxHeartbeats 4000000
namespace Go.Proofs.Ytgohmphhgglmbaa
open Go Go.RowKit Am

/-- A byte at a place, as a number. -/
def bAt (s : ByteArray) (i : Nat) : Int := ((byteAt s i).toNat : Int)
def badAt (s : ByteArray) (i : Nat) : Bool := !(decide (97 ≤ bAt s i) && decide (bAt s i ≤ 122)) && (decide (i = 0) || (decide (bAt s i < 48) || decide (57 < bAt s i)))
/-- The first n places from i on are good. -/
def goodFrom (s : ByteArray) : Nat → Nat → Bool
  | 0, _ => true
  | n + 1, i => !badAt s i && goodFrom s n (i + 1)
def authF (s : ByteArray) : Bool := goodFrom s s.size 0 && (decide (0 < (s.size : Int)) && decide ((s.size : Int) ≤ 24))
def authS : Fspec := fun _ ds r => ∃ s : ByteArray, s.size ≤ 1099511627776 ∧ ds = [.s (.string s)] ∧ r = .s (.bool (authF s))
theorem auth_sound {plain : TypeId → Bool} {Γ : FuncId → Option Fspec} {Δ : FuncId → Option Pt} (hE : EnvOk ⟨Try.prog, plain, Γ, Δ, fun _ => none, 0⟩) : Sound Try.prog 38 authS := by
  refine sound_of_awp hE Try.func38 rfl (by kernel_rfl) ?_
  rintro Φ ds r ⟨s, hs, rfl, rfl⟩
  refine ⟨by simp [Try.f38], ?_⟩
  unfold st0
  refine W.out (E := ⟨Try.prog, plain, Γ, Δ, Φ, _⟩) ?_
  refine go trivial ?_
  refine x_loop (fun σ => ∃ i : Nat, i ≤ s.size ∧ σ.t 0 = .s (.string s) ∧ σ.t 3 = .s (.int .i64 i) ∧ goodFrom s (s.size - i) i = goodFrom s s.size 0) (fun σ => s.size - ix (σ.t 3)) ⟨0, Nat.zero_le _, (sc trivial), (sc trivial), rfl⟩ ?_
  rintro t h n ⟨i, hi, h0, h3, hf⟩
  simp only at h0 h3
  refine go (And.intro h0 h3) ?_
  refine x_condP (sv trivial) (fun hc => ?_) (fun hc => ?_)
  · have hi' : i < s.size := by omega
    obtain ⟨m, hm⟩ : ∃ m, s.size - i = m + 1 := ⟨s.size - i - 1, by omega⟩
    rw [hm, goodFrom] at hf
    have e0 : ((i : Int) == 0) = decide (i = 0) := by rw [beq_eq_decide]; simp
    have eb : ((byteAt s i).toNat : Int) = bAt s i := rfl
    by_cases c1 : 97 ≤ bAt s i
    · by_cases c2 : bAt s i ≤ 122
      · have hb : badAt s i = false := by simp [badAt, c1, c2]
        rw [hb] at hf
        refine go (And.intro h0 (And.intro h3 (And.intro e0 (And.intro eb (And.intro c1 c2))))) ?_
        refine ⟨⟨i + 1, by omega, (sc h0), (sc (And.intro h3 @cast_succ)), by rw [show s.size - (i + 1) = m by omega]; simpa using hf⟩, ?_⟩
        exact so h3
      · skip
        by_cases c3 : i = 0
        · have c3' : (i = 0) = True := by simp [c3]
          · have hb : badAt s i = true := by simp [badAt, c1, c2, c3']
            rw [hb] at hf
            have hz : authF s = false := by simp only [authF, ← hf]; rfl
            refine go (And.intro h0 (And.intro h3 (And.intro e0 (And.intro eb (And.intro c1 (And.intro c2 c3')))))) ?_
            refine x_done (x_out (sr (And.intro @Try.f38.eq_1 hz)) (by simp) (by simp) rfl)
        · have c3' : (i = 0) = False := by simp [c3]
          by_cases c4 : bAt s i < 48
          · exact (by omega : False).elim
          · by_cases c5 : 57 < bAt s i
            · have hb : badAt s i = true := by simp [badAt, c1, c2, c3', c4, c5]
              rw [hb] at hf
              have hz : authF s = false := by simp only [authF, ← hf]; rfl
              refine go (And.intro h0 (And.intro h3 (And.intro e0 (And.intro eb (And.intro c1 (And.intro c2 (And.intro c3' (And.intro c4 c5)))))))) ?_
              refine x_done (x_out (sr (And.intro @Try.f38.eq_1 hz)) (by simp) (by simp) rfl)
            · exact (by omega : False).elim
    · skip
      by_cases c3 : i = 0
      · have c3' : (i = 0) = True := by simp [c3]
        · have hb : badAt s i = true := by simp [badAt, c1, c3']
          rw [hb] at hf
          have hz : authF s = false := by simp only [authF, ← hf]; rfl
          refine go (And.intro h0 (And.intro h3 (And.intro e0 (And.intro eb (And.intro c1 c3'))))) ?_
          refine x_done (x_out (sr (And.intro @Try.f38.eq_1 hz)) (by simp) (by simp) rfl)
      · have c3' : (i = 0) = False := by simp [c3]
        by_cases c4 : bAt s i < 48
        · have hb : badAt s i = true := by simp [badAt, c1, c3', c4]
          rw [hb] at hf
          have hz : authF s = false := by simp only [authF, ← hf]; rfl
          refine go (And.intro h0 (And.intro h3 (And.intro e0 (And.intro eb (And.intro c1 (And.intro c3' c4)))))) ?_
          refine x_done (x_out (sr (And.intro @Try.f38.eq_1 hz)) (by simp) (by simp) rfl)
        · by_cases c5 : 57 < bAt s i
          · have hb : badAt s i = true := by simp [badAt, c1, c3', c4, c5]
            rw [hb] at hf
            have hz : authF s = false := by simp only [authF, ← hf]; rfl
            refine go (And.intro h0 (And.intro h3 (And.intro e0 (And.intro eb (And.intro c1 (And.intro c3' (And.intro c4 c5))))))) ?_
            refine x_done (x_out (sr (And.intro @Try.f38.eq_1 hz)) (by simp) (by simp) rfl)
          · have hb : badAt s i = false := by simp [badAt, c1, c3', c4, c5]
            rw [hb] at hf
            refine go (And.intro h0 (And.intro h3 (And.intro e0 (And.intro eb (And.intro c1 (And.intro c3' (And.intro c4 c5))))))) ?_
            refine ⟨⟨i + 1, by omega, (sc h0), (sc (And.intro h3 @cast_succ)), by rw [show s.size - (i + 1) = m by omega]; simpa using hf⟩, ?_⟩
            exact so h3
  · have e : i = s.size := by omega
    subst e
    rw [Nat.sub_self, goodFrom] at hf
    by_cases d1 : 0 < (s.size : Int)
    · refine go (And.intro h0 (And.intro h3 d1)) ?_
      refine x_done (x_out (sr (And.intro @Try.f38.eq_1 (And.intro @authF.eq_1 (And.intro (hf).symm d1)))) (by simp) (by simp) rfl)
    · refine go (And.intro h0 (And.intro h3 d1)) ?_
      refine x_done (x_out (sr (And.intro @Try.f38.eq_1 (And.intro @authF.eq_1 (And.intro (hf).symm d1)))) (by simp) (by simp) rfl)
end Go.Proofs.Ytgohmphhgglmbaa

set_option linter.unusedVariables false
set_option linter.unusedSimpArgs false
set_option maxRecDepth 100000
set_option maxHeartbeats 8000000
namespace Go.Proofs.Ytgohmphhgglmbaa
open Go Go.RowKit Am

def idAt (v : List Idt) (i : Nat) : Idt := v[i]?.getD ⟨⟨#[]⟩, 0⟩
theorem idAt_lt (v : List Idt) {i : Nat} (h : i < v.length) : idAt v i = v[i] := by simp [idAt, h]
def chkAt (v : List Idt) (i : Nat) : Int :=
  if authF (idAt v i).a = false then 7 else if (idAt v i).n < 1 then 2 else
  if (decide (0 < i) && ((idAt v i).a.toList == (idAt v (i - 1)).a.toList)) = true then 8 else
  if (decide (0 < i) && Op.bytesLess (idAt v i).a.toList (idAt v (i - 1)).a.toList) = true then 3 else 0
def chkFrom (v : List Idt) : Nat → Nat → Int
  | 0, _ => 0
  | m + 1, i => if chkAt v i = 0 then chkFrom v m (i + 1) else chkAt v i
def chkF (v : List Idt) : Int := chkFrom v v.length 0
def chkS : Fspec := fun _ ds r => ∃ v : List Idt, v.length ≤ 1099511627776 ∧ (∀ x ∈ v, x.a.size ≤ 1099511627776) ∧ ds = [encIds v] ∧ r = .s (.int .i64 (chkF v))
theorem chk_sound {plain : TypeId → Bool} {Γ : FuncId → Option Fspec} {Δ : FuncId → Option Pt} (hE : EnvOk ⟨Try.prog, plain, Γ, Δ, fun _ => none, 0⟩) (g_auth : Γ 38 = some authS) : Sound Try.prog 25 chkS := by
  refine sound_of_awp hE Try.func25 rfl (by kernel_rfl) ?_
  rintro Φ ds r ⟨v, hv, hs, rfl, rfl⟩
  refine ⟨by simp [Try.f25], ?_⟩
  unfold st0 encIds
  refine W.out (E := ⟨Try.prog, plain, Γ, Δ, Φ, _⟩) ?_
  have hr := encId_rows v
  refine go trivial ?_
  refine x_loop (fun σ => ∃ i : Nat, i ≤ v.length ∧ σ.t 0 = .sl (v.map encId) ∧ σ.t 3 = .s (.int .i64 i) ∧ chkFrom v (v.length - i) i = chkFrom v v.length 0) (fun σ => v.length - ix (σ.t 3)) ⟨0, Nat.zero_le _, (sc trivial), (sc trivial), rfl⟩ ?_
  rintro t h n ⟨i, hi, h0, h3, hf⟩
  simp only at h0 h3
  refine go (And.intro h0 h3) ?_
  refine x_condP (sv trivial) (fun hc => ?_) (fun hc => ?_)
  · have hi' : i < v.length := by omega
    obtain ⟨m, hm⟩ : ∃ m, v.length - i = m + 1 := ⟨v.length - i - 1, by omega⟩
    rw [hm, chkFrom] at hf
    refine go (And.intro h0 (And.intro h3 (And.intro hr @encId.eq_1))) ?_
    refine x_callN rfl rfl rfl rfl (sv trivial) g_auth (sv trivial) (se trivial) ⟨v[i].a, hs _ (List.getElem_mem hi'), rfl, rfl⟩ rfl ?_
    have hat := idAt_lt v hi'
    have bad : ∀ q : Int, chkAt v i = q → q ≠ 0 → chkF v = q := fun q h1 h2 => by rw [h1, if_neg h2] at hf; exact hf.symm
    have good : chkAt v i = 0 → chkFrom v (v.length - (i + 1)) (i + 1) = chkFrom v v.length 0 := fun h1 => by rw [h1, if_pos rfl] at hf; rw [show v.length - (i + 1) = m by omega]; exact hf
    cases a1 : authF v[i].a
    · have hz := bad 7 (by simp [chkAt, hat, a1]) (by decide)
      refine go (And.intro h0 (And.intro h3 (And.intro hr (And.intro @encId.eq_1 a1)))) ?_
      refine x_done (x_out (sr (And.intro @Try.f25.eq_1 hz)) (by simp) (by simp) rfl)
    · by_cases a2 : v[i].n < 1
      · have hz := bad 2 (by simp [chkAt, hat, a1, a2]) (by decide)
        refine go (And.intro h0 (And.intro h3 (And.intro hr (And.intro @encId.eq_1 (And.intro a1 a2))))) ?_
        refine x_done (x_out (sr (And.intro @Try.f25.eq_1 hz)) (by simp) (by simp) rfl)
      · by_cases a3 : 0 < i
        · have a3' : (0 < (i : Int)) = True := by simp; omega
          have ej : (i : Int) - 1 = ((i - 1 : Nat) : Int) := by omega
          have hj' : i - 1 < v.length := by omega
          have hjt := idAt_lt v hj'
          cases a4 : (v[i].a.toList == v[i - 1].a.toList)
          · cases a5 : Op.bytesLess v[i].a.toList v[i - 1].a.toList
            · have hz := good (by simp only [chkAt, hat, hjt, a1, a2, a4, a5]; simp)
              refine go (And.intro h0 (And.intro h3 (And.intro hr (And.intro @encId.eq_1 (And.intro a1 (And.intro a2 (And.intro a3' (And.intro ej (And.intro a4 a5))))))))) ?_
              refine ⟨⟨i + 1, by omega, (sc h0), (sc (And.intro h3 @cast_succ)), hz⟩, ?_⟩
              exact so h3
            · have hz := bad 3 (by simp only [chkAt, hat, hjt, a1, a2, a4, a5]; simp [a3]) (by decide)
              refine go (And.intro h0 (And.intro h3 (And.intro hr (And.intro @encId.eq_1 (And.intro a1 (And.intro a2 (And.intro a3' (And.intro ej (And.intro a4 a5))))))))) ?_
              refine x_done (x_out (sr (And.intro @Try.f25.eq_1 hz)) (by simp) (by simp) rfl)
          · have hz := bad 8 (by simp only [chkAt, hat, hjt, a1, a2, a4]; simp [a3]) (by decide)
            refine go (And.intro h0 (And.intro h3 (And.intro hr (And.intro @encId.eq_1 (And.intro a1 (And.intro a2 (And.intro a3' (And.intro ej a4)))))))) ?_
            refine x_done (x_out (sr (And.intro @Try.f25.eq_1 hz)) (by simp) (by simp) rfl)
        · have a3' : (0 < (i : Int)) = False := by simp; omega
          have hz := good (by simp only [chkAt, hat, a1, a2]; simp [a3])
          refine go (And.intro h0 (And.intro h3 (And.intro hr (And.intro @encId.eq_1 (And.intro a1 (And.intro a2 a3')))))) ?_
          refine ⟨⟨i + 1, by omega, (sc h0), (sc (And.intro h3 @cast_succ)), hz⟩, ?_⟩
          exact so h3
  · have e : i = v.length := by omega
    subst e
    rw [Nat.sub_self, chkFrom] at hf
    have hz : chkF v = 0 := hf.symm
    refine go (And.intro h0 h3) ?_
    refine x_done (x_out (sr (And.intro @Try.f25.eq_1 hz)) (by simp) (by simp) rfl)
end Go.Proofs.Ytgohmphhgglmbaa

set_option linter.unusedVariables false
set_option linter.unusedSimpArgs false
set_option maxRecDepth 100000
set_option maxHeartbeats 4000000
namespace Go.Proofs.Ytgohmphhgglmbaa
open Go Go.RowKit Am

theorem encE_rows (v : List Edt) : (∀ r ∈ v.map encE, r.length = 18) = True := rows_map _ _ _ fun _ => rfl
def fineE (e : Edt) : Bool := (decide ((e.field.size : Int) + (e.value.size : Int) ≤ 500) && decide ((e.deps.length : Int) ≤ 12)) && (chkF e.deps == 0)
def fineF (l : List Edt) : Bool := l.all fineE && decide ((l.length : Int) ≤ 30)
def fineS : Fspec := fun _ ds r => ∃ l : List Edt, l.length ≤ 1099511627776 ∧ (∀ e ∈ l, e.field.size ≤ 1099511627776 ∧ e.value.size ≤ 1099511627776 ∧ e.deps.length ≤ 1099511627776 ∧ ∀ x ∈ e.deps, x.a.size ≤ 1099511627776) ∧ ds = [.sl (l.map encE)] ∧ r = .s (.bool (fineF l))
theorem fine_sound {plain : TypeId → Bool} {Γ : FuncId → Option Fspec} {Δ : FuncId → Option Pt} (hE : EnvOk ⟨Try.prog, plain, Γ, Δ, fun _ => none, 0⟩) (g_chk : Γ 25 = some chkS) : Sound Try.prog 11 fineS := by
  refine sound_of_awp hE Try.func11 rfl (by kernel_rfl) ?_
  rintro Φ ds r ⟨v, hv, hs, rfl, rfl⟩
  refine ⟨by simp [Try.f11], ?_⟩
  unfold st0
  refine W.out (E := ⟨Try.prog, plain, Γ, Δ, Φ, _⟩) ?_
  have hr := encE_rows v
  refine go trivial ?_
  refine x_loop (fun σ => ∃ i : Nat, i ≤ v.length ∧ σ.t 0 = .sl (v.map encE) ∧ σ.t 5 = .sl (v.map encE) ∧ σ.t 6 = .s (.int .i64 v.length) ∧ σ.t 7 = .s (.int .i64 i) ∧ (v.drop i).all fineE = v.all fineE) (fun σ => v.length - ix (σ.t 7)) ⟨0, Nat.zero_le _, (sc trivial), (sc trivial), (sc trivial), (sc trivial), rfl⟩ ?_
  rintro t h n ⟨i, hi, h0, h5, h6, h7, hf⟩
  simp only at h0 h5 h6 h7
  refine go (And.intro h0 (And.intro h5 (And.intro h6 h7))) ?_
  refine x_condP (sv trivial) (fun hc => ?_) (fun hc => ?_)
  · have hi' : i < v.length := by omega
    obtain ⟨b1, b2, b3, b4⟩ := hs _ (List.getElem_mem hi')
    rw [List.drop_eq_getElem_cons hi', List.all_cons] at hf
    by_cases c1 : 500 < (v[i].field.size : Int) + (v[i].value.size : Int)
    · have c1' : ¬ ((v[i].field.size : Int) + (v[i].value.size : Int) ≤ 500) := by omega
      have hz : fineF v = false := by simp only [fineF, ← hf, fineE, c1']; simp
      refine go (And.intro h0 (And.intro h5 (And.intro h6 (And.intro h7 (And.intro hr (And.intro @encE.eq_1 c1)))))) ?_
      refine x_done (x_out (sr (And.intro @Try.f11.eq_1 hz)) (by simp) (by simp) rfl)
    · have c1' : (v[i].field.size : Int) + (v[i].value.size : Int) ≤ 500 := by omega
      by_cases c2 : 12 < (v[i].deps.length : Int)
      · have c2' : ¬ ((v[i].deps.length : Int) ≤ 12) := by omega
        have hz : fineF v = false := by simp only [fineF, ← hf, fineE, c2']; simp
        refine go (And.intro h0 (And.intro h5 (And.intro h6 (And.intro h7 (And.intro hr (And.intro @encE.eq_1 (And.intro c1 c2))))))) ?_
        refine x_done (x_out (sr (And.intro @Try.f11.eq_1 hz)) (by simp) (by simp) rfl)
      · have c2' : (v[i].deps.length : Int) ≤ 12 := by omega
        refine go (And.intro h0 (And.intro h5 (And.intro h6 (And.intro h7 (And.intro hr (And.intro @encE.eq_1 (And.intro c1 c2))))))) ?_
        refine x_callN rfl rfl rfl rfl (sv trivial) g_chk (sv trivial) (se trivial) ⟨v[i].deps, b3, b4, rfl, rfl⟩ rfl ?_
        by_cases c3 : chkF v[i].deps = 0
        · have c4 : (chkF v[i].deps != 0) = false := by simp [c3]
          refine go (And.intro h0 (And.intro h5 (And.intro h6 (And.intro h7 (And.intro hr (And.intro @encE.eq_1 c4)))))) ?_
          refine ⟨⟨i + 1, by omega, (sc h0), (sc h5), (sc h6), (sc (And.intro h7 @cast_succ)), by rw [← hf]; simp [fineE, c1', c2', c3]⟩, ?_⟩
          exact so h7
        · have c4 : (chkF v[i].deps != 0) = true := by simp [c3]
          have hz : fineF v = false := by simp only [fineF, ← hf, fineE]; simp [c3]
          refine go (And.intro h0 (And.intro h5 (And.intro h6 (And.intro h7 (And.intro hr (And.intro @encE.eq_1 c4)))))) ?_
          refine x_done (x_out (sr (And.intro @Try.f11.eq_1 hz)) (by simp) (by simp) rfl)
  · have e : i = v.length := by omega
    subst e
    rw [List.drop_length] at hf
    refine go (And.intro h0 (And.intro h5 (And.intro h6 h7))) ?_
    refine x_done (x_out (sr (And.intro @Try.f11.eq_1 (And.intro @fineF.eq_1 (hf).symm))) (by simp) (by simp) rfl)
end Go.Proofs.Ytgohmphhgglmbaa

set_option linter.unusedVariables false
set_option linter.unusedSimpArgs false
set_option maxRecDepth 100000
set_option maxHeartbeats 16000000
namespace Go.Proofs.Ytgohmphhgglmbaa
open Go Go.RowKit Am

/-- The reference's write, from one place on. -/
def rwGoF : List Wrt → Edt → Bool → List Wrt
  | [], e, d => if d then [] else [mkW e]
  | x :: l, e, d => if ((x.id.a.toList == e.id.a.toList) && (x.id.n == e.id.n)) || hasF e.deps x.id then rwGoF l e d
      else if !d && aheadF (mkW e) x then mkW e :: x :: rwGoF l e true else x :: rwGoF l e d
def rwriteF (l : List Wrt) (e : Edt) : List Wrt := rwGoF l e false
def rwriteS : Fspec := fun _ ds r => ∃ (l : List Wrt) (e : Edt), l.length ≤ 1048576 ∧ e.deps.length ≤ 1048576 ∧ ds = [.sl (l.map encW), .agg (encE e)] ∧ r = .sl ((rwriteF l e).map encW)
theorem okRowW1 (m : Wrt) : okRows 4 [encW m] := okRows_map encW [m] 4 fun a => ⟨rfl, by simp [encW, cellish]⟩
theorem deepWs (l : List Wrt) : ∀ r ∈ l.map encW, ∀ q ∈ r, deepc q = true := deep_map encW l fun a => by simp [encW, deepc]
theorem map_snoc' {α β : Type} (f : α → β) (l : List α) (x : α) : (l ++ [x]).map f = l.map f ++ [f x] := by simp
theorem rwrite_sound {plain : TypeId → Bool} {Γ : FuncId → Option Fspec} {Δ : FuncId → Option Pt} (hE : EnvOk ⟨Try.prog, plain, Γ, Δ, fun _ => none, 0⟩) (hpl : plain 31 = true) (g_has : Γ 35 = some hasS) (g_ahead : Γ 24 = some aheadS) : Sound Try.prog 31 rwriteS := by
  refine sound_of_awp hE Try.func31 rfl (by kernel_rfl) ?_
  rintro Φ ds r ⟨l, e, hl, hde, rfl, rfl⟩
  refine ⟨by simp [Try.f31], ?_⟩
  unfold st0
  refine W.out (E := ⟨Try.prog, plain, Γ, Δ, Φ, _⟩) ?_
  have hr := encW_rows l
  refine go @encE.eq_1 ?_
  refine x_loop (fun σ => ∃ (i : Nat) (b : Nat) (cap : Nat) (out : List Wrt) (sp : List (List Am.V)) (d : Bool), σ.t 3 = .ptr 0 0 0 ∧ σ.t 5 = .ptr 1 0 0 ∧ σ.t 6 = .loc b 0 out.length cap ∧ σ.t 7 = .s (.bool d) ∧ σ.t 18 = .sl (l.map encW) ∧ σ.t 19 = .s (.int .i64 l.length) ∧ σ.t 20 = .s (.int .i64 i) ∧ σ.h 0 = some ⟨18, [encE e], true⟩ ∧ σ.h 1 = some ⟨4, [encW (mkW e)], true⟩ ∧ σ.h b = some ⟨4, out.map encW ++ sp, true⟩ ∧ b < σ.n ∧ 1 < b ∧ i ≤ l.length ∧ out.length ≤ cap ∧ cap ≤ out.length + sp.length ∧ out.length ≤ 2 * i ∧ out ++ rwGoF (l.drop i) e d = rwriteF l e) (fun σ => l.length - ix (σ.t 20)) ⟨0, 2, 0, [], [], false, (by first | assumption | exact sxa trivial), (by first | assumption | exact sxa trivial), (by first | assumption | exact sxa trivial), (by first | assumption | exact sxa trivial), (by first | assumption | exact sxa trivial), (by first | assumption | exact sxa trivial), (by first | assumption | exact sxa trivial), (by first | assumption | exact sxa trivial), (by first | assumption | exact sxa trivial), (by first | assumption | exact sxa trivial), (by first | omega | (dsimp only; omega) | exact soa trivial | omega | (simp; done)), (by first | omega | (dsimp only; omega) | exact soa trivial | omega | (simp; done)), (by first | rfl | omega | assumption | (simp [*]; done)), (by first | rfl | omega | assumption | (simp [*]; done)), (by first | rfl | omega | assumption | (simp [*]; done)), (by first | rfl | omega | assumption | (simp [*]; done)), (by first | rfl | omega | assumption | (simp [*]; done))⟩ ?_
  rintro t h n ⟨i, b, cap, out, sp, d, h3, h5, h6, h7, h18, h19, h20, hh0, hh1, hhb, hn1, hn2, hf0, hf1, hf2, hf3, hf4⟩
  simp only at h3 h5 h6 h7 h18 h19 h20 hh0 hh1 hhb hn1 hn2
  refine go (And.intro h3 (And.intro h5 (And.intro h6 (And.intro h7 (And.intro h18 (And.intro h19 h20)))))) ?_
  refine x_condP (sv (And.intro h3 (And.intro h5 (And.intro h6 (And.intro h7 (And.intro h18 (And.intro h19 h20))))))) (fun hc => ?_) (fun hc => ?_)
  · have hi : i < l.length := by omega
    rw [List.drop_eq_getElem_cons hi, rwGoF] at hf4
    generalize hmm : l[i] = m at *
    have e1 : (b = n) = False := by simp <;> omega
    have e2 : (b = n + 1) = False := by simp <;> omega
    have e3 : (n = b) = False := by simp <;> omega
    have e4 : (n + 1 = b) = False := by simp <;> omega
    have e5 : (0 = n) = False := by simp <;> omega
    have e6 : (0 = n + 1) = False := by simp
    have e7 : (0 = b) = False := by simp <;> omega
    have f1 : (1 = n) = False := by simp <;> omega
    have f2 : (1 = n + 1) = False := by simp <;> omega
    have f3 : (1 = b) = False := by simp <;> omega
    have f4 : (n = n + 1) = False := by simp
    have e8 : (n + 1 + 1 = n + 1) = False := by simp
    have e9 : (n + 1 = n + 1 + 1) = False := by simp
    have d1 : (n + 1 = n + 1 + 1 + 1) = False := by simp <;> omega
    have d2 : (n + 1 + 1 + 1 = n + 1) = False := by simp <;> omega
    have d3 : (0 = n + 1 + 1) = False := by simp
    have d4 : (0 = n + 1 + 1 + 1) = False := by simp
    have d5 : (1 = n + 1 + 1) = False := by simp <;> omega
    have d6 : (1 = n + 1 + 1 + 1) = False := by simp <;> omega
    have d7 : (n = n + 1 + 1) = False := by simp <;> omega
    have d8 : (n = n + 1 + 1 + 1) = False := by simp <;> omega
    cases hid : ((m.id.a.toList == e.id.a.toList) && (m.id.n == e.id.n))
    · refine go (And.intro h3 (And.intro h5 (And.intro h6 (And.intro h7 (And.intro h18 (And.intro h19 (And.intro h20 (And.intro hh0 (And.intro hh1 (And.intro hhb (And.intro hr (And.intro hmm (And.intro @encW.eq_1 (And.intro @encE.eq_1 (And.intro hpl (And.intro hid (And.intro e1 (And.intro e2 (And.intro e3 (And.intro e4 (And.intro e5 (And.intro e6 (And.intro e7 (And.intro f1 (And.intro f2 (And.intro f3 f4)))))))))))))))))))))))))) ?_
      refine x_callN rfl rfl rfl rfl (sv (And.intro @encW.eq_1 @encId.eq_1)) g_has (sv (And.intro @encW.eq_1 @encId.eq_1)) (se (And.intro @encW.eq_1 @encId.eq_1)) ⟨e.deps, m.id, by omega, rfl, rfl⟩ rfl ?_
      cases hh : hasF e.deps m.id
      · rw [hid, hh] at hf4
        simp only [Bool.or_self, Bool.false_eq_true, if_false] at hf4
        cases d
        · simp only [Bool.not_false, Bool.true_and] at hf4
          refine go (And.intro h3 (And.intro h5 (And.intro h6 (And.intro h7 (And.intro h18 (And.intro h19 (And.intro h20 (And.intro hh0 (And.intro hh1 (And.intro hhb (And.intro hr (And.intro hmm (And.intro @encW.eq_1 (And.intro @mkW.eq_1 (And.intro hpl (And.intro hid (And.intro e1 (And.intro e2 (And.intro e3 (And.intro e4 (And.intro e5 (And.intro e6 (And.intro e7 (And.intro f1 (And.intro f2 (And.intro f3 f4)))))))))))))))))))))))))) ?_
          refine x_callN rfl rfl rfl rfl (sv (And.intro @encW.eq_1 @mkW.eq_1)) g_ahead (sv (And.intro @encW.eq_1 @mkW.eq_1)) (se (And.intro @encW.eq_1 @mkW.eq_1)) ⟨mkW e, m, rfl, rfl⟩ rfl ?_
          cases ha : aheadF (mkW e) m
          · rw [ha] at hf4
            simp only [Bool.false_eq_true, if_false] at hf4
            have hfin : (out ++ [m]) ++ rwGoF (l.drop (i + 1)) e false = rwriteF l e := by rw [List.append_assoc]; exact hf4
            have hl1 : (out ++ [m]).length = out.length + 1 := by simp
            refine go (And.intro h3 (And.intro h5 (And.intro h6 (And.intro h7 (And.intro h18 (And.intro h19 (And.intro h20 (And.intro hh0 (And.intro hh1 (And.intro hhb (And.intro hr (And.intro hmm (And.intro @encW.eq_1 (And.intro @mkW.eq_1 (And.intro hpl (And.intro hid (And.intro e1 (And.intro e2 (And.intro e3 (And.intro e4 (And.intro e5 (And.intro e6 (And.intro e7 (And.intro f1 (And.intro f2 (And.intro f3 f4)))))))))))))))))))))))))) ?_
            refine x_appendO rfl rfl rfl rfl rfl rfl (sv (And.intro h6 (And.intro hhb (And.intro @encW.eq_1 (And.intro e1 (And.intro e2 (And.intro e3 (And.intro e4 (And.intro e5 (And.intro e6 (And.intro e7 (And.intro f1 (And.intro f2 (And.intro f3 f4)))))))))))))) (by decide) (sc (And.intro h6 (And.intro hhb (And.intro @encW.eq_1 (And.intro e1 (And.intro e2 (And.intro e3 (And.intro e4 (And.intro e5 (And.intro e6 (And.intro e7 (And.intro f1 (And.intro f2 (And.intro f3 f4)))))))))))))) (sv (And.intro h6 (And.intro hhb (And.intro @encW.eq_1 (And.intro e1 (And.intro e2 (And.intro e3 (And.intro e4 (And.intro e5 (And.intro e6 (And.intro e7 (And.intro f1 (And.intro f2 (And.intro f3 f4)))))))))))))) (sx (And.intro h6 (And.intro hhb (And.intro @encW.eq_1 (And.intro e1 (And.intro e2 (And.intro e3 (And.intro e4 (And.intro e5 (And.intro e6 (And.intro e7 (And.intro f1 (And.intro f2 (And.intro f3 f4)))))))))))))) (by first | rfl | (simp; done) | (simp [spare_len]; omega)) (by first | omega | (simp; done) | (simp [spare_len]; omega)) (by first | omega | (simp; done) | (simp [spare_len]; omega)) (sx (And.intro h6 (And.intro hhb (And.intro @encW.eq_1 (And.intro e1 (And.intro e2 (And.intro e3 (And.intro e4 (And.intro e5 (And.intro e6 (And.intro e7 (And.intro f1 (And.intro f2 (And.intro f3 f4)))))))))))))) (okRowW1 m) (by first | omega | (simp; done) | (simp [spare_len]; omega)) (fun cap' hcap' => ?_)
            refine go (And.intro h3 (And.intro h5 (And.intro h6 (And.intro h7 (And.intro h18 (And.intro h19 (And.intro h20 (And.intro hh0 (And.intro hh1 (And.intro hhb (And.intro hr (And.intro hmm (And.intro @encW.eq_1 (And.intro @mkW.eq_1 (And.intro hpl (And.intro hid (And.intro e1 (And.intro e2 (And.intro e3 (And.intro e4 (And.intro e5 (And.intro e6 (And.intro e7 (And.intro f1 (And.intro f2 (And.intro f3 f4)))))))))))))))))))))))))) ?_
            have hc2 : out.length + 1 ≤ cap' := hcap'
            have hs1 := spare_len 4 (cap' - (out.length + 1))
            clear hf4
            (refine ⟨⟨i + 1, n + 1 + 1, cap', out ++ [m], spare 4 (cap' - (out.length + 1)), false, ?_, ?_, ?_, ?_, ?_, ?_, ?_, ?_, ?_, ?_, ?_, ?_, ?_, ?_, ?_, ?_, ?_⟩, ?_⟩ <;> (first | omega | (dsimp only; omega) | (first | omega | assumption | (simp [*]; done)) | exact sxa (And.intro @cast_succ (And.intro hh1 (And.intro @encW.eq_1 (And.intro @mkW.eq_1 (And.intro hl1 (And.intro @map_snoc' (And.intro e1 (And.intro e2 (And.intro e3 (And.intro e4 (And.intro e5 (And.intro e6 (And.intro e7 (And.intro f1 (And.intro f2 (And.intro f3 (And.intro f4 (And.intro d3 d5)))))))))))))))))) | exact soa trivial))
          · rw [ha] at hf4
            simp only [if_true] at hf4
            have hfin : (out ++ [mkW e] ++ [m]) ++ rwGoF (l.drop (i + 1)) e true = rwriteF l e := by rw [List.append_assoc, List.append_assoc]; exact hf4
            have hl1 : ∀ x : Wrt, (out ++ [x] ++ [m]).length = out.length + 1 + 1 := by simp
            refine go (And.intro h3 (And.intro h5 (And.intro h6 (And.intro h7 (And.intro h18 (And.intro h19 (And.intro h20 (And.intro hh0 (And.intro hh1 (And.intro hhb (And.intro hr (And.intro hmm (And.intro @encW.eq_1 (And.intro @mkW.eq_1 (And.intro hpl (And.intro hid (And.intro e1 (And.intro e2 (And.intro e3 (And.intro e4 (And.intro e5 (And.intro e6 (And.intro e7 (And.intro f1 (And.intro f2 (And.intro f3 f4)))))))))))))))))))))))))) ?_
            refine x_appendO rfl rfl rfl rfl rfl rfl (sv (And.intro h6 (And.intro hhb (And.intro @encW.eq_1 (And.intro @mkW.eq_1 (And.intro e1 (And.intro e2 (And.intro e3 (And.intro e4 (And.intro e5 (And.intro e6 (And.intro e7 (And.intro f1 (And.intro f2 (And.intro f3 f4))))))))))))))) (by decide) (sc (And.intro h6 (And.intro hhb (And.intro @encW.eq_1 (And.intro @mkW.eq_1 (And.intro e1 (And.intro e2 (And.intro e3 (And.intro e4 (And.intro e5 (And.intro e6 (And.intro e7 (And.intro f1 (And.intro f2 (And.intro f3 f4))))))))))))))) (sv (And.intro h6 (And.intro hhb (And.intro @encW.eq_1 (And.intro @mkW.eq_1 (And.intro e1 (And.intro e2 (And.intro e3 (And.intro e4 (And.intro e5 (And.intro e6 (And.intro e7 (And.intro f1 (And.intro f2 (And.intro f3 f4))))))))))))))) (sx (And.intro h6 (And.intro hhb (And.intro @encW.eq_1 (And.intro @mkW.eq_1 (And.intro e1 (And.intro e2 (And.intro e3 (And.intro e4 (And.intro e5 (And.intro e6 (And.intro e7 (And.intro f1 (And.intro f2 (And.intro f3 f4))))))))))))))) (by first | rfl | (simp; done) | (simp [spare_len]; omega)) (by first | omega | (simp; done) | (simp [spare_len]; omega)) (by first | omega | (simp; done) | (simp [spare_len]; omega)) (sx (And.intro h6 (And.intro hhb (And.intro @encW.eq_1 (And.intro @mkW.eq_1 (And.intro e1 (And.intro e2 (And.intro e3 (And.intro e4 (And.intro e5 (And.intro e6 (And.intro e7 (And.intro f1 (And.intro f2 (And.intro f3 f4))))))))))))))) (okRowW1 (mkW e)) (by first | omega | (simp; done) | (simp [spare_len]; omega)) (fun cap' hcap' => ?_)
            refine go (And.intro h3 (And.intro h5 (And.intro h6 (And.intro h7 (And.intro h18 (And.intro h19 (And.intro h20 (And.intro hh0 (And.intro hh1 (And.intro hhb (And.intro hr (And.intro hmm (And.intro @encW.eq_1 (And.intro @mkW.eq_1 (And.intro hpl (And.intro hid (And.intro e1 (And.intro e2 (And.intro e3 (And.intro e4 (And.intro e5 (And.intro e6 (And.intro e7 (And.intro f1 (And.intro f2 (And.intro f3 (And.intro f4 (And.intro e8 (And.intro e9 (And.intro d3 (And.intro d5 d7))))))))))))))))))))))))))))))) ?_
            have hc2 : out.length + 1 ≤ cap' := hcap'
            have hs0 := spare_len 4 (cap' - (out.length + [encW (mkW e)].length))
            clear hf4
            refine x_appendO rfl rfl rfl rfl rfl rfl (sv (And.intro @encW.eq_1 (And.intro @mkW.eq_1 (And.intro e1 (And.intro e2 (And.intro e3 (And.intro e4 (And.intro e5 (And.intro e6 (And.intro e7 (And.intro e8 (And.intro e9 (And.intro f1 (And.intro f2 (And.intro f3 (And.intro f4 (And.intro d1 (And.intro d2 (And.intro d3 (And.intro d4 (And.intro d5 (And.intro d6 (And.intro d7 d8))))))))))))))))))))))) (by decide) (sc (And.intro @encW.eq_1 (And.intro @mkW.eq_1 (And.intro e1 (And.intro e2 (And.intro e3 (And.intro e4 (And.intro e5 (And.intro e6 (And.intro e7 (And.intro e8 (And.intro e9 (And.intro f1 (And.intro f2 (And.intro f3 (And.intro f4 (And.intro d1 (And.intro d2 (And.intro d3 (And.intro d4 (And.intro d5 (And.intro d6 (And.intro d7 d8))))))))))))))))))))))) (sv (And.intro @encW.eq_1 (And.intro @mkW.eq_1 (And.intro e1 (And.intro e2 (And.intro e3 (And.intro e4 (And.intro e5 (And.intro e6 (And.intro e7 (And.intro e8 (And.intro e9 (And.intro f1 (And.intro f2 (And.intro f3 (And.intro f4 (And.intro d1 (And.intro d2 (And.intro d3 (And.intro d4 (And.intro d5 (And.intro d6 (And.intro d7 d8))))))))))))))))))))))) (sx (And.intro @encW.eq_1 (And.intro @mkW.eq_1 (And.intro e1 (And.intro e2 (And.intro e3 (And.intro e4 (And.intro e5 (And.intro e6 (And.intro e7 (And.intro e8 (And.intro e9 (And.intro f1 (And.intro f2 (And.intro f3 (And.intro f4 (And.intro d1 (And.intro d2 (And.intro d3 (And.intro d4 (And.intro d5 (And.intro d6 (And.intro d7 d8))))))))))))))))))))))) (by first | rfl | (simp; done) | (simp [spare_len]; omega)) (by first | omega | (simp; done) | (simp [spare_len]; omega)) (by first | omega | (simp; done) | (simp [spare_len]; omega)) (sx (And.intro @encW.eq_1 (And.intro @mkW.eq_1 (And.intro e1 (And.intro e2 (And.intro e3 (And.intro e4 (And.intro e5 (And.intro e6 (And.intro e7 (And.intro e8 (And.intro e9 (And.intro f1 (And.intro f2 (And.intro f3 (And.intro f4 (And.intro d1 (And.intro d2 (And.intro d3 (And.intro d4 (And.intro d5 (And.intro d6 (And.intro d7 d8))))))))))))))))))))))) (okRowW1 m) (by first | omega | (simp; done) | (simp [spare_len]; omega)) (fun cap' hcap' => ?_)
            refine go (And.intro h3 (And.intro h5 (And.intro h6 (And.intro h7 (And.intro h18 (And.intro h19 (And.intro h20 (And.intro hh0 (And.intro hh1 (And.intro hhb (And.intro hr (And.intro hmm (And.intro @encW.eq_1 (And.intro @mkW.eq_1 (And.intro hpl (And.intro e1 (And.intro e2 (And.intro e3 (And.intro e4 (And.intro e5 (And.intro e6 (And.intro e7 (And.intro e8 (And.intro e9 (And.intro f1 (And.intro f2 (And.intro f3 (And.intro f4 (And.intro d1 (And.intro d2 (And.intro d3 (And.intro d4 (And.intro d5 (And.intro d6 (And.intro d7 d8))))))))))))))))))))))))))))))))))) ?_
            have hc3 : out.length + 1 + 1 ≤ cap' := hcap'
            have hs1 := spare_len 4 (cap' - (out.length + 1 + 1))
            (refine ⟨⟨i + 1, n + 1 + 1 + 1 + 1, cap', out ++ [mkW e] ++ [m], spare 4 (cap' - (out.length + 1 + 1)), true, ?_, ?_, ?_, ?_, ?_, ?_, ?_, ?_, ?_, ?_, ?_, ?_, ?_, ?_, ?_, ?_, ?_⟩, ?_⟩ <;> (first | omega | (dsimp only; omega) | (first | omega | assumption | (simp [*]; done)) | exact sxa (And.intro @cast_succ (And.intro hh1 (And.intro @encW.eq_1 (And.intro @mkW.eq_1 (And.intro hl1 (And.intro @map_snoc' (And.intro e1 (And.intro e2 (And.intro e3 (And.intro e4 (And.intro e5 (And.intro e6 (And.intro e7 (And.intro e8 (And.intro e9 (And.intro f1 (And.intro f2 (And.intro f3 (And.intro f4 (And.intro d1 (And.intro d2 (And.intro d3 (And.intro d4 (And.intro d5 (And.intro d6 (And.intro d7 d8)))))))))))))))))))))))))) | exact soa trivial))
        · simp only [Bool.not_true, Bool.false_and, Bool.false_eq_true, if_false] at hf4
          have hfin : (out ++ [m]) ++ rwGoF (l.drop (i + 1)) e true = rwriteF l e := by rw [List.append_assoc]; exact hf4
          have hl1 : (out ++ [m]).length = out.length + 1 := by simp
          refine go (And.intro h3 (And.intro h5 (And.intro h6 (And.intro h7 (And.intro h18 (And.intro h19 (And.intro h20 (And.intro hh0 (And.intro hh1 (And.intro hhb (And.intro hr (And.intro hmm (And.intro @encW.eq_1 (And.intro @mkW.eq_1 (And.intro hpl (And.intro hid (And.intro e1 (And.intro e2 (And.intro e3 (And.intro e4 (And.intro e5 (And.intro e6 (And.intro e7 (And.intro f1 (And.intro f2 (And.intro f3 f4)))))))))))))))))))))))))) ?_
          refine x_appendO rfl rfl rfl rfl rfl rfl (sv (And.intro h6 (And.intro hhb (And.intro @encW.eq_1 (And.intro e1 (And.intro e2 (And.intro e3 (And.intro e4 (And.intro e5 (And.intro e6 (And.intro e7 (And.intro f1 (And.intro f2 (And.intro f3 f4)))))))))))))) (by decide) (sc (And.intro h6 (And.intro hhb (And.intro @encW.eq_1 (And.intro e1 (And.intro e2 (And.intro e3 (And.intro e4 (And.intro e5 (And.intro e6 (And.intro e7 (And.intro f1 (And.intro f2 (And.intro f3 f4)))))))))))))) (sv (And.intro h6 (And.intro hhb (And.intro @encW.eq_1 (And.intro e1 (And.intro e2 (And.intro e3 (And.intro e4 (And.intro e5 (And.intro e6 (And.intro e7 (And.intro f1 (And.intro f2 (And.intro f3 f4)))))))))))))) (sx (And.intro h6 (And.intro hhb (And.intro @encW.eq_1 (And.intro e1 (And.intro e2 (And.intro e3 (And.intro e4 (And.intro e5 (And.intro e6 (And.intro e7 (And.intro f1 (And.intro f2 (And.intro f3 f4)))))))))))))) (by first | rfl | (simp; done) | (simp [spare_len]; omega)) (by first | omega | (simp; done) | (simp [spare_len]; omega)) (by first | omega | (simp; done) | (simp [spare_len]; omega)) (sx (And.intro h6 (And.intro hhb (And.intro @encW.eq_1 (And.intro e1 (And.intro e2 (And.intro e3 (And.intro e4 (And.intro e5 (And.intro e6 (And.intro e7 (And.intro f1 (And.intro f2 (And.intro f3 f4)))))))))))))) (okRowW1 m) (by first | omega | (simp; done) | (simp [spare_len]; omega)) (fun cap' hcap' => ?_)
          refine go (And.intro h3 (And.intro h5 (And.intro h6 (And.intro h7 (And.intro h18 (And.intro h19 (And.intro h20 (And.intro hh0 (And.intro hh1 (And.intro hhb (And.intro hr (And.intro hmm (And.intro @encW.eq_1 (And.intro @mkW.eq_1 (And.intro hpl (And.intro hid (And.intro e1 (And.intro e2 (And.intro e3 (And.intro e4 (And.intro e5 (And.intro e6 (And.intro e7 (And.intro f1 (And.intro f2 (And.intro f3 f4)))))))))))))))))))))))))) ?_
          have hc2 : out.length + 1 ≤ cap' := hcap'
          have hs1 := spare_len 4 (cap' - (out.length + 1))
          clear hf4
          (refine ⟨⟨i + 1, n + 1 + 1, cap', out ++ [m], spare 4 (cap' - (out.length + 1)), true, ?_, ?_, ?_, ?_, ?_, ?_, ?_, ?_, ?_, ?_, ?_, ?_, ?_, ?_, ?_, ?_, ?_⟩, ?_⟩ <;> (first | omega | (dsimp only; omega) | (first | omega | assumption | (simp [*]; done)) | exact sxa (And.intro @cast_succ (And.intro hh1 (And.intro @encW.eq_1 (And.intro @mkW.eq_1 (And.intro hl1 (And.intro @map_snoc' (And.intro e1 (And.intro e2 (And.intro e3 (And.intro e4 (And.intro e5 (And.intro e6 (And.intro e7 (And.intro f1 (And.intro f2 (And.intro f3 (And.intro f4 (And.intro d3 d5)))))))))))))))))) | exact soa trivial))
      · rw [hid, hh] at hf4
        simp only [Bool.or_true, if_true] at hf4
        refine go (And.intro h3 (And.intro h5 (And.intro h6 (And.intro h7 (And.intro h18 (And.intro h19 (And.intro h20 (And.intro hh0 (And.intro hh1 (And.intro hhb (And.intro hr (And.intro hmm (And.intro @encW.eq_1 (And.intro hpl (And.intro hid (And.intro e1 (And.intro e2 (And.intro e3 (And.intro e4 (And.intro e5 (And.intro e6 (And.intro e7 (And.intro f1 (And.intro f2 (And.intro f3 f4))))))))))))))))))))))))) ?_
        (refine ⟨⟨i + 1, b, cap, out, sp, d, ?_, ?_, ?_, ?_, ?_, ?_, ?_, ?_, ?_, ?_, ?_, ?_, ?_, ?_, ?_, ?_, ?_⟩, ?_⟩ <;> (first | omega | (dsimp only; omega) | ((exact hf4)) | exact sxa (And.intro @cast_succ (And.intro @encW.eq_1 (And.intro e1 (And.intro e2 (And.intro e3 (And.intro e4 (And.intro e5 (And.intro e6 (And.intro e7 (And.intro f1 (And.intro f2 (And.intro f3 f4)))))))))))) | exact soa trivial))
    · rw [hid] at hf4
      simp only [Bool.true_or, if_true] at hf4
      refine go (And.intro h3 (And.intro h5 (And.intro h6 (And.intro h7 (And.intro h18 (And.intro h19 (And.intro h20 (And.intro hh0 (And.intro hh1 (And.intro hhb (And.intro hr (And.intro hmm (And.intro @encW.eq_1 (And.intro @encE.eq_1 (And.intro hpl (And.intro hid (And.intro e1 (And.intro e2 (And.intro e3 (And.intro e4 (And.intro e5 (And.intro e6 (And.intro e7 (And.intro f1 (And.intro f2 (And.intro f3 f4)))))))))))))))))))))))))) ?_
      (refine ⟨⟨i + 1, b, cap, out, sp, d, ?_, ?_, ?_, ?_, ?_, ?_, ?_, ?_, ?_, ?_, ?_, ?_, ?_, ?_, ?_, ?_, ?_⟩, ?_⟩ <;> (first | omega | (dsimp only; omega) | ((exact hf4)) | exact sxa (And.intro @cast_succ (And.intro @encW.eq_1 (And.intro e1 (And.intro e2 (And.intro e3 (And.intro e4 (And.intro e5 (And.intro e6 (And.intro e7 (And.intro f1 (And.intro f2 (And.intro f3 f4)))))))))))) | exact soa trivial))
  · have ei : i = l.length := by omega
    subst ei
    rw [List.drop_length, rwGoF] at hf4
    have e1 : (b = n) = False := by simp <;> omega
    have e3 : (n = b) = False := by simp <;> omega
    have f1 : (1 = n) = False := by simp <;> omega
    have f3 : (1 = b) = False := by simp <;> omega
    have e2 : (b = n + 1) = False := by simp <;> omega
    cases d
    · refine go (And.intro h3 (And.intro h5 (And.intro h6 (And.intro h7 (And.intro h18 (And.intro h19 (And.intro h20 (And.intro hh0 (And.intro hh1 (And.intro hhb (And.intro @encW.eq_1 (And.intro @mkW.eq_1 (And.intro e1 (And.intro e2 (And.intro e3 (And.intro f1 f3)))))))))))))))) ?_
      refine x_appendO rfl rfl rfl rfl rfl rfl (sv (And.intro h6 (And.intro hhb (And.intro @encW.eq_1 (And.intro @mkW.eq_1 (And.intro e1 (And.intro e2 (And.intro e3 (And.intro f1 f3))))))))) (by decide) (sc (And.intro h6 (And.intro hhb (And.intro @encW.eq_1 (And.intro @mkW.eq_1 (And.intro e1 (And.intro e2 (And.intro e3 (And.intro f1 f3))))))))) (sv (And.intro h6 (And.intro hhb (And.intro @encW.eq_1 (And.intro @mkW.eq_1 (And.intro e1 (And.intro e2 (And.intro e3 (And.intro f1 f3))))))))) (sx (And.intro h6 (And.intro hhb (And.intro @encW.eq_1 (And.intro @mkW.eq_1 (And.intro e1 (And.intro e2 (And.intro e3 (And.intro f1 f3))))))))) (by first | rfl | (simp; done) | (simp [spare_len]; omega)) (by first | omega | (simp; done) | (simp [spare_len]; omega)) (by first | omega | (simp; done) | (simp [spare_len]; omega)) (sx (And.intro h6 (And.intro hhb (And.intro @encW.eq_1 (And.intro @mkW.eq_1 (And.intro e1 (And.intro e2 (And.intro e3 (And.intro f1 f3))))))))) (okRowW1 (mkW e)) (by first | omega | (simp; done) | (simp [spare_len]; omega)) (fun cap' hcap' => ?_)
      have hc2 : out.length + 1 ≤ cap' := hcap'
      refine go (And.intro h3 (And.intro h5 (And.intro h6 (And.intro h7 (And.intro h18 (And.intro h19 (And.intro h20 (And.intro hh0 (And.intro hh1 (And.intro hhb (And.intro @encW.eq_1 (And.intro @mkW.eq_1 (And.intro e1 (And.intro e2 (And.intro e3 (And.intro f1 f3)))))))))))))))) ?_
      simp only [Bool.false_eq_true, if_false] at hf4
      rw [← hf4, map_snoc']
      have hdp : ∀ r ∈ out.map encW ++ [encW (mkW e)], ∀ q ∈ r, deepc q = true := by have := deepWs (out ++ [mkW e]); rwa [map_snoc'] at this
      refine x_done (x_outL (sp := spare 4 (cap' - (out.length + 1))) (sr (And.intro @Try.f31.eq_1 (And.intro h6 (And.intro @encW.eq_1 @mkW.eq_1)))) (sx trivial) (by simp) hdp)
    · refine go (And.intro h3 (And.intro h5 (And.intro h6 (And.intro h7 (And.intro h18 (And.intro h19 (And.intro h20 (And.intro hh0 (And.intro hh1 hhb))))))))) ?_
      simp only [if_true, List.append_nil] at hf4
      rw [← hf4]
      refine x_done (x_outL (sp := sp) (sr (And.intro @Try.f31.eq_1 h6)) (sx hhb) (by simp) (deepWs _))
end Go.Proofs.Ytgohmphhgglmbaa

set_option linter.unusedVariables false
set_option linter.unusedSimpArgs false
set_option maxRecDepth 100000
set_option maxHeartbeats 16000000
namespace Go.Proofs.Ytgohmphhgglmbaa
open Go Go.RowKit Am

theorem wOk_at (w : List Wrt) : ∀ (n k : Nat), wOkF w n k = true → ∀ j, k ≤ j → j < k + n → wBad w j = false ∧ wDup w j = false
  | 0, k, _, j, h1, h2 => by omega
  | n + 1, k, h, j, h1, h2 => by
    simp only [wOkF, Bool.and_eq_true, Bool.not_eq_true'] at h
    by_cases hj : j = k
    · subst hj; exact h.1
    · exact wOk_at w n (k + 1) h.2 j (by omega) (by omega)
theorem rOk_at (l : List Rgs) : ∀ (n i : Nat), rOkF l n i = true → ∀ j, i ≤ j → j < i + n → rBad l j = false ∧ wOkF (rAt l j).w (rAt l j).w.length 0 = true
  | 0, k, _, j, h1, h2 => by omega
  | n + 1, k, h, j, h1, h2 => by
    simp only [rOkF, Bool.and_eq_true, Bool.not_eq_true'] at h
    by_cases hj : j = k
    · subst hj; exact h.1
    · exact rOk_at l n (k + 1) h.2 j (by omega) (by omega)
/-- What 'Right' says of its registers. -/
structure RightP (l : List Rgs) : Prop where
  len : l.length ≤ 30
  bad : ∀ j, j < l.length → rBad l j = false
  wok : ∀ j, j < l.length → wOkF (rAt l j).w (rAt l j).w.length 0 = true
theorem right_p {l : List Rgs} (h : (rightF l == 0) = false) : RightP l := by
  have h30 : ¬ 30 < (l.length : Int) := fun h1 => by simp [rightF, h1] at h
  have hok : rOkF l l.length 0 = true := by
    cases hb : rOkF l l.length 0
    · simp [rightF, h30, hb] at h
    · rfl
  have := rOk_at l l.length 0 hok
  exact ⟨by omega, fun j hj => (this j (Nat.zero_le _) (by omega)).1, fun j hj => (this j (Nat.zero_le _) (by omega)).2⟩
theorem RightP.small {l : List Rgs} (h : RightP l) : smallR 30 l := by
  refine ⟨h.len, fun x hx => ?_⟩
  obtain ⟨j, hj, rfl⟩ := List.getElem_of_mem hx
  have := h.bad j hj
  rw [rBad, rAt_lt hj] at this
  simp only [Bool.or_eq_false_iff, decide_eq_false_iff_not] at this
  omega
theorem fine_small {es : List Edt} (h : fineF es = true) : es.length ≤ 30 ∧ ∀ e ∈ es, e.deps.length ≤ 12 := by
  simp only [fineF, fineE, Bool.and_eq_true, List.all_eq_true, decide_eq_true_eq] at h
  exact ⟨by omega, fun e he => by have := (h.1 e he).1.2; omega⟩
theorem app_small {B : Nat} : ∀ (es : List Edt) {l : List Rgs}, smallR B l → smallR (B + es.length) (appF l es)
  | [], l, h => h
  | e :: es, l, h => by
    have := app_small (B := B + 1) es (step_small e h)
    have e1 : B + (e :: es).length = B + 1 + es.length := by simp; omega
    rw [e1]
    exact this
theorem smallR.mono {B C : Nat} {l : List Rgs} (h : smallR B l) (hc : B ≤ C) : smallR C l := ⟨Nat.le_trans h.1 hc, fun x hx => Nat.le_trans (h.2 x hx) hc⟩
theorem marksF_refl' : ∀ w : List Wrt, marksF w w = true
  | [] => rfl
  | x :: w => by simp [marksF, eqW, marksF_refl' w]
theorem sameF_refl : ∀ l : List Rgs, sameF l l = true
  | [] => rfl
  | x :: l => by simp [sameF, rEq, marksF_refl', sameF_refl l]
theorem appF_append (l : List Rgs) (a b : List Edt) : appF (appF l a) b = appF l (a ++ b) := (List.foldl_append).symm
def isSet (e : Edt) : Bool := e.kind == 3
theorem appF_filter : ∀ (es : List Edt) (l : List Rgs), appF l (es.filter isSet) = appF l es
  | [], l => rfl
  | e :: es, l => by
    cases hk : isSet e
    · have : stepF l e = l := by simp only [isSet] at hk; simp [stepF, hk]
      rw [List.filter_cons, hk]
      simp only [Bool.false_eq_true, if_false]
      rw [appF_filter es l]
      show _ = appF (stepF l e) es
      rw [this]
    · rw [List.filter_cons, hk]
      simp only [if_true]
      exact appF_filter es (stepF l e)
end Go.Proofs.Ytgohmphhgglmbaa

set_option linter.unusedVariables false
set_option linter.unusedSimpArgs false
namespace Go.Proofs.Ytgohmphhgglmbaa
open Go Go.RowKit Am

/-- A comparison that answers xs an order of keys does. -/
structure OrdC {α κ : Type} (key : α → κ) (c : α → α → Int) : Prop where
  z : ∀ a b, c a b = 0 ↔ key a = key b
  an : ∀ a b, c a b < 0 ↔ 0 < c b a
  tr : ∀ a b d, c a b < 0 → c b d < 0 → c a d < 0
namespace OrdC
variable {α κ : Type} {key : α → κ} {c : α → α → Int}
theorem congL (o : OrdC key c) {a b : α} (d : α) (h : key a = key b) (h1 : c b d < 0) : c a d < 0 := by
  have hz := (o.z a b).2 h
  have hz2 := (o.z b a).2 h.symm
  rcases Int.lt_trichotomy (c a d) 0 with h2 | h2 | h2
  · exact h2
  · have := (o.z a d).1 h2
    have := (o.z b d).2 (h.symm.trans this)
    omega
  · have h3 := (o.an d a).2 h2
    have := o.tr b d a h1 h3
    omega
theorem congR (o : OrdC key c) {a b : α} (d : α) (h : key a = key b) (h1 : c d b < 0) : c d a < 0 := by
  have hz2 := (o.z b a).2 h.symm
  rcases Int.lt_trichotomy (c d a) 0 with h2 | h2 | h2
  · exact h2
  · have := (o.z d a).1 h2
    have := (o.z d b).2 (this.trans h)
    omega
  · have h3 := (o.an a d).2 h2
    have := o.tr a d b h3 h1
    have := (o.z a b).2 h
    omega
theorem comap {β : Type} (o : OrdC key c) (f : β → α) : OrdC (fun x => key (f x)) (fun x y => c (f x) (f y)) :=
  ⟨fun a b => o.z _ _, fun a b => o.an _ _, fun a b d => o.tr _ _ _⟩
theorem lex {κ' : Type} {key' : α → κ'} {c' : α → α → Int} (o : OrdC key c) (o' : OrdC key' c') : OrdC (fun x => (key x, key' x)) (fun x y => orF [c x y, c' x y]) := by
  have e : ∀ x y, orF [c x y, c' x y] = if c x y = 0 then c' x y else c x y := by
    intro x y
    simp only [orF]
    split
    · split <;> simp_all
    · rfl
  refine ⟨fun a b => ?_, fun a b => ?_, fun a b d => ?_⟩
  · simp only [e, Prod.mk.injEq, ← o.z, ← o'.z]
    split <;> simp_all
  · have h1 := o.an a b; have h2 := o.an b a; have h3 := o'.an a b
    simp only [e]
    by_cases h : c a b = 0
    · have h4 : c b a = 0 := by omega
      simp [h, h4, h3]
    · have h4 : ¬ c b a = 0 := by omega
      simp [h, h4, h1]
  · simp only [e]
    intro h1 h2
    by_cases ha : c a b = 0
    · rw [if_pos ha] at h1
      by_cases hb : c b d = 0
      · rw [if_pos hb] at h2
        have hk := ((o.z a b).1 ha).trans ((o.z b d).1 hb)
        rw [if_pos ((o.z a d).2 hk)]
        exact o'.tr a b d h1 h2
      · rw [if_neg hb] at h2
        have := o.congL d ((o.z a b).1 ha) h2
        rw [if_neg (by omega)]
        exact this
    · rw [if_neg ha] at h1
      by_cases hb : c b d = 0
      · have := o.congR a ((o.z b d).1 hb).symm h1
        rw [if_neg (by omega)]
        exact this
      · rw [if_neg hb] at h2
        have := o.tr a b d h1 h2
        rw [if_neg (by omega)]
        exact this
end OrdC
theorem cmpBytes_z : ∀ a b : List UInt8, Lib.compareBytes a b = 0 ↔ a = b
  | [], [] => by simp [Lib.compareBytes]
  | [], b :: bs => by simp [Lib.compareBytes]
  | a :: xs, [] => by simp [Lib.compareBytes]
  | a :: xs, b :: bs => by
    simp only [Lib.compareBytes, List.cons.injEq]
    split
    · rename_i h
      have : a ≠ b := by rintro rfl; simp at h
      simp [this]
    · split
      · rename_i h
        have : a ≠ b := by rintro rfl; simp at h
        simp [this]
      · rename_i h1 h2
        have : a = b := UInt8.le_antisymm (UInt8.not_lt.1 h2) (UInt8.not_lt.1 h1)
        simp [this, cmpBytes_z xs bs]
theorem cmpBytes_as : ∀ a b : List UInt8, Lib.compareBytes a b < 0 ↔ 0 < Lib.compareBytes b a
  | [], [] => by simp [Lib.compareBytes]
  | [], b :: bs => by simp [Lib.compareBytes]
  | a :: xs, [] => by simp [Lib.compareBytes]
  | a :: xs, b :: bs => by
    simp only [Lib.compareBytes]
    by_cases h1 : a < b
    · have h2 : ¬ b < a := UInt8.not_lt.2 (UInt8.le_of_lt h1)
      simp [h1, h2]
    · by_cases h2 : b < a
      · simp [h1, h2]
      · simp [h1, h2, cmpBytes_as xs bs]
theorem cmpBytes_tr : ∀ a b d : List UInt8, Lib.compareBytes a b < 0 → Lib.compareBytes b d < 0 → Lib.compareBytes a d < 0
  | _, _, [], _, h => by rename_i b _; cases b <;> simp [Lib.compareBytes] at h
  | [], _, d :: ds, _, _ => by simp [Lib.compareBytes]
  | a :: xs, [], d :: ds, h, _ => by simp [Lib.compareBytes] at h
  | a :: xs, b :: bs, d :: ds, h1, h2 => by
    simp only [Lib.compareBytes] at h1 h2 ⊢
    by_cases hab : a < b
    · by_cases hbd : b < d
      · have : a < d := UInt8.lt_trans hab hbd
        simp [this]
      · by_cases hdb : d < b
        · simp [hbd, hdb] at h2
        · have e : b = d := UInt8.le_antisymm (UInt8.not_lt.1 hdb) (UInt8.not_lt.1 hbd)
          subst e
          simp [hab]
    · by_cases hba : b < a
      · simp [hab, hba] at h1
      · have e : a = b := UInt8.le_antisymm (UInt8.not_lt.1 hba) (UInt8.not_lt.1 hab)
        subst e
        simp only [hab, if_false] at h1
        by_cases had : a < d
        · simp [had]
        · by_cases hda : d < a
          · simp [had, hda] at h2
          · simp only [had, hda, if_false] at h2 ⊢
            exact cmpBytes_tr xs bs ds h1 h2
theorem ordB : OrdC (fun a : ByteArray => a) cmpB := ⟨fun a b => by rw [cmpB, cmpBytes_z]; exact ⟨Go.WideShapes.bytes_inj, fun h => by rw [h]⟩, fun a b => cmpBytes_as _ _, fun a b d => cmpBytes_tr _ _ _⟩
theorem ordI : OrdC (fun a : Int => a) cmpI := ⟨fun a b => by unfold cmpI; constructor <;> intro h <;> (try split at h) <;> (try split at h) <;> (try split) <;> (try split) <;> omega, fun a b => by unfold cmpI; constructor <;> intro h <;> (try split at h) <;> (try split at h) <;> (try split) <;> (try split) <;> omega, fun a b d h1 h2 => by unfold cmpI at *; (try split at h1) <;> (try split at h1) <;> (try split at h2) <;> (try split at h2) <;> (try split) <;> (try split) <;> omega⟩
theorem ordId : OrdC (fun x : Idt => (x.a, x.n)) cmpId := (ordB.comap Idt.a).lex (ordI.comap Idt.n)
theorem ordReg : OrdC (fun x : Rgs => ((x.id.a, x.id.n), x.f)) cmpReg := (ordId.comap Rgs.id).lex (ordB.comap Rgs.f)
theorem ordW : OrdC (fun x : Wrt => (x.c, (x.id.a, x.id.n))) cmpW := (ordI.comap Wrt.c).lex (ordId.comap Wrt.id)
end Go.Proofs.Ytgohmphhgglmbaa

set_option linter.unusedVariables false
set_option linter.unusedSimpArgs false
namespace Go.Proofs.Ytgohmphhgglmbaa
open Go Go.RowKit Am

theorem bsF_eq (c : Nat → Int) (p : Nat) : ∀ (d i j : Nat), j - i ≤ d → i ≤ p → p ≤ j → (∀ k, i ≤ k → k < p → c k < 0) → (∀ k, p ≤ k → k < j → ¬ c k < 0) → bsF c i j = p
  | 0, i, j, hd, h1, h2, _, _ => by
    rw [bsF, if_neg (by omega)]
    omega
  | d + 1, i, j, hd, h1, h2, h3, h4 => by
    rw [bsF]
    split
    · rename_i hij
      split
      · rename_i hc
        have : (i + j) / 2 < p := by
          rcases Nat.lt_or_ge ((i + j) / 2) p with h | h
          · exact h
          · exact absurd hc (h4 _ h (by omega))
        exact bsF_eq c p d _ _ (by omega) (by omega) h2 (fun k k1 k2 => h3 k (by omega) k2) h4
      · rename_i hc
        have : p ≤ (i + j) / 2 := by
          rcases Nat.lt_or_ge ((i + j) / 2) p with h | h
          · exact absurd (h3 _ (by omega) h) hc
          · exact h
        exact bsF_eq c p d _ _ (by omega) h1 this h3 (fun k k1 k2 => h4 k k1 (by omega))
    · omega
theorem bsF_lb (c : Nat → Int) (n : Nat) (mono : ∀ k m, k ≤ m → m < n → c m < 0 → c k < 0) : ∀ (d i j : Nat), j - i ≤ d → i ≤ j → j ≤ n → (∀ k, k < i → c k < 0) → (∀ k, j ≤ k → k < n → ¬ c k < 0) → (∀ k, k < bsF c i j → c k < 0) ∧ (∀ k, bsF c i j ≤ k → k < n → ¬ c k < 0)
  | 0, i, j, hd, h1, h2, h3, h4 => by
    rw [bsF, if_neg (by omega)]
    exact ⟨h3, fun k k1 => h4 k (by omega)⟩
  | d + 1, i, j, hd, h1, h2, h3, h4 => by
    rw [bsF]
    split
    · rename_i hij
      split
      · rename_i hc
        exact bsF_lb c n mono d _ _ (by omega) (by omega) h2 (fun k k1 => mono k _ (by omega) (by omega) hc) h4
      · rename_i hc
        exact bsF_lb c n mono d _ _ (by omega) (by omega) (by omega) h3 (fun k k1 k2 h => hc (mono _ k k1 k2 h))
    · exact ⟨h3, fun k k1 => h4 k (by omega)⟩
def Srt (L : List Rgs) : Prop := ∀ i j, i < j → j < L.length → cmpReg (rAt L i) (rAt L j) < 0
theorem cAt_rAt (g : Rgs → Int) {L : List Rgs} {k : Nat} (h : k < L.length) : cAt g L k = g (rAt L k) := by rw [cAt_lt g L h, rAt_lt h]
theorem srt_lb {L : List Rgs} (h : Srt L) (e : Edt) : (∀ k, k < rPos L e → cmpReg (rAt L k) (tgt e) < 0) ∧ (∀ k, rPos L e ≤ k → k < L.length → ¬ cmpReg (rAt L k) (tgt e) < 0) := by
  have hp : rPos L e ≤ L.length := (bsF_le _ 0 L.length (Nat.zero_le _)).2
  have := bsF_lb (cAt (fun x => cmpReg x (tgt e)) L) L.length (fun k m hk hm hc => by
    rw [cAt_rAt _ hm] at hc
    rw [cAt_rAt _ (Nat.lt_of_le_of_lt hk hm)]
    rcases Nat.lt_or_ge k m with h1 | h1
    · exact ordReg.tr _ _ _ (h k m h1 hm) hc
    · have : k = m := by omega
      subst this; exact hc) L.length 0 L.length (by omega) (Nat.zero_le _) (Nat.le_refl _) (fun k hk => by omega) (fun k k1 k2 => by omega)
  refine ⟨fun k hk => ?_, fun k hk h2 => ?_⟩
  · have h3 := this.1 k hk
    rw [cAt_rAt _ (Nat.lt_of_lt_of_le hk hp)] at h3
    exact h3
  · have h3 := this.2 k hk h2
    rw [cAt_rAt _ h2] at h3
    exact h3
theorem kept_ins (w : List Wrt) (i : Nat) (e : Edt) : keptF (insAt (keptF w e) i (mkW e)) e = keptF w e := by
  have h1 : wr1F e (mkW e) = true := by simp [wr1F, mkW]
  have h2 : ∀ l : List Wrt, keptF (keptF l e) e = keptF l e := fun l => by simp [keptF]
  show List.filter _ (_ ++ _ ++ _) = _
  rw [List.filter_append, List.filter_append]
  have h3 : List.filter (fun m => !wr1F e m) [mkW e] = [] := by simp [h1]
  rw [h3, List.append_nil, ← List.filter_append, List.take_append_drop]
  exact h2 w
theorem wr_idem (w : List Wrt) (e : Edt) : wrF (wrF w e) e = wrF w e := by
  have h : keptF (wrF w e) e = keptF w e := kept_ins w _ e
  rw [wrF, h]
  rfl
theorem cmp_set (x : Rgs) (w : List Wrt) (y : Rgs) : cmpReg (setW x w) y = cmpReg x y := rfl
theorem cAt_set (L : List Rgs) (p : Nat) (w : List Wrt) (y : Rgs) : cAt (fun x => cmpReg x y) (L.set p (setW (rAt L p) w)) = cAt (fun x => cmpReg x y) L := by
  funext k
  unfold cAt
  by_cases hk : p = k
  · subst hk
    by_cases hp : p < L.length
    · rw [List.getElem?_set_self hp, List.getElem?_eq_getElem hp]
      show cmpReg (setW (rAt L p) w) y = _
      rw [cmp_set, rAt_lt hp]
    · rw [List.set_eq_of_length_le (by omega)]
  · rw [List.getElem?_set_ne hk]
theorem rAt_insL (L : List Rgs) {i k : Nat} (x : Rgs) (h : i ≤ L.length) (hk : k < i) : rAt (insAt L i x) k = rAt L k := by
  unfold rAt insAt
  rw [List.getD_eq_getElem?_getD, List.getD_eq_getElem?_getD, List.append_assoc, List.getElem?_append_left (by simp; omega), List.getElem?_take_of_lt hk]
theorem rAt_insR (L : List Rgs) {i k : Nat} (x : Rgs) (h : i ≤ L.length) (hk : i < k) : rAt (insAt L i x) k = rAt L (k - 1) := by
  unfold rAt insAt
  rw [List.getD_eq_getElem?_getD, List.getD_eq_getElem?_getD, List.getElem?_append_right (by simp; omega), List.getElem?_drop]
  congr 2
  simp; omega
theorem step_idem {L : List Rgs} (h : Srt L) (e : Edt) : stepF (stepF L e) e = stepF L e := by
  have hp : rPos L e ≤ L.length := (bsF_le _ 0 L.length (Nat.zero_le _)).2
  cases hk : (e.kind == 3)
  · simp [stepF, hk]
  · cases hh : rHit L e
    · have hst : stepF L e = insAt L (rPos L e) (setW (tgt e) (wrF [] e)) := by simp [stepF, hk, hh]
      rw [hst]
      generalize hx : setW (tgt e) (wrF [] e) = x
      generalize hpp : rPos L e = p at *
      obtain ⟨l1, l2⟩ := srt_lb h e
      rw [hpp] at l1 l2
      have hlen : (insAt L p x).length = L.length + 1 := insAt_len _ _ _
      have hx0 : cmpReg x (tgt e) = 0 := (ordReg.z _ _).2 (by rw [← hx]; rfl)
      have hpos : rPos (insAt L p x) e = p := by
        refine bsF_eq _ p _ 0 _ (Nat.le_refl _) (Nat.zero_le _) (by omega) (fun k _ hk => ?_) (fun k k1 k2 => ?_)
        · rw [cAt_rAt _ (by omega), rAt_insL L x hp hk]
          exact l1 k hk
        · rw [cAt_rAt _ k2]
          rcases Nat.lt_or_ge p k with h1 | h1
          · rw [rAt_insR L x hp h1]
            exact l2 _ (by omega) (by omega)
          · have : k = p := by omega
            subst this
            rw [rAt_ins L k x hp, hx0]
            omega
      have hhit : rHit (insAt L p x) e = true := by
        have h1 : bsF (cAt (fun y => cmpReg y (tgt e)) (insAt L p x)) 0 (insAt L p x).length = p := hpos
        simp only [rHit, bsHit, h1, Bool.and_eq_true, decide_eq_true_eq]
        refine ⟨by omega, ?_⟩
        rw [cAt_rAt _ (by omega), rAt_ins L p x hp]
        exact hx0
      have : stepF (insAt L p x) e = (insAt L p x).set p (setW x (wrF x.w e)) := by
        simp only [stepF, hk, hhit, hpos, if_true, rAt_ins L p x hp]
      rw [this, set_ins L p x _ hp]
      have hxw : setW x (wrF x.w e) = x := by
        rw [← hx]
        show setW (setW (tgt e) (wrF [] e)) (wrF (wrF [] e) e) = _
        rw [wr_idem]
        rfl
      rw [hxw]
    · have hlt : rPos L e < L.length := by
        simp only [rHit, bsHit, Bool.and_eq_true, decide_eq_true_eq] at hh
        exact hh.1
      have hst : stepF L e = L.set (rPos L e) (setW (rAt L (rPos L e)) (wrF (rAt L (rPos L e)).w e)) := by simp [stepF, hk, hh]
      rw [hst]
      generalize hpp : rPos L e = p at *
      generalize hw : wrF (rAt L p).w e = w
      have hc := cAt_set L p w (tgt e)
      have hpos : rPos (L.set p (setW (rAt L p) w)) e = p := by
        rw [← hpp, rPos, hpp, hc, List.length_set]
        exact hpp
      have hhit : rHit (L.set p (setW (rAt L p) w)) e = true := by
        rw [← hh, rHit, rHit, bsHit, bsHit, hc, List.length_set]
      have hat : rAt (L.set p (setW (rAt L p) w)) p = setW (rAt L p) w := by
        rw [rAt_lt (by simpa using hlt)]
        simp
      have : stepF (L.set p (setW (rAt L p) w)) e = (L.set p (setW (rAt L p) w)).set p (setW (setW (rAt L p) w) (wrF w e)) := by
        simp only [stepF, hk, hhit, hpos, if_true, hat]
        rfl
      rw [this, List.set_set]
      have : wrF w e = w := by rw [← hw, wr_idem]
      rw [this]
      rfl
end Go.Proofs.Ytgohmphhgglmbaa

set_option linter.unusedVariables false
set_option linter.unusedSimpArgs false
namespace Go.Proofs.Ytgohmphhgglmbaa
open Go Go.RowKit Am

theorem lbeq (a b : ByteArray) : (a.toList == b.toList) = decide (a = b) := by
  rw [ByteArray.toList_eq, ByteArray.toList_eq]
  by_cases h : a = b
  · simp [h]
  · have : ¬ a.data.toList = b.data.toList := fun h1 => h (Go.WideShapes.bytes_inj h1)
    rw [beq_eq_false_iff_ne.2 this, decide_eq_false h]
theorem bless : ∀ x y : List UInt8, Op.bytesLess x y = decide (Lib.compareBytes x y < 0)
  | [], [] => by simp [Op.bytesLess, Lib.compareBytes]
  | _ :: _, [] => by simp [Op.bytesLess, Lib.compareBytes]
  | [], _ :: _ => by simp [Op.bytesLess, Lib.compareBytes]
  | a :: x, b :: y => by
    simp only [Op.bytesLess, Lib.compareBytes, bless x y]
    by_cases h1 : a < b
    · simp [h1]
    · by_cases h2 : b < a
      · have : ¬ a = b := by rintro rfl; simp at h2
        simp [h1, h2, this]
      · have : a = b := UInt8.le_antisymm (UInt8.not_lt.1 h2) (UInt8.not_lt.1 h1)
        simp [h1, h2, this]
theorem blessB (a b : ByteArray) : Op.bytesLess a.toList b.toList = decide (cmpB a b < 0) := by rw [bless, cmpB, ByteArray.toList_eq, ByteArray.toList_eq]
theorem or2 (x y : Int) : orF [x, y] = if x = 0 then y else x := by
  simp only [orF]
  split
  · split <;> simp_all
  · rfl
theorem less_cmp (a b : Idt) : lessF a b = decide (cmpId a b < 0) := by
  rw [lessF, blessB, lbeq, cmpId, or2]
  by_cases h : a.a = b.a
  · have h0 : cmpB a.a b.a = 0 := (ordB.z _ _).2 h
    have : decide (a.n < b.n) = decide (cmpI a.n b.n < 0) := by
      unfold cmpI
      split
      · simp; omega
      · split <;> simp <;> omega
    rw [this]
    rw [h] at h0 ⊢
    simp [h0]
  · have h0 : ¬ cmpB a.a b.a = 0 := fun h1 => h ((ordB.z _ _).1 h1)
    simp [h0, h]
theorem first_cmp (a b : Rgs) : firstF a b = decide (cmpReg a b < 0) := by
  rw [firstF, less_cmp, blessB, cmpReg, or2, eqId, lbeq]
  by_cases h : cmpId a.id b.id = 0
  · have h0 := (ordId.z _ _).1 h
    simp only [Prod.mk.injEq] at h0
    simp [h, h0]
  · have h0 : ¬ (a.id.a = b.id.a ∧ a.id.n = b.id.n) := fun h1 => h ((ordId.z _ _).2 (by simp [h1]))
    by_cases h2 : a.id.a = b.id.a
    · have : ¬ a.id.n = b.id.n := fun h3 => h0 ⟨h2, h3⟩
      simp [h, h2, this]
    · simp [h, h2]
theorem RightP.srt {l : List Rgs} (h : RightP l) : Srt l := by
  have hadj : ∀ j, j + 1 < l.length → cmpReg (rAt l j) (rAt l (j + 1)) < 0 := by
    intro j hj
    have := h.bad (j + 1) hj
    rw [rBad, first_cmp] at this
    simp only [Bool.or_eq_false_iff, Bool.and_eq_false_iff, Bool.not_eq_false', decide_eq_false_iff_not, decide_eq_true_eq] at this
    obtain ⟨⟨⟨h1 | h1, _⟩, _⟩, _⟩ := this
    · omega
    · simpa using h1
  have hall : ∀ d i, i + d + 1 < l.length → cmpReg (rAt l i) (rAt l (i + d + 1)) < 0 := by
    intro d
    induction d with
    | zero => intro i hi; exact hadj i hi
    | succ d ih =>
      intro i hi
      exact ordReg.tr _ _ _ (ih i (by omega)) (hadj (i + d + 1) hi)
  intro i j hij hj
  have := hall (j - i - 1) i (by omega)
  rwa [show i + (j - i - 1) + 1 = j by omega] at this
def keyB (x : Rgs) (y : Idt) (f : ByteArray) : Bool := ((x.id.a.toList == y.a.toList) && (x.id.n == y.n)) && (x.f.toList == f.toList)
theorem keyB_eq (x : Rgs) (y : Idt) (f : ByteArray) : keyB x y f = true ↔ x.id = y ∧ x.f = f := by
  rw [keyB, lbeq, lbeq]
  obtain ⟨⟨a, n⟩, g, w⟩ := x
  obtain ⟨b, m⟩ := y
  simp
theorem getF_cons (x : Rgs) (l : List Rgs) (y : Idt) (f : ByteArray) : getF (x :: l) y f = if keyB x y f then x.w else getF l y f := rfl
theorem getF_mid (x : Rgs) (y : Idt) (f : ByteArray) (h : keyB x y f = false) : ∀ a b : List Rgs, getF (a ++ x :: b) y f = getF (a ++ b) y f
  | [], b => by simp [getF_cons, h]
  | z :: a, b => by
    simp only [List.cons_append, getF_cons]
    split
    · rfl
    · exact getF_mid x y f h a b
theorem getF_ins (L : List Rgs) (i : Nat) (x : Rgs) (y : Idt) (f : ByteArray) (h : keyB x y f = false) : getF (insAt L i x) y f = getF L y f := by
  rw [insAt, List.append_assoc, List.singleton_append, getF_mid x y f h, List.take_append_drop]
theorem getF_set (x : Rgs) (y : Idt) (f : ByteArray) (h : keyB x y f = false) : ∀ (L : List Rgs) (p : Nat), (∀ z, L[p]? = some z → keyB z y f = false) → getF (L.set p x) y f = getF L y f
  | [], p, _ => rfl
  | z :: L, 0, h2 => by
    have := h2 z rfl
    simp [getF_cons, h, this]
  | z :: L, p + 1, h2 => by
    simp only [List.set_cons_succ, getF_cons]
    split
    · rfl
    · exact getF_set x y f h L p (fun w hw => h2 w (by simpa using hw))
def tchF (e : Edt) (y : Idt) (f : ByteArray) : Bool := ((e.kind == 3) && ((e.node.a.toList == y.a.toList) && (e.node.n == y.n))) && (e.field.toList == f.toList)
theorem getF_step (L : List Rgs) (e : Edt) (y : Idt) (f : ByteArray) (h : tchF e y f = false) : getF (stepF L e) y f = getF L y f := by
  cases hk : (e.kind == 3)
  · simp [stepF, hk]
  · have hkey : ∀ x : Rgs, x.id = e.node → x.f = e.field → keyB x y f = false := by
      intro x h1 h2
      rw [keyB, h1, h2]
      rw [tchF, hk, Bool.true_and] at h
      exact h
    cases hh : rHit L e
    · have hst : stepF L e = insAt L (rPos L e) (setW (tgt e) (wrF [] e)) := by simp [stepF, hk, hh]
      rw [hst]
      exact getF_ins _ _ _ _ _ (hkey _ rfl rfl)
    · have hst : stepF L e = L.set (rPos L e) (setW (rAt L (rPos L e)) (wrF (rAt L (rPos L e)).w e)) := by simp [stepF, hk, hh]
      simp only [rHit, bsHit, Bool.and_eq_true, decide_eq_true_eq] at hh
      have hlt : rPos L e < L.length := hh.1
      have h0 : cmpReg (rAt L (rPos L e)) (tgt e) = 0 := by
        have := hh.2
        rw [cAt_rAt _ hh.1] at this
        exact this
      have hz := (ordReg.z _ _).1 h0
      simp only [tgt, Prod.mk.injEq] at hz
      have hid : (rAt L (rPos L e)).id = e.node := by
        generalize (rAt L (rPos L e)).id = u at hz
        obtain ⟨a, n⟩ := u
        simp only at hz
        rw [hz.1.1, hz.1.2]
      rw [hst]
      refine getF_set _ _ _ (hkey (setW (rAt L (rPos L e)) (wrF (rAt L (rPos L e)).w e)) hid hz.2) L _ (fun z hzz => ?_)
      have : z = rAt L (rPos L e) := by
        rw [List.getElem?_eq_getElem hlt] at hzz
        rw [rAt_lt hlt]
        exact (Option.some.inj hzz).symm
      rw [this]
      exact hkey _ hid hz.2
theorem getF_app (y : Idt) (f : ByteArray) : ∀ (es : List Edt) (L : List Rgs), es.any (fun e => tchF e y f) = false → getF (appF L es) y f = getF L y f
  | [], L, _ => rfl
  | e :: es, L, h => by
    simp only [List.any_cons, Bool.or_eq_false_iff] at h
    show getF (appF (stepF L e) es) y f = _
    rw [getF_app y f es _ h.2, getF_step L e y f h.1]
end Go.Proofs.Ytgohmphhgglmbaa
