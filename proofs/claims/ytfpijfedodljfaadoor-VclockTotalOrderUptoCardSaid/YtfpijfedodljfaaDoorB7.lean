/- Texts that the law's proof stands on: V16, V17, V18, V35, V36, V19, V10, V28, V29, V40, V41, V42. -/
import Derived.Test.YtfpijfedodljfaaDoorB6
import Derived.Test.YtfpijfedodljfaaDoorB5
import Derived.Test.YtfpijfedodljfaaDoorRows
import Derived.Test.YtfpijfedodljfaaDoorCards
import Derived.Test.YtfpijfedodljfaaDoorTie
import Derived.WalkKit
import Derived.ProofKit
import Derived.OpenShut
import Derived.Deep.DeepHandedRow
import Derived.Lib.LaidTab
import Derived.Lib.AppendIntMem
set_option linter.unusedVariables false
set_option linter.unusedSimpArgs false
set_option maxRecDepth 100000
set_option maxHeartbeats 8000000
namespace Go.Proofs.YtfpijfedodljfaaDoor
open Go Go.RowKit Am

def entL (x : Idt) : List UInt8 := x.a.data.toList ++ 46 :: Lib.decDigits x.n.toNat
def entB (x : Idt) : ByteArray := ⟨(entL x).toArray⟩
def okV (v : List Idt) : Prop := v.length ≤ 1048576 ∧ ∀ x ∈ v, 1 ≤ x.n ∧ x.n ≤ 9223372036854775807 ∧ x.a.size ≤ 1048576
theorem join_snoc (l : List (List UInt8)) (y sep : List UInt8) (h : l ≠ []) : Lib.join (l ++ [y]) sep = Lib.join l sep ++ (sep ++ y) := by
  cases l with
  | nil => exact absurd rfl h
  | cons x r => rw [List.cons_append, Lib.join_cons, Lib.join_cons]; simp [Lib.joinTail]
def sB (v : List Idt) (i : Nat) : ByteArray := ⟨(Lib.join ((v.take i).map entL) [32]).toArray⟩
theorem entB_dec (x : Idt) : x.a ++ ⟨#[46]⟩ ++ decB x.n.toNat = entB x := by
  apply ByteArray.ext
  simp [entB, entL, decB]
theorem entB_itoa (x : Idt) (h : 1 ≤ x.n) : x.a ++ ⟨#[46]⟩ ++ itoaB x.n = entB x := by
  rw [← entB_dec]
  congr 1
  unfold itoaB decB Lib.itoa
  rw [if_neg (by omega)]
theorem sB_zero (v : List Idt) (h : 0 < v.length) : ⟨#[]⟩ ++ v[0].a ++ ⟨#[46]⟩ ++ decB v[0].n.toNat = sB v 1 := by
  have h1 : v.take 1 = [v[0]] := by cases v with
    | nil => exact absurd h (by simp)
    | cons x r => simp
  apply ByteArray.ext
  simp [sB, h1, Lib.join_one, entL, decB]
theorem sB_succ (v : List Idt) (i : Nat) (h : i < v.length) (hi : 0 < i) : sB v i ++ ⟨#[32]⟩ ++ v[i].a ++ ⟨#[46]⟩ ++ decB v[i].n.toNat = sB v (i + 1) := by
  have h1 : v.take (i + 1) = v.take i ++ [v[i]] := List.take_succ_eq_append_getElem h
  have h2 : (v.take i).map entL ≠ [] := by simp; constructor <;> intro hh <;> simp_all
  apply ByteArray.ext
  simp only [sB, h1, List.map_append, List.map_cons, List.map_nil, join_snoc _ _ _ h2]
  simp [entL, decB]
theorem entL_len {x : Idt} (h : 1 ≤ x.n ∧ x.n ≤ 9223372036854775807 ∧ x.a.size ≤ 1048576) : (entL x).length ≤ 1048600 := by
  have h1 : (Lib.decDigits x.n.toNat).length ≤ 20 := by rw [Lib.decDigits_length]; exact Lib.nDigits_le20 _ (by omega)
  have h2 : x.a.data.toList.length = x.a.size := rfl
  simp only [entL, List.length_append, List.length_cons]
  omega
theorem lens_le : ∀ (l : List Idt), (∀ x ∈ l, 1 ≤ x.n ∧ x.n ≤ 9223372036854775807 ∧ x.a.size ≤ 1048576) → Lib.lens (l.map entL) ≤ l.length * 1048600
  | [], _ => by simp [Lib.lens]
  | x :: l, h => by
    have h1 := entL_len (h x (by simp))
    have h2 := lens_le l fun y hy => h y (by simp [hy])
    have h3 : Lib.lens ((x :: l).map entL) = (entL x).length + Lib.lens (l.map entL) := by simp [Lib.lens]
    rw [h3, List.length_cons]
    omega
theorem join_le {v : List Idt} (h : okV v) (i : Nat) : (Lib.join ((v.take i).map entL) [32]).length ≤ 1099999999999 := by
  have h1 := lens_le (v.take i) fun x hx => h.2 x (List.mem_of_mem_take hx)
  have h2 : (v.take i).length ≤ 1048576 := by have := h.1; simp; omega
  cases hv : (v.take i).map entL with
  | nil => simp [Lib.join_nil]
  | cons x r =>
    have h3 : r.length + 1 = (v.take i).length := by have := congrArg List.length hv; simpa using this.symm
    rw [Lib.join_length, ← hv]
    simp only [List.length_cons, List.length_nil]
    omega
theorem sB_size {v : List Idt} (h : okV v) (i : Nat) : (sB v i).size ≤ 1099999999999 := by
  have := join_le h i
  show (Lib.join ((v.take i).map entL) [32]).toArray.size ≤ _
  simpa using this
theorem sB_pos {v : List Idt} {i : Nat} (hv : 0 < v.length) (hi : 0 < i) : ((sB v i).toList == (⟨#[]⟩ : ByteArray).toList) = false := by
  have h0 : (Lib.join ((v.take i).map entL) [32]) ≠ [] := by
    cases v with
    | nil => exact absurd hv (by simp)
    | cons x r =>
      obtain ⟨k, rfl⟩ : ∃ k, i = k + 1 := ⟨i - 1, by omega⟩
      rw [List.take_succ_cons, List.map_cons, Lib.join_cons]
      simp [entL]
  rw [beq_eq_false_iff_ne, ByteArray.toList_eq, ByteArray.toList_eq]
  simpa [sB] using h0
def fmtF (v : List Idt) : ByteArray := if v.length = 0 then ⟨#[45]⟩ else sB v v.length
def fmtS : Fspec := fun _ ds r => ∃ v : List Idt, okV v ∧ ds = [encIds v] ∧ r = .s (.string (fmtF v))
theorem text_sound {plain : TypeId → Bool} {Γ : FuncId → Option Fspec} {Δ : FuncId → Option Pt} (hE : EnvOk ⟨Tryd.prog, plain, Γ, Δ, fun _ => none, 0⟩) (g_dec : Γ 34 = some decT) : Sound Tryd.prog 15 fmtS := by
  refine sound_of_awp hE Tryd.func15 rfl (by kernel_rfl) ?_
  rintro Φ ds r ⟨v, hv, rfl, rfl⟩
  refine ⟨by simp [Tryd.f15], ?_⟩
  unfold st0 encIds
  refine W.out (E := ⟨Tryd.prog, plain, Γ, Δ, Φ, _⟩) ?_
  have hr := encId_rows v
  have hvl := hv.1
  have z1 : (⟨#[46]⟩ : ByteArray).size = 1 := rfl
  have z2 : (⟨#[32]⟩ : ByteArray).size = 1 := rfl
  have z3 : (⟨#[]⟩ : ByteArray).size = 0 := rfl
  refine go trivial ?_
  refine x_loop (fun σ => ∃ (i : Nat), σ.t 0 = .sl (v.map encId) ∧ σ.t 3 = .s (.string (sB v i)) ∧ σ.t 4 = .s (.int .i64 i) ∧ i ≤ v.length) (fun σ => v.length - ix (σ.t 4)) ⟨0, (by first | assumption | exact sxa trivial), (by first | assumption | exact sxa trivial), (by first | assumption | exact sxa trivial), (by first | rfl | omega | assumption | (simp [*]; done))⟩ ?_
  rintro t h n ⟨i, h0, h3, h4, hf0⟩
  simp only at h0 h3 h4
  refine go (And.intro h0 (And.intro h3 h4)) ?_
  refine x_condP (sv (And.intro h0 (And.intro h3 h4))) (fun hc => ?_) (fun hc => ?_)
  · have hi : i < v.length := by omega
    have hx := hv.2 _ (List.getElem_mem hi)
    have hss := sB_size hv i
    have hds := decB_size v[i].n.toNat (by omega)
    have hn1 : ([.s (.int .i64 v[i].n)] : List Am.V) = [.s (.int .i64 ((v[i].n.toNat : Nat) : Int))] := by rw [Int.toNat_of_nonneg (by omega)]
    by_cases c0 : 0 < i
    · have c0' : (0 < (i : Int)) = True := by simp; omega
      have hsu := sB_succ v i hi c0
      refine go (And.intro h0 (And.intro h3 (And.intro h4 (And.intro hr (And.intro @encId.eq_1 (And.intro c0' (And.intro z1 (And.intro z2 (@ByteArray.size_append))))))))) ?_
      refine x_callD rfl rfl rfl rfl rfl (sv trivial) g_dec (sv trivial) (se trivial) ⟨v[i].n.toNat, by omega, hn1, rfl⟩ rfl ?_
      refine go (And.intro h0 (And.intro h3 (And.intro h4 (And.intro hr (And.intro @encId.eq_1 (And.intro c0' (And.intro z1 (And.intro z2 (And.intro (@ByteArray.size_append) hsu))))))))) ?_
      (refine ⟨⟨i + 1, ?_, ?_, ?_, ?_⟩, ?_⟩ <;> (first | omega | (dsimp only; omega) | (first | omega | assumption | (simp [*]; done)) | exact sxa (And.intro @cast_succ hsu) | exact soa trivial))
    · have c0' : (0 < (i : Int)) = False := by simp; omega
      have e : i = 0 := by omega
      subst e
      have hsu := sB_zero v hi
      have ix0 : ix (.s (.int .i64 0)) = 0 := rfl
      have ix1 : ix (.s (.int .i64 1)) = 1 := rfl
      have hs0 : sB v 0 = ⟨#[]⟩ := rfl
      rw [hs0] at h3
      refine go (And.intro h0 (And.intro h3 (And.intro h4 (And.intro hr (And.intro @encId.eq_1 (And.intro c0' (And.intro z1 (And.intro z2 (And.intro z3 (@ByteArray.size_append)))))))))) ?_
      refine x_callD rfl rfl rfl rfl rfl (sv trivial) g_dec (sv trivial) (se trivial) ⟨v[0].n.toNat, by omega, hn1, rfl⟩ rfl ?_
      refine go (And.intro h0 (And.intro h3 (And.intro h4 (And.intro hr (And.intro @encId.eq_1 (And.intro c0' (And.intro z1 (And.intro z2 (And.intro z3 (And.intro (@ByteArray.size_append) hsu)))))))))) ?_
      (refine ⟨⟨0 + 1, ?_, ?_, ?_, ?_⟩, ?_⟩ <;> (first | omega | (dsimp only; omega) | ((simp only [ix0, ix1]; omega)) | exact sxa (And.intro @cast_succ (And.intro hsu (And.intro ix0 ix1))) | exact soa trivial))
  · have e : i = v.length := by omega
    subst e
    by_cases hz : v.length = 0
    · have hv0 : v = [] := List.eq_nil_of_length_eq_zero hz
      subst hv0
      have hs0 : sB [] ([] : List Idt).length = ⟨#[]⟩ := rfl
      rw [hs0] at h3
      have hq : ((⟨#[]⟩ : ByteArray).toList == (⟨#[]⟩ : ByteArray).toList) = true := by simp
      refine go (And.intro h0 (And.intro h3 (And.intro h4 hq))) ?_
      refine x_done (x_out (sr (And.intro @Tryd.f15.eq_1 @fmtF.eq_1)) (by simp) (by simp) rfl)
    · have hq := sB_pos (v := v) (i := v.length) (by omega) (by omega)
      have hf : fmtF v = sB v v.length := by rw [fmtF, if_neg hz]
      refine go (And.intro h0 (And.intro h3 (And.intro h4 hq))) ?_
      refine x_done (x_out (sr (And.intro @Tryd.f15.eq_1 hf)) (by simp) (by simp) rfl)
theorem encS_okRow (x : ByteArray) : okRows 1 [encS x] := okRows_map encS [x] 1 fun a => ⟨rfl, by simp [encS, cellish]⟩
theorem encS_okRow' (x : ByteArray) : okRows 1 [[.s (.string x)]] := encS_okRow x
theorem fmt_sound {plain : TypeId → Bool} {Γ : FuncId → Option Fspec} {Δ : FuncId → Option Pt} (hE : EnvOk ⟨Tryd.prog, plain, Γ, Δ, fun _ => none, 0⟩) (g_itoa : Γ 32 = some itoaS) (hJ : Δ 33 = some joinT) : Sound Tryd.prog 14 fmtS := by
  refine sound_of_awp hE Tryd.func14 rfl (by kernel_rfl) ?_
  rintro Φ ds r ⟨v, hv, rfl, rfl⟩
  refine ⟨by simp [Tryd.f14], ?_⟩
  unfold st0 encIds
  refine W.out (E := ⟨Tryd.prog, plain, Γ, Δ, Φ, _⟩) ?_
  have hr := encId_rows v
  have hvl := hv.1
  have z1 : (⟨#[46]⟩ : ByteArray).size = 1 := rfl
  by_cases hz : v.length = 0
  · have hb : ((v.length : Int) == 0) = true := by simp [hz]
    refine go hb ?_
    refine x_done (x_out (sr (And.intro @Tryd.f14.eq_1 (And.intro @fmtF.eq_1 hz))) (by simp) (by simp) rfl)
  · have hb : ((v.length : Int) == 0) = false := beq_eq_false_iff_ne.2 (by omega)
    refine go hb ?_
    refine x_loopG 3 1 (fun σ => ∃ (i : Nat) (b : Nat) (cap : Nat) (sp : List (List Am.V)), σ.t 3 = .loc b 0 i cap ∧ σ.t 9 = .sl (v.map encId) ∧ σ.t 10 = .s (.int .i64 v.length) ∧ σ.t 11 = .s (.int .i64 i) ∧ σ.h b = some ⟨1, ((v.take i).map entB).map encS ++ sp, true⟩ ∧ b < σ.n ∧ i ≤ v.length ∧ i ≤ cap ∧ cap ≤ i + sp.length) (fun σ => v.length - ix (σ.t 11)) (sca trivial) ⟨0, _, 0, [], (by first | assumption | exact sxa trivial), (by first | assumption | exact sxa trivial), (by first | assumption | exact sxa trivial), (by first | assumption | exact sxa trivial), (by first | assumption | exact sxa trivial), (by first | omega | (dsimp only; omega) | exact soa trivial | omega | (simp; done)), (by first | rfl | omega | assumption | (simp [*]; done)), (by first | rfl | omega | assumption | (simp [*]; done)), (by first | rfl | omega | assumption | (simp [*]; done))⟩ ?_
    rintro t h n ⟨i, b, cap, sp, h3, h9, h10, h11, hhb, hn1, hf0, hf1, hf2⟩
    simp only at h3 h9 h10 h11 hhb hn1
    refine go (And.intro h3 (And.intro h9 (And.intro h10 h11))) ?_
    refine x_condP (sv (And.intro h3 (And.intro h9 (And.intro h10 h11)))) (fun hc => ?_) (fun hc => ?_)
    · have hi : i < v.length := by omega
      have hx := hv.2 _ (List.getElem_mem hi)
      have htk : (v.take (i + 1)).map entB = (v.take i).map entB ++ [entB v[i]] := by rw [List.take_succ_eq_append_getElem hi, List.map_append, List.map_cons, List.map_nil]
      have hsz := Lib.itoa_length_le v[i].n (by omega) (by omega)
      have hsz2 : (itoaB v[i].n).size ≤ 21 := by show (Lib.itoa v[i].n).toArray.size ≤ 21; simpa using hsz
      generalize hmm : v[i] = m at *
      have hent := entB_itoa m hx.1
      have e1 : (b = n) = False := by simp; omega
      have e2 : (b = n + 1) = False := by simp; omega
      have e3 : (n = b) = False := by simp; omega
      have e4 : (n + 1 = b) = False := by simp; omega
      refine go (And.intro h3 (And.intro h9 (And.intro h10 (And.intro h11 (And.intro hhb (And.intro hr (And.intro hmm (And.intro @encId.eq_1 (And.intro z1 (And.intro e1 (And.intro e2 (And.intro e3 (And.intro e4 (@ByteArray.size_append)))))))))))))) ?_
      refine x_callD rfl rfl rfl rfl rfl (sv trivial) g_itoa (sv trivial) (se trivial) ⟨m.n, by omega, by omega, rfl, rfl⟩ rfl ?_
      refine go (And.intro h3 (And.intro h9 (And.intro h10 (And.intro h11 (And.intro hhb (And.intro hr (And.intro hmm (And.intro @encId.eq_1 (And.intro z1 (And.intro e1 (And.intro e2 (And.intro e3 (And.intro e4 (And.intro (@ByteArray.size_append) hent)))))))))))))) ?_
      refine x_appendO rfl rfl rfl rfl rfl rfl (sv (And.intro h3 (And.intro hhb (And.intro e1 (And.intro e2 (And.intro e3 e4)))))) (by decide) (sc (And.intro h3 (And.intro hhb (And.intro e1 (And.intro e2 (And.intro e3 e4)))))) (sv (And.intro h3 (And.intro hhb (And.intro e1 (And.intro e2 (And.intro e3 e4)))))) (sx (And.intro h3 (And.intro hhb (And.intro e1 (And.intro e2 (And.intro e3 e4)))))) (by first | rfl | (simp; done) | (simp [spare_len]; omega)) (by first | omega | (simp; done) | (simp [spare_len]; omega)) (by first | omega | (simp; done) | (simp [spare_len]; omega)) (sx (And.intro h3 (And.intro hhb (And.intro e1 (And.intro e2 (And.intro e3 e4)))))) (encS_okRow' (entB m)) (by first | omega | (simp; done) | (simp [spare_len]; omega)) (fun cap' hcap' => ?_)
      refine go (And.intro h3 (And.intro h9 (And.intro h10 (And.intro h11 (And.intro hhb (And.intro hr (And.intro hmm (And.intro @encId.eq_1 (And.intro z1 (And.intro e1 (And.intro e2 (And.intro e3 e4)))))))))))) ?_
      have hc2 : i + 1 ≤ cap' := hcap'
      have hs1 := spare_len 1 (cap' - (i + 1))
      have hmp : ((v.take (i + 1)).map entB).map encS = ((v.take i).map entB).map encS ++ [[.s (.string (entB m))]] := by rw [htk, List.map_append]; rfl
      have htl : (List.take i v).length = i := by simp; omega
      clear htk
      (refine ⟨⟨i + 1, n + 1 + 1, cap', spare 1 (cap' - (i + 1)), ?_, ?_, ?_, ?_, ?_, ?_, ?_, ?_, ?_⟩, ?_⟩ <;> (first | omega | (dsimp only; omega) | ((exact so (And.intro @cast_succ (And.intro e1 h11)))) | exact sxa (And.intro @cast_succ (And.intro hmp (And.intro htl (And.intro e1 (And.intro e2 (And.intro e3 e4)))))) | exact soa trivial))
    · have e : i = v.length := by omega
      subst e
      rw [List.take_length] at hhb
      have hj := join_le hv v.length
      rw [List.take_length] at hj
      have hfm : joinB (v.map entB) ⟨#[32]⟩ = fmtF v := by
        rw [fmtF, if_neg hz, sB, joinB, List.take_length, List.map_map]
        rfl
      have hj2 : (Lib.join ((v.map entB).map (·.data.toList)) (⟨#[32]⟩ : ByteArray).data.toList).length ≤ 140737488355328 := by
        rw [List.map_map]
        show (Lib.join (v.map entL) [32]).length ≤ 140737488355328
        omega
      skip
      refine go (And.intro h3 (And.intro h9 (And.intro h10 h11))) ?_
      refine x_callI rfl rfl rfl rfl (sv trivial) hJ (sv trivial) ⟨b, cap, v.map entB, sp, ⟨#[32]⟩, (by rw [List.length_map]), by rw [List.length_map]; omega, hhb, by rw [List.length_map]; omega, hj2, ?_⟩
      rw [hfm]
      refine go trivial ?_
      refine x_done (x_out (sr @Tryd.f14.eq_1) (by simp) (by simp) rfl)
end Go.Proofs.YtfpijfedodljfaaDoor

set_option linter.unusedVariables false
set_option linter.unusedSimpArgs false
set_option maxRecDepth 100000
set_option maxHeartbeats 8000000
namespace Go.Proofs.YtfpijfedodljfaaDoor
open Go Go.RowKit Am

def totF : List Idt → Int
  | [] => 0
  | x :: v => (10 + (x.a.size : Int)) + totF v
theorem tot_snoc : ∀ (v : List Idt) (x : Idt), totF (v ++ [x]) = totF v + (10 + (x.a.size : Int))
  | [], x => by simp [totF]
  | y :: v, x => by rw [List.cons_append, totF, totF, tot_snoc v x]; omega
theorem tot_pos : ∀ v : List Idt, 0 ≤ totF v
  | [] => by simp [totF]
  | x :: v => by have := tot_pos v; rw [totF]; omega
def smV (v : List Idt) : Prop := v.length ≤ 1048576 ∧ ∀ x ∈ v, x.a.size ≤ 1048576
theorem tot_le {v : List Idt} (h : smV v) : ∀ i, i ≤ v.length → totF (v.take i) ≤ (i : Int) * 1048600
  | 0, _ => by simp [totF]
  | i + 1, hi => by
    have h1 := tot_le h i (by omega)
    have h2 := h.2 _ (List.getElem_mem (show i < v.length by omega))
    rw [List.take_succ_eq_append_getElem (show i < v.length by omega), tot_snoc]
    omega
def greatF (vs : List (List Idt)) : Int := if vs.any (fun v => decide (600 < totF v)) then 1 else 0
def encVs (v : List Idt) : List Am.V := [.sl (v.map encId)]
theorem encVs_rows (vs : List (List Idt)) : (∀ r ∈ vs.map encVs, r.length = 1) = True := rows_map _ _ _ fun _ => rfl
def greatS : Fspec := fun _ ds r => ∃ vs : List (List Idt), vs.length ≤ 1048576 ∧ (∀ v ∈ vs, smV v) ∧ ds = [.sl (vs.map encVs)] ∧ r = .s (.int .i64 (greatF vs))
theorem great_sound {plain : TypeId → Bool} {Γ : FuncId → Option Fspec} {Δ : FuncId → Option Pt} (hE : EnvOk ⟨Tryd.prog, plain, Γ, Δ, fun _ => none, 0⟩) : Sound Tryd.prog 24 greatS := by
  refine sound_of_awp hE Tryd.func24 rfl (by kernel_rfl) ?_
  rintro Φ ds r ⟨vs, hl, hs, rfl, rfl⟩
  refine ⟨by simp [Tryd.f24], ?_⟩
  unfold st0
  refine W.out (E := ⟨Tryd.prog, plain, Γ, Δ, Φ, _⟩) ?_
  have hr := encVs_rows vs
  refine go trivial ?_
  refine x_loop (fun σ => ∃ (i : Nat), σ.t 8 = .sl (vs.map encVs) ∧ σ.t 9 = .s (.int .i64 vs.length) ∧ σ.t 10 = .s (.int .i64 i) ∧ i ≤ vs.length ∧ greatF (vs.drop i) = greatF vs) (fun σ => vs.length - ix (σ.t 10)) ⟨0, (by first | assumption | exact sxa trivial), (by first | assumption | exact sxa trivial), (by first | assumption | exact sxa trivial), (by first | rfl | omega | assumption | (simp [*]; done)), (by first | rfl | omega | assumption | (simp [*]; done))⟩ ?_
  rintro t h n ⟨i, h8, h9, h10, hf0, hf1⟩
  simp only at h8 h9 h10
  refine go (And.intro h8 (And.intro h9 h10)) ?_
  refine x_condP (sv (And.intro h8 (And.intro h9 h10))) (fun hc => ?_) (fun hc => ?_)
  · have hi : i < vs.length := by omega
    have hsv := hs _ (List.getElem_mem hi)
    rw [List.drop_eq_getElem_cons hi, greatF, List.any_cons] at hf1
    generalize hmm : vs[i] = v at *
    have hrv := encId_rows v
    have hvl := hsv.1
    refine go (And.intro h8 (And.intro h9 (And.intro h10 (And.intro hr (And.intro hmm @encVs.eq_1))))) ?_
    refine x_loop (fun σ => ∃ (j : Nat), σ.t 8 = .sl (vs.map encVs) ∧ σ.t 9 = .s (.int .i64 vs.length) ∧ σ.t 10 = .s (.int .i64 i) ∧ σ.t 5 = .s (.int .i64 (totF (v.take j))) ∧ σ.t 14 = .sl (v.map encId) ∧ σ.t 15 = .s (.int .i64 v.length) ∧ σ.t 16 = .s (.int .i64 j) ∧ j ≤ v.length) (fun σ => v.length - ix (σ.t 16)) ⟨0, (by first | assumption | exact sxa trivial), (by first | assumption | exact sxa trivial), (by first | assumption | exact sxa trivial), (by first | assumption | exact sxa trivial), (by first | assumption | exact sxa trivial), (by first | assumption | exact sxa trivial), (by first | assumption | exact sxa trivial), (by first | rfl | omega | assumption | (simp [*]; done))⟩ ?_
    rintro t h2 n2 ⟨j, h8, h9, h10, h5, h14, h15, h16, hf0⟩
    simp only at h8 h9 h10 h5 h14 h15 h16
    refine go (And.intro h8 (And.intro h9 (And.intro h10 (And.intro h5 (And.intro h14 (And.intro h15 h16)))))) ?_
    refine x_condP (sv (And.intro h8 (And.intro h9 (And.intro h10 (And.intro h5 (And.intro h14 (And.intro h15 h16))))))) (fun hc => ?_) (fun hc => ?_)
    · have hj : j < v.length := by omega
      have hx := hsv.2 _ (List.getElem_mem hj)
      have ht := tot_le hsv j (by omega)
      have hp := tot_pos (v.take j)
      have htk : totF (v.take (j + 1)) = totF (v.take j) + (10 + (v[j].a.size : Int)) := by rw [List.take_succ_eq_append_getElem hj, tot_snoc]
      generalize totF (v.take j) = T at *
      generalize hm2 : v[j] = m at *
      refine go (And.intro h8 (And.intro h9 (And.intro h10 (And.intro h5 (And.intro h14 (And.intro h15 (And.intro h16 (And.intro hrv (And.intro hm2 @encId.eq_1))))))))) ?_
      (refine ⟨⟨j + 1, ?_, ?_, ?_, ?_, ?_, ?_, ?_, ?_⟩, ?_⟩ <;> (first | omega | (dsimp only; omega) | (first | omega | assumption | (simp [*]; done)) | exact sxa (And.intro @cast_succ htk) | exact soa trivial))
    · have e : j = v.length := by omega
      subst e
      rw [List.take_length] at h5
      skip
      cases hc6 : decide (600 < totF v)
      · rw [hc6, Bool.false_or] at hf1
        have hc7 : (600 < totF v) = False := by simpa using hc6
        refine go (And.intro h8 (And.intro h9 (And.intro h10 (And.intro h5 (And.intro h14 (And.intro h15 (And.intro h16 hc7))))))) ?_
        (refine ⟨⟨i + 1, ?_, ?_, ?_, ?_, ?_⟩, ?_⟩ <;> (first | omega | (dsimp only; omega) | ((exact hf1)) | exact sxa @cast_succ | exact soa trivial))
      · rw [hc6, Bool.true_or, if_pos rfl] at hf1
        have hc7 : (600 < totF v) = True := by simpa using hc6
        refine go (And.intro h8 (And.intro h9 (And.intro h10 (And.intro h5 (And.intro h14 (And.intro h15 (And.intro h16 hc7))))))) ?_
        refine x_done (x_out (sr (And.intro @Tryd.f24.eq_1 (hf1).symm)) (by simp) (by simp) rfl)
  · have e : i = vs.length := by omega
    subst e
    rw [List.drop_length] at hf1
    have hf' : greatF vs = 0 := by rw [← hf1]; rfl
    refine go (And.intro h8 (And.intro h9 h10)) ?_
    refine x_done (x_out (sr (And.intro @Tryd.f24.eq_1 hf')) (by simp) (by simp) rfl)
def rgtF (vs : List (List Idt)) : Bool := vs.all (fun v => chkF v == 0) && (greatF vs == 0)
def rgtS : Fspec := fun _ ds r => ∃ vs : List (List Idt), vs.length ≤ 1048576 ∧ (∀ v ∈ vs, smV v) ∧ ds = [.sl (vs.map encVs)] ∧ r = .s (.bool (rgtF vs))
theorem rgt_sound {plain : TypeId → Bool} {Γ : FuncId → Option Fspec} {Δ : FuncId → Option Pt} (hE : EnvOk ⟨Tryd.prog, plain, Γ, Δ, fun _ => none, 0⟩) (g_chk : Γ 26 = some chkS) (g_great : Γ 24 = some greatS) : Sound Tryd.prog 10 rgtS := by
  refine sound_of_awp hE Tryd.func10 rfl (by kernel_rfl) ?_
  rintro Φ ds r ⟨vs, hl, hs, rfl, rfl⟩
  refine ⟨by simp [Tryd.f10], ?_⟩
  unfold st0
  refine W.out (E := ⟨Tryd.prog, plain, Γ, Δ, Φ, _⟩) ?_
  have hr := encVs_rows vs
  refine go trivial ?_
  refine x_loop (fun σ => ∃ (i : Nat), σ.t 0 = .sl (vs.map encVs) ∧ σ.t 5 = .sl (vs.map encVs) ∧ σ.t 6 = .s (.int .i64 vs.length) ∧ σ.t 7 = .s (.int .i64 i) ∧ i ≤ vs.length ∧ (vs.drop i).all (fun v => chkF v == 0) = vs.all (fun v => chkF v == 0)) (fun σ => vs.length - ix (σ.t 7)) ⟨0, (by first | assumption | exact sxa trivial), (by first | assumption | exact sxa trivial), (by first | assumption | exact sxa trivial), (by first | assumption | exact sxa trivial), (by first | rfl | omega | assumption | (simp [*]; done)), (by first | rfl | omega | assumption | (simp [*]; done))⟩ ?_
  rintro t h n ⟨i, h0, h5, h6, h7, hf0, hf1⟩
  simp only at h0 h5 h6 h7
  refine go (And.intro h0 (And.intro h5 (And.intro h6 h7))) ?_
  refine x_condP (sv (And.intro h0 (And.intro h5 (And.intro h6 h7)))) (fun hc => ?_) (fun hc => ?_)
  · have hi : i < vs.length := by omega
    have hsv := hs _ (List.getElem_mem hi)
    rw [List.drop_eq_getElem_cons hi, List.all_cons] at hf1
    generalize hmm : vs[i] = v at *
    have hvl := hsv.1
    refine go (And.intro h0 (And.intro h5 (And.intro h6 (And.intro h7 (And.intro hr (And.intro hmm @encVs.eq_1)))))) ?_
    refine x_callN rfl rfl rfl rfl (sv trivial) g_chk (sv trivial) (se trivial) ⟨v, by omega, fun x hx => by have := hsv.2 x hx; omega, rfl, rfl⟩ rfl ?_
    cases hb : (chkF v == 0)
    · rw [hb, Bool.false_and] at hf1
      have hb' : (chkF v != 0) = true := by simp [bne, hb]
      have hf' : rgtF vs = false := by rw [rgtF, ← hf1, Bool.false_and]
      refine go (And.intro h0 (And.intro h5 (And.intro h6 (And.intro h7 hb')))) ?_
      refine x_done (x_out (sr (And.intro @Tryd.f10.eq_1 hf')) (by simp) (by simp) rfl)
    · rw [hb, Bool.true_and] at hf1
      have hb' : (chkF v != 0) = false := by simp [bne, hb]
      refine go (And.intro h0 (And.intro h5 (And.intro h6 (And.intro h7 hb')))) ?_
      (refine ⟨⟨i + 1, ?_, ?_, ?_, ?_, ?_, ?_⟩, ?_⟩ <;> (first | omega | (dsimp only; omega) | ((exact hf1)) | exact sxa @cast_succ | exact soa trivial))
  · have e : i = vs.length := by omega
    subst e
    rw [List.drop_length, List.all_nil] at hf1
    refine go (And.intro h0 (And.intro h5 (And.intro h6 h7))) ?_
    refine x_callS rfl rfl rfl rfl (sv trivial) g_great (sv trivial) (se trivial) ⟨vs, hl, hs, rfl, rfl⟩ (by simp) (by simp [touchA, touch]) ?_
    have hf' : rgtF vs = (greatF vs == 0) := by rw [rgtF, ← hf1, Bool.true_and]
    refine go trivial ?_
    refine x_done (x_out (sr (And.intro @Tryd.f10.eq_1 hf')) (by simp) (by simp) rfl)
end Go.Proofs.YtfpijfedodljfaaDoor

set_option linter.unusedVariables false
set_option linter.unusedSimpArgs false
set_option maxRecDepth 100000
set_option maxHeartbeats 8000000
namespace Go.Proofs.YtfpijfedodljfaaDoor
open Go Go.RowKit Am

def fxA : List Idt := [⟨⟨#[97, 110, 110]⟩, 3⟩, ⟨⟨#[98, 111, 98]⟩, 1⟩]
def fxB : List Idt := [⟨⟨#[97, 110, 110]⟩, 1⟩, ⟨⟨#[99, 105, 100]⟩, 2⟩]
def fixS : Fspec := fun _ ds r => ds = [] ∧ r = .s (.bool true)
theorem fix_ok : okV (mergeF fxA fxB) := by
  have h : mergeF fxA fxB = [⟨⟨#[97, 110, 110]⟩, 3⟩, ⟨⟨#[98, 111, 98]⟩, 1⟩, ⟨⟨#[99, 105, 100]⟩, 2⟩] := by kernel_rfl
  rw [h]
  refine ⟨by simp, fun x hx => ?_⟩
  simp only [List.mem_cons, List.not_mem_nil, or_false] at hx
  rcases hx with rfl | rfl | rfl <;> exact ⟨by decide, by decide, by decide⟩
theorem fix_sound {plain : TypeId → Bool} {Γ : FuncId → Option Fspec} {Δ : FuncId → Option Pt} (hE : EnvOk ⟨Tryd.prog, plain, Γ, Δ, fun _ => none, 0⟩) (g_merge : Γ 21 = some mergeS) (g_fmt : Γ 14 = some fmtS) (g_cov : Γ 20 = some covS) : Sound Tryd.prog 11 fixS := by
  refine sound_of_awp hE Tryd.func11 rfl (by kernel_rfl) ?_
  rintro Φ ds r ⟨rfl, rfl⟩
  refine ⟨by simp [Tryd.f11], ?_⟩
  unfold st0
  refine W.out (E := ⟨Tryd.prog, plain, Γ, Δ, Φ, _⟩) ?_
  have hA : ([[.s (.string ⟨#[97, 110, 110]⟩), .s (.int .i64 3)], [.s (.string ⟨#[98, 111, 98]⟩), .s (.int .i64 1)]] : List (List Am.V)) = fxA.map encId := rfl
  have hB : ([[.s (.string ⟨#[97, 110, 110]⟩), .s (.int .i64 1)], [.s (.string ⟨#[99, 105, 100]⟩), .s (.int .i64 2)]] : List (List Am.V)) = fxB.map encId := rfl
  refine go trivial ?_
  refine x_callG rfl rfl rfl rfl (sv trivial) g_merge (sv trivial) (se trivial) ⟨fxA, fxB, by decide, by decide, rfl, rfl⟩ (by simp) (fun h2 hold hkeep => ?_)
  obtain ⟨q0, hb0⟩ := hkeep 0 _ rfl
  obtain ⟨q1, hb1⟩ := hkeep 1 _ rfl
  clear hold hkeep
  refine go (And.intro hb0 hb1) ?_
  refine x_callN rfl rfl rfl rfl (sv trivial) g_fmt (sv trivial) (se trivial) ⟨_, fix_ok, rfl, rfl⟩ rfl ?_
  have f1 : fmtF (mergeF fxA fxB) = ⟨#[97, 110, 110, 46, 51, 32, 98, 111, 98, 46, 49, 32, 99, 105, 100, 46, 50]⟩ := by kernel_rfl
  rw [f1]
  have f2 : ((⟨#[97, 110, 110, 46, 51, 32, 98, 111, 98, 46, 49, 32, 99, 105, 100, 46, 50]⟩ : ByteArray).toList == (⟨#[97, 110, 110, 46, 51, 32, 98, 111, 98, 46, 49, 32, 99, 105, 100, 46, 50]⟩ : ByteArray).toList) = true := by simp
  refine go (And.intro hb0 (And.intro hb1 f2)) ?_
  refine x_callN rfl rfl rfl rfl (sv (And.intro hb0 hb1)) g_cov (sv (And.intro hb0 hb1)) (se (And.intro hb0 hb1)) ⟨fxA, fxB, by decide, by decide, rfl, rfl⟩ rfl ?_
  have f3 : covF fxA fxB = false := by kernel_rfl
  rw [f3]
  refine go (And.intro hb0 hb1) ?_
  refine x_callN rfl rfl rfl rfl (sv (And.intro hb0 hb1)) g_cov (sv (And.intro hb0 hb1)) (se (And.intro hb0 hb1)) ⟨fxB, fxA, by decide, by decide, rfl, rfl⟩ rfl ?_
  have f4 : covF fxB fxA = false := by kernel_rfl
  rw [f4]
  refine go (And.intro hb0 hb1) ?_
  refine x_callN rfl rfl rfl rfl (sv trivial) g_fmt (sv trivial) (se trivial) ⟨[], ⟨by simp, by simp⟩, rfl, rfl⟩ rfl ?_
  have f5 : fmtF [] = ⟨#[45]⟩ := rfl
  rw [f5]
  have f6 : ((⟨#[45]⟩ : ByteArray).toList == (⟨#[45]⟩ : ByteArray).toList) = true := by simp
  refine go (And.intro hb0 (And.intro hb1 f6)) ?_
  refine x_done (x_out (sr @Tryd.f11.eq_1) (by simp) (by simp) rfl)
end Go.Proofs.YtfpijfedodljfaaDoor

set_option linter.unusedVariables false
set_option linter.unusedSimpArgs false
namespace Go.Proofs.YtfpijfedodljfaaDoor
open Go Go.RowKit Am

/-- A comparison that answers xs an order of keys does. -/
structure OrdC {α κ : Type} (key : α → κ) (c : α → α → Int) : Prop where
  z : ∀ a b, c a b = 0 ↔ key a = key b
  an : ∀ a b, c a b < 0 ↔ 0 < c b a
  tr : ∀ a b d, c a b < 0 → c b d < 0 → c a d < 0
namespace OrdC
variable {α κ : Type} {key : α → κ} {c : α → α → Int}
theorem congL (o : OrdC key c) {a b : α} (d : α) (h : key a = key b) (h1 : c b d < 0) : c a d < 0 := by
  have hz := (o.z a b).2 h
  have hz2 := (o.z b a).2 h.symm
  rcases Int.lt_trichotomy (c a d) 0 with h2 | h2 | h2
  · exact h2
  · have := (o.z a d).1 h2
    have := (o.z b d).2 (h.symm.trans this)
    omega
  · have h3 := (o.an d a).2 h2
    have := o.tr b d a h1 h3
    omega
theorem congR (o : OrdC key c) {a b : α} (d : α) (h : key a = key b) (h1 : c d b < 0) : c d a < 0 := by
  have hz2 := (o.z b a).2 h.symm
  rcases Int.lt_trichotomy (c d a) 0 with h2 | h2 | h2
  · exact h2
  · have := (o.z d a).1 h2
    have := (o.z d b).2 (this.trans h)
    omega
  · have h3 := (o.an a d).2 h2
    have := o.tr a d b h3 h1
    have := (o.z a b).2 h
    omega
theorem comap {β : Type} (o : OrdC key c) (f : β → α) : OrdC (fun x => key (f x)) (fun x y => c (f x) (f y)) :=
  ⟨fun a b => o.z _ _, fun a b => o.an _ _, fun a b d => o.tr _ _ _⟩
theorem lex {κ' : Type} {key' : α → κ'} {c' : α → α → Int} (o : OrdC key c) (o' : OrdC key' c') : OrdC (fun x => (key x, key' x)) (fun x y => orF [c x y, c' x y]) := by
  have e : ∀ x y, orF [c x y, c' x y] = if c x y = 0 then c' x y else c x y := by
    intro x y
    simp only [orF]
    split
    · split <;> simp_all
    · rfl
  refine ⟨fun a b => ?_, fun a b => ?_, fun a b d => ?_⟩
  · simp only [e, Prod.mk.injEq, ← o.z, ← o'.z]
    split <;> simp_all
  · have h1 := o.an a b; have h2 := o.an b a; have h3 := o'.an a b
    simp only [e]
    by_cases h : c a b = 0
    · have h4 : c b a = 0 := by omega
      simp [h, h4, h3]
    · have h4 : ¬ c b a = 0 := by omega
      simp [h, h4, h1]
  · simp only [e]
    intro h1 h2
    by_cases ha : c a b = 0
    · rw [if_pos ha] at h1
      by_cases hb : c b d = 0
      · rw [if_pos hb] at h2
        have hk := ((o.z a b).1 ha).trans ((o.z b d).1 hb)
        rw [if_pos ((o.z a d).2 hk)]
        exact o'.tr a b d h1 h2
      · rw [if_neg hb] at h2
        have := o.congL d ((o.z a b).1 ha) h2
        rw [if_neg (by omega)]
        exact this
    · rw [if_neg ha] at h1
      by_cases hb : c b d = 0
      · have := o.congR a ((o.z b d).1 hb).symm h1
        rw [if_neg (by omega)]
        exact this
      · rw [if_neg hb] at h2
        have := o.tr a b d h1 h2
        rw [if_neg (by omega)]
        exact this
end OrdC
theorem cmpBytes_z : ∀ a b : List UInt8, Lib.compareBytes a b = 0 ↔ a = b
  | [], [] => by simp [Lib.compareBytes]
  | [], b :: bs => by simp [Lib.compareBytes]
  | a :: xs, [] => by simp [Lib.compareBytes]
  | a :: xs, b :: bs => by
    simp only [Lib.compareBytes, List.cons.injEq]
    split
    · rename_i h
      have : a ≠ b := by rintro rfl; simp at h
      simp [this]
    · split
      · rename_i h
        have : a ≠ b := by rintro rfl; simp at h
        simp [this]
      · rename_i h1 h2
        have : a = b := UInt8.le_antisymm (UInt8.not_lt.1 h2) (UInt8.not_lt.1 h1)
        simp [this, cmpBytes_z xs bs]
theorem cmpBytes_as : ∀ a b : List UInt8, Lib.compareBytes a b < 0 ↔ 0 < Lib.compareBytes b a
  | [], [] => by simp [Lib.compareBytes]
  | [], b :: bs => by simp [Lib.compareBytes]
  | a :: xs, [] => by simp [Lib.compareBytes]
  | a :: xs, b :: bs => by
    simp only [Lib.compareBytes]
    by_cases h1 : a < b
    · have h2 : ¬ b < a := UInt8.not_lt.2 (UInt8.le_of_lt h1)
      simp [h1, h2]
    · by_cases h2 : b < a
      · simp [h1, h2]
      · simp [h1, h2, cmpBytes_as xs bs]
theorem cmpBytes_tr : ∀ a b d : List UInt8, Lib.compareBytes a b < 0 → Lib.compareBytes b d < 0 → Lib.compareBytes a d < 0
  | _, _, [], _, h => by rename_i b _; cases b <;> simp [Lib.compareBytes] at h
  | [], _, d :: ds, _, _ => by simp [Lib.compareBytes]
  | a :: xs, [], d :: ds, h, _ => by simp [Lib.compareBytes] at h
  | a :: xs, b :: bs, d :: ds, h1, h2 => by
    simp only [Lib.compareBytes] at h1 h2 ⊢
    by_cases hab : a < b
    · by_cases hbd : b < d
      · have : a < d := UInt8.lt_trans hab hbd
        simp [this]
      · by_cases hdb : d < b
        · simp [hbd, hdb] at h2
        · have e : b = d := UInt8.le_antisymm (UInt8.not_lt.1 hdb) (UInt8.not_lt.1 hbd)
          subst e
          simp [hab]
    · by_cases hba : b < a
      · simp [hab, hba] at h1
      · have e : a = b := UInt8.le_antisymm (UInt8.not_lt.1 hba) (UInt8.not_lt.1 hab)
        subst e
        simp only [hab, if_false] at h1
        by_cases had : a < d
        · simp [had]
        · by_cases hda : d < a
          · simp [had, hda] at h2
          · simp only [had, hda, if_false] at h2 ⊢
            exact cmpBytes_tr xs bs ds h1 h2
theorem ordB : OrdC (fun a : ByteArray => a) cmpB := ⟨fun a b => by rw [cmpB, cmpBytes_z]; exact ⟨Go.WideShapes.bytes_inj, fun h => by rw [h]⟩, fun a b => cmpBytes_as _ _, fun a b d => cmpBytes_tr _ _ _⟩
theorem ordI : OrdC (fun a : Int => a) cmpI := ⟨fun a b => by unfold cmpI; constructor <;> intro h <;> (try split at h) <;> (try split at h) <;> (try split) <;> (try split) <;> omega, fun a b => by unfold cmpI; constructor <;> intro h <;> (try split at h) <;> (try split at h) <;> (try split) <;> (try split) <;> omega, fun a b d h1 h2 => by unfold cmpI at *; (try split at h1) <;> (try split at h1) <;> (try split at h2) <;> (try split at h2) <;> (try split) <;> (try split) <;> omega⟩
end Go.Proofs.YtfpijfedodljfaaDoor

set_option linter.unusedVariables false
set_option linter.unusedSimpArgs false
namespace Go.Proofs.YtfpijfedodljfaaDoor
open Go Go.RowKit Am

theorem bsF_eq (c : Nat → Int) (p : Nat) : ∀ (d i j : Nat), j - i ≤ d → i ≤ p → p ≤ j → (∀ k, i ≤ k → k < p → c k < 0) → (∀ k, p ≤ k → k < j → ¬ c k < 0) → bsF c i j = p
  | 0, i, j, hd, h1, h2, _, _ => by
    rw [bsF, if_neg (by omega)]
    omega
  | d + 1, i, j, hd, h1, h2, h3, h4 => by
    rw [bsF]
    split
    · rename_i hij
      split
      · rename_i hc
        have : (i + j) / 2 < p := by
          rcases Nat.lt_or_ge ((i + j) / 2) p with h | h
          · exact h
          · exact absurd hc (h4 _ h (by omega))
        exact bsF_eq c p d _ _ (by omega) (by omega) h2 (fun k k1 k2 => h3 k (by omega) k2) h4
      · rename_i hc
        have : p ≤ (i + j) / 2 := by
          rcases Nat.lt_or_ge ((i + j) / 2) p with h | h
          · exact absurd (h3 _ (by omega) h) hc
          · exact h
        exact bsF_eq c p d _ _ (by omega) h1 this h3 (fun k k1 k2 => h4 k k1 (by omega))
    · omega
theorem bsF_lb (c : Nat → Int) (n : Nat) (mono : ∀ k m, k ≤ m → m < n → c m < 0 → c k < 0) : ∀ (d i j : Nat), j - i ≤ d → i ≤ j → j ≤ n → (∀ k, k < i → c k < 0) → (∀ k, j ≤ k → k < n → ¬ c k < 0) → (∀ k, k < bsF c i j → c k < 0) ∧ (∀ k, bsF c i j ≤ k → k < n → ¬ c k < 0)
  | 0, i, j, hd, h1, h2, h3, h4 => by
    rw [bsF, if_neg (by omega)]
    exact ⟨h3, fun k k1 => h4 k (by omega)⟩
  | d + 1, i, j, hd, h1, h2, h3, h4 => by
    rw [bsF]
    split
    · rename_i hij
      split
      · rename_i hc
        exact bsF_lb c n mono d _ _ (by omega) (by omega) h2 (fun k k1 => mono k _ (by omega) (by omega) hc) h4
      · rename_i hc
        exact bsF_lb c n mono d _ _ (by omega) (by omega) (by omega) h3 (fun k k1 k2 h => hc (mono _ k k1 k2 h))
    · exact ⟨h3, fun k k1 => h4 k (by omega)⟩
theorem lbeq (a b : ByteArray) : (a.toList == b.toList) = decide (a = b) := by
  rw [ByteArray.toList_eq, ByteArray.toList_eq]
  by_cases h : a = b
  · simp [h]
  · have : ¬ a.data.toList = b.data.toList := fun h1 => h (Go.WideShapes.bytes_inj h1)
    rw [beq_eq_false_iff_ne.2 this, decide_eq_false h]
theorem bless : ∀ x y : List UInt8, Op.bytesLess x y = decide (Lib.compareBytes x y < 0)
  | [], [] => by simp [Op.bytesLess, Lib.compareBytes]
  | _ :: _, [] => by simp [Op.bytesLess, Lib.compareBytes]
  | [], _ :: _ => by simp [Op.bytesLess, Lib.compareBytes]
  | a :: x, b :: y => by
    simp only [Op.bytesLess, Lib.compareBytes, bless x y]
    by_cases h1 : a < b
    · simp [h1]
    · by_cases h2 : b < a
      · have : ¬ a = b := by rintro rfl; simp at h2
        simp [h1, h2, this]
      · have : a = b := UInt8.le_antisymm (UInt8.not_lt.1 h2) (UInt8.not_lt.1 h1)
        simp [h1, h2, this]
end Go.Proofs.YtfpijfedodljfaaDoor

set_option linter.unusedVariables false
set_option linter.unusedSimpArgs false
set_option maxRecDepth 100000
set_option maxHeartbeats 8000000
namespace Go.Proofs.YtfpijfedodljfaaDoor
open Go Go.RowKit Am

structure Edt where
  id : Idt
  clock : Int
  floor : Int
  deps : List Idt
  kind : Int
  node : Idt
  parent : Idt
  neg : Bool
  num : ByteArray
  den : ByteArray
  field : ByteArray
  value : ByteArray
  target : Idt
  who : ByteArray
def encE (x : Edt) : List V := [.s (.string x.id.a), .s (.int .i64 x.id.n), .s (.int .i64 x.clock), .s (.int .i64 x.floor), .sl (x.deps.map encId), .s (.int .i64 x.kind), .s (.string x.node.a), .s (.int .i64 x.node.n), .s (.string x.parent.a), .s (.int .i64 x.parent.n), .s (.bool x.neg), .s (.string x.num), .s (.string x.den), .s (.string x.field), .s (.string x.value), .s (.string x.target.a), .s (.int .i64 x.target.n), .s (.string x.who)]
def cmpE (a b : Edt) : Int := orF [cmpI a.clock b.clock, cmpB a.id.a b.id.a, cmpI a.id.n b.id.n]
def cmpES : Fspec := fun _ ds r => ∃ a b : Edt, ds = [.agg (encE a), .agg (encE b)] ∧ r = .s (.int .i64 (cmpE a b))
theorem cmpE_sound {plain : TypeId → Bool} {Γ : FuncId → Option Fspec} {Δ : FuncId → Option Pt} (hE : EnvOk ⟨Tryd.prog, plain, Γ, Δ, fun _ => none, 0⟩) (g_cmpI : Γ 40 = some cmpIS) (g_compare : Γ 41 = some compareS) (g_or : Γ 39 = some orS) : Sound Tryd.prog 28 cmpES := by
  refine sound_of_awp hE Tryd.func28 rfl (by kernel_rfl) ?_
  rintro Φ ds r ⟨a, b, rfl, rfl⟩
  refine ⟨by simp [Tryd.f28], ?_⟩
  unfold st0 encE
  refine W.out (E := ⟨Tryd.prog, plain, Γ, Δ, Φ, _⟩) ?_
  refine go trivial ?_
  refine x_callD rfl rfl rfl rfl rfl (sv trivial) g_cmpI (sv trivial) (se trivial) ⟨a.clock, b.clock, rfl, rfl⟩ rfl ?_
  refine go trivial ?_
  refine x_callD rfl rfl rfl rfl rfl (sv trivial) g_compare (sv trivial) (se trivial) ⟨a.id.a, b.id.a, rfl, rfl⟩ rfl ?_
  refine go trivial ?_
  refine x_callD rfl rfl rfl rfl rfl (sv trivial) g_cmpI (sv trivial) (se trivial) ⟨a.id.n, b.id.n, rfl, rfl⟩ rfl ?_
  refine go trivial ?_
  refine x_callN rfl rfl rfl rfl (sv trivial) g_or (sv trivial) (se trivial) ⟨[cmpI a.clock b.clock, cmpB a.id.a b.id.a, cmpI a.id.n b.id.n], by simp, rfl, rfl⟩ rfl ?_
  refine go trivial ?_
  refine x_done (x_out (sr (And.intro @Tryd.f28.eq_1 @cmpE.eq_1)) (by simp) (by simp) rfl)
theorem cmpI_lt {x y : Int} (h : x < y) : cmpI x y = -1 := by simp [cmpI, h]
theorem cmpI_gt {x y : Int} (h : y < x) : cmpI x y = 1 := by have : ¬ x < y := by omega
                                                             simp [cmpI, h, this]
theorem cmpI_eq (x : Int) : cmpI x x = 0 := by simp [cmpI]
theorem cmpL_three : ∀ a b : List UInt8, Lib.compareBytes a b = -1 ∨ Lib.compareBytes a b = 0 ∨ Lib.compareBytes a b = 1
  | [], [] => by simp [Lib.compareBytes]
  | _ :: _, [] => by simp [Lib.compareBytes]
  | [], _ :: _ => by simp [Lib.compareBytes]
  | a :: x, b :: y => by
    simp only [Lib.compareBytes]
    have := cmpL_three x y
    split
    · simp
    · split
      · simp
      · exact this
theorem cmpB_three (a b : ByteArray) : cmpB a b = -1 ∨ cmpB a b = 0 ∨ cmpB a b = 1 := cmpL_three _ _
theorem rcmp_sound {plain : TypeId → Bool} {Γ : FuncId → Option Fspec} {Δ : FuncId → Option Pt} (hE : EnvOk ⟨Tryd.prog, plain, Γ, Δ, fun _ => none, 0⟩) : Sound Tryd.prog 29 cmpES := by
  refine sound_of_awp hE Tryd.func29 rfl (by kernel_rfl) ?_
  rintro Φ ds r ⟨a, b, rfl, rfl⟩
  refine ⟨by simp [Tryd.f29], ?_⟩
  unfold st0 encE
  refine W.out (E := ⟨Tryd.prog, plain, Γ, Δ, Φ, _⟩) ?_
  by_cases h1 : a.clock = b.clock
  · have n1 : (a.clock != b.clock) = false := by simp [h1]
    have k1 : cmpI a.clock b.clock = 0 := by rw [h1, cmpI_eq]
    by_cases h2 : a.id.a = b.id.a
    · have n2 : (!(a.id.a.toList == b.id.a.toList)) = false := by rw [lbeq, h2]; simp
      have n2' : (a.id.a.toList == b.id.a.toList) = true := by rw [lbeq, h2]; simp
      have k2 : cmpB a.id.a b.id.a = 0 := (ordB.z _ _).2 h2
      by_cases h3 : a.id.n < b.id.n
      · have hz : cmpE a b = -1 := by simp [cmpE, orF, k1, k2, cmpI_lt h3]
        refine go (And.intro n1 (And.intro n2' h3)) ?_
        refine x_done (x_out (sr (And.intro @Tryd.f29.eq_1 hz)) (by simp) (by simp) rfl)
      · by_cases h4 : b.id.n < a.id.n
        · have hz : cmpE a b = 1 := by simp [cmpE, orF, k1, k2, cmpI_gt h4]
          refine go (And.intro n1 (And.intro n2' (And.intro h3 h4))) ?_
          refine x_done (x_out (sr (And.intro @Tryd.f29.eq_1 hz)) (by simp) (by simp) rfl)
        · have hz : cmpE a b = 0 := by
            have : a.id.n = b.id.n := by omega
            simp [cmpE, orF, k1, k2, this, cmpI_eq]
          refine go (And.intro n1 (And.intro n2' (And.intro h3 h4))) ?_
          refine x_done (x_out (sr (And.intro @Tryd.f29.eq_1 hz)) (by simp) (by simp) rfl)
    · have n2' : (a.id.a.toList == b.id.a.toList) = false := by rw [lbeq]; simp [h2]
      cases h3 : Op.bytesLess a.id.a.toList b.id.a.toList
      · have hz : cmpE a b = 1 := by
          rw [bless, ByteArray.toList_eq, ByteArray.toList_eq] at h3
          have h4 : ¬ cmpB a.id.a b.id.a < 0 := by simpa [cmpB] using h3
          have h5 : ¬ cmpB a.id.a b.id.a = 0 := fun e => h2 ((ordB.z _ _).1 e)
          have h6 := cmpB_three a.id.a b.id.a
          have h7 : cmpB a.id.a b.id.a = 1 := by omega
          simp [cmpE, orF, k1, h7]
        refine go (And.intro n1 (And.intro n2' h3)) ?_
        refine x_done (x_out (sr (And.intro @Tryd.f29.eq_1 hz)) (by simp) (by simp) rfl)
      · have hz : cmpE a b = -1 := by
          rw [bless, ByteArray.toList_eq, ByteArray.toList_eq] at h3
          have h4 : cmpB a.id.a b.id.a < 0 := by simpa [cmpB] using h3
          have h6 := cmpB_three a.id.a b.id.a
          have h7 : cmpB a.id.a b.id.a = -1 := by omega
          simp [cmpE, orF, k1, h7]
        refine go (And.intro n1 (And.intro n2' h3)) ?_
        refine x_done (x_out (sr (And.intro @Tryd.f29.eq_1 hz)) (by simp) (by simp) rfl)
  · have n1 : (a.clock != b.clock) = true := by simp [h1]
    by_cases h2 : a.clock < b.clock
    · have hz : cmpE a b = -1 := by simp [cmpE, orF, cmpI_lt h2]
      refine go (And.intro n1 h2) ?_
      refine x_done (x_out (sr (And.intro @Tryd.f29.eq_1 hz)) (by simp) (by simp) rfl)
    · have hz : cmpE a b = 1 := by
        have h3 : b.clock < a.clock := by omega
        simp [cmpE, orF, cmpI_gt h3]
      refine go (And.intro n1 h2) ?_
      refine x_done (x_out (sr (And.intro @Tryd.f29.eq_1 hz)) (by simp) (by simp) rfl)
end Go.Proofs.YtfpijfedodljfaaDoor

set_option linter.unusedVariables false
set_option linter.unusedSimpArgs false
set_option maxRecDepth 100000
set_option maxHeartbeats 8000000
namespace Go.Proofs.YtfpijfedodljfaaDoor
open Go Go.RowKit Am

abbrev vauthS : Fspec := authS
theorem vauth_sound {plain : TypeId → Bool} {Γ : FuncId → Option Fspec} {Δ : FuncId → Option Pt} (hE : EnvOk ⟨Tryd.prog, plain, Γ, Δ, fun _ => none, 0⟩) : Sound Tryd.prog 27 authS := by
  refine sound_of_awp hE Tryd.func27 rfl (by kernel_rfl) ?_
  rintro Φ ds r ⟨s, hs, rfl, rfl⟩
  refine ⟨by simp [Tryd.f27], ?_⟩
  unfold st0
  refine W.out (E := ⟨Tryd.prog, plain, Γ, Δ, Φ, _⟩) ?_
  refine go trivial ?_
  refine x_loop (fun σ => ∃ (i : Nat), σ.t 0 = .s (.string s) ∧ σ.t 6 = .s (.int .i64 s.size) ∧ σ.t 7 = .s (.int .i64 i) ∧ i ≤ s.size ∧ goodFrom s (s.size - i) i = goodFrom s s.size 0) (fun σ => s.size - ix (σ.t 7)) ⟨0, (by first | assumption | exact sxa trivial), (by first | assumption | exact sxa trivial), (by first | assumption | exact sxa trivial), (by first | rfl | omega | assumption | (simp [*]; done)), (by first | rfl | omega | assumption | (simp [*]; done))⟩ ?_
  rintro t h n ⟨i, h0, h6, h7, hf0, hf1⟩
  simp only at h0 h6 h7
  refine go (And.intro h0 (And.intro h6 h7)) ?_
  refine x_condP (sv (And.intro h0 (And.intro h6 h7))) (fun hc => ?_) (fun hc => ?_)
  · have hi' : i < s.size := by omega
    obtain ⟨m, hm⟩ : ∃ m, s.size - i = m + 1 := ⟨s.size - i - 1, by omega⟩
    rw [hm, goodFrom] at hf1
    have e0 : ((i : Int) == 0) = decide (i = 0) := by rw [beq_eq_decide]; simp
    have eb : ((byteAt s i).toNat : Int) = bAt s i := rfl
    have bad : badAt s i = true → authF s = false := fun hb => by rw [hb] at hf1; simp only [authF, ← hf1]; rfl
    have good : badAt s i = false → goodFrom s (s.size - (i + 1)) (i + 1) = goodFrom s s.size 0 := fun hb => by rw [hb] at hf1; rw [show s.size - (i + 1) = m by omega]; simpa using hf1
    by_cases c1 : bAt s i < 97
    · have c1' : ¬ 97 ≤ bAt s i := by omega
      by_cases c3 : i = 0
      · have c3' : (i = 0) = True := by simp [c3]
        have hz := bad (by simp [badAt, c1', c3'])
        refine go (And.intro h0 (And.intro h6 (And.intro h7 (And.intro e0 (And.intro eb (And.intro c1 c3')))))) ?_
        refine x_done (x_out (sr (And.intro @Tryd.f27.eq_1 hz)) (by simp) (by simp) rfl)
      · have c3' : (i = 0) = False := by simp [c3]
        by_cases c4 : bAt s i < 48
        · have hz := bad (by simp [badAt, c1', c3', c4])
          refine go (And.intro h0 (And.intro h6 (And.intro h7 (And.intro e0 (And.intro eb (And.intro c1 (And.intro c3' c4))))))) ?_
          refine x_done (x_out (sr (And.intro @Tryd.f27.eq_1 hz)) (by simp) (by simp) rfl)
        · by_cases c5 : 57 < bAt s i
          · have hz := bad (by simp [badAt, c1', c3', c4, c5])
            refine go (And.intro h0 (And.intro h6 (And.intro h7 (And.intro e0 (And.intro eb (And.intro c1 (And.intro c3' (And.intro c4 c5)))))))) ?_
            refine x_done (x_out (sr (And.intro @Tryd.f27.eq_1 hz)) (by simp) (by simp) rfl)
          · have hz := good (by simp [badAt, c1', c3', c4, c5])
            refine go (And.intro h0 (And.intro h6 (And.intro h7 (And.intro e0 (And.intro eb (And.intro c1 (And.intro c3' (And.intro c4 c5)))))))) ?_
            (refine ⟨⟨i + 1, ?_, ?_, ?_, ?_, ?_⟩, ?_⟩ <;> (first | omega | (dsimp only; omega) | ((exact hz)) | exact sxa @cast_succ | exact soa trivial))
    · have c1' : 97 ≤ bAt s i := by omega
      by_cases c2 : 122 < bAt s i
      · have c2' : ¬ bAt s i ≤ 122 := by omega
        by_cases c3 : i = 0
        · have c3' : (i = 0) = True := by simp [c3]
          have hz := bad (by simp [badAt, c1', c2', c3'])
          refine go (And.intro h0 (And.intro h6 (And.intro h7 (And.intro e0 (And.intro eb (And.intro c1 (And.intro c2 c3'))))))) ?_
          refine x_done (x_out (sr (And.intro @Tryd.f27.eq_1 hz)) (by simp) (by simp) rfl)
        · have c3' : (i = 0) = False := by simp [c3]
          have c4 : ¬ bAt s i < 48 := by omega
          have c5 : 57 < bAt s i := by omega
          have hz := bad (by simp [badAt, c1', c2', c3', c4, c5])
          refine go (And.intro h0 (And.intro h6 (And.intro h7 (And.intro e0 (And.intro eb (And.intro c1 (And.intro c2 (And.intro c3' (And.intro c4 c5))))))))) ?_
          refine x_done (x_out (sr (And.intro @Tryd.f27.eq_1 hz)) (by simp) (by simp) rfl)
      · have c2' : bAt s i ≤ 122 := by omega
        have hz := good (by simp [badAt, c1', c2'])
        refine go (And.intro h0 (And.intro h6 (And.intro h7 (And.intro e0 (And.intro eb (And.intro c1 c2)))))) ?_
        (refine ⟨⟨i + 1, ?_, ?_, ?_, ?_, ?_⟩, ?_⟩ <;> (first | omega | (dsimp only; omega) | ((exact hz)) | exact sxa @cast_succ | exact soa trivial))
  · have e : i = s.size := by omega
    subst e
    rw [Nat.sub_self, goodFrom] at hf1
    by_cases d1 : 0 < (s.size : Int)
    · have d2 : 1 ≤ (s.size : Int) := by omega
      refine go (And.intro h0 (And.intro h6 (And.intro h7 d2))) ?_
      refine x_done (x_out (sr (And.intro @Tryd.f27.eq_1 (And.intro @authF.eq_1 (And.intro (hf1).symm d1)))) (by simp) (by simp) rfl)
    · have d2 : ¬ 1 ≤ (s.size : Int) := by omega
      refine go (And.intro h0 (And.intro h6 (And.intro h7 d2))) ?_
      refine x_done (x_out (sr (And.intro @Tryd.f27.eq_1 (And.intro @authF.eq_1 (And.intro (hf1).symm d1)))) (by simp) (by simp) rfl)
theorem lflip (a b : ByteArray) : (a.toList == b.toList) = (b.toList == a.toList) := BEq.comm
theorem lgt (a b : ByteArray) : (!(Op.bytesLess a.toList b.toList || (a.toList == b.toList))) = Op.bytesLess b.toList a.toList := by
  rw [bless, bless, ByteArray.toList_eq, ByteArray.toList_eq]
  have h1 := cmpBytes_as a.data.toList b.data.toList
  have h2 := cmpBytes_z a.data.toList b.data.toList
  have h3 := cmpBytes_as b.data.toList a.data.toList
  by_cases h : a.data.toList = b.data.toList
  · have : Lib.compareBytes a.data.toList b.data.toList = 0 := h2.2 h
    have h4 : ¬ Lib.compareBytes b.data.toList a.data.toList < 0 := by omega
    simp only [h, beq_self_eq_true, Bool.or_true, Bool.not_true]
    rw [h] at h4
    simp only [h4, decide_false]
  · have h5 : (a.data.toList == b.data.toList) = false := beq_eq_false_iff_ne.2 h
    have h6 : ¬ Lib.compareBytes a.data.toList b.data.toList = 0 := fun e => h (h2.1 e)
    rw [h5, Bool.or_false]
    by_cases h7 : Lib.compareBytes a.data.toList b.data.toList < 0
    · have : ¬ Lib.compareBytes b.data.toList a.data.toList < 0 := by omega
      simp [h7, this]
    · have : Lib.compareBytes b.data.toList a.data.toList < 0 := by omega
      simp [h7, this]
theorem vchk_sound {plain : TypeId → Bool} {Γ : FuncId → Option Fspec} {Δ : FuncId → Option Pt} (hE : EnvOk ⟨Tryd.prog, plain, Γ, Δ, fun _ => none, 0⟩) (g_vauth : Γ 27 = some vauthS) : Sound Tryd.prog 25 chkS := by
  refine sound_of_awp hE Tryd.func25 rfl (by kernel_rfl) ?_
  rintro Φ ds r ⟨v, hv, hs, rfl, rfl⟩
  refine ⟨by simp [Tryd.f25], ?_⟩
  unfold st0 encIds
  refine W.out (E := ⟨Tryd.prog, plain, Γ, Δ, Φ, _⟩) ?_
  have hr := encId_rows v
  refine go trivial ?_
  refine x_loop (fun σ => ∃ (i : Nat), σ.t 0 = .sl (v.map encId) ∧ σ.t 5 = .sl (v.map encId) ∧ σ.t 6 = .s (.int .i64 v.length) ∧ σ.t 7 = .s (.int .i64 i) ∧ i ≤ v.length ∧ chkFrom v (v.length - i) i = chkFrom v v.length 0) (fun σ => v.length - ix (σ.t 7)) ⟨0, (by first | assumption | exact sxa trivial), (by first | assumption | exact sxa trivial), (by first | assumption | exact sxa trivial), (by first | assumption | exact sxa trivial), (by first | rfl | omega | assumption | (simp [*]; done)), (by first | rfl | omega | assumption | (simp [*]; done))⟩ ?_
  rintro t h n ⟨i, h0, h5, h6, h7, hf0, hf1⟩
  simp only at h0 h5 h6 h7
  refine go (And.intro h0 (And.intro h5 (And.intro h6 h7))) ?_
  refine x_condP (sv (And.intro h0 (And.intro h5 (And.intro h6 h7)))) (fun hc => ?_) (fun hc => ?_)
  · have hi' : i < v.length := by omega
    obtain ⟨m, hm⟩ : ∃ m, v.length - i = m + 1 := ⟨v.length - i - 1, by omega⟩
    rw [hm, chkFrom] at hf1
    refine go (And.intro h0 (And.intro h5 (And.intro h6 (And.intro h7 (And.intro hr @encId.eq_1))))) ?_
    refine x_callN rfl rfl rfl rfl (sv trivial) g_vauth (sv trivial) (se trivial) ⟨v[i].a, hs _ (List.getElem_mem hi'), rfl, rfl⟩ rfl ?_
    have hat := idAt_lt v hi'
    have bad : ∀ q : Int, chkAt v i = q → q ≠ 0 → chkF v = q := fun q h1 h2 => by rw [h1, if_neg h2] at hf1; exact hf1.symm
    have good : chkAt v i = 0 → chkFrom v (v.length - (i + 1)) (i + 1) = chkFrom v v.length 0 := fun h1 => by rw [h1, if_pos rfl] at hf1; rw [show v.length - (i + 1) = m by omega]; exact hf1
    cases a1 : authF v[i].a
    · have hz := bad 7 (by simp [chkAt, hat, a1]) (by decide)
      refine go (And.intro h0 (And.intro h5 (And.intro h6 (And.intro h7 (And.intro hr (And.intro @encId.eq_1 a1)))))) ?_
      refine x_done (x_out (sr (And.intro @Tryd.f25.eq_1 hz)) (by simp) (by simp) rfl)
    · by_cases a2 : v[i].n < 1
      · have hz := bad 2 (by simp [chkAt, hat, a1, a2]) (by decide)
        refine go (And.intro h0 (And.intro h5 (And.intro h6 (And.intro h7 (And.intro hr (And.intro @encId.eq_1 (And.intro a1 a2))))))) ?_
        refine x_done (x_out (sr (And.intro @Tryd.f25.eq_1 hz)) (by simp) (by simp) rfl)
      · by_cases a3 : 0 < i
        · have a3' : (0 < (i : Int)) = True := by simp; omega
          have ej : (i : Int) - 1 = ((i - 1 : Nat) : Int) := by omega
          have hj' : i - 1 < v.length := by omega
          have hjt := idAt_lt v hj'
          have l1 := lflip v[i].a v[i - 1].a
          have l2 := lgt v[i - 1].a v[i].a
          cases a4 : (v[i - 1].a.toList == v[i].a.toList)
          · rw [a4] at l1
            rw [a4, Bool.or_false] at l2
            cases a5 : Op.bytesLess v[i].a.toList v[i - 1].a.toList
            · rw [a5] at l2
              have hz := good (by simp only [chkAt, hat, hjt, a1, a2, l1, a5]; simp)
              refine go (And.intro h0 (And.intro h5 (And.intro h6 (And.intro h7 (And.intro hr (And.intro @encId.eq_1 (And.intro a1 (And.intro a2 (And.intro a3' (And.intro ej (And.intro a4 l2))))))))))) ?_
              (refine ⟨⟨i + 1, ?_, ?_, ?_, ?_, ?_, ?_⟩, ?_⟩ <;> (first | omega | (dsimp only; omega) | ((exact hz)) | exact sxa @cast_succ | exact soa trivial))
            · rw [a5] at l2
              have hz := bad 3 (by simp only [chkAt, hat, hjt, a1, a2, l1, a5]; simp [a3]) (by decide)
              refine go (And.intro h0 (And.intro h5 (And.intro h6 (And.intro h7 (And.intro hr (And.intro @encId.eq_1 (And.intro a1 (And.intro a2 (And.intro a3' (And.intro ej (And.intro a4 l2))))))))))) ?_
              refine x_done (x_out (sr (And.intro @Tryd.f25.eq_1 hz)) (by simp) (by simp) rfl)
          · rw [a4] at l1
            have hz := bad 8 (by simp only [chkAt, hat, hjt, a1, a2, l1]; simp [a3]) (by decide)
            refine go (And.intro h0 (And.intro h5 (And.intro h6 (And.intro h7 (And.intro hr (And.intro @encId.eq_1 (And.intro a1 (And.intro a2 (And.intro a3' (And.intro ej a4)))))))))) ?_
            refine x_done (x_out (sr (And.intro @Tryd.f25.eq_1 hz)) (by simp) (by simp) rfl)
        · have a3' : (0 < (i : Int)) = False := by simp; omega
          have hz := good (by simp only [chkAt, hat, a1, a2]; simp [a3])
          refine go (And.intro h0 (And.intro h5 (And.intro h6 (And.intro h7 (And.intro hr (And.intro @encId.eq_1 (And.intro a1 (And.intro a2 a3')))))))) ?_
          (refine ⟨⟨i + 1, ?_, ?_, ?_, ?_, ?_, ?_⟩, ?_⟩ <;> (first | omega | (dsimp only; omega) | ((exact hz)) | exact sxa @cast_succ | exact soa trivial))
  · have e : i = v.length := by omega
    subst e
    rw [Nat.sub_self, chkFrom] at hf1
    have hz : chkF v = 0 := hf1.symm
    refine go (And.intro h0 (And.intro h5 (And.intro h6 h7))) ?_
    refine x_done (x_out (sr (And.intro @Tryd.f25.eq_1 hz)) (by simp) (by simp) rfl)
end Go.Proofs.YtfpijfedodljfaaDoor

set_option linter.unusedVariables false
set_option maxRecDepth 100000
namespace Go.Proofs.YtfpijfedodljfaaDoor
open Go Go.RowKit Am

theorem env0 : EnvOk ⟨Tryd.prog, plainT, (fun _ => none), (fun _ => none), fun _ => none, 0⟩ := ⟨plain_ok, (fun _ _ h => by cases h), (fun _ _ h => by cases h), by kernel_rfl, (fun _ _ h => by cases h)⟩
def ga0 : FuncId → Option Fspec := fun _ => none
def de0 : FuncId → Option Pt := fun _ => none
theorem ok0_0 : EnvOk ⟨Tryd.prog, plainT, ga0, de0, fun _ => none, 0⟩ := env0
def de1 : FuncId → Option Pt := upd de0 57 (some (cmpT))
theorem ok0_1 : EnvOk ⟨Tryd.prog, plainT, ga0, de1, fun _ => none, 0⟩ := EnvOk.addT ok0_0 (cmpT_sound)
def de2 : FuncId → Option Pt := upd de1 48 (some (overT 2))
theorem ok0_2 : EnvOk ⟨Tryd.prog, plainT, ga0, de2, fun _ => none, 0⟩ := EnvOk.addT ok0_1 (overT_sound (tS := 22) (tR := 4) (e := 24) Tryd.func48 (by kernel_rfl) (by kernel_rfl) (by kernel_rfl) (by kernel_rfl) (by kernel_rfl) (by kernel_rfl) (by decide) (by decide))
def de3 : FuncId → Option Pt := upd de2 33 (some (joinT))
theorem ok0_3 : EnvOk ⟨Tryd.prog, plainT, ga0, de3, fun _ => none, 0⟩ := EnvOk.addT ok0_2 (joinT_sound)
def ga1 : FuncId → Option Fspec := upd ga0 52 (some compareS)
theorem ok1_3 : EnvOk ⟨Tryd.prog, plainT, ga1, de3, fun _ => none, 0⟩ := EnvOk.add ok0_3 (by first | exact compareString_sound ok0_3 | exact compareString_sound ok0_3 rfl | exact compareString_sound ok0_3 rfl rfl | exact compareString_sound ok0_3 rfl rfl rfl | exact compareString_sound ok0_3 rfl rfl rfl rfl | exact compareString_sound ok0_3 rfl rfl rfl rfl rfl | exact compareString_sound ok0_3 rfl rfl rfl rfl rfl rfl | exact compareString_sound ok0_3 rfl rfl rfl rfl rfl rfl rfl | exact compareString_sound ok0_3 rfl rfl rfl rfl rfl rfl rfl rfl | exact compareString_sound ok0_3 rfl rfl rfl rfl rfl rfl rfl rfl rfl | exact compareString_sound ok0_3 rfl rfl rfl rfl rfl rfl rfl rfl rfl rfl | exact compareString_sound ok0_3 rfl rfl rfl rfl rfl rfl rfl rfl rfl rfl rfl | exact compareString_sound ok0_3 rfl rfl rfl rfl rfl rfl rfl rfl rfl rfl rfl rfl) (by kernel_rfl)
def ga2 : FuncId → Option Fspec := upd ga1 41 (some compareS)
theorem ok2_3 : EnvOk ⟨Tryd.prog, plainT, ga2, de3, fun _ => none, 0⟩ := EnvOk.add ok1_3 (by first | exact compare_sound ok1_3 | exact compare_sound ok1_3 rfl | exact compare_sound ok1_3 rfl rfl | exact compare_sound ok1_3 rfl rfl rfl | exact compare_sound ok1_3 rfl rfl rfl rfl | exact compare_sound ok1_3 rfl rfl rfl rfl rfl | exact compare_sound ok1_3 rfl rfl rfl rfl rfl rfl | exact compare_sound ok1_3 rfl rfl rfl rfl rfl rfl rfl | exact compare_sound ok1_3 rfl rfl rfl rfl rfl rfl rfl rfl | exact compare_sound ok1_3 rfl rfl rfl rfl rfl rfl rfl rfl rfl | exact compare_sound ok1_3 rfl rfl rfl rfl rfl rfl rfl rfl rfl rfl | exact compare_sound ok1_3 rfl rfl rfl rfl rfl rfl rfl rfl rfl rfl rfl | exact compare_sound ok1_3 rfl rfl rfl rfl rfl rfl rfl rfl rfl rfl rfl rfl) (by kernel_rfl)
def ga3 : FuncId → Option Fspec := upd ga2 51 (some nanS)
theorem ok3_3 : EnvOk ⟨Tryd.prog, plainT, ga3, de3, fun _ => none, 0⟩ := EnvOk.add ok2_3 (by first | exact nan_sound ok2_3 | exact nan_sound ok2_3 rfl | exact nan_sound ok2_3 rfl rfl | exact nan_sound ok2_3 rfl rfl rfl | exact nan_sound ok2_3 rfl rfl rfl rfl | exact nan_sound ok2_3 rfl rfl rfl rfl rfl | exact nan_sound ok2_3 rfl rfl rfl rfl rfl rfl | exact nan_sound ok2_3 rfl rfl rfl rfl rfl rfl rfl | exact nan_sound ok2_3 rfl rfl rfl rfl rfl rfl rfl rfl | exact nan_sound ok2_3 rfl rfl rfl rfl rfl rfl rfl rfl rfl | exact nan_sound ok2_3 rfl rfl rfl rfl rfl rfl rfl rfl rfl rfl | exact nan_sound ok2_3 rfl rfl rfl rfl rfl rfl rfl rfl rfl rfl rfl | exact nan_sound ok2_3 rfl rfl rfl rfl rfl rfl rfl rfl rfl rfl rfl rfl) (by kernel_rfl)
def ga4 : FuncId → Option Fspec := upd ga3 40 (some cmpIS)
theorem ok4_3 : EnvOk ⟨Tryd.prog, plainT, ga4, de3, fun _ => none, 0⟩ := EnvOk.add ok3_3 (by first | exact cmpI_sound ok3_3 | exact cmpI_sound ok3_3 rfl | exact cmpI_sound ok3_3 rfl rfl | exact cmpI_sound ok3_3 rfl rfl rfl | exact cmpI_sound ok3_3 rfl rfl rfl rfl | exact cmpI_sound ok3_3 rfl rfl rfl rfl rfl | exact cmpI_sound ok3_3 rfl rfl rfl rfl rfl rfl | exact cmpI_sound ok3_3 rfl rfl rfl rfl rfl rfl rfl | exact cmpI_sound ok3_3 rfl rfl rfl rfl rfl rfl rfl rfl | exact cmpI_sound ok3_3 rfl rfl rfl rfl rfl rfl rfl rfl rfl | exact cmpI_sound ok3_3 rfl rfl rfl rfl rfl rfl rfl rfl rfl rfl | exact cmpI_sound ok3_3 rfl rfl rfl rfl rfl rfl rfl rfl rfl rfl rfl | exact cmpI_sound ok3_3 rfl rfl rfl rfl rfl rfl rfl rfl rfl rfl rfl rfl) (by kernel_rfl)
def ga5 : FuncId → Option Fspec := upd ga4 39 (some orS)
theorem ok5_3 : EnvOk ⟨Tryd.prog, plainT, ga5, de3, fun _ => none, 0⟩ := EnvOk.add ok4_3 (by first | exact or_sound ok4_3 | exact or_sound ok4_3 rfl | exact or_sound ok4_3 rfl rfl | exact or_sound ok4_3 rfl rfl rfl | exact or_sound ok4_3 rfl rfl rfl rfl | exact or_sound ok4_3 rfl rfl rfl rfl rfl | exact or_sound ok4_3 rfl rfl rfl rfl rfl rfl | exact or_sound ok4_3 rfl rfl rfl rfl rfl rfl rfl | exact or_sound ok4_3 rfl rfl rfl rfl rfl rfl rfl rfl | exact or_sound ok4_3 rfl rfl rfl rfl rfl rfl rfl rfl rfl | exact or_sound ok4_3 rfl rfl rfl rfl rfl rfl rfl rfl rfl rfl | exact or_sound ok4_3 rfl rfl rfl rfl rfl rfl rfl rfl rfl rfl rfl | exact or_sound ok4_3 rfl rfl rfl rfl rfl rfl rfl rfl rfl rfl rfl rfl) (by kernel_rfl)
def ga6 : FuncId → Option Fspec := upd ga5 42 (some (bsS encId))
theorem ok6_3 : EnvOk ⟨Tryd.prog, plainT, ga6, de3, fun _ => none, 0⟩ := EnvOk.add ok5_3 (by first | exact bsI_sound ok5_3 | exact bsI_sound ok5_3 rfl | exact bsI_sound ok5_3 rfl rfl | exact bsI_sound ok5_3 rfl rfl rfl | exact bsI_sound ok5_3 rfl rfl rfl rfl | exact bsI_sound ok5_3 rfl rfl rfl rfl rfl | exact bsI_sound ok5_3 rfl rfl rfl rfl rfl rfl | exact bsI_sound ok5_3 rfl rfl rfl rfl rfl rfl rfl | exact bsI_sound ok5_3 rfl rfl rfl rfl rfl rfl rfl rfl | exact bsI_sound ok5_3 rfl rfl rfl rfl rfl rfl rfl rfl rfl | exact bsI_sound ok5_3 rfl rfl rfl rfl rfl rfl rfl rfl rfl rfl | exact bsI_sound ok5_3 rfl rfl rfl rfl rfl rfl rfl rfl rfl rfl rfl | exact bsI_sound ok5_3 rfl rfl rfl rfl rfl rfl rfl rfl rfl rfl rfl rfl) (by kernel_rfl)
def ga7 : FuncId → Option Fspec := upd ga6 43 (some plac1S)
theorem ok7_3 : EnvOk ⟨Tryd.prog, plainT, ga7, de3, fun _ => none, 0⟩ := EnvOk.add ok6_3 (by first | exact plac1_sound ok6_3 | exact plac1_sound ok6_3 rfl | exact plac1_sound ok6_3 rfl rfl | exact plac1_sound ok6_3 rfl rfl rfl | exact plac1_sound ok6_3 rfl rfl rfl rfl | exact plac1_sound ok6_3 rfl rfl rfl rfl rfl | exact plac1_sound ok6_3 rfl rfl rfl rfl rfl rfl | exact plac1_sound ok6_3 rfl rfl rfl rfl rfl rfl rfl | exact plac1_sound ok6_3 rfl rfl rfl rfl rfl rfl rfl rfl | exact plac1_sound ok6_3 rfl rfl rfl rfl rfl rfl rfl rfl rfl | exact plac1_sound ok6_3 rfl rfl rfl rfl rfl rfl rfl rfl rfl rfl | exact plac1_sound ok6_3 rfl rfl rfl rfl rfl rfl rfl rfl rfl rfl rfl | exact plac1_sound ok6_3 rfl rfl rfl rfl rfl rfl rfl rfl rfl rfl rfl rfl) (by kernel_rfl)
def ga8 : FuncId → Option Fspec := upd ga7 30 (some placS)
theorem ok8_3 : EnvOk ⟨Tryd.prog, plainT, ga8, de3, fun _ => none, 0⟩ := EnvOk.add ok7_3 (by first | exact plac_sound ok7_3 | exact plac_sound ok7_3 rfl | exact plac_sound ok7_3 rfl rfl | exact plac_sound ok7_3 rfl rfl rfl | exact plac_sound ok7_3 rfl rfl rfl rfl | exact plac_sound ok7_3 rfl rfl rfl rfl rfl | exact plac_sound ok7_3 rfl rfl rfl rfl rfl rfl | exact plac_sound ok7_3 rfl rfl rfl rfl rfl rfl rfl | exact plac_sound ok7_3 rfl rfl rfl rfl rfl rfl rfl rfl | exact plac_sound ok7_3 rfl rfl rfl rfl rfl rfl rfl rfl rfl | exact plac_sound ok7_3 rfl rfl rfl rfl rfl rfl rfl rfl rfl rfl | exact plac_sound ok7_3 rfl rfl rfl rfl rfl rfl rfl rfl rfl rfl rfl | exact plac_sound ok7_3 rfl rfl rfl rfl rfl rfl rfl rfl rfl rfl rfl rfl) (by kernel_rfl)
def ga9 : FuncId → Option Fspec := upd ga8 31 (some uptoS)
theorem ok9_3 : EnvOk ⟨Tryd.prog, plainT, ga9, de3, fun _ => none, 0⟩ := EnvOk.add ok8_3 (by first | exact upto_sound ok8_3 | exact upto_sound ok8_3 rfl | exact upto_sound ok8_3 rfl rfl | exact upto_sound ok8_3 rfl rfl rfl | exact upto_sound ok8_3 rfl rfl rfl rfl | exact upto_sound ok8_3 rfl rfl rfl rfl rfl | exact upto_sound ok8_3 rfl rfl rfl rfl rfl rfl | exact upto_sound ok8_3 rfl rfl rfl rfl rfl rfl rfl | exact upto_sound ok8_3 rfl rfl rfl rfl rfl rfl rfl rfl | exact upto_sound ok8_3 rfl rfl rfl rfl rfl rfl rfl rfl rfl | exact upto_sound ok8_3 rfl rfl rfl rfl rfl rfl rfl rfl rfl rfl | exact upto_sound ok8_3 rfl rfl rfl rfl rfl rfl rfl rfl rfl rfl rfl | exact upto_sound ok8_3 rfl rfl rfl rfl rfl rfl rfl rfl rfl rfl rfl rfl) (by kernel_rfl)
def ga10 : FuncId → Option Fspec := upd ga9 13 (some hasS)
theorem ok10_3 : EnvOk ⟨Tryd.prog, plainT, ga10, de3, fun _ => none, 0⟩ := EnvOk.add ok9_3 (by first | exact has_sound ok9_3 | exact has_sound ok9_3 rfl | exact has_sound ok9_3 rfl rfl | exact has_sound ok9_3 rfl rfl rfl | exact has_sound ok9_3 rfl rfl rfl rfl | exact has_sound ok9_3 rfl rfl rfl rfl rfl | exact has_sound ok9_3 rfl rfl rfl rfl rfl rfl | exact has_sound ok9_3 rfl rfl rfl rfl rfl rfl rfl | exact has_sound ok9_3 rfl rfl rfl rfl rfl rfl rfl rfl | exact has_sound ok9_3 rfl rfl rfl rfl rfl rfl rfl rfl rfl | exact has_sound ok9_3 rfl rfl rfl rfl rfl rfl rfl rfl rfl rfl | exact has_sound ok9_3 rfl rfl rfl rfl rfl rfl rfl rfl rfl rfl rfl | exact has_sound ok9_3 rfl rfl rfl rfl rfl rfl rfl rfl rfl rfl rfl rfl) (by kernel_rfl)
def ga11 : FuncId → Option Fspec := upd ga10 12 (some contS)
theorem ok11_3 : EnvOk ⟨Tryd.prog, plainT, ga11, de3, fun _ => none, 0⟩ := EnvOk.add ok10_3 (by first | exact cont_sound ok10_3 | exact cont_sound ok10_3 rfl | exact cont_sound ok10_3 rfl rfl | exact cont_sound ok10_3 rfl rfl rfl | exact cont_sound ok10_3 rfl rfl rfl rfl | exact cont_sound ok10_3 rfl rfl rfl rfl rfl | exact cont_sound ok10_3 rfl rfl rfl rfl rfl rfl | exact cont_sound ok10_3 rfl rfl rfl rfl rfl rfl rfl | exact cont_sound ok10_3 rfl rfl rfl rfl rfl rfl rfl rfl | exact cont_sound ok10_3 rfl rfl rfl rfl rfl rfl rfl rfl rfl | exact cont_sound ok10_3 rfl rfl rfl rfl rfl rfl rfl rfl rfl rfl | exact cont_sound ok10_3 rfl rfl rfl rfl rfl rfl rfl rfl rfl rfl rfl | exact cont_sound ok10_3 rfl rfl rfl rfl rfl rfl rfl rfl rfl rfl rfl rfl) (by kernel_rfl)
def ga12 : FuncId → Option Fspec := upd ga11 16 (some authS)
theorem ok12_3 : EnvOk ⟨Tryd.prog, plainT, ga12, de3, fun _ => none, 0⟩ := EnvOk.add ok11_3 (by first | exact auth_sound ok11_3 | exact auth_sound ok11_3 rfl | exact auth_sound ok11_3 rfl rfl | exact auth_sound ok11_3 rfl rfl rfl | exact auth_sound ok11_3 rfl rfl rfl rfl | exact auth_sound ok11_3 rfl rfl rfl rfl rfl | exact auth_sound ok11_3 rfl rfl rfl rfl rfl rfl | exact auth_sound ok11_3 rfl rfl rfl rfl rfl rfl rfl | exact auth_sound ok11_3 rfl rfl rfl rfl rfl rfl rfl rfl | exact auth_sound ok11_3 rfl rfl rfl rfl rfl rfl rfl rfl rfl | exact auth_sound ok11_3 rfl rfl rfl rfl rfl rfl rfl rfl rfl rfl | exact auth_sound ok11_3 rfl rfl rfl rfl rfl rfl rfl rfl rfl rfl rfl | exact auth_sound ok11_3 rfl rfl rfl rfl rfl rfl rfl rfl rfl rfl rfl rfl) (by kernel_rfl)
def ga13 : FuncId → Option Fspec := upd ga12 26 (some chkS)
theorem ok13_3 : EnvOk ⟨Tryd.prog, plainT, ga13, de3, fun _ => none, 0⟩ := EnvOk.add ok12_3 (by first | exact chk_sound ok12_3 | exact chk_sound ok12_3 rfl | exact chk_sound ok12_3 rfl rfl | exact chk_sound ok12_3 rfl rfl rfl | exact chk_sound ok12_3 rfl rfl rfl rfl | exact chk_sound ok12_3 rfl rfl rfl rfl rfl | exact chk_sound ok12_3 rfl rfl rfl rfl rfl rfl | exact chk_sound ok12_3 rfl rfl rfl rfl rfl rfl rfl | exact chk_sound ok12_3 rfl rfl rfl rfl rfl rfl rfl rfl | exact chk_sound ok12_3 rfl rfl rfl rfl rfl rfl rfl rfl rfl | exact chk_sound ok12_3 rfl rfl rfl rfl rfl rfl rfl rfl rfl rfl | exact chk_sound ok12_3 rfl rfl rfl rfl rfl rfl rfl rfl rfl rfl rfl | exact chk_sound ok12_3 rfl rfl rfl rfl rfl rfl rfl rfl rfl rfl rfl rfl) (by kernel_rfl)
def ga14 : FuncId → Option Fspec := upd ga13 27 (some authS)
theorem ok14_3 : EnvOk ⟨Tryd.prog, plainT, ga14, de3, fun _ => none, 0⟩ := EnvOk.add ok13_3 (by first | exact vauth_sound ok13_3 | exact vauth_sound ok13_3 rfl | exact vauth_sound ok13_3 rfl rfl | exact vauth_sound ok13_3 rfl rfl rfl | exact vauth_sound ok13_3 rfl rfl rfl rfl | exact vauth_sound ok13_3 rfl rfl rfl rfl rfl | exact vauth_sound ok13_3 rfl rfl rfl rfl rfl rfl | exact vauth_sound ok13_3 rfl rfl rfl rfl rfl rfl rfl | exact vauth_sound ok13_3 rfl rfl rfl rfl rfl rfl rfl rfl | exact vauth_sound ok13_3 rfl rfl rfl rfl rfl rfl rfl rfl rfl | exact vauth_sound ok13_3 rfl rfl rfl rfl rfl rfl rfl rfl rfl rfl | exact vauth_sound ok13_3 rfl rfl rfl rfl rfl rfl rfl rfl rfl rfl rfl | exact vauth_sound ok13_3 rfl rfl rfl rfl rfl rfl rfl rfl rfl rfl rfl rfl) (by kernel_rfl)
def ga15 : FuncId → Option Fspec := upd ga14 25 (some chkS)
theorem ok15_3 : EnvOk ⟨Tryd.prog, plainT, ga15, de3, fun _ => none, 0⟩ := EnvOk.add ok14_3 (by first | exact vchk_sound ok14_3 | exact vchk_sound ok14_3 rfl | exact vchk_sound ok14_3 rfl rfl | exact vchk_sound ok14_3 rfl rfl rfl | exact vchk_sound ok14_3 rfl rfl rfl rfl | exact vchk_sound ok14_3 rfl rfl rfl rfl rfl | exact vchk_sound ok14_3 rfl rfl rfl rfl rfl rfl | exact vchk_sound ok14_3 rfl rfl rfl rfl rfl rfl rfl | exact vchk_sound ok14_3 rfl rfl rfl rfl rfl rfl rfl rfl | exact vchk_sound ok14_3 rfl rfl rfl rfl rfl rfl rfl rfl rfl | exact vchk_sound ok14_3 rfl rfl rfl rfl rfl rfl rfl rfl rfl rfl | exact vchk_sound ok14_3 rfl rfl rfl rfl rfl rfl rfl rfl rfl rfl rfl | exact vchk_sound ok14_3 rfl rfl rfl rfl rfl rfl rfl rfl rfl rfl rfl rfl) (by kernel_rfl)
def ga16 : FuncId → Option Fspec := upd ga15 35 (some (weakS (cloneS encId 2)))
theorem ok16_3 : EnvOk ⟨Tryd.prog, plainT, ga16, de3, fun _ => none, 0⟩ := EnvOk.add ok15_3 (by first | exact cloneD_sound ok15_3 | exact cloneD_sound ok15_3 rfl | exact cloneD_sound ok15_3 rfl rfl | exact cloneD_sound ok15_3 rfl rfl rfl | exact cloneD_sound ok15_3 rfl rfl rfl rfl | exact cloneD_sound ok15_3 rfl rfl rfl rfl rfl | exact cloneD_sound ok15_3 rfl rfl rfl rfl rfl rfl | exact cloneD_sound ok15_3 rfl rfl rfl rfl rfl rfl rfl | exact cloneD_sound ok15_3 rfl rfl rfl rfl rfl rfl rfl rfl | exact cloneD_sound ok15_3 rfl rfl rfl rfl rfl rfl rfl rfl rfl | exact cloneD_sound ok15_3 rfl rfl rfl rfl rfl rfl rfl rfl rfl rfl | exact cloneD_sound ok15_3 rfl rfl rfl rfl rfl rfl rfl rfl rfl rfl rfl | exact cloneD_sound ok15_3 rfl rfl rfl rfl rfl rfl rfl rfl rfl rfl rfl rfl) (by kernel_rfl)
def ga17 : FuncId → Option Fspec := upd ga16 50 (some (idxS encId))
theorem ok17_3 : EnvOk ⟨Tryd.prog, plainT, ga17, de3, fun _ => none, 0⟩ := EnvOk.add ok16_3 (by first | exact idx_sound ok16_3 | exact idx_sound ok16_3 rfl | exact idx_sound ok16_3 rfl rfl | exact idx_sound ok16_3 rfl rfl rfl | exact idx_sound ok16_3 rfl rfl rfl rfl | exact idx_sound ok16_3 rfl rfl rfl rfl rfl | exact idx_sound ok16_3 rfl rfl rfl rfl rfl rfl | exact idx_sound ok16_3 rfl rfl rfl rfl rfl rfl rfl | exact idx_sound ok16_3 rfl rfl rfl rfl rfl rfl rfl rfl | exact idx_sound ok16_3 rfl rfl rfl rfl rfl rfl rfl rfl rfl | exact idx_sound ok16_3 rfl rfl rfl rfl rfl rfl rfl rfl rfl rfl | exact idx_sound ok16_3 rfl rfl rfl rfl rfl rfl rfl rfl rfl rfl rfl | exact idx_sound ok16_3 rfl rfl rfl rfl rfl rfl rfl rfl rfl rfl rfl rfl) (by kernel_rfl)
def ga18 : FuncId → Option Fspec := upd ga17 37 (some (cfS encId))
theorem ok18_3 : EnvOk ⟨Tryd.prog, plainT, ga18, de3, fun _ => none, 0⟩ := EnvOk.add ok17_3 (by first | exact cf_sound ok17_3 | exact cf_sound ok17_3 rfl | exact cf_sound ok17_3 rfl rfl | exact cf_sound ok17_3 rfl rfl rfl | exact cf_sound ok17_3 rfl rfl rfl rfl | exact cf_sound ok17_3 rfl rfl rfl rfl rfl | exact cf_sound ok17_3 rfl rfl rfl rfl rfl rfl | exact cf_sound ok17_3 rfl rfl rfl rfl rfl rfl rfl | exact cf_sound ok17_3 rfl rfl rfl rfl rfl rfl rfl rfl | exact cf_sound ok17_3 rfl rfl rfl rfl rfl rfl rfl rfl rfl | exact cf_sound ok17_3 rfl rfl rfl rfl rfl rfl rfl rfl rfl rfl | exact cf_sound ok17_3 rfl rfl rfl rfl rfl rfl rfl rfl rfl rfl rfl | exact cf_sound ok17_3 rfl rfl rfl rfl rfl rfl rfl rfl rfl rfl rfl rfl) (by kernel_rfl)
def ga19 : FuncId → Option Fspec := upd ga18 38 (some cov1S)
theorem ok19_3 : EnvOk ⟨Tryd.prog, plainT, ga19, de3, fun _ => none, 0⟩ := EnvOk.add ok18_3 (by first | exact cov1_sound ok18_3 | exact cov1_sound ok18_3 rfl | exact cov1_sound ok18_3 rfl rfl | exact cov1_sound ok18_3 rfl rfl rfl | exact cov1_sound ok18_3 rfl rfl rfl rfl | exact cov1_sound ok18_3 rfl rfl rfl rfl rfl | exact cov1_sound ok18_3 rfl rfl rfl rfl rfl rfl | exact cov1_sound ok18_3 rfl rfl rfl rfl rfl rfl rfl | exact cov1_sound ok18_3 rfl rfl rfl rfl rfl rfl rfl rfl | exact cov1_sound ok18_3 rfl rfl rfl rfl rfl rfl rfl rfl rfl | exact cov1_sound ok18_3 rfl rfl rfl rfl rfl rfl rfl rfl rfl rfl | exact cov1_sound ok18_3 rfl rfl rfl rfl rfl rfl rfl rfl rfl rfl rfl | exact cov1_sound ok18_3 rfl rfl rfl rfl rfl rfl rfl rfl rfl rfl rfl rfl) (by kernel_rfl)
def ga20 : FuncId → Option Fspec := upd ga19 20 (some covS)
theorem ok20_3 : EnvOk ⟨Tryd.prog, plainT, ga20, de3, fun _ => none, 0⟩ := EnvOk.add ok19_3 (by first | exact cov_sound ok19_3 | exact cov_sound ok19_3 rfl | exact cov_sound ok19_3 rfl rfl | exact cov_sound ok19_3 rfl rfl rfl | exact cov_sound ok19_3 rfl rfl rfl rfl | exact cov_sound ok19_3 rfl rfl rfl rfl rfl | exact cov_sound ok19_3 rfl rfl rfl rfl rfl rfl | exact cov_sound ok19_3 rfl rfl rfl rfl rfl rfl rfl | exact cov_sound ok19_3 rfl rfl rfl rfl rfl rfl rfl rfl | exact cov_sound ok19_3 rfl rfl rfl rfl rfl rfl rfl rfl rfl | exact cov_sound ok19_3 rfl rfl rfl rfl rfl rfl rfl rfl rfl rfl | exact cov_sound ok19_3 rfl rfl rfl rfl rfl rfl rfl rfl rfl rfl rfl | exact cov_sound ok19_3 rfl rfl rfl rfl rfl rfl rfl rfl rfl rfl rfl rfl) (by kernel_rfl)
def de4 : FuncId → Option Pt := upd de3 36 (some (insT 2))
theorem ok20_4 : EnvOk ⟨Tryd.prog, plainT, ga20, de4, fun _ => none, 0⟩ := EnvOk.addT ok20_3 (by first | exact insI_sound ok20_3 | exact insI_sound ok20_3 rfl | exact insI_sound ok20_3 rfl rfl | exact insI_sound ok20_3 rfl rfl rfl | exact insI_sound ok20_3 rfl rfl rfl rfl | exact insI_sound ok20_3 rfl rfl rfl rfl rfl | exact insI_sound ok20_3 rfl rfl rfl rfl rfl rfl | exact insI_sound ok20_3 rfl rfl rfl rfl rfl rfl rfl | exact insI_sound ok20_3 rfl rfl rfl rfl rfl rfl rfl rfl | exact insI_sound ok20_3 rfl rfl rfl rfl rfl rfl rfl rfl rfl | exact insI_sound ok20_3 rfl rfl rfl rfl rfl rfl rfl rfl rfl rfl | exact insI_sound ok20_3 rfl rfl rfl rfl rfl rfl rfl rfl rfl rfl rfl | exact insI_sound ok20_3 rfl rfl rfl rfl rfl rfl rfl rfl rfl rfl rfl rfl)
def ga21 : FuncId → Option Fspec := upd ga20 18 (some sameIS)
theorem ok21_4 : EnvOk ⟨Tryd.prog, plainT, ga21, de4, fun _ => none, 0⟩ := EnvOk.add ok20_4 (by first | exact sameI_sound ok20_4 | exact sameI_sound ok20_4 rfl | exact sameI_sound ok20_4 rfl rfl | exact sameI_sound ok20_4 rfl rfl rfl | exact sameI_sound ok20_4 rfl rfl rfl rfl | exact sameI_sound ok20_4 rfl rfl rfl rfl rfl | exact sameI_sound ok20_4 rfl rfl rfl rfl rfl rfl | exact sameI_sound ok20_4 rfl rfl rfl rfl rfl rfl rfl | exact sameI_sound ok20_4 rfl rfl rfl rfl rfl rfl rfl rfl | exact sameI_sound ok20_4 rfl rfl rfl rfl rfl rfl rfl rfl rfl | exact sameI_sound ok20_4 rfl rfl rfl rfl rfl rfl rfl rfl rfl rfl | exact sameI_sound ok20_4 rfl rfl rfl rfl rfl rfl rfl rfl rfl rfl rfl | exact sameI_sound ok20_4 rfl rfl rfl rfl rfl rfl rfl rfl rfl rfl rfl rfl) (by kernel_rfl)
def ga22 : FuncId → Option Fspec := upd ga21 23 (some rcovS)
theorem ok22_4 : EnvOk ⟨Tryd.prog, plainT, ga22, de4, fun _ => none, 0⟩ := EnvOk.add ok21_4 (by first | exact rcov_sound ok21_4 | exact rcov_sound ok21_4 rfl | exact rcov_sound ok21_4 rfl rfl | exact rcov_sound ok21_4 rfl rfl rfl | exact rcov_sound ok21_4 rfl rfl rfl rfl | exact rcov_sound ok21_4 rfl rfl rfl rfl rfl | exact rcov_sound ok21_4 rfl rfl rfl rfl rfl rfl | exact rcov_sound ok21_4 rfl rfl rfl rfl rfl rfl rfl | exact rcov_sound ok21_4 rfl rfl rfl rfl rfl rfl rfl rfl | exact rcov_sound ok21_4 rfl rfl rfl rfl rfl rfl rfl rfl rfl | exact rcov_sound ok21_4 rfl rfl rfl rfl rfl rfl rfl rfl rfl rfl | exact rcov_sound ok21_4 rfl rfl rfl rfl rfl rfl rfl rfl rfl rfl rfl | exact rcov_sound ok21_4 rfl rfl rfl rfl rfl rfl rfl rfl rfl rfl rfl rfl) (by kernel_rfl)
def ga23 : FuncId → Option Fspec := upd ga22 19 (some raddS)
theorem ok23_4 : EnvOk ⟨Tryd.prog, plainT, ga23, de4, fun _ => none, 0⟩ := EnvOk.add ok22_4 (by first | exact radd_sound ok22_4 | exact radd_sound ok22_4 rfl | exact radd_sound ok22_4 rfl rfl | exact radd_sound ok22_4 rfl rfl rfl | exact radd_sound ok22_4 rfl rfl rfl rfl | exact radd_sound ok22_4 rfl rfl rfl rfl rfl | exact radd_sound ok22_4 rfl rfl rfl rfl rfl rfl | exact radd_sound ok22_4 rfl rfl rfl rfl rfl rfl rfl | exact radd_sound ok22_4 rfl rfl rfl rfl rfl rfl rfl rfl | exact radd_sound ok22_4 rfl rfl rfl rfl rfl rfl rfl rfl rfl | exact radd_sound ok22_4 rfl rfl rfl rfl rfl rfl rfl rfl rfl rfl | exact radd_sound ok22_4 rfl rfl rfl rfl rfl rfl rfl rfl rfl rfl rfl | exact radd_sound ok22_4 rfl rfl rfl rfl rfl rfl rfl rfl rfl rfl rfl rfl) (by kernel_rfl)
def ga24 : FuncId → Option Fspec := upd ga23 22 (some rmaxS)
theorem ok24_4 : EnvOk ⟨Tryd.prog, plainT, ga24, de4, fun _ => none, 0⟩ := EnvOk.add ok23_4 (by first | exact rmax_sound ok23_4 | exact rmax_sound ok23_4 rfl | exact rmax_sound ok23_4 rfl rfl | exact rmax_sound ok23_4 rfl rfl rfl | exact rmax_sound ok23_4 rfl rfl rfl rfl | exact rmax_sound ok23_4 rfl rfl rfl rfl rfl | exact rmax_sound ok23_4 rfl rfl rfl rfl rfl rfl | exact rmax_sound ok23_4 rfl rfl rfl rfl rfl rfl rfl | exact rmax_sound ok23_4 rfl rfl rfl rfl rfl rfl rfl rfl | exact rmax_sound ok23_4 rfl rfl rfl rfl rfl rfl rfl rfl rfl | exact rmax_sound ok23_4 rfl rfl rfl rfl rfl rfl rfl rfl rfl rfl | exact rmax_sound ok23_4 rfl rfl rfl rfl rfl rfl rfl rfl rfl rfl rfl | exact rmax_sound ok23_4 rfl rfl rfl rfl rfl rfl rfl rfl rfl rfl rfl rfl) (by kernel_rfl)
def ga25 : FuncId → Option Fspec := upd ga24 17 (some vaddS)
theorem ok25_4 : EnvOk ⟨Tryd.prog, plainT, ga25, de4, fun _ => none, 0⟩ := EnvOk.add ok24_4 (by first | exact vadd_sound ok24_4 | exact vadd_sound ok24_4 rfl | exact vadd_sound ok24_4 rfl rfl | exact vadd_sound ok24_4 rfl rfl rfl | exact vadd_sound ok24_4 rfl rfl rfl rfl | exact vadd_sound ok24_4 rfl rfl rfl rfl rfl | exact vadd_sound ok24_4 rfl rfl rfl rfl rfl rfl | exact vadd_sound ok24_4 rfl rfl rfl rfl rfl rfl rfl | exact vadd_sound ok24_4 rfl rfl rfl rfl rfl rfl rfl rfl | exact vadd_sound ok24_4 rfl rfl rfl rfl rfl rfl rfl rfl rfl | exact vadd_sound ok24_4 rfl rfl rfl rfl rfl rfl rfl rfl rfl rfl | exact vadd_sound ok24_4 rfl rfl rfl rfl rfl rfl rfl rfl rfl rfl rfl | exact vadd_sound ok24_4 rfl rfl rfl rfl rfl rfl rfl rfl rfl rfl rfl rfl) (by kernel_rfl)
def ga26 : FuncId → Option Fspec := upd ga25 21 (some mergeS)
theorem ok26_4 : EnvOk ⟨Tryd.prog, plainT, ga26, de4, fun _ => none, 0⟩ := EnvOk.add ok25_4 (by first | exact merge_sound ok25_4 | exact merge_sound ok25_4 rfl | exact merge_sound ok25_4 rfl rfl | exact merge_sound ok25_4 rfl rfl rfl | exact merge_sound ok25_4 rfl rfl rfl rfl | exact merge_sound ok25_4 rfl rfl rfl rfl rfl | exact merge_sound ok25_4 rfl rfl rfl rfl rfl rfl | exact merge_sound ok25_4 rfl rfl rfl rfl rfl rfl rfl | exact merge_sound ok25_4 rfl rfl rfl rfl rfl rfl rfl rfl | exact merge_sound ok25_4 rfl rfl rfl rfl rfl rfl rfl rfl rfl | exact merge_sound ok25_4 rfl rfl rfl rfl rfl rfl rfl rfl rfl rfl | exact merge_sound ok25_4 rfl rfl rfl rfl rfl rfl rfl rfl rfl rfl rfl | exact merge_sound ok25_4 rfl rfl rfl rfl rfl rfl rfl rfl rfl rfl rfl rfl) (by kernel_rfl)
def ga27 : FuncId → Option Fspec := upd ga26 32 (some itoaS)
theorem ok27_4 : EnvOk ⟨Tryd.prog, plainT, ga27, de4, fun _ => none, 0⟩ := EnvOk.add ok26_4 (itoa_sound) (by kernel_rfl)
def ga28 : FuncId → Option Fspec := upd ga27 34 (some decT)
theorem ok28_4 : EnvOk ⟨Tryd.prog, plainT, ga28, de4, fun _ => none, 0⟩ := EnvOk.add ok27_4 (by first | exact dec_sound ok27_4 | exact dec_sound ok27_4 rfl | exact dec_sound ok27_4 rfl rfl | exact dec_sound ok27_4 rfl rfl rfl | exact dec_sound ok27_4 rfl rfl rfl rfl | exact dec_sound ok27_4 rfl rfl rfl rfl rfl | exact dec_sound ok27_4 rfl rfl rfl rfl rfl rfl | exact dec_sound ok27_4 rfl rfl rfl rfl rfl rfl rfl | exact dec_sound ok27_4 rfl rfl rfl rfl rfl rfl rfl rfl | exact dec_sound ok27_4 rfl rfl rfl rfl rfl rfl rfl rfl rfl | exact dec_sound ok27_4 rfl rfl rfl rfl rfl rfl rfl rfl rfl rfl | exact dec_sound ok27_4 rfl rfl rfl rfl rfl rfl rfl rfl rfl rfl rfl | exact dec_sound ok27_4 rfl rfl rfl rfl rfl rfl rfl rfl rfl rfl rfl rfl) (by kernel_rfl)
def ga29 : FuncId → Option Fspec := upd ga28 15 (some fmtS)
theorem ok29_4 : EnvOk ⟨Tryd.prog, plainT, ga29, de4, fun _ => none, 0⟩ := EnvOk.add ok28_4 (by first | exact text_sound ok28_4 | exact text_sound ok28_4 rfl | exact text_sound ok28_4 rfl rfl | exact text_sound ok28_4 rfl rfl rfl | exact text_sound ok28_4 rfl rfl rfl rfl | exact text_sound ok28_4 rfl rfl rfl rfl rfl | exact text_sound ok28_4 rfl rfl rfl rfl rfl rfl | exact text_sound ok28_4 rfl rfl rfl rfl rfl rfl rfl | exact text_sound ok28_4 rfl rfl rfl rfl rfl rfl rfl rfl | exact text_sound ok28_4 rfl rfl rfl rfl rfl rfl rfl rfl rfl | exact text_sound ok28_4 rfl rfl rfl rfl rfl rfl rfl rfl rfl rfl | exact text_sound ok28_4 rfl rfl rfl rfl rfl rfl rfl rfl rfl rfl rfl | exact text_sound ok28_4 rfl rfl rfl rfl rfl rfl rfl rfl rfl rfl rfl rfl) (by kernel_rfl)
def ga30 : FuncId → Option Fspec := upd ga29 14 (some fmtS)
theorem ok30_4 : EnvOk ⟨Tryd.prog, plainT, ga30, de4, fun _ => none, 0⟩ := EnvOk.add ok29_4 (by first | exact fmt_sound ok29_4 | exact fmt_sound ok29_4 rfl | exact fmt_sound ok29_4 rfl rfl | exact fmt_sound ok29_4 rfl rfl rfl | exact fmt_sound ok29_4 rfl rfl rfl rfl | exact fmt_sound ok29_4 rfl rfl rfl rfl rfl | exact fmt_sound ok29_4 rfl rfl rfl rfl rfl rfl | exact fmt_sound ok29_4 rfl rfl rfl rfl rfl rfl rfl | exact fmt_sound ok29_4 rfl rfl rfl rfl rfl rfl rfl rfl | exact fmt_sound ok29_4 rfl rfl rfl rfl rfl rfl rfl rfl rfl | exact fmt_sound ok29_4 rfl rfl rfl rfl rfl rfl rfl rfl rfl rfl | exact fmt_sound ok29_4 rfl rfl rfl rfl rfl rfl rfl rfl rfl rfl rfl | exact fmt_sound ok29_4 rfl rfl rfl rfl rfl rfl rfl rfl rfl rfl rfl rfl) (by kernel_rfl)
def ga31 : FuncId → Option Fspec := upd ga30 24 (some greatS)
theorem ok31_4 : EnvOk ⟨Tryd.prog, plainT, ga31, de4, fun _ => none, 0⟩ := EnvOk.add ok30_4 (by first | exact great_sound ok30_4 | exact great_sound ok30_4 rfl | exact great_sound ok30_4 rfl rfl | exact great_sound ok30_4 rfl rfl rfl | exact great_sound ok30_4 rfl rfl rfl rfl | exact great_sound ok30_4 rfl rfl rfl rfl rfl | exact great_sound ok30_4 rfl rfl rfl rfl rfl rfl | exact great_sound ok30_4 rfl rfl rfl rfl rfl rfl rfl | exact great_sound ok30_4 rfl rfl rfl rfl rfl rfl rfl rfl | exact great_sound ok30_4 rfl rfl rfl rfl rfl rfl rfl rfl rfl | exact great_sound ok30_4 rfl rfl rfl rfl rfl rfl rfl rfl rfl rfl | exact great_sound ok30_4 rfl rfl rfl rfl rfl rfl rfl rfl rfl rfl rfl | exact great_sound ok30_4 rfl rfl rfl rfl rfl rfl rfl rfl rfl rfl rfl rfl) (by kernel_rfl)
def ga32 : FuncId → Option Fspec := upd ga31 10 (some rgtS)
theorem ok32_4 : EnvOk ⟨Tryd.prog, plainT, ga32, de4, fun _ => none, 0⟩ := EnvOk.add ok31_4 (by first | exact rgt_sound ok31_4 | exact rgt_sound ok31_4 rfl | exact rgt_sound ok31_4 rfl rfl | exact rgt_sound ok31_4 rfl rfl rfl | exact rgt_sound ok31_4 rfl rfl rfl rfl | exact rgt_sound ok31_4 rfl rfl rfl rfl rfl | exact rgt_sound ok31_4 rfl rfl rfl rfl rfl rfl | exact rgt_sound ok31_4 rfl rfl rfl rfl rfl rfl rfl | exact rgt_sound ok31_4 rfl rfl rfl rfl rfl rfl rfl rfl | exact rgt_sound ok31_4 rfl rfl rfl rfl rfl rfl rfl rfl rfl | exact rgt_sound ok31_4 rfl rfl rfl rfl rfl rfl rfl rfl rfl rfl | exact rgt_sound ok31_4 rfl rfl rfl rfl rfl rfl rfl rfl rfl rfl rfl | exact rgt_sound ok31_4 rfl rfl rfl rfl rfl rfl rfl rfl rfl rfl rfl rfl) (by kernel_rfl)
def ga33 : FuncId → Option Fspec := upd ga32 11 (some fixS)
theorem ok33_4 : EnvOk ⟨Tryd.prog, plainT, ga33, de4, fun _ => none, 0⟩ := EnvOk.add ok32_4 (by first | exact fix_sound ok32_4 | exact fix_sound ok32_4 rfl | exact fix_sound ok32_4 rfl rfl | exact fix_sound ok32_4 rfl rfl rfl | exact fix_sound ok32_4 rfl rfl rfl rfl | exact fix_sound ok32_4 rfl rfl rfl rfl rfl | exact fix_sound ok32_4 rfl rfl rfl rfl rfl rfl | exact fix_sound ok32_4 rfl rfl rfl rfl rfl rfl rfl | exact fix_sound ok32_4 rfl rfl rfl rfl rfl rfl rfl rfl | exact fix_sound ok32_4 rfl rfl rfl rfl rfl rfl rfl rfl rfl | exact fix_sound ok32_4 rfl rfl rfl rfl rfl rfl rfl rfl rfl rfl | exact fix_sound ok32_4 rfl rfl rfl rfl rfl rfl rfl rfl rfl rfl rfl | exact fix_sound ok32_4 rfl rfl rfl rfl rfl rfl rfl rfl rfl rfl rfl rfl) (by kernel_rfl)
def ga34 : FuncId → Option Fspec := upd ga33 28 (some cmpES)
theorem ok34_4 : EnvOk ⟨Tryd.prog, plainT, ga34, de4, fun _ => none, 0⟩ := EnvOk.add ok33_4 (by first | exact cmpE_sound ok33_4 | exact cmpE_sound ok33_4 rfl | exact cmpE_sound ok33_4 rfl rfl | exact cmpE_sound ok33_4 rfl rfl rfl | exact cmpE_sound ok33_4 rfl rfl rfl rfl | exact cmpE_sound ok33_4 rfl rfl rfl rfl rfl | exact cmpE_sound ok33_4 rfl rfl rfl rfl rfl rfl | exact cmpE_sound ok33_4 rfl rfl rfl rfl rfl rfl rfl | exact cmpE_sound ok33_4 rfl rfl rfl rfl rfl rfl rfl rfl | exact cmpE_sound ok33_4 rfl rfl rfl rfl rfl rfl rfl rfl rfl | exact cmpE_sound ok33_4 rfl rfl rfl rfl rfl rfl rfl rfl rfl rfl | exact cmpE_sound ok33_4 rfl rfl rfl rfl rfl rfl rfl rfl rfl rfl rfl | exact cmpE_sound ok33_4 rfl rfl rfl rfl rfl rfl rfl rfl rfl rfl rfl rfl) (by kernel_rfl)
def ga35 : FuncId → Option Fspec := upd ga34 29 (some cmpES)
theorem ok35_4 : EnvOk ⟨Tryd.prog, plainT, ga35, de4, fun _ => none, 0⟩ := EnvOk.add ok34_4 (by first | exact rcmp_sound ok34_4 | exact rcmp_sound ok34_4 rfl | exact rcmp_sound ok34_4 rfl rfl | exact rcmp_sound ok34_4 rfl rfl rfl | exact rcmp_sound ok34_4 rfl rfl rfl rfl | exact rcmp_sound ok34_4 rfl rfl rfl rfl rfl | exact rcmp_sound ok34_4 rfl rfl rfl rfl rfl rfl | exact rcmp_sound ok34_4 rfl rfl rfl rfl rfl rfl rfl | exact rcmp_sound ok34_4 rfl rfl rfl rfl rfl rfl rfl rfl | exact rcmp_sound ok34_4 rfl rfl rfl rfl rfl rfl rfl rfl rfl | exact rcmp_sound ok34_4 rfl rfl rfl rfl rfl rfl rfl rfl rfl rfl | exact rcmp_sound ok34_4 rfl rfl rfl rfl rfl rfl rfl rfl rfl rfl rfl | exact rcmp_sound ok34_4 rfl rfl rfl rfl rfl rfl rfl rfl rfl rfl rfl rfl) (by kernel_rfl)
abbrev gaE := ga35
abbrev deE := de4
theorem okE : EnvOk ⟨Tryd.prog, plainT, gaE, deE, fun _ => none, 0⟩ := ok35_4
end Go.Proofs.YtfpijfedodljfaaDoor

set_option linter.unusedVariables false
set_option maxRecDepth 100000
namespace Go.Proofs.YtfpijfedodljfaaDoor
open Go Go.RowKit Am Go.ChangeShapes Go.WideShapes

theorem bulk_pos {H : Type} (d : DataW H) : 1 ≤ Rows.uptoBulk d := by
  cases d with
  | lit l => cases l <;> simp [Rows.uptoBulk]
  | _ => simp [Rows.uptoBulk]
def bulk : Bulk where
  bk := Rows.uptoBulk
  bks := Rows.uptoBulkAll
  str := fun b => by simp only [Rows.uptoBulk]
  sl := fun e s => by simp only [Rows.uptoBulk]
  agg := fun e => by simp only [Rows.uptoBulk]
  pos := bulk_pos
  nil := by intro H; simp only [Rows.uptoBulkAll]
  cons := fun d r => by simp only [Rows.uptoBulkAll]
theorem opnStr : Opn bulk Tryd.prog 9 encStr bdStr := .str (by kernel_rfl)
theorem opnInt : Opn bulk Tryd.prog 3 (encInt .i64) (bdInt .i64) := .int (by kernel_rfl)
theorem opnBool : Opn bulk Tryd.prog 4 encBool bdBool := .bool (by kernel_rfl)
theorem bd64 {n : Int} {m : Nat} (h : bdInt .i64 n m) : -9223372036854775808 ≤ n ∧ n ≤ 9223372036854775807 := by
  unfold bdInt at h
  simp [Lit.wf, IntKind.min, IntKind.max, IntKind.bits, IntKind.signed] at h
  omega
def bdId (x : Idt) (m : Nat) : Prop := x.a.size < m ∧ -9223372036854775808 ≤ x.n ∧ x.n ≤ 9223372036854775807
theorem opnId : Opn bulk Tryd.prog 24 encId bdId := by
  refine Opn.map (fun p : ByteArray × Int × Unit => (⟨p.1, p.2.1⟩ : Idt)) (Opn.struct (enc := fun p => encStr p.1 ++ ((encInt .i64) p.2.1 ++ ([]))) (bd := fun p m => bdStr p.1 m ∧ ((bdInt .i64) p.2.1 m ∧ (True))) Tryd.underlying24 ?_) (fun _ => rfl) (by intro p m h; exact ⟨h.1, bd64 h.2.1⟩) (by intro b m m' h h2; exact ⟨Nat.lt_of_lt_of_le h2.1 h, h2.2⟩)
  rw [show Program.cellsOf Tryd.prog 24 = 2 by kernel_rfl]
  exact OpnF.cons (enc := encStr) (bd := bdStr) (z := 1) rfl (by kernel_rfl) (fun _ => rfl) opnStr (OpnF.cons (enc := (encInt .i64)) (bd := (bdInt .i64)) (z := 1) rfl (by kernel_rfl) (fun _ => rfl) opnInt OpnF.nil)
instance : Inhabited Idt := ⟨⟨⟨#[]⟩, 0⟩⟩
theorem opnIds : Opn bulk Tryd.prog 22 (encSl encId) (bdSl bdId) := Opn.slice (z := 2) Tryd.underlying22 (by kernel_rfl) (by decide) (fun _ => rfl) opnId
def encRat (x : Bool × ByteArray × ByteArray) : List V := [.s (.bool x.1), .s (.string x.2.1), .s (.string x.2.2)]
def bdRat (x : Bool × ByteArray × ByteArray) (m : Nat) : Prop := True
theorem opnRat : Opn bulk Tryd.prog 40 encRat bdRat := by
  refine Opn.map (fun p : Bool × ByteArray × ByteArray × Unit => ((p.1, p.2.1, p.2.2.1) : (Bool × ByteArray × ByteArray))) (Opn.struct (enc := fun p => encBool p.1 ++ (encStr p.2.1 ++ (encStr p.2.2.1 ++ ([])))) (bd := fun p m => bdBool p.1 m ∧ (bdStr p.2.1 m ∧ (bdStr p.2.2.1 m ∧ (True)))) Tryd.underlying40 ?_) (fun _ => rfl) (by intro p m h; exact trivial) (by intro b m m' h h2; exact trivial)
  rw [show Program.cellsOf Tryd.prog 40 = 3 by kernel_rfl]
  exact OpnF.cons (enc := encBool) (bd := bdBool) (z := 1) rfl (by kernel_rfl) (fun _ => rfl) opnBool (OpnF.cons (enc := encStr) (bd := bdStr) (z := 1) rfl (by kernel_rfl) (fun _ => rfl) opnStr (OpnF.cons (enc := encStr) (bd := bdStr) (z := 1) rfl (by kernel_rfl) (fun _ => rfl) opnStr OpnF.nil))
def bdE (x : Edt) (m : Nat) : Prop := x.field.size < m ∧ x.value.size < m ∧ x.deps.length < m ∧ ∀ y ∈ x.deps, bdId y m
instance : Inhabited Edt := ⟨⟨default, 0, 0, [], 0, default, default, false, ⟨#[]⟩, ⟨#[]⟩, ⟨#[]⟩, ⟨#[]⟩, default, ⟨#[]⟩⟩⟩
theorem opnE : Opn bulk Tryd.prog 42 encE bdE := by
  refine Opn.map (fun p : Idt × Int × Int × (List Idt) × Int × Idt × Idt × (Bool × ByteArray × ByteArray) × ByteArray × ByteArray × Idt × ByteArray × Unit => (⟨p.1, p.2.1, p.2.2.1, p.2.2.2.1, p.2.2.2.2.1, p.2.2.2.2.2.1, p.2.2.2.2.2.2.1, p.2.2.2.2.2.2.2.1.1, p.2.2.2.2.2.2.2.1.2.1, p.2.2.2.2.2.2.2.1.2.2, p.2.2.2.2.2.2.2.2.1, p.2.2.2.2.2.2.2.2.2.1, p.2.2.2.2.2.2.2.2.2.2.1, p.2.2.2.2.2.2.2.2.2.2.2.1⟩ : Edt)) (Opn.struct (enc := fun p => encId p.1 ++ ((encInt .i64) p.2.1 ++ ((encInt .i64) p.2.2.1 ++ ((encSl encId) p.2.2.2.1 ++ ((encInt .i64) p.2.2.2.2.1 ++ (encId p.2.2.2.2.2.1 ++ (encId p.2.2.2.2.2.2.1 ++ (encRat p.2.2.2.2.2.2.2.1 ++ (encStr p.2.2.2.2.2.2.2.2.1 ++ (encStr p.2.2.2.2.2.2.2.2.2.1 ++ (encId p.2.2.2.2.2.2.2.2.2.2.1 ++ (encStr p.2.2.2.2.2.2.2.2.2.2.2.1 ++ ([]))))))))))))) (bd := fun p m => bdId p.1 m ∧ ((bdInt .i64) p.2.1 m ∧ ((bdInt .i64) p.2.2.1 m ∧ ((bdSl bdId) p.2.2.2.1 m ∧ ((bdInt .i64) p.2.2.2.2.1 m ∧ (bdId p.2.2.2.2.2.1 m ∧ (bdId p.2.2.2.2.2.2.1 m ∧ (bdRat p.2.2.2.2.2.2.2.1 m ∧ (bdStr p.2.2.2.2.2.2.2.2.1 m ∧ (bdStr p.2.2.2.2.2.2.2.2.2.1 m ∧ (bdId p.2.2.2.2.2.2.2.2.2.2.1 m ∧ (bdStr p.2.2.2.2.2.2.2.2.2.2.2.1 m ∧ (True))))))))))))) Tryd.underlying42 ?_) (fun _ => rfl) (by intro p m h; exact ⟨h.2.2.2.2.2.2.2.2.1, h.2.2.2.2.2.2.2.2.2.1, h.2.2.2.1.1, h.2.2.2.1.2⟩) (by intro b m m' h h2; exact ⟨Nat.lt_of_lt_of_le h2.1 h, Nat.lt_of_lt_of_le h2.2.1 h, Nat.lt_of_lt_of_le h2.2.2.1 h, fun y hy => opnId.1 y m m' h (h2.2.2.2 y hy)⟩)
  rw [show Program.cellsOf Tryd.prog 42 = 18 by kernel_rfl]
  exact OpnF.cons (enc := encId) (bd := bdId) (z := 2) rfl (by kernel_rfl) (fun _ => rfl) opnId (OpnF.cons (enc := (encInt .i64)) (bd := (bdInt .i64)) (z := 1) rfl (by kernel_rfl) (fun _ => rfl) opnInt (OpnF.cons (enc := (encInt .i64)) (bd := (bdInt .i64)) (z := 1) rfl (by kernel_rfl) (fun _ => rfl) opnInt (OpnF.cons (enc := (encSl encId)) (bd := (bdSl bdId)) (z := 1) rfl (by kernel_rfl) (fun _ => rfl) opnIds (OpnF.cons (enc := (encInt .i64)) (bd := (bdInt .i64)) (z := 1) rfl (by kernel_rfl) (fun _ => rfl) opnInt (OpnF.cons (enc := encId) (bd := bdId) (z := 2) rfl (by kernel_rfl) (fun _ => rfl) opnId (OpnF.cons (enc := encId) (bd := bdId) (z := 2) rfl (by kernel_rfl) (fun _ => rfl) opnId (OpnF.cons (enc := encRat) (bd := bdRat) (z := 3) rfl (by kernel_rfl) (fun _ => rfl) opnRat (OpnF.cons (enc := encStr) (bd := bdStr) (z := 1) rfl (by kernel_rfl) (fun _ => rfl) opnStr (OpnF.cons (enc := encStr) (bd := bdStr) (z := 1) rfl (by kernel_rfl) (fun _ => rfl) opnStr (OpnF.cons (enc := encId) (bd := bdId) (z := 2) rfl (by kernel_rfl) (fun _ => rfl) opnId (OpnF.cons (enc := encStr) (bd := bdStr) (z := 1) rfl (by kernel_rfl) (fun _ => rfl) opnStr OpnF.nil)))))))))))
theorem own : ownKnob Tryd.prog.godebug = none := by kernel_rfl
theorem laidOut : laidOutB Tryd.prog = true := by kernel_rfl
end Go.Proofs.YtfpijfedodljfaaDoor

set_option linter.unusedVariables false
set_option linter.unusedSimpArgs false
namespace Go.Proofs.YtfpijfedodljfaaDoor
open Go Go.RowKit Am

theorem blt (a b : ByteArray) : Op.bytesLess a.toList b.toList = decide (cmpB a b < 0) := by
  rw [bless, ByteArray.toList_eq, ByteArray.toList_eq]; rfl
theorem cB_irr (a : ByteArray) : ¬ cmpB a a < 0 := by
  have := (ordB.z a a).2 rfl
  omega
theorem cB_ne {a b : ByteArray} (h : cmpB a b < 0) : a ≠ b := fun e => by subst e; exact cB_irr a h
theorem cB_as {a b : ByteArray} (h : cmpB a b < 0) : ¬ cmpB b a < 0 := fun h2 => by have := (ordB.an a b).1 h; omega
theorem cB_tri {a b : ByteArray} (h1 : ¬ cmpB a b < 0) (h2 : a ≠ b) : cmpB b a < 0 := by
  have h3 : ¬ cmpB a b = 0 := fun e => h2 ((ordB.z a b).1 e)
  have h4 := ordB.an b a
  exact h4.2 (by omega)
theorem cB_tr {a b c : ByteArray} (h1 : cmpB a b < 0) (h2 : cmpB b c < 0) : cmpB a c < 0 := ordB.tr a b c h1 h2
/-- A valid vector. -/
structure Val (v : List Idt) : Prop where
  ok : ∀ x ∈ v, authF x.a = true ∧ 1 ≤ x.n
  srt : v.Pairwise (fun x y => cmpB x.a y.a < 0)
theorem Val.tail {x : Idt} {v : List Idt} (h : Val (x :: v)) : Val v := ⟨fun y hy => h.ok y (by simp [hy]), (List.pairwise_cons.1 h.srt).2⟩
theorem Val.head {x : Idt} {v : List Idt} (h : Val (x :: v)) : ∀ y ∈ v, cmpB x.a y.a < 0 := (List.pairwise_cons.1 h.srt).1
theorem Val.nil : Val [] := ⟨by simp, by simp⟩
theorem chkFrom_all {v : List Idt} : ∀ (m i : Nat), chkFrom v m i = 0 → ∀ j, i ≤ j → j < i + m → chkAt v j = 0
  | 0, i, _, j, h1, h2 => by omega
  | m + 1, i, h, j, h1, h2 => by
    rw [chkFrom] at h
    by_cases hc : chkAt v i = 0
    · rw [if_pos hc] at h
      by_cases hj : j = i
      · rw [hj]; exact hc
      · exact chkFrom_all m (i + 1) h j (by omega) (by omega)
    · rw [if_neg hc] at h
      exact absurd h hc
theorem chkFrom_of {v : List Idt} : ∀ (m i : Nat), (∀ j, i ≤ j → j < i + m → chkAt v j = 0) → chkFrom v m i = 0
  | 0, i, _ => rfl
  | m + 1, i, h => by
    rw [chkFrom, if_pos (h i (by omega) (by omega))]
    exact chkFrom_of m (i + 1) fun j h1 h2 => h j (by omega) (by omega)
theorem chkAt_iff {v : List Idt} {i : Nat} (hi : i < v.length) : chkAt v i = 0 ↔ authF v[i].a = true ∧ 1 ≤ v[i].n ∧ ∀ h : 0 < i, cmpB v[i - 1].a v[i].a < 0 := by
  have hat := idAt_lt v hi
  unfold chkAt
  rw [hat]
  cases ha : authF v[i].a
  · simp
  · by_cases hn : v[i].n < 1
    · simp [hn]; omega
    · have hn' : 1 ≤ v[i].n := by omega
      by_cases h0 : 0 < i
      · have hjt := idAt_lt v (show i - 1 < v.length by omega)
        rw [hjt, lbeq, blt]
        by_cases h1 : v[i].a = v[i - 1].a
        · have : ¬ cmpB v[i - 1].a v[i].a < 0 := by rw [h1]; exact cB_irr _
          simp [hn, h0, h1]
          exact fun _ => by have := cB_irr v[i - 1].a; omega
        · by_cases h2 : cmpB v[i].a v[i - 1].a < 0
          · have := cB_as h2
            simp [hn, h0, h1, h2]
            omega
          · have := cB_tri h2 h1
            simp [hn, h0, h1, h2, this, hn']
      · simp [hn, h0, hn']
theorem val_of_chk {v : List Idt} (h : chkF v = 0) : Val v := by
  have hall : ∀ j (hj : j < v.length), authF v[j].a = true ∧ 1 ≤ v[j].n ∧ ∀ h : 0 < j, cmpB v[j - 1].a v[j].a < 0 := fun j hj => (chkAt_iff hj).1 (chkFrom_all v.length 0 h j (by omega) (by omega))
  refine ⟨fun x hx => ?_, ?_⟩
  · obtain ⟨j, hj, rfl⟩ := List.getElem_of_mem hx
    exact ⟨(hall j hj).1, (hall j hj).2.1⟩
  · rw [List.pairwise_iff_getElem]
    intro i j hi hj hij
    induction j with
    | zero => omega
    | succ j ih =>
      have h1 := (hall (j + 1) hj).2.2 (by omega)
      simp only [Nat.add_sub_cancel] at h1
      by_cases he : i = j
      · subst he; exact h1
      · exact cB_tr (ih (by omega) (by omega)) h1
theorem chk_of_val {v : List Idt} (h : Val v) : chkF v = 0 := by
  refine chkFrom_of v.length 0 fun j _ hj => (chkAt_iff (by omega)).2 ⟨(h.ok _ (List.getElem_mem _)).1, (h.ok _ (List.getElem_mem _)).2, fun h0 => ?_⟩
  exact (List.pairwise_iff_getElem.1 h.srt) (j - 1) j (by omega) (by omega) (by omega)
theorem up_cons (y : Idt) (v : List Idt) (a : ByteArray) : uptoF (y :: v) a = if y.a = a then y.n else uptoF v a := by
  rw [uptoF, lbeq]
  by_cases h : y.a = a <;> simp [h]
theorem up_none {a : ByteArray} : ∀ {v : List Idt}, (∀ x ∈ v, x.a ≠ a) → uptoF v a = 0
  | [], _ => rfl
  | y :: v, h => by rw [up_cons, if_neg (h y (by simp)), up_none fun x hx => h x (by simp [hx])]
theorem up_nonneg {v : List Idt} (h : Val v) (a : ByteArray) : 0 ≤ uptoF v a := by
  induction v with
  | nil => simp [uptoF]
  | cons y v ih =>
    rw [up_cons]
    split
    · have := (h.ok y (by simp)).2; omega
    · exact ih h.tail
theorem up_mem {v : List Idt} (h : Val v) : ∀ {x : Idt}, x ∈ v → uptoF v x.a = x.n := by
  induction v with
  | nil => intro x hx; simp at hx
  | cons y v ih =>
    intro x hx
    rw [up_cons]
    rcases List.mem_cons.1 hx with rfl | hx
    · rw [if_pos rfl]
    · rw [if_neg (cB_ne (h.head x hx)), ih h.tail hx]
theorem up_cases (v : List Idt) (a : ByteArray) : uptoF v a = 0 ∨ ∃ x ∈ v, x.a = a ∧ uptoF v a = x.n := by
  induction v with
  | nil => exact .inl rfl
  | cons y v ih =>
    rw [up_cons]
    by_cases h : y.a = a
    · exact .inr ⟨y, by simp, h, by rw [if_pos h]⟩
    · rw [if_neg h]
      rcases ih with h1 | ⟨x, h1, h2, h3⟩
      · exact .inl h1
      · exact .inr ⟨x, by simp [h1], h2, h3⟩
/-- Where the search ends. -/
theorem place_at {v : List Idt} (h : Val v) (a : ByteArray) : (∀ k (hk : k < v.length), k < plPos v a → cmpB v[k].a a < 0) ∧ (∀ k (hk : k < v.length), plPos v a ≤ k → ¬ cmpB v[k].a a < 0) := by
  have hs := List.pairwise_iff_getElem.1 h.srt
  have mono : ∀ k m, k ≤ m → m < v.length → cAt (fun x : Idt => cmpB x.a a) v m < 0 → cAt (fun x : Idt => cmpB x.a a) v k < 0 := by
    intro k m hkm hm hc
    rw [cAt_lt _ v hm] at hc
    rw [cAt_lt _ v (show k < v.length by omega)]
    by_cases he : k = m
    · subst he; exact hc
    · exact cB_tr (hs k m (by omega) hm (by omega)) hc
  obtain ⟨l1, l2⟩ := bsF_lb (cAt (fun x : Idt => cmpB x.a a) v) v.length mono v.length 0 v.length (by omega) (by omega) (by omega) (fun k hk => by omega) (fun k h1 h2 => by omega)
  refine ⟨fun k hk h1 => ?_, fun k hk h1 => ?_⟩
  · have := l1 k h1
    rwa [cAt_lt _ v hk] at this
  · have := l2 k h1 hk
    rwa [cAt_lt _ v hk] at this
theorem hit_iff (v : List Idt) (a : ByteArray) : plHit v a = true ↔ ∃ h : plPos v a < v.length, v[plPos v a].a = a := by
  have h1 : plHit v a = (decide (plPos v a < v.length) && decide (cAt (fun x : Idt => cmpB x.a a) v (plPos v a) = 0)) := rfl
  rw [h1, Bool.and_eq_true, decide_eq_true_eq, decide_eq_true_eq]
  constructor
  · rintro ⟨h2, h3⟩
    rw [cAt_lt _ v h2] at h3
    exact ⟨h2, (ordB.z _ _).1 h3⟩
  · rintro ⟨h2, h3⟩
    exact ⟨h2, by rw [cAt_lt _ v h2]; exact (ordB.z _ _).2 h3⟩
theorem cont_has {v : List Idt} (h : Val v) (x : Idt) : contF v x = hasF v x := by
  obtain ⟨l1, l2⟩ := place_at h x.a
  unfold contF hasF
  cases hh : plHit v x.a with
  | true =>
    obtain ⟨h1, h2⟩ := (hit_iff v x.a).1 hh
    rw [nAt_lt v h1]
    have := up_mem h (List.getElem_mem h1)
    rw [h2] at this
    rw [this]
    simp
  | false =>
    have hn : ∀ y ∈ v, y.a ≠ x.a := by
      intro y hy he
      obtain ⟨k, hk, rfl⟩ := List.getElem_of_mem hy
      have hlt : ¬ k < plPos v x.a := fun h1 => cB_ne (l1 k hk h1) he
      have : plHit v x.a = true := (hit_iff v x.a).2 ⟨by omega, by
        by_cases hkp : k = plPos v x.a
        · simp only [← hkp]; exact he
        · have h3 := (List.pairwise_iff_getElem.1 h.srt) (plPos v x.a) k (by omega) hk (by omega)
          rw [he] at h3
          exact absurd h3 (l2 _ (by omega) (Nat.le_refl _))⟩
      rw [this] at hh
      cases hh
    rw [up_none hn]
    by_cases h1 : 1 ≤ x.n
    · have : ¬ x.n ≤ 0 := by omega
      simp [this]
    · simp [h1]
/-- Insertion, place by place. -/
def addL : List Idt → Idt → List Idt
  | [], x => [x]
  | y :: v, x => if cmpB y.a x.a < 0 then y :: addL v x else if y.a = x.a then maxId y x :: v else x :: y :: v
theorem addL_at (x : Idt) : ∀ (v : List Idt) (p : Nat), p ≤ v.length → (∀ k (hk : k < v.length), k < p → cmpB v[k].a x.a < 0) → (∀ h : p < v.length, ¬ cmpB v[p].a x.a < 0) →
    addL v x = v.take p ++ (if h : p < v.length then (if v[p].a = x.a then maxId v[p] x :: v.drop (p + 1) else x :: v.drop p) else [x])
  | [], p, hp, _, _ => by
    have : p = 0 := by simpa using hp
    subst this
    rfl
  | y :: v, 0, hp, h1, h2 => by
    have h3 : ¬ cmpB y.a x.a < 0 := h2 (by simp)
    simp only [addL, if_neg h3, List.take_zero, List.nil_append, List.length_cons, Nat.zero_lt_succ, dif_pos, List.getElem_cons_zero, List.drop_succ_cons, List.drop_zero]
  | y :: v, p + 1, hp, h1, h2 => by
    have h3 : cmpB y.a x.a < 0 := h1 0 (by simp) (by omega)
    have ih := addL_at x v p (by simpa using hp) (fun k hk hkp => h1 (k + 1) (by simpa using hk) (by omega)) (fun h => h2 (by simpa using h))
    rw [addL, if_pos h3, ih]
    by_cases hpl : p < v.length
    · have hpl' : p + 1 < (y :: v).length := by simpa using hpl
      simp only [dif_pos hpl, dif_pos hpl', List.take_succ_cons, List.cons_append, List.getElem_cons_succ, List.drop_succ_cons]
    · have hpl' : ¬ p + 1 < (y :: v).length := by simpa using hpl
      simp only [dif_neg hpl, dif_neg hpl', List.take_succ_cons, List.cons_append]
theorem vadd_addL {v : List Idt} (h : Val v) (x : Idt) : vaddF v x = addL v x := by
  obtain ⟨l1, l2⟩ := place_at h x.a
  have hp : plPos v x.a ≤ v.length := (bsF_le _ _ _ (Nat.zero_le _)).2
  rw [addL_at x v (plPos v x.a) hp (fun k hk h1 => l1 k hk h1) (fun h1 => l2 _ h1 (Nat.le_refl _))]
  unfold vaddF
  cases hh : plHit v x.a with
  | true =>
    obtain ⟨h1, h2⟩ := (hit_iff v x.a).1 hh
    rw [if_pos rfl, dif_pos h1, if_pos h2]
    have h3 : v.getD (plPos v x.a) dId = v[plPos v x.a] := by rw [List.getD_eq_getElem?_getD, List.getElem?_eq_getElem h1]; rfl
    rw [h3, List.set_eq_take_append_cons_drop, if_pos h1]
  | false =>
    have h2 : ∀ h1 : plPos v x.a < v.length, ¬ v[plPos v x.a].a = x.a := fun h1 h2 => by
      rw [(hit_iff v x.a).2 ⟨h1, h2⟩] at hh; cases hh
    simp only [Bool.false_eq_true, if_false, insAt]
    by_cases h1 : plPos v x.a < v.length
    · rw [dif_pos h1, if_neg (h2 h1)]; simp
    · rw [dif_neg h1, List.drop_of_length_le (by omega)]; simp
theorem ra_true (x : Idt) : ∀ {v : List Idt}, (∀ y ∈ v, cmpB x.a y.a < 0) → raF v x true = v
  | [], _ => rfl
  | y :: v, h => by
    have h1 : (y.a.toList == x.a.toList) = false := by rw [lbeq]; simpa using fun e : y.a = x.a => cB_ne (h y (by simp)) e.symm
    rw [raF, h1, ra_true x fun z hz => h z (by simp [hz])]
    simp
theorem ra_lay (x : Idt) : ∀ {v : List Idt}, (∀ y ∈ v, cmpB x.a y.a < 0) → raF v x false = x :: v
  | [], _ => rfl
  | y :: v, h => by
    have h0 := h y (by simp)
    have h1 : (y.a.toList == x.a.toList) = false := by rw [lbeq]; simpa using fun e : y.a = x.a => cB_ne h0 e.symm
    have h2 : Op.bytesLess y.a.toList x.a.toList = false := by rw [blt]; simpa using cB_as h0
    rw [raF, h1, h2, ra_true x fun z hz => h z (by simp [hz])]
    simp
theorem radd_addL (x : Idt) : ∀ {v : List Idt}, Val v → raF v x false = addL v x
  | [], _ => rfl
  | y :: v, h => by
    rw [raF, addL, lbeq]
    by_cases h1 : y.a = x.a
    · have hn : ¬ cmpB y.a x.a < 0 := by rw [h1]; exact cB_irr _
      rw [if_pos (by simpa using h1), if_neg hn, if_pos h1]
      have hx : ∀ z ∈ v, cmpB (if x.n < y.n then y else x).a z.a < 0 := by
        intro z hz
        have := h.head z hz
        split
        · exact this
        · rw [← h1]; exact this
      rw [ra_lay _ hx]
      congr 1
      unfold maxId
      by_cases h2 : x.n < y.n
      · rw [if_pos h2, if_neg (by omega)]
      · rw [if_neg h2]
        cases x with | mk xa xn =>
        simp only at h1 h2 ⊢
        subst h1
        congr 1
        split <;> omega
    · rw [if_neg (by simpa using h1)]
      by_cases h2 : cmpB y.a x.a < 0
      · have h3 : Op.bytesLess y.a.toList x.a.toList = true := by rw [blt]; simpa using h2
        rw [h3, if_pos h2, radd_addL x h.tail]
        simp
      · have h3 : Op.bytesLess y.a.toList x.a.toList = false := by rw [blt]; simpa using h2
        have h4 := cB_tri h2 h1
        rw [h3, if_neg h2, if_neg h1, ra_true x fun z hz => cB_tr h4 (h.head z hz)]
        simp [h1]
def imax (m n : Int) : Int := if m < n then n else m
theorem addL_mem {x z : Idt} : ∀ {v : List Idt}, z ∈ addL v x → z.a = x.a ∨ ∃ y ∈ v, z.a = y.a
  | [], h => by simp [addL] at h; exact .inl (by rw [h])
  | y :: v, h => by
    rw [addL] at h
    split at h
    · rcases List.mem_cons.1 h with rfl | h
      · exact .inr ⟨z, by simp, rfl⟩
      · rcases addL_mem h with h | ⟨w, h1, h2⟩
        · exact .inl h
        · exact .inr ⟨w, by simp [h1], h2⟩
    · split at h
      · rcases List.mem_cons.1 h with rfl | h
        · exact .inr ⟨y, by simp, rfl⟩
        · exact .inr ⟨z, by simp [h], rfl⟩
      · rcases List.mem_cons.1 h with rfl | h
        · exact .inl rfl
        · exact .inr ⟨z, h, rfl⟩
theorem addL_val {x : Idt} (hx : authF x.a = true ∧ 1 ≤ x.n) : ∀ {v : List Idt}, Val v → Val (addL v x)
  | [], _ => ⟨by simp [addL]; exact hx, by simp [addL]⟩
  | y :: v, h => by
    rw [addL]
    split
    · rename_i h1
      have ih := addL_val hx h.tail
      refine ⟨fun z hz => ?_, List.pairwise_cons.2 ⟨fun z hz => ?_, ih.srt⟩⟩
      · rcases List.mem_cons.1 hz with rfl | hz
        · exact h.ok _ (by simp)
        · exact ih.ok z hz
      · rcases addL_mem hz with h2 | ⟨w, h2, h3⟩
        · rw [h2]; exact h1
        · rw [h3]; exact h.head w h2
    · split
      · refine ⟨fun z hz => ?_, List.pairwise_cons.2 ⟨fun z hz => h.head z hz, h.tail.srt⟩⟩
        rcases List.mem_cons.1 hz with rfl | hz
        · have h2 := h.ok y (by simp)
          refine ⟨h2.1, ?_⟩
          show 1 ≤ if y.n < x.n then x.n else y.n
          split
          · exact hx.2
          · exact h2.2
        · exact h.tail.ok z hz
      · rename_i h1 h2
        have h3 := cB_tri h1 h2
        refine ⟨fun z hz => ?_, List.pairwise_cons.2 ⟨fun z hz => ?_, h.srt⟩⟩
        · rcases List.mem_cons.1 hz with rfl | hz
          · exact hx
          · exact h.ok z hz
        · rcases List.mem_cons.1 hz with rfl | hz
          · exact h3
          · exact cB_tr h3 (h.head z hz)
theorem addL_up {x : Idt} (hx : 1 ≤ x.n) (a : ByteArray) : ∀ {v : List Idt}, Val v → uptoF (addL v x) a = if x.a = a then imax (uptoF v a) x.n else uptoF v a
  | [], _ => by
    rw [addL, up_cons]
    by_cases h : x.a = a
    · rw [if_pos h, if_pos h]; exact (if_pos (show (0 : Int) < x.n by omega)).symm
    · rw [if_neg h, if_neg h]
  | y :: v, h => by
    rw [addL]
    split
    · rename_i h1
      rw [up_cons, addL_up hx a h.tail, up_cons]
      by_cases h2 : y.a = a
      · have h3 : ¬ x.a = a := fun e => cB_ne h1 (h2.trans e.symm)
        rw [if_pos h2, if_pos h2, if_neg h3]
      · rw [if_neg h2, if_neg h2]
    · split
      · rename_i h1 h2
        rw [up_cons, up_cons]
        show (if y.a = a then (if y.n < x.n then x.n else y.n) else uptoF v a) = _
        by_cases h3 : y.a = a
        · rw [if_pos h3, if_pos h3, if_pos (h2.symm.trans h3)]; rfl
        · rw [if_neg h3, if_neg h3, if_neg (fun e => h3 (h2.trans e))]
      · rename_i h1 h2
        have h3 := cB_tri h1 h2
        rw [up_cons]
        by_cases h4 : x.a = a
        · rw [if_pos h4, if_pos h4]
          have : uptoF (y :: v) a = 0 := up_none fun z hz e => by
            rcases List.mem_cons.1 hz with rfl | hz
            · exact h2 (e.trans h4.symm)
            · exact cB_ne (cB_tr h3 (h.head z hz)) (h4.trans e.symm)
          rw [this]; exact (if_pos (show (0 : Int) < x.n by omega)).symm
        · rw [if_neg h4, if_neg h4]
theorem val_ext : ∀ {v w : List Idt}, Val v → Val w → (∀ a, uptoF v a = uptoF w a) → v = w
  | [], [], _, _, _ => rfl
  | [], y :: w, _, hw, h => by
    have h1 := h y.a
    have h2 := up_mem hw (x := y) (by simp)
    have h3 := (hw.ok y (by simp)).2
    rw [h2] at h1
    simp only [uptoF] at h1
    omega
  | x :: v, [], hv, _, h => by
    have h1 := h x.a
    have h2 := up_mem hv (x := x) (by simp)
    have h3 := (hv.ok x (by simp)).2
    rw [h2] at h1
    simp only [uptoF] at h1
    omega
  | x :: v, y :: w, hv, hw, h => by
    have hx := up_mem hv (x := x) (by simp)
    have hy := up_mem hw (x := y) (by simp)
    have px := (hv.ok x (by simp)).2
    have py := (hw.ok y (by simp)).2
    have he : x.a = y.a := by
      by_cases h1 : x.a = y.a
      · exact h1
      · exfalso
        by_cases h2 : cmpB x.a y.a < 0
        · have h3 : uptoF (y :: w) x.a = 0 := up_none fun z hz e => by
            rcases List.mem_cons.1 hz with rfl | hz
            · exact h1 e.symm
            · exact cB_ne (cB_tr h2 (hw.head z hz)) e.symm
          have := h x.a
          omega
        · have h2 := cB_tri h2 h1
          have h3 : uptoF (x :: v) y.a = 0 := up_none fun z hz e => by
            rcases List.mem_cons.1 hz with rfl | hz
            · exact h1 e
            · exact cB_ne (cB_tr h2 (hv.head z hz)) e.symm
          have := h y.a
          omega
    have hn : x.n = y.n := by have := h x.a; rw [hx, he, hy] at this; exact this
    have hxy : x = y := by cases x; cases y; simp only at he hn; subst he; subst hn; rfl
    subst hxy
    congr 1
    refine val_ext hv.tail hw.tail fun a => ?_
    have := h a
    rw [up_cons, up_cons] at this
    by_cases h1 : x.a = a
    · rw [up_none fun z hz e => cB_ne (hv.head z hz) (h1.trans e.symm), up_none fun z hz e => cB_ne (hw.head z hz) (h1.trans e.symm)]
    · rwa [if_neg h1, if_neg h1] at this
theorem imax_l {m n : Int} : m ≤ imax m n := by unfold imax; split <;> omega
theorem imax_r {m n : Int} : n ≤ imax m n := by unfold imax; split <;> omega
theorem imax_le {m n k : Int} (h1 : m ≤ k) (h2 : n ≤ k) : imax m n ≤ k := by unfold imax; split <;> omega
theorem vadd_val {v : List Idt} {x : Idt} (h : Val v) (hx : authF x.a = true ∧ 1 ≤ x.n) : Val (vaddF v x) := by rw [vadd_addL h]; exact addL_val hx h
theorem vadd_up {v : List Idt} {x : Idt} (h : Val v) (hx : 1 ≤ x.n) (a : ByteArray) : uptoF (vaddF v x) a = if x.a = a then imax (uptoF v a) x.n else uptoF v a := by rw [vadd_addL h]; exact addL_up hx a h
theorem merge_all : ∀ {b a : List Idt}, Val a → Val b → Val (mergeF a b) ∧ rmaxF a b = mergeF a b ∧ ∀ c, uptoF (mergeF a b) c = imax (uptoF a c) (uptoF b c)
  | [], a, ha, _ => ⟨ha, rfl, fun c => by
    have := up_nonneg ha c
    show uptoF a c = imax (uptoF a c) 0
    unfold imax; split <;> omega⟩
  | x :: b, a, ha, hb => by
    have hx := hb.ok x (by simp)
    have h1 := vadd_val ha hx
    obtain ⟨g1, g2, g3⟩ := merge_all (b := b) h1 hb.tail
    refine ⟨g1, ?_, fun c => ?_⟩
    · have : raddF a x = vaddF a x := by rw [vadd_addL ha]; exact radd_addL x ha
      show rmaxF (raddF a x) b = mergeF (vaddF a x) b
      rw [this]; exact g2
    · show uptoF (mergeF (vaddF a x) b) c = _
      rw [g3, vadd_up ha hx.2, up_cons]
      by_cases h2 : x.a = c
      · rw [if_pos h2, if_pos h2]
        have h3 : uptoF b c = 0 := up_none fun z hz e => cB_ne (hb.head z hz) (h2.trans e.symm)
        rw [h3]
        have := hx.2
        unfold imax
        split <;> split <;> omega
      · rw [if_neg h2, if_neg h2]
theorem cov_iff {a b : List Idt} (ha : Val a) (hb : Val b) : covF a b = true ↔ ∀ c, uptoF b c ≤ uptoF a c := by
  have h1 : ∀ x, contF a x = true ↔ 1 ≤ x.n ∧ x.n ≤ uptoF a x.a := fun x => by rw [cont_has ha, hasF]; simp
  unfold covF
  rw [List.all_eq_true]
  constructor
  · intro h c
    rcases up_cases b c with h2 | ⟨x, h2, h3, h4⟩
    · rw [h2]; exact up_nonneg ha c
    · rw [h4, ← h3]; exact ((h1 x).1 (h x h2)).2
  · intro h x hx
    have := h x.a
    rw [up_mem hb hx] at this
    exact (h1 x).2 ⟨(hb.ok x hx).2, this⟩
theorem cov_rcov {a : List Idt} (ha : Val a) (b : List Idt) : covF a b = rcovF a b := by
  unfold covF rcovF
  congr 1
  funext x
  exact cont_has ha x
theorem same_iff : ∀ {a b : List Idt}, sameIF a b = true ↔ a = b
  | [], [] => by simp [sameIF]
  | [], y :: b => by simp [sameIF]
  | x :: a, [] => by simp [sameIF]
  | x :: a, y :: b => by
    have h : eqI x y = true ↔ x = y := by
      unfold eqI
      rw [lbeq]
      cases x; cases y
      simp
    rw [sameIF, Bool.and_eq_true, h, same_iff]
    simp
theorem same_refl (a : List Idt) : sameIF a a = true := same_iff.2 rfl
end Go.Proofs.YtfpijfedodljfaaDoor

set_option linter.unusedVariables false
set_option linter.unusedSimpArgs false
set_option maxRecDepth 100000
set_option maxHeartbeats 8000000
namespace Go.Proofs.YtfpijfedodljfaaDoor
open Go Go.RowKit Am

theorem tot_len : ∀ v : List Idt, (v.length : Int) * 10 ≤ totF v
  | [] => by simp [totF]
  | x :: v => by have := tot_len v; rw [totF, List.length_cons]; omega
theorem tot_size : ∀ {v : List Idt} {x : Idt}, x ∈ v → (x.a.size : Int) ≤ totF v
  | y :: v, x, h => by
    rw [totF]
    have := tot_pos v
    rcases List.mem_cons.1 h with rfl | h
    · omega
    · have := tot_size h; omega
structure Vec (v : List Idt) : Prop where
  val : Val v
  len : v.length ≤ 60
  siz : ∀ x ∈ v, x.a.size ≤ 600
theorem rgt_all {vs : List (List Idt)} (h : rgtF vs = true) : ∀ v ∈ vs, Vec v := by
  intro v hv
  unfold rgtF at h
  rw [Bool.and_eq_true, List.all_eq_true] at h
  have h1 : chkF v = 0 := by simpa using h.1 v hv
  have h2 : ¬ 600 < totF v := by
    intro h3
    have h4 : greatF vs = 1 := by
      unfold greatF
      rw [if_pos]
      rw [List.any_eq_true]
      exact ⟨v, hv, by simpa using h3⟩
    have := h.2
    rw [h4] at this
    simp at this
  have h3 := tot_len v
  exact ⟨val_of_chk h1, by omega, fun x hx => by have := tot_size hx; omega⟩
def rngV (v : List Idt) : Prop := ∀ x ∈ v, -9223372036854775808 ≤ x.n ∧ x.n ≤ 9223372036854775807
theorem Vec.fmt {v : List Idt} (h : Vec v) (hr : rngV v) : okV v := ⟨by have := h.len; omega, fun x hx => ⟨(h.val.ok x hx).2, (hr x hx).2, by have := h.siz x hx; omega⟩⟩
theorem merge_len : ∀ (b a : List Idt), (mergeF a b).length ≤ a.length + b.length
  | [], a => by show a.length ≤ _; simp
  | x :: b, a => by
    have h1 := vadd_len a x
    have h2 := merge_len b (vaddF a x)
    show (mergeF (vaddF a x) b).length ≤ _
    rw [List.length_cons]; omega
theorem sm1 {a : List Idt} (ha : smV a) : ∀ v ∈ [a], smV v := by
  intro v hv
  rw [List.mem_singleton.1 hv]
  exact ha
theorem sm2 {a b : List Idt} (ha : smV a) (hb : smV b) : ∀ v ∈ [a, b], smV v := by
  intro v hv
  rcases List.mem_cons.1 hv with rfl | hv
  · exact ha
  · exact sm1 hb v hv
theorem sm3 {a b c : List Idt} (ha : smV a) (hb : smV b) (hc : smV c) : ∀ v ∈ [a, b, c], smV v := by
  intro v hv
  rcases List.mem_cons.1 hv with rfl | hv
  · exact ha
  · exact sm2 hb hc v hv
def mrgLawS : Fspec := fun _ ds r => ∃ a b : List Idt, smV a ∧ smV b ∧ ds = [encIds a, encIds b] ∧ r = .s (.bool true)
theorem mrgLaw_sound {plain : TypeId → Bool} {Γ : FuncId → Option Fspec} {Δ : FuncId → Option Pt} (hE : EnvOk ⟨Tryd.prog, plain, Γ, Δ, fun _ => none, 0⟩) (g_rgt : Γ 10 = some rgtS) (g_fix : Γ 11 = some fixS) (g_merge : Γ 21 = some mergeS) (g_rmax : Γ 22 = some rmaxS) (g_sameI : Γ 18 = some sameIS) (g_cov : Γ 20 = some covS) (g_rcov : Γ 23 = some rcovS) : Sound Tryd.prog 4 mrgLawS := by
  refine sound_of_awp hE Tryd.func4 rfl (by kernel_rfl) ?_
  rintro Φ ds r ⟨a, b, ha, hb, rfl, rfl⟩
  refine ⟨by simp [Tryd.f4], ?_⟩
  unfold st0 encIds
  refine W.out (E := ⟨Tryd.prog, plain, Γ, Δ, Φ, _⟩) ?_
  refine go trivial ?_
  refine x_callN rfl rfl rfl rfl (sv trivial) g_rgt (sv trivial) (se trivial) ⟨[a, b], by simp, sm2 ha hb, rfl, rfl⟩ rfl ?_
  cases hr : rgtF [a, b]
  · refine go hr ?_
    refine x_callN rfl rfl rfl rfl (sv trivial) g_fix (sv trivial) (se trivial) ⟨rfl, rfl⟩ rfl ?_
    refine go trivial ?_
    refine x_done (x_out (sr @Tryd.f4.eq_1) (by simp) (by simp) rfl)
  · have va := rgt_all hr a (by simp)
    have vb := rgt_all hr b (by simp)
    have hal := va.len
    have hbl := vb.len
    obtain ⟨m1, m2, m3⟩ := merge_all va.val vb.val
    have ml := merge_len b a
    have hc := cov_rcov va.val b
    refine go hr ?_
    refine x_callN rfl rfl rfl rfl (sv trivial) g_fix (sv trivial) (se trivial) ⟨rfl, rfl⟩ rfl ?_
    refine go trivial ?_
    refine x_callS rfl rfl rfl rfl (sv trivial) g_merge (sv trivial) (se trivial) ⟨a, b, by omega, by omega, rfl, rfl⟩ (by simp) (by simp [touchA, touch]) ?_
    refine go trivial ?_
    refine x_callS rfl rfl rfl rfl (sv trivial) g_rmax (sv trivial) (se trivial) ⟨a, b, by omega, by omega, rfl, rfl⟩ (by simp) (by simp [touchA, touch]) ?_
    rw [m2]
    refine go trivial ?_
    refine x_callN rfl rfl rfl rfl (sv trivial) g_sameI (sv trivial) (se trivial) ⟨mergeF a b, mergeF a b, by omega, by omega, rfl, rfl⟩ rfl ?_
    rw [same_refl]
    refine go trivial ?_
    refine x_callN rfl rfl rfl rfl (sv trivial) g_cov (sv trivial) (se trivial) ⟨a, b, by omega, by omega, rfl, rfl⟩ rfl ?_
    refine go trivial ?_
    refine x_callN rfl rfl rfl rfl (sv trivial) g_rcov (sv trivial) (se trivial) ⟨a, b, by omega, by omega, rfl, rfl⟩ rfl ?_
    rw [hc]
    refine go trivial ?_
    refine x_done (x_out (sr @Tryd.f4.eq_1) (by simp) (by simp) rfl)
end Go.Proofs.YtfpijfedodljfaaDoor

set_option linter.unusedVariables false
set_option maxRecDepth 100000
namespace Go.Proofs.YtfpijfedodljfaaDoor
open Go Go.RowKit Am Go.ChangeShapes Go.WideShapes Go.ChangeAt

theorem laid_tail {P : Program} {W : World} {x : String × DataW Unit} {rest : List (String × DataW Unit)} (h : laidMet P (x :: rest) W) : laidMet P rest W := by
  obtain ⟨ps, ⟨g', t', cs, fuel, p, q, hg', ht', hvar, hd, hq, rfl⟩, hn, hc⟩ := h
  exact ⟨q, hq, (List.nodup_append.1 hn).2.1, fun b off hb => hc b off (List.mem_append_right _ hb)⟩
theorem g_pow : Tryd.prog.globalNamed "internal/strconv.uint64pow10" = some 1 := by kernel_rfl
theorem g_powT : (Tryd.prog.globals[1]?).map (·.type) = some 90 := by kernel_rfl
abbrev laidL : List (String × DataW Unit) := [("math/bits.deBruijn32tab", Rows.laid_math_bits_deBruijn32tab), ("math/bits.deBruijn64tab", Rows.laid_math_bits_deBruijn64tab), ("internal/strconv.uint64pow10", Rows.laid_internal_strconv_uint64pow10)]
theorem pow_data : (Rows.laid_internal_strconv_uint64pow10 : DataW Unit) = Lib.tabData .u64 Lib.pow10Tab := by kernel_rfl
theorem powTab {W : World} (h : laidMetH Tryd.prog laidL W) : Lib.TabIs Tryd.prog W "internal/strconv.uint64pow10" .u64 Lib.pow10Tab := by
  have h1 : laidMet Tryd.prog laidL W := h
  have h2 := laid_tail (laid_tail h1)
  rw [pow_data] at h2
  exact Lib.tabIs_of_head (rest := []) g_pow g_powT Tryd.underlying90 Tryd.underlying79 (by kernel_rfl) (by kernel_rfl) h2
theorem winv {W : World} (h : laidMetH Tryd.prog laidL W) : ∀ w1, Fr W w1 (fun _ => False) → WInv Tryd.prog w1 := fun w1 h1 => Lib.tabBelow_of_tabIs (powTab h) w1 h1.below
def tab1 : Obj → Obj
  | .cells _ t frozen => .cells #[.int .u64 1, .int .u64 10, .int .u64 100, .int .u64 1000, .int .u64 10000, .int .u64 100000, .int .u64 1000000, .int .u64 10000000, .int .u64 100000000, .int .u64 1000000000, .int .u64 10000000000, .int .u64 100000000000, .int .u64 1000000000000, .int .u64 10000000000000, .int .u64 100000000000000, .int .u64 1000000000000000, .int .u64 10000000000000000, .int .u64 100000000000000000, .int .u64 1000000000000000000, .int .u64 10000000000000000000] t frozen
  | o => o
def tab2 : Obj → Obj
  | .cells _ t frozen => .cells #[.int .u8 0, .int .u8 1, .int .u8 28, .int .u8 2, .int .u8 29, .int .u8 14, .int .u8 24, .int .u8 3, .int .u8 30, .int .u8 22, .int .u8 20, .int .u8 15, .int .u8 25, .int .u8 17, .int .u8 4, .int .u8 8, .int .u8 31, .int .u8 27, .int .u8 13, .int .u8 23, .int .u8 21, .int .u8 19, .int .u8 16, .int .u8 7, .int .u8 26, .int .u8 12, .int .u8 18, .int .u8 6, .int .u8 11, .int .u8 5, .int .u8 10, .int .u8 9] t frozen
  | o => o
def tab3 : Obj → Obj
  | .cells _ t frozen => .cells #[.int .u8 0, .int .u8 1, .int .u8 56, .int .u8 2, .int .u8 57, .int .u8 49, .int .u8 28, .int .u8 3, .int .u8 61, .int .u8 58, .int .u8 42, .int .u8 50, .int .u8 38, .int .u8 29, .int .u8 17, .int .u8 4, .int .u8 62, .int .u8 47, .int .u8 59, .int .u8 36, .int .u8 45, .int .u8 43, .int .u8 51, .int .u8 22, .int .u8 53, .int .u8 39, .int .u8 33, .int .u8 30, .int .u8 24, .int .u8 18, .int .u8 12, .int .u8 5, .int .u8 63, .int .u8 55, .int .u8 48, .int .u8 27, .int .u8 60, .int .u8 41, .int .u8 37, .int .u8 16, .int .u8 46, .int .u8 35, .int .u8 44, .int .u8 21, .int .u8 52, .int .u8 32, .int .u8 23, .int .u8 11, .int .u8 54, .int .u8 26, .int .u8 40, .int .u8 15, .int .u8 34, .int .u8 20, .int .u8 31, .int .u8 10, .int .u8 25, .int .u8 14, .int .u8 19, .int .u8 9, .int .u8 13, .int .u8 8, .int .u8 7, .int .u8 6] t frozen
  | o => o
/-- A world for the witnesses: the tables hold what their initialisers lay. -/
noncomputable def laidWorld (os : Os) : World :=
  { World.holding Tryd.prog os ⟨#[], #[], []⟩ with heap := (((World.holding Tryd.prog os ⟨#[], #[], []⟩).heap.modify 1 tab1).modify 2 tab2).modify 3 tab3 }
theorem sm_of {v : List Idt} {m : Nat} (h : bdSl bdId v m) (hm : m ≤ 1048576) : smV v := ⟨by have := h.1; omega, fun x hx => by have := (h.2 x hx).1; omega⟩
theorem rng_of {v : List Idt} {m : Nat} (h : bdSl bdId v m) : rngV v := fun x hx => (h.2 x hx).2
end Go.Proofs.YtfpijfedodljfaaDoor
