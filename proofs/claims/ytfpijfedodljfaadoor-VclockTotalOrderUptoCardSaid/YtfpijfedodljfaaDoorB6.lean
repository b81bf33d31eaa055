/- Texts that the law's proof stands on: V3, V9, V4, V5, V6, V8, V11, V20, V12, V14, V15, Sh, V7, V13. -/
import Derived.Test.YtfpijfedodljfaaDoorB5
import Derived.Lib.Bytealg
import Derived.Laws.Externs
import Derived.Shelf.Strings.OnBuilder
import Derived.Shelf.Strconv.Itoa3
import Derived.Test.YtfpijfedodljfaaDoorProg
import Derived.Lib.ItoaLen
set_option linter.unusedVariables false
set_option linter.unusedSimpArgs false
set_option maxRecDepth 100000
namespace Go.Proofs.YtfpijfedodljfaaDoor
open Go Go.RowKit Am

def cmpB (a b : ByteArray) : Int := Lib.compareBytes a.data.toList b.data.toList
def cmpT : Pt := fun _ args σ K => ∃ a b : ByteArray, args = [.s (.string a), .s (.string b)] ∧ K (.s (.int .i64 (cmpB a b))) σ
theorem cmpT_sound : SoundT Tryd.prog 57 cmpT := by
  rintro c Φ h n μ w args vals t K hc hΦ H hl ha ⟨a, b, rfl, hK⟩
  have h0 := ha 0 (by simp)
  have h1 := ha 1 (by simp)
  have e0 : vals.getD 0 Go.undef = .string a := h0.s_eq.1
  have e1 : vals.getD 1 Go.undef = .string b := h1.s_eq.1
  have hv : vals = #[.string a, .string b] := by
    apply Array.ext
    · simpa using hl
    · intro i g1 g2
      have g3 : i < 2 := by simpa using g2
      have : i = 0 ∨ i = 1 := by omega
      rcases this with rfl | rfl
      · simpa [g1] using e0
      · simpa [g1] using e1
  subst hv
  refine .inr ⟨.int .i64 (cmpB a b), w, ?_, _, h, n, μ, hK, H, Ext.refl _ _ _ _, .s _ rfl⟩
  rw [run_callFunc_extern Tryd.func57 (by kernel_rfl) (by kernel_rfl) (by kernel_rfl) (e := Extern.BytealgCompare.compare) (by kernel_rfl), Lib.run_compareString]
  rfl
def compareS : Fspec := fun _ ds r => ∃ a b : ByteArray, ds = [.s (.string a), .s (.string b)] ∧ r = .s (.int .i64 (cmpB a b))
theorem compareString_sound {plain : TypeId → Bool} {Γ : FuncId → Option Fspec} {Δ : FuncId → Option Pt} (hE : EnvOk ⟨Tryd.prog, plain, Γ, Δ, fun _ => none, 0⟩) (hΔ : Δ 57 = some cmpT) : Sound Tryd.prog 52 compareS := by
  refine sound_of_awp hE Tryd.func52 rfl (by kernel_rfl) ?_
  rintro Φ ds r ⟨a, b, rfl, rfl⟩
  refine ⟨by simp [Tryd.f52], ?_⟩
  unfold st0
  refine W.out (E := ⟨Tryd.prog, plain, Γ, Δ, Φ, _⟩) ?_
  refine go trivial ?_
  refine x_callI rfl rfl rfl rfl (sv trivial) hΔ (sv trivial) ⟨a, b, rfl, ?_⟩
  refine go trivial ?_
  refine x_done (x_out (sr @Tryd.f52.eq_1) (by simp) (by simp) rfl)
theorem compare_sound {plain : TypeId → Bool} {Γ : FuncId → Option Fspec} {Δ : FuncId → Option Pt} (hE : EnvOk ⟨Tryd.prog, plain, Γ, Δ, fun _ => none, 0⟩) (g_compare : Γ 52 = some compareS) : Sound Tryd.prog 41 compareS := by
  refine sound_of_awp hE Tryd.func41 rfl (by kernel_rfl) ?_
  rintro Φ ds r ⟨a, b, rfl, rfl⟩
  refine ⟨by simp [Tryd.f41], ?_⟩
  unfold st0
  refine W.out (E := ⟨Tryd.prog, plain, Γ, Δ, Φ, _⟩) ?_
  refine go trivial ?_
  refine x_callN rfl rfl rfl rfl (sv trivial) g_compare (sv trivial) (se trivial) ⟨a, b, rfl, rfl⟩ rfl ?_
  refine go trivial ?_
  refine x_done (x_out (sr @Tryd.f41.eq_1) (by simp) (by simp) rfl)

def nanS : Fspec := fun _ ds r => ∃ x : Int, ds = [.s (.int .i64 x)] ∧ r = .s (.bool false)
theorem nan_sound {plain : TypeId → Bool} {Γ : FuncId → Option Fspec} {Δ : FuncId → Option Pt} (hE : EnvOk ⟨Tryd.prog, plain, Γ, Δ, fun _ => none, 0⟩) : Sound Tryd.prog 51 nanS := by
  refine sound_of_awp hE Tryd.func51 rfl (by kernel_rfl) ?_
  rintro Φ ds r ⟨x, rfl, rfl⟩
  refine ⟨by simp [Tryd.f51], ?_⟩
  unfold st0
  refine W.out (E := ⟨Tryd.prog, plain, Γ, Δ, Φ, _⟩) ?_
  refine go trivial ?_
  refine x_done (x_out (sr @Tryd.f51.eq_1) (by simp) (by simp) rfl)
def cmpI (x y : Int) : Int := if x < y then -1 else if y < x then 1 else 0
def cmpIS : Fspec := fun _ ds r => ∃ x y : Int, ds = [.s (.int .i64 x), .s (.int .i64 y)] ∧ r = .s (.int .i64 (cmpI x y))
theorem cmpI_sound {plain : TypeId → Bool} {Γ : FuncId → Option Fspec} {Δ : FuncId → Option Pt} (hE : EnvOk ⟨Tryd.prog, plain, Γ, Δ, fun _ => none, 0⟩) (g_nan : Γ 51 = some nanS) : Sound Tryd.prog 40 cmpIS := by
  refine sound_of_awp hE Tryd.func40 rfl (by kernel_rfl) ?_
  rintro Φ ds r ⟨x, y, rfl, rfl⟩
  refine ⟨by simp [Tryd.f40], ?_⟩
  unfold st0
  refine W.out (E := ⟨Tryd.prog, plain, Γ, Δ, Φ, _⟩) ?_
  refine go trivial ?_
  refine x_callN rfl rfl rfl rfl (sv trivial) g_nan (sv trivial) (se trivial) ⟨x, rfl, rfl⟩ rfl ?_
  refine go trivial ?_
  refine x_callN rfl rfl rfl rfl (sv trivial) g_nan (sv trivial) (se trivial) ⟨y, rfl, rfl⟩ rfl ?_
  by_cases hc : x < y
  · refine go hc ?_
    refine x_done (x_out (sr (And.intro @Tryd.f40.eq_1 (And.intro @cmpI.eq_1 hc))) (by simp) (by simp) rfl)
  · by_cases hc2 : y < x
    · refine go (And.intro hc hc2) ?_
      refine x_done (x_out (sr (And.intro @Tryd.f40.eq_1 (And.intro @cmpI.eq_1 (And.intro hc hc2)))) (by simp) (by simp) rfl)
    · refine go (And.intro hc hc2) ?_
      refine x_done (x_out (sr (And.intro @Tryd.f40.eq_1 (And.intro @cmpI.eq_1 (And.intro hc hc2)))) (by simp) (by simp) rfl)

def orF : List Int → Int
  | [] => 0
  | x :: l => if x = 0 then orF l else x
def encI (x : Int) : List V := [.s (.int .i64 x)]
theorem encI_rows (v : List Int) : (∀ r ∈ v.map encI, r.length = 1) = True := rows_map _ _ _ fun _ => rfl
def orS : Fspec := fun _ ds r => ∃ l : List Int, l.length ≤ 1099511627776 ∧ ds = [.sl (l.map encI)] ∧ r = .s (.int .i64 (orF l))
theorem or_sound {plain : TypeId → Bool} {Γ : FuncId → Option Fspec} {Δ : FuncId → Option Pt} (hE : EnvOk ⟨Tryd.prog, plain, Γ, Δ, fun _ => none, 0⟩) : Sound Tryd.prog 39 orS := by
  refine sound_of_awp hE Tryd.func39 rfl (by kernel_rfl) ?_
  rintro Φ ds r ⟨v, hv, rfl, rfl⟩
  refine ⟨by simp [Tryd.f39], ?_⟩
  unfold st0
  refine W.out (E := ⟨Tryd.prog, plain, Γ, Δ, Φ, _⟩) ?_
  refine go trivial ?_
  refine x_loop (fun σ => ∃ i : Nat, i ≤ v.length ∧ σ.t 3 = .s (.int .i64 0) ∧ σ.t 6 = .sl (v.map encI) ∧ σ.t 7 = .s (.int .i64 v.length) ∧ σ.t 8 = .s (.int .i64 i) ∧ orF (v.drop i) = orF v) (fun σ => v.length - ix (σ.t 8)) ⟨0, Nat.zero_le _, (sc trivial), (sc trivial), (sc trivial), (sc trivial), rfl⟩ ?_
  rintro t h n ⟨i, hi, h3, h6, h7, h8, hf⟩
  simp only at h3 h6 h7 h8
  refine go (And.intro h3 (And.intro h6 (And.intro h7 h8))) ?_
  refine x_condP (sv trivial) (fun hc => ?_) (fun hc => ?_)
  · have hi' : i < v.length := by omega
    have hr := encI_rows v
    rw [List.drop_eq_getElem_cons hi', orF] at hf
    refine go (And.intro h3 (And.intro h6 (And.intro h7 (And.intro h8 (And.intro hr @encI.eq_1))))) ?_
    by_cases hz : v[i] = 0
    · rw [if_pos hz] at hf
      refine x_condF (sc hz) ?_
      refine go (And.intro h3 (And.intro h6 (And.intro h7 (And.intro h8 (And.intro hr @encI.eq_1))))) ?_
      refine ⟨⟨i + 1, by omega, (sc h3), (sc h6), (sc h7), (sc (And.intro h8 @cast_succ)), hf⟩, ?_⟩
      exact so h8
    · rw [if_neg hz] at hf
      refine x_condT (by simp (disch := omega) only [fits, fit1, ix_nat, ix_succ, pval, ↓upd_at, ev_tmp, ev_func, ev_const, ofVal_int, ofVal_str, ofVal_bool, ofVal_nil, asN_nat, asN_pos, wrap_id, wrapU_id, wrapB_id, ashift_shr1, half_cast, getD_map, if_pos, if_neg, aindexAddr, afieldAddr, aload, afield, aindex, aslice, abin, aint, astr, aun, aeq, allS, eqL, alen, acap, amin, amax, bnd, aconv, cellsV, cellsZ, cellOf, flat, abuild, afill, setAt, wk, cellish, cellAt, List.getD_cons_zero, List.getD_cons_succ, List.getD_nil, Nat.reduceEqDiff, ↓reduceIte, Option.map_some, Option.map_none, Option.bind_some, Option.isSome_some, Option.isSome_none, Option.isNone_some, Option.isNone_none, List.toList_toArray, List.map_cons, List.map_nil, List.drop_zero, List.drop_succ_cons, List.drop_nil, List.take_zero, List.take_succ_cons, List.take_nil, List.length_cons, List.length_nil, List.length_map, List.cons_append, List.nil_append, List.append_nil, List.set_cons_zero, List.set_cons_succ, List.getElem?_cons_zero, List.getElem?_cons_succ, Nat.reduceAdd, Nat.reduceSub, Nat.reduceMul, Nat.reduceLT, Nat.reduceLeDiff, Nat.zero_add, Nat.add_zero, Nat.zero_mul, Nat.mul_one, Nat.lt_irrefl, true_and, and_true, and_self, false_and, and_false, decide_true, decide_false, Bool.false_eq_true, Bool.true_eq_false, Bool.not_true, Bool.not_false, Bool.true_and, Bool.false_and, Bool.and_true, ge_iff_le, gt_iff_lt, Int.natCast_nonneg, Int.toNat_natCast, Int.reduceAdd, Int.reduceSub, Int.reduceNeg, Int.reduceToNat, Int.reduceLE, Int.reduceLT, Int.toNat_zero, Int.natCast_zero, List.mem_cons, List.not_mem_nil, or_false, or_true, true_or, false_or, Nat.le_refl, Nat.sub_self, Nat.sub_zero, forall_eq_or_imp, forall_eq, List.forall_mem_cons, List.forall_mem_nil, implies_true, Bool.false_or, Bool.true_or, Bool.or_false, Bool.or_true, List.length_set, List.map_nil, List.all_nil, List.getLast?_nil, srcRows, rowsOf, slLen, beq_self_eq_true, bne_self_eq_false, sz2, ag2, zr2, zok2, ii2, Tryd.underlying2, sz3, ag3, zr3, zok3, ii3, Tryd.underlying3, sz4, ag4, zr4, zok4, bt4, Tryd.underlying4, sz5, ag5, zr5, zok5, ii5, Tryd.underlying5, sz7, ag7, zr7, zok7, fl7_0, fl7_1, fl7_2, fl7_3, pl7, Tryd.underlying7, sz9, ag9, zr9, zok9, sq9, Tryd.underlying9, sz12, ag12, zr12, zok12, ii12, Tryd.underlying12, sz13, ag13, zr13, zok13, fl13_0, fl13_1, pl13, Tryd.underlying13, sz21, ag21, zr21, zok21, ii21, Tryd.underlying21, sz22, ag22, zr22, zok22, ist22, sq22, Tryd.underlying22, sz23, ag23, zr23, zok23, fl23_0, fl23_1, pl23, Tryd.underlying23, sz24, ag24, zr24, zok24, fl24_0, fl24_1, pl24, Tryd.underlying24, sz36, ag36, zr36, zok36, ii36, Tryd.underlying36, sz39, ag39, zr39, zok39, fl39_0, fl39_1, fl39_2, pl39, Tryd.underlying39, sz40, ag40, zr40, zok40, fl40_0, fl40_1, fl40_2, pl40, Tryd.underlying40, sz41, ag41, zr41, zok41, fl41_0, fl41_1, fl41_2, fl41_3, fl41_4, fl41_5, fl41_6, fl41_7, fl41_8, fl41_9, fl41_10, fl41_11, pl41, Tryd.underlying41, sz42, ag42, zr42, zok42, fl42_0, fl42_1, fl42_2, fl42_3, fl42_4, fl42_5, fl42_6, fl42_7, fl42_8, fl42_9, fl42_10, fl42_11, pl42, Tryd.underlying42, sz45, ag45, zr45, zok45, ist45, sq45, Tryd.underlying45, sz49, ag49, zr49, zok49, ist49, sq49, Tryd.underlying49, sz62, ag62, zr62, zok62, ist62, sq62, Tryd.underlying62, sz73, ag73, zr73, zok73, ist73, sq73, Tryd.underlying73, sz75, ag75, zr75, zok75, ii75, Tryd.underlying75, sz78, ag78, zr78, zok78, sq78, pl78, Tryd.underlying78, sz79, ag79, zr79, zok79, ii79, Tryd.underlying79, sz90, ag90, zr90, zok90, sq90, pl90, Tryd.underlying90, sz91, ag91, zr91, zok91, ii91, Tryd.underlying91, sz92, ag92, zr92, zok92, sq92, pl92, Tryd.underlying92, sz95, ag95, zr95, zok95, sq95, pl95, Tryd.underlying95, sz96, ag96, zr96, zok96, sq96, pl96, Tryd.underlying96, sz99, ag99, zr99, zok99, Tryd.underlying99, sz100, ag100, zr100, zok100, fl100_0, pl100, Tryd.underlying100]; simp [hz]) ?_
      refine go (And.intro h3 (And.intro h6 (And.intro h7 (And.intro h8 (And.intro hr @encI.eq_1))))) ?_
      refine x_done (x_out (sr (And.intro @Tryd.f39.eq_1 hf)) (by simp) (by simp) rfl)
  · have e : i = v.length := by omega
    subst e
    rw [List.drop_length] at hf
    refine go (And.intro h3 (And.intro h6 (And.intro h7 h8))) ?_
    have hz : orF v = 0 := by rw [← hf]; rfl
    refine x_done (x_out (sr (And.intro @Tryd.f39.eq_1 (And.intro h3 hz))) (by simp) (by simp) rfl)
end Go.Proofs.YtfpijfedodljfaaDoor

set_option linter.unusedVariables false
set_option linter.unusedSimpArgs false
set_option maxRecDepth 100000
set_option maxHeartbeats 8000000
namespace Go.Proofs.YtfpijfedodljfaaDoor
open Go Go.RowKit Am

def eqI (x y : Idt) : Bool := (x.a.toList == y.a.toList) && (x.n == y.n)
def sameIF : List Idt → List Idt → Bool
  | [], [] => true
  | x :: a, y :: b => eqI x y && sameIF a b
  | _, _ => false
theorem sameIF_len : ∀ (a b : List Idt), a.length ≠ b.length → sameIF a b = false
  | [], [], h => by simp at h
  | [], y :: b, _ => rfl
  | x :: a, [], _ => rfl
  | x :: a, y :: b, h => by simp only [sameIF]; rw [sameIF_len a b (by simpa using h)]; simp
def sameIS : Fspec := fun _ ds r => ∃ a b : List Idt, a.length ≤ 1099511627776 ∧ b.length ≤ 1099511627776 ∧ ds = [encIds a, encIds b] ∧ r = .s (.bool (sameIF a b))
theorem sameI_sound {plain : TypeId → Bool} {Γ : FuncId → Option Fspec} {Δ : FuncId → Option Pt} (hE : EnvOk ⟨Tryd.prog, plain, Γ, Δ, fun _ => none, 0⟩) (hpl : plain 24 = true) : Sound Tryd.prog 18 sameIS := by
  refine sound_of_awp hE Tryd.func18 rfl (by kernel_rfl) ?_
  rintro Φ ds r ⟨a, b, ha, hb, rfl, rfl⟩
  refine ⟨by simp [Tryd.f18], ?_⟩
  unfold st0 encIds
  refine W.out (E := ⟨Tryd.prog, plain, Γ, Δ, Φ, _⟩) ?_
  have hra := encId_rows a
  have hrb := encId_rows b
  by_cases hl : a.length = b.length
  · have hb : ((a.length : Int) != (b.length : Int)) = false := by simp [hl]
    refine go hb ?_
    refine x_loop (fun σ => ∃ (i : Nat), σ.t 0 = .sl (a.map encId) ∧ σ.t 1 = .sl (b.map encId) ∧ σ.t 5 = .s (.int .i64 i) ∧ i ≤ a.length ∧ sameIF (a.drop i) (b.drop i) = sameIF a b) (fun σ => a.length - ix (σ.t 5)) ⟨0, (by first | assumption | exact sxa trivial), (by first | assumption | exact sxa trivial), (by first | assumption | exact sxa trivial), (by first | rfl | omega | assumption | (simp [*]; done)), (by first | rfl | omega | assumption | (simp [*]; done))⟩ ?_
    rintro t h n ⟨i, h0, h1, h5, hf0, hf1⟩
    simp only at h0 h1 h5
    refine go (And.intro h0 (And.intro h1 h5)) ?_
    refine x_condP (sv (And.intro h0 (And.intro h1 h5))) (fun hc => ?_) (fun hc => ?_)
    · have hi' : i < a.length := by omega
      have hi2 : i < b.length := by omega
      rw [List.drop_eq_getElem_cons hi', List.drop_eq_getElem_cons hi2, sameIF] at hf1
      cases hz : eqI a[i] b[i]
      · have hz' : ((a[i].a.toList == b[i].a.toList) && (a[i].n == b[i].n)) = false := hz
        have hf' : sameIF a b = false := by rw [← hf1, hz]; rfl
        refine go (And.intro h0 (And.intro h1 (And.intro h5 (And.intro hra (And.intro hrb (And.intro @encId.eq_1 (And.intro hpl hz'))))))) ?_
        refine x_done (x_out (sr (And.intro @Tryd.f18.eq_1 hf')) (by simp) (by simp) rfl)
      · have hz' : ((a[i].a.toList == b[i].a.toList) && (a[i].n == b[i].n)) = true := hz
        rw [hz, Bool.true_and] at hf1
        refine go (And.intro h0 (And.intro h1 (And.intro h5 (And.intro hra (And.intro hrb (And.intro @encId.eq_1 (And.intro hpl hz'))))))) ?_
        (refine ⟨⟨i + 1, ?_, ?_, ?_, ?_, ?_⟩, ?_⟩ <;> (first | omega | (dsimp only; omega) | ((exact hf1)) | exact sxa @cast_succ | exact soa trivial))
    · have e : i = a.length := by omega
      subst e
      rw [List.drop_length, hl, List.drop_length] at hf1
      have hf' : sameIF a b = true := by rw [← hf1]; rfl
      refine go (And.intro h0 (And.intro h1 h5)) ?_
      refine x_done (x_out (sr (And.intro @Tryd.f18.eq_1 hf')) (by simp) (by simp) rfl)
  · have hb : ((a.length : Int) != (b.length : Int)) = true := by simp; omega
    refine go hb ?_
    refine x_done (x_out (sr (And.intro @Tryd.f18.eq_1 ((sameIF_len a b hl)))) (by simp) (by simp) rfl)
def rcovF (a b : List Idt) : Bool := b.all fun x => hasF a x
def rcovS : Fspec := fun _ ds r => ∃ a b : List Idt, a.length ≤ 1099511627776 ∧ b.length ≤ 1099511627776 ∧ ds = [encIds a, encIds b] ∧ r = .s (.bool (rcovF a b))
theorem rcov_sound {plain : TypeId → Bool} {Γ : FuncId → Option Fspec} {Δ : FuncId → Option Pt} (hE : EnvOk ⟨Tryd.prog, plain, Γ, Δ, fun _ => none, 0⟩) (g_has : Γ 13 = some hasS) : Sound Tryd.prog 23 rcovS := by
  refine sound_of_awp hE Tryd.func23 rfl (by kernel_rfl) ?_
  rintro Φ ds r ⟨a, b, ha, hb, rfl, rfl⟩
  refine ⟨by simp [Tryd.f23], ?_⟩
  unfold st0 encIds
  refine W.out (E := ⟨Tryd.prog, plain, Γ, Δ, Φ, _⟩) ?_
  have hrb := encId_rows b
  refine go trivial ?_
  refine x_loop (fun σ => ∃ (i : Nat), σ.t 0 = .sl (a.map encId) ∧ σ.t 1 = .sl (b.map encId) ∧ σ.t 5 = .s (.int .i64 i) ∧ i ≤ b.length ∧ rcovF a (b.drop i) = rcovF a b) (fun σ => b.length - ix (σ.t 5)) ⟨0, (by first | assumption | exact sxa trivial), (by first | assumption | exact sxa trivial), (by first | assumption | exact sxa trivial), (by first | rfl | omega | assumption | (simp [*]; done)), (by first | rfl | omega | assumption | (simp [*]; done))⟩ ?_
  rintro t h n ⟨i, h0, h1, h5, hf0, hf1⟩
  simp only at h0 h1 h5
  refine go (And.intro h0 (And.intro h1 h5)) ?_
  refine x_condP (sv (And.intro h0 (And.intro h1 h5))) (fun hc => ?_) (fun hc => ?_)
  · have hi' : i < b.length := by omega
    rw [List.drop_eq_getElem_cons hi', rcovF, List.all_cons] at hf1
    refine go (And.intro h0 (And.intro h1 (And.intro h5 (And.intro hrb @encId.eq_1)))) ?_
    refine x_callS rfl rfl rfl rfl (sv @encId.eq_1) g_has (sv @encId.eq_1) (se @encId.eq_1) ⟨a, b[i], ha, rfl, rfl⟩ (by simp) (by simp [touchA, touch]) ?_
    cases hz : hasF a b[i]
    · have hf' : rcovF a b = false := by rw [← hf1, hz]; rfl
      refine go (And.intro h0 (And.intro h1 (And.intro h5 hz))) ?_
      refine x_done (x_out (sr (And.intro @Tryd.f23.eq_1 hf')) (by simp) (by simp) rfl)
    · rw [hz, Bool.true_and] at hf1
      refine go (And.intro h0 (And.intro h1 (And.intro h5 hz))) ?_
      (refine ⟨⟨i + 1, ?_, ?_, ?_, ?_, ?_⟩, ?_⟩ <;> (first | omega | (dsimp only; omega) | ((exact hf1)) | exact sxa @cast_succ | exact soa trivial))
  · have e : i = b.length := by omega
    subst e
    rw [List.drop_length] at hf1
    have hf' : rcovF a b = true := by rw [← hf1]; rfl
    refine go (And.intro h0 (And.intro h1 h5)) ?_
    refine x_done (x_out (sr (And.intro @Tryd.f23.eq_1 hf')) (by simp) (by simp) rfl)
end Go.Proofs.YtfpijfedodljfaaDoor

set_option linter.unusedVariables false
set_option linter.unusedSimpArgs false
set_option maxRecDepth 100000
set_option maxHeartbeats 4000000
namespace Go.Proofs.YtfpijfedodljfaaDoor
open Go Go.RowKit Am

theorem beq_eq_decide (a b : Int) : (a == b) = decide (a = b) := by by_cases h : a = b <;> simp [h]

def bsF (c : Nat → Int) (i j : Nat) : Nat := if i < j then (if c ((i + j) / 2) < 0 then bsF c ((i + j) / 2 + 1) j else bsF c i ((i + j) / 2)) else i
termination_by j - i
def cAt {α : Type} (cf : α → Int) (v : List α) (k : Nat) : Int := match v[k]? with
  | some x => cf x
  | none => 0
theorem cAt_lt {α : Type} (cf : α → Int) (v : List α) {k : Nat} (h : k < v.length) : cAt cf v k = cf v[k] := by simp [cAt, h]
def bsPos {α : Type} (cf : α → Int) (v : List α) : Nat := bsF (cAt cf v) 0 v.length
def bsHit {α : Type} (cf : α → Int) (v : List α) : Bool := decide (bsF (cAt cf v) 0 v.length < v.length) && decide (cAt cf v (bsF (cAt cf v) 0 v.length) = 0)
def bsS {α : Type} (enc : α → List V) : Fspec := fun Φ ds r => ∃ (v : List α) (tv : V) (cf : α → Int) (S : List V → Value → Prop), v.length ≤ 1099511627776 ∧ (∀ h, expoA h tv = some tv) ∧ ds = [.sl (v.map enc), tv, .fv 2] ∧ Φ 2 = some S ∧ (∀ x ∈ v, S [.agg (enc x), tv] (.int .i64 (cf x))) ∧ r = .tup [.s (.int .i64 (bsF (cAt cf v) 0 v.length)), .s (.bool (bsHit cf v))]

theorem bsI_sound {plain : TypeId → Bool} {Γ : FuncId → Option Fspec} {Δ : FuncId → Option Pt} (hE : EnvOk ⟨Tryd.prog, plain, Γ, Δ, fun _ => none, 0⟩) : Sound Tryd.prog 42 (bsS encId) := by
  refine sound_of_awp hE Tryd.func42 rfl (by kernel_rfl) ?_
  rintro Φ ds r ⟨v, tv, cf, S, hv, htv, rfl, hS, hcf, rfl⟩
  refine ⟨by simp [Tryd.f42], ?_⟩
  unfold st0
  refine W.out (E := ⟨Tryd.prog, plain, Γ, Δ, Φ, _⟩) ?_
  have hr := encId_rows v
  refine go trivial ?_
  refine x_loop (fun σ => ∃ i j : Nat, i ≤ j ∧ j ≤ v.length ∧ σ.t 0 = .sl (v.map encId) ∧ σ.t 1 = tv ∧ σ.t 2 = .fv 2 ∧ σ.t 8 = .s (.int .i64 v.length) ∧ σ.t 9 = .s (.int .i64 i) ∧ σ.t 10 = .s (.int .i64 j) ∧ bsF (cAt cf v) i j = bsF (cAt cf v) 0 v.length) (fun σ => ix (σ.t 10) - ix (σ.t 9)) ⟨0, v.length, Nat.zero_le _, Nat.le_refl _, (sc trivial), (sc trivial), (sc trivial), (sc trivial), (sc trivial), (sc trivial), rfl⟩ ?_
  rintro t h n ⟨i, j, hij, hj, h0, h1, h2, h8, h9, h10, hf⟩
  simp only at h0 h1 h2 h8 h9 h10
  refine go (And.intro h0 (And.intro h1 (And.intro h2 (And.intro h8 (And.intro h9 h10))))) ?_
  refine x_condP (sv trivial) (fun hc => ?_) (fun hc => ?_)
  · have hi' : i < j := by omega
    have hm : (i + j) / 2 < v.length := by omega
    rw [bsF, if_pos hi', cAt_lt cf v hm] at hf
    refine go (And.intro h0 (And.intro h1 (And.intro h2 (And.intro h8 (And.intro h9 (And.intro h10 (And.intro hr @encId.eq_1))))))) ?_
    refine x_callV rfl rfl rfl rfl (sv (And.intro @encId.eq_1 htv)) hS (sv (And.intro @encId.eq_1 htv)) (se (And.intro @encId.eq_1 htv)) rfl (hcf _ (List.getElem_mem hm)) ?_
    by_cases hz : cf v[(i + j) / 2] < 0
    · rw [if_pos hz] at hf
      refine go (And.intro h0 (And.intro h1 (And.intro h2 (And.intro h8 (And.intro h9 (And.intro h10 (And.intro hr (And.intro hz @encId.eq_1)))))))) ?_
      refine ⟨⟨(i + j) / 2 + 1, j, by omega, hj, (sc h0), (sc h1), (sc h2), (sc h8), (sc @cast_succ), (sc h10), hf⟩, ?_⟩
      exact so (And.intro h9 h10)
    · rw [if_neg hz] at hf
      refine go (And.intro h0 (And.intro h1 (And.intro h2 (And.intro h8 (And.intro h9 (And.intro h10 (And.intro hr (And.intro hz @encId.eq_1)))))))) ?_
      refine ⟨⟨i, (i + j) / 2, by omega, by omega, (sc h0), (sc h1), (sc h2), (sc h8), (sc h9), (sc trivial), hf⟩, ?_⟩
      exact so (And.intro h9 h10)
  · have e : i = j := by omega
    subst e
    rw [bsF, if_neg (by omega)] at hf
    by_cases hn : i < v.length
    · have hn' : (i : Int) < (v.length : Int) := by omega
      have hb : bsHit cf v = decide (cf v[i] = 0) := by simp [bsHit, ← hf, hn, cAt_lt cf v hn]
      refine go (And.intro h0 (And.intro h1 (And.intro h2 (And.intro h8 (And.intro h9 (And.intro h10 (And.intro hr (And.intro hn' @encId.eq_1)))))))) ?_
      refine x_callV rfl rfl rfl rfl (sv (And.intro @encId.eq_1 htv)) hS (sv (And.intro @encId.eq_1 htv)) (se (And.intro @encId.eq_1 htv)) rfl (hcf _ (List.getElem_mem hn)) ?_
      refine go (And.intro h0 (And.intro h1 (And.intro h2 (And.intro h8 (And.intro h9 (And.intro h10 (And.intro hr (And.intro hn' @encId.eq_1)))))))) ?_
      rw [hb, ← hf]
      refine x_done (x_outT (sr (And.intro @Tryd.f42.eq_1 @beq_eq_decide)) rfl)
    · have hn' : ¬ ((i : Int) < (v.length : Int)) := by omega
      have hb : bsHit cf v = false := by simp [bsHit, ← hf, hn]
      refine go (And.intro h0 (And.intro h1 (And.intro h2 (And.intro h8 (And.intro h9 (And.intro h10 (And.intro hr (And.intro hn' @encId.eq_1)))))))) ?_
      rw [hb, ← hf]
      refine x_done (x_outT (sr @Tryd.f42.eq_1) rfl)
end Go.Proofs.YtfpijfedodljfaaDoor

set_option linter.unusedVariables false
set_option linter.unusedSimpArgs false
set_option maxRecDepth 100000
set_option maxHeartbeats 4000000
namespace Go.Proofs.YtfpijfedodljfaaDoor
open Go Go.RowKit Am

def plac1S : Fspec := fun _ ds r => ∃ (x : Idt) (a : ByteArray), ds = [.agg (encId x), .s (.string a)] ∧ r = .s (.int .i64 (cmpB x.a a))
theorem plac1_sound {plain : TypeId → Bool} {Γ : FuncId → Option Fspec} {Δ : FuncId → Option Pt} (hE : EnvOk ⟨Tryd.prog, plain, Γ, Δ, fun _ => none, 0⟩) (g_compare : Γ 41 = some compareS) : Sound Tryd.prog 43 plac1S := by
  refine sound_of_awp hE Tryd.func43 rfl (by kernel_rfl) ?_
  rintro Φ ds r ⟨x, a, rfl, rfl⟩
  refine ⟨by simp [Tryd.f43], ?_⟩
  unfold st0 encId
  refine W.out (E := ⟨Tryd.prog, plain, Γ, Δ, Φ, _⟩) ?_
  refine go trivial ?_
  refine x_callN rfl rfl rfl rfl (sv trivial) g_compare (sv trivial) (se trivial) ⟨x.a, a, rfl, rfl⟩ rfl ?_
  refine go trivial ?_
  refine x_done (x_out (sr @Tryd.f43.eq_1) (by simp) (by simp) rfl)
def plPos (v : List Idt) (a : ByteArray) : Nat := bsF (cAt (fun x => cmpB x.a a) v) 0 v.length
def plHit (v : List Idt) (a : ByteArray) : Bool := bsHit (fun x => cmpB x.a a) v
def placS : Fspec := fun _ ds r => ∃ (v : List Idt) (a : ByteArray), v.length ≤ 1099511627776 ∧ ds = [encIds v, .s (.string a)] ∧ r = .tup [.s (.int .i64 (plPos v a)), .s (.bool (plHit v a))]
def bsIS : Fspec := bsS encId
theorem plac_sound {plain : TypeId → Bool} {Γ : FuncId → Option Fspec} {Δ : FuncId → Option Pt} (hE : EnvOk ⟨Tryd.prog, plain, Γ, Δ, fun _ => none, 0⟩) (g_plac1 : Γ 43 = some plac1S) (g_bs : Γ 42 = some (bsS encId)) : Sound Tryd.prog 30 placS := by
  refine sound_of_awp hE Tryd.func30 rfl (by kernel_rfl) ?_
  rintro Φ ds r ⟨v, a, hv, rfl, rfl⟩
  refine ⟨by simp [Tryd.f30], ?_⟩
  unfold st0 encIds
  refine W.out (E := ⟨Tryd.prog, plain, Γ, Δ, Φ, _⟩) ?_
  refine go trivial ?_
  refine x_callN rfl rfl rfl rfl (sv trivial) g_bs (sv trivial) (se trivial) ⟨v, .s (.string a), (fun x => cmpB x.a a), _, hv, fun _ => rfl, rfl, (by simp only [phi, closS, allO, List.getElem?_cons_zero, List.getElem?_cons_succ, g_plac1]; rfl), (by intro x _; exact ⟨x, a, rfl, rfl⟩), rfl⟩ rfl ?_
  refine go trivial ?_
  refine x_done (x_outT (sr (And.intro @Tryd.f30.eq_1 (And.intro @plPos.eq_1 @plHit.eq_1))) rfl)
end Go.Proofs.YtfpijfedodljfaaDoor

set_option linter.unusedVariables false
set_option linter.unusedSimpArgs false
set_option maxRecDepth 100000
set_option maxHeartbeats 4000000
namespace Go.Proofs.YtfpijfedodljfaaDoor
open Go Go.RowKit Am

def nAt (v : List Idt) (k : Nat) : Int := match v[k]? with
  | some x => x.n
  | none => 0
theorem nAt_lt (v : List Idt) {k : Nat} (h : k < v.length) : nAt v k = v[k].n := by simp [nAt, h]
def contF (v : List Idt) (x : Idt) : Bool := plHit v x.a && (decide (1 ≤ x.n) && decide (x.n ≤ nAt v (plPos v x.a)))
def contS : Fspec := fun _ ds r => ∃ (v : List Idt) (x : Idt), v.length ≤ 1099511627776 ∧ ds = [encIds v, .agg (encId x)] ∧ r = .s (.bool (contF v x))
theorem cont_sound {plain : TypeId → Bool} {Γ : FuncId → Option Fspec} {Δ : FuncId → Option Pt} (hE : EnvOk ⟨Tryd.prog, plain, Γ, Δ, fun _ => none, 0⟩) (g_plac : Γ 30 = some placS) : Sound Tryd.prog 12 contS := by
  refine sound_of_awp hE Tryd.func12 rfl (by kernel_rfl) ?_
  rintro Φ ds r ⟨v, x, hv, rfl, rfl⟩
  refine ⟨by simp [Tryd.f12], ?_⟩
  unfold st0 encIds
  refine W.out (E := ⟨Tryd.prog, plain, Γ, Δ, Φ, _⟩) ?_
  have hr := encId_rows v
  refine go @encId.eq_1 ?_
  refine x_callN rfl rfl rfl rfl (sv trivial) g_plac (sv trivial) (se trivial) ⟨v, x.a, hv, rfl, rfl⟩ rfl ?_
  cases hb : plHit v x.a
  · refine go (And.intro hb @encId.eq_1) ?_
    refine x_done (x_out (sr (And.intro @Tryd.f12.eq_1 (And.intro @contF.eq_1 hb))) (by simp) (by simp) rfl)
  · have hp : plPos v x.a < v.length := by
      simp only [plHit, bsHit, Bool.and_eq_true, decide_eq_true_eq] at hb
      exact hb.1
    by_cases hc : 1 ≤ x.n
    · refine go (And.intro hb (And.intro hc (And.intro hr @encId.eq_1))) ?_
      refine x_done (x_out (sr (And.intro @Tryd.f12.eq_1 (And.intro @contF.eq_1 (And.intro hb (And.intro hc ((nAt_lt v hp))))))) (by simp) (by simp) rfl)
    · refine go (And.intro hb (And.intro hc (And.intro hr @encId.eq_1))) ?_
      refine x_done (x_out (sr (And.intro @Tryd.f12.eq_1 (And.intro @contF.eq_1 (And.intro hb hc)))) (by simp) (by simp) rfl)

end Go.Proofs.YtfpijfedodljfaaDoor

set_option linter.unusedVariables false
set_option linter.unusedSimpArgs false
set_option maxRecDepth 100000
set_option maxHeartbeats 4000000
namespace Go.Proofs.YtfpijfedodljfaaDoor
open Go Go.RowKit Am

def cloneS {α : Type} (enc : α → List V) (z : Nat) : Fspec := fun _ ds r => ∃ v : List α, v.length ≤ 1099511627776 ∧ ds = [.sl (v.map enc)] ∧ r = .own z (v.map enc)
theorem okRowsId (l : List Idt) : okRows 2 (l.map encId) := okRows_map encId l 2 fun a => ⟨rfl, by simp [encId, cellish]⟩
theorem deepId (l : List Idt) : ∀ r ∈ l.map encId, ∀ q ∈ r, deepc q = true := deep_map encId l fun a => by simp [encId, deepc]
theorem clone_sound {plain : TypeId → Bool} {Γ : FuncId → Option Fspec} {Δ : FuncId → Option Pt} (hE : EnvOk ⟨Tryd.prog, plain, Γ, Δ, fun _ => none, 0⟩) : Sound Tryd.prog 35 (cloneS encId 2) := by
  refine sound_of_awp hE Tryd.func35 rfl (by kernel_rfl) ?_
  rintro Φ ds r ⟨v, hv, rfl, rfl⟩
  refine ⟨by simp [Tryd.f35], ?_⟩
  unfold st0
  refine W.out (E := ⟨Tryd.prog, plain, Γ, Δ, Φ, _⟩) ?_
  have hok := okRowsId v
  refine go trivial ?_
  refine x_nilEq rfl rfl rfl (sc trivial) (sx trivial) (fun b hb => ?_)
  cases b
  · refine go trivial ?_
    refine x_append rfl rfl rfl rfl rfl rfl (sx trivial) (by decide) (sc trivial) (sx trivial) (sx trivial) hok (sx trivial) rfl rfl (by simp) (by simp) (by simp; omega) (fun cap hcap => ?_)
    refine go trivial ?_
    refine x_done (x_outO (sp := spare 2 (cap - v.length)) (sr @Tryd.f35.eq_1) (sc trivial) (by simp) (by simp [spare_len] at hcap ⊢; omega) (deepId v))
  · have h0 : v = [] := List.eq_nil_of_length_eq_zero (by simp at hb; simpa using hb)
    subst h0
    refine go trivial ?_
    refine x_done (x_outO0 (sr @Tryd.f35.eq_1))
theorem cloneD_sound {plain : TypeId → Bool} {Γ : FuncId → Option Fspec} {Δ : FuncId → Option Pt} (hE : EnvOk ⟨Tryd.prog, plain, Γ, Δ, fun _ => none, 0⟩) : Sound Tryd.prog 35 (weakS (cloneS encId 2)) := (clone_sound hE).data
def idxF {α : Type} (p : α → Bool) : List α → Nat → Int
  | [], _ => -1
  | x :: l, k => if p x then (k : Int) else idxF p l (k + 1)
theorem idx_any {α : Type} (p : α → Bool) : ∀ (l : List α) (k : Nat), decide (0 ≤ idxF p l k) = l.any p
  | [], k => by simp [idxF]
  | x :: l, k => by
    rw [idxF, List.any_cons]
    cases hp : p x
    · simp only [Bool.false_eq_true, if_false, Bool.false_or]; exact idx_any p l (k + 1)
    · simp
def idxS {α : Type} (enc : α → List V) : Fspec := fun Φ ds r => ∃ (v : List α) (p : α → Bool) (S : List V → Value → Prop), v.length ≤ 1099511627776 ∧ ds = [.sl (v.map enc), .fv 1] ∧ Φ 1 = some S ∧ (∀ x ∈ v, S [.agg (enc x)] (.bool (p x))) ∧ r = .s (.int .i64 (idxF p v 0))
theorem idx_sound {plain : TypeId → Bool} {Γ : FuncId → Option Fspec} {Δ : FuncId → Option Pt} (hE : EnvOk ⟨Tryd.prog, plain, Γ, Δ, fun _ => none, 0⟩) : Sound Tryd.prog 50 (idxS encId) := by
  refine sound_of_awp hE Tryd.func50 rfl (by kernel_rfl) ?_
  rintro Φ ds r ⟨v, p, S, hv, rfl, hS, hp, rfl⟩
  refine ⟨by simp [Tryd.f50], ?_⟩
  unfold st0
  refine W.out (E := ⟨Tryd.prog, plain, Γ, Δ, Φ, _⟩) ?_
  have hr := encId_rows v
  refine go trivial ?_
  refine x_loop (fun σ => ∃ (i : Nat), σ.t 0 = .sl (v.map encId) ∧ σ.t 1 = .fv 1 ∧ σ.t 7 = .s (.int .i64 v.length) ∧ σ.t 8 = .s (.int .i64 i) ∧ i ≤ v.length ∧ idxF p (v.drop i) i = idxF p v 0) (fun σ => v.length - ix (σ.t 8)) ⟨0, (by first | assumption | exact sxa trivial), (by first | assumption | exact sxa trivial), (by first | assumption | exact sxa trivial), (by first | assumption | exact sxa trivial), (by first | rfl | omega | assumption | (simp [*]; done)), (by first | rfl | omega | assumption | (simp [*]; done))⟩ ?_
  rintro t h n ⟨i, h0, h1, h7, h8, hf0, hf1⟩
  simp only at h0 h1 h7 h8
  refine go (And.intro h0 (And.intro h1 (And.intro h7 h8))) ?_
  refine x_condP (sv (And.intro h0 (And.intro h1 (And.intro h7 h8)))) (fun hc => ?_) (fun hc => ?_)
  · have hi' : i < v.length := by omega
    rw [List.drop_eq_getElem_cons hi', idxF] at hf1
    refine go (And.intro h0 (And.intro h1 (And.intro h7 (And.intro h8 (And.intro hr @encId.eq_1))))) ?_
    refine x_callV rfl rfl rfl rfl (sv @encId.eq_1) hS (sv @encId.eq_1) (se @encId.eq_1) rfl (hp _ (List.getElem_mem hi')) ?_
    cases hb : p v[i]
    · rw [hb] at hf1
      refine go (And.intro h0 (And.intro h1 (And.intro h7 (And.intro h8 (And.intro hr (And.intro @encId.eq_1 hb)))))) ?_
      (refine ⟨⟨i + 1, ?_, ?_, ?_, ?_, ?_, ?_⟩, ?_⟩ <;> (first | omega | (dsimp only; omega) | ((simpa using hf1)) | exact sxa @cast_succ | exact soa trivial))
    · rw [hb] at hf1
      have hf' : idxF p v 0 = i := by rw [← hf1]; rfl
      refine go (And.intro h0 (And.intro h1 (And.intro h7 (And.intro h8 (And.intro hr (And.intro @encId.eq_1 hb)))))) ?_
      refine x_done (x_out (sr (And.intro @Tryd.f50.eq_1 hf')) (by simp) (by simp) rfl)
  · have e : i = v.length := by omega
    subst e
    rw [List.drop_length] at hf1
    have hf' : idxF p v 0 = -1 := by rw [← hf1]; rfl
    refine go (And.intro h0 (And.intro h1 (And.intro h7 h8))) ?_
    refine x_done (x_out (sr (And.intro @Tryd.f50.eq_1 hf')) (by simp) (by simp) rfl)
def cfS {α : Type} (enc : α → List V) : Fspec := fun Φ ds r => ∃ (v : List α) (p : α → Bool) (S : List V → Value → Prop), v.length ≤ 1099511627776 ∧ ds = [.sl (v.map enc), .fv 1] ∧ Φ 1 = some S ∧ (∀ x ∈ v, S [.agg (enc x)] (.bool (p x))) ∧ r = .s (.bool (v.any p))
theorem cf_sound {plain : TypeId → Bool} {Γ : FuncId → Option Fspec} {Δ : FuncId → Option Pt} (hE : EnvOk ⟨Tryd.prog, plain, Γ, Δ, fun _ => none, 0⟩) (g_idx : Γ 50 = some (idxS encId)) : Sound Tryd.prog 37 (cfS encId) := by
  refine sound_of_awp hE Tryd.func37 rfl (by kernel_rfl) ?_
  rintro Φ ds r ⟨v, p, S, hv, rfl, hS, hp, rfl⟩
  refine ⟨by simp [Tryd.f37], ?_⟩
  unfold st0
  refine W.out (E := ⟨Tryd.prog, plain, Γ, Δ, Φ, _⟩) ?_
  refine go trivial ?_
  refine x_callN rfl rfl rfl rfl (sv trivial) g_idx (sv trivial) (se trivial) ⟨v, p, S, hv, rfl, (by simp only [phi, List.getElem?_cons_succ, List.getElem?_cons_zero]; exact hS), hp, rfl⟩ rfl ?_
  rw [← idx_any p v 0]
  refine go trivial ?_
  refine x_done (x_out (sr @Tryd.f37.eq_1) (by simp) (by simp) rfl)
def cov1S : Fspec := fun _ ds r => ∃ (a : List Idt) (x : Idt), a.length ≤ 1099511627776 ∧ ds = [.agg (encId x), .pc [.sl (a.map encId)]] ∧ r = .s (.bool (!contF a x))
theorem cov1_sound {plain : TypeId → Bool} {Γ : FuncId → Option Fspec} {Δ : FuncId → Option Pt} (hE : EnvOk ⟨Tryd.prog, plain, Γ, Δ, fun _ => none, 0⟩) (g_cont : Γ 12 = some contS) : Sound Tryd.prog 38 cov1S := by
  refine sound_of_awp hE Tryd.func38 rfl (by kernel_rfl) ?_
  rintro Φ ds r ⟨a, x, ha, rfl, rfl⟩
  refine ⟨by simp [Tryd.f38], ?_⟩
  unfold st0 encId
  refine W.out (E := ⟨Tryd.prog, plain, Γ, Δ, Φ, _⟩) ?_
  refine go trivial ?_
  refine x_callN rfl rfl rfl rfl (sv @encId.eq_1) g_cont (sv @encId.eq_1) (se @encId.eq_1) ⟨a, x, ha, rfl, rfl⟩ rfl ?_
  refine go trivial ?_
  refine x_done (x_out (sr @Tryd.f38.eq_1) (by simp) (by simp) rfl)
def covF (a b : List Idt) : Bool := b.all fun x => contF a x
def covS : Fspec := fun _ ds r => ∃ a b : List Idt, a.length ≤ 1099511627776 ∧ b.length ≤ 1099511627776 ∧ ds = [encIds a, encIds b] ∧ r = .s (.bool (covF a b))
theorem any_not {α : Type} (p : α → Bool) : ∀ l : List α, (!l.any fun x => !p x) = l.all p
  | [] => rfl
  | x :: l => by rw [List.any_cons, List.all_cons, ← any_not p l]; cases p x <;> simp
theorem cov_sound {plain : TypeId → Bool} {Γ : FuncId → Option Fspec} {Δ : FuncId → Option Pt} (hE : EnvOk ⟨Tryd.prog, plain, Γ, Δ, fun _ => none, 0⟩) (g_cf : Γ 37 = some (cfS encId)) (g_cov1 : Γ 38 = some cov1S) : Sound Tryd.prog 20 covS := by
  refine sound_of_awp hE Tryd.func20 rfl (by kernel_rfl) ?_
  rintro Φ ds r ⟨a, b, ha, hb, rfl, rfl⟩
  refine ⟨by simp [Tryd.f20], ?_⟩
  unfold st0 encIds
  refine W.out (E := ⟨Tryd.prog, plain, Γ, Δ, Φ, _⟩) ?_
  refine go trivial ?_
  refine x_callN rfl rfl rfl rfl (sv trivial) g_cf (sv trivial) (se trivial) ⟨b, (fun x => !contF a x), _, hb, rfl, (by simp only [phi, closS, allO, List.getElem?_cons_zero, List.getElem?_cons_succ, g_cov1]; rfl), (by intro x _; exact ⟨a, x, ha, rfl, rfl⟩), rfl⟩ rfl ?_
  refine go trivial ?_
  rw [covF, ← any_not]
  refine x_done (x_out (sr @Tryd.f20.eq_1) (by simp) (by simp) rfl)
end Go.Proofs.YtfpijfedodljfaaDoor

set_option linter.unusedVariables false
set_option linter.unusedSimpArgs false
set_option maxRecDepth 100000
set_option maxHeartbeats 8000000
namespace Go.Proofs.YtfpijfedodljfaaDoor
open Go Go.RowKit Am

/-- The reference's Add, from one place on. -/
def raF : List Idt → Idt → Bool → List Idt
  | [], x, laid => if laid then [] else [x]
  | y :: v, x, laid => if y.a.toList == x.a.toList then raF v (if x.n < y.n then y else x) laid
      else if (!(Op.bytesLess y.a.toList x.a.toList || (y.a.toList == x.a.toList))) && !laid then x :: y :: raF v x true
      else y :: raF v x laid
def raddF (v : List Idt) (x : Idt) : List Idt := raF v x false
def raddS : Fspec := fun _ ds r => ∃ (v : List Idt) (x : Idt), v.length ≤ 1048576 ∧ ds = [encIds v, .agg (encId x)] ∧ r = .sl ((raddF v x).map encId)
theorem encId_okRow (x : Idt) : okRows 2 [encId x] := okRowsId [x]
theorem map_snoc {α β : Type} (f : α → β) (l : List α) (x : α) : (l ++ [x]).map f = l.map f ++ [f x] := by simp
theorem radd_sound {plain : TypeId → Bool} {Γ : FuncId → Option Fspec} {Δ : FuncId → Option Pt} (hE : EnvOk ⟨Tryd.prog, plain, Γ, Δ, fun _ => none, 0⟩) : Sound Tryd.prog 19 raddS := by
  refine sound_of_awp hE Tryd.func19 rfl (by kernel_rfl) ?_
  rintro Φ ds r ⟨v, x, hv, rfl, rfl⟩
  refine ⟨by simp [Tryd.f19], ?_⟩
  unfold st0 encIds
  refine W.out (E := ⟨Tryd.prog, plain, Γ, Δ, Φ, _⟩) ?_
  have hr := encId_rows v
  refine go trivial ?_
  refine x_loop (fun σ => ∃ (i : Nat) (b : Nat) (cap : Nat) (out : List Idt) (sp : List (List Am.V)) (y : Idt) (laid : Bool), σ.t 0 = .sl (v.map encId) ∧ σ.t 3 = .ptr 0 0 0 ∧ σ.t 5 = .loc b 0 out.length cap ∧ σ.t 6 = .s (.bool laid) ∧ σ.t 7 = .s (.int .i64 i) ∧ σ.h 0 = some ⟨2, [encId y], true⟩ ∧ σ.h b = some ⟨2, out.map encId ++ sp, true⟩ ∧ b < σ.n ∧ 0 < b ∧ i ≤ v.length ∧ out.length ≤ cap ∧ cap ≤ out.length + sp.length ∧ out.length ≤ 2 * i ∧ out ++ raF (v.drop i) y laid = raddF v x) (fun σ => v.length - ix (σ.t 7)) ⟨0, 1, 0, [], [], x, false, (by first | assumption | exact sxa trivial), (by first | assumption | exact sxa trivial), (by first | assumption | exact sxa trivial), (by first | assumption | exact sxa trivial), (by first | assumption | exact sxa trivial), (by first | assumption | exact sxa trivial), (by first | assumption | exact sxa trivial), (by first | omega | (dsimp only; omega) | exact soa trivial | omega | (simp; done)), (by first | omega | (dsimp only; omega) | exact soa trivial | omega | (simp; done)), (by first | rfl | omega | assumption | (simp [*]; done)), (by first | rfl | omega | assumption | (simp [*]; done)), (by first | rfl | omega | assumption | (simp [*]; done)), (by first | rfl | omega | assumption | (simp [*]; done)), (by first | rfl | omega | assumption | (simp [*]; done))⟩ ?_
  rintro t h n ⟨i, b, cap, out, sp, y, laid, h0, h3, h5, h6, h7, hh0, hhb, hn1, hn2, hf0, hf1, hf2, hf3, hf4⟩
  simp only at h0 h3 h5 h6 h7 hh0 hhb hn1 hn2
  refine go (And.intro h0 (And.intro h3 (And.intro h5 (And.intro h6 h7)))) ?_
  refine x_condP (sv (And.intro h0 (And.intro h3 (And.intro h5 (And.intro h6 h7))))) (fun hc => ?_) (fun hc => ?_)
  · have hi : i < v.length := by omega
    rw [List.drop_eq_getElem_cons hi, raF] at hf4
    generalize hmm : v[i] = m at *
    have e1 : (b = n) = False := by simp <;> omega
    have e2 : (b = n + 1) = False := by simp <;> omega
    have e3 : (n = b) = False := by simp <;> omega
    have e4 : (n + 1 = b) = False := by simp <;> omega
    have e5 : (0 = n) = False := by simp <;> omega
    have e6 : (0 = n + 1) = False := by simp
    have e7 : (0 = b) = False := by simp <;> omega
    have e8 : (n + 1 + 1 = n + 1) = False := by simp
    have e9 : (n + 1 = n + 1 + 1) = False := by simp
    have d1 : (n + 1 = n + 1 + 1 + 1) = False := by simp <;> omega
    have d2 : (n + 1 + 1 + 1 = n + 1) = False := by simp <;> omega
    have d3 : (0 = n + 1 + 1) = False := by simp
    have d4 : (0 = n + 1 + 1 + 1) = False := by simp
    cases c1 : (m.a.toList == y.a.toList)
    · cases c2 : Op.bytesLess m.a.toList y.a.toList
      · cases laid
        · rw [c1, c2] at hf4
          simp only [Bool.or_false, Bool.not_false, Bool.true_and, if_true, Bool.false_eq_true, if_false] at hf4
          refine go (And.intro h0 (And.intro h3 (And.intro h5 (And.intro h6 (And.intro h7 (And.intro hh0 (And.intro hhb (And.intro hr (And.intro hmm (And.intro @encId.eq_1 (And.intro c1 (And.intro c2 (And.intro e1 (And.intro e2 (And.intro e3 (And.intro e4 (And.intro e5 (And.intro e6 e7)))))))))))))))))) ?_
          refine x_appendO rfl rfl rfl rfl rfl rfl (sv (And.intro h5 (And.intro hhb (And.intro @encId.eq_1 (And.intro e1 (And.intro e2 (And.intro e3 (And.intro e4 (And.intro e5 (And.intro e6 e7)))))))))) (by decide) (sc (And.intro h5 (And.intro hhb (And.intro @encId.eq_1 (And.intro e1 (And.intro e2 (And.intro e3 (And.intro e4 (And.intro e5 (And.intro e6 e7)))))))))) (sv (And.intro h5 (And.intro hhb (And.intro @encId.eq_1 (And.intro e1 (And.intro e2 (And.intro e3 (And.intro e4 (And.intro e5 (And.intro e6 e7)))))))))) (sx (And.intro h5 (And.intro hhb (And.intro @encId.eq_1 (And.intro e1 (And.intro e2 (And.intro e3 (And.intro e4 (And.intro e5 (And.intro e6 e7)))))))))) (by first | rfl | (simp; done) | (simp [spare_len]; omega)) (by first | omega | (simp; done) | (simp [spare_len]; omega)) (by first | omega | (simp; done) | (simp [spare_len]; omega)) (sx (And.intro h5 (And.intro hhb (And.intro @encId.eq_1 (And.intro e1 (And.intro e2 (And.intro e3 (And.intro e4 (And.intro e5 (And.intro e6 e7)))))))))) (encId_okRow y) (by first | omega | (simp; done) | (simp [spare_len]; omega)) (fun cap' hcap' => ?_)
          refine go (And.intro h0 (And.intro h3 (And.intro h5 (And.intro h6 (And.intro h7 (And.intro hh0 (And.intro hhb (And.intro hr (And.intro hmm (And.intro @encId.eq_1 (And.intro e1 (And.intro e2 (And.intro e3 (And.intro e4 (And.intro e5 (And.intro e6 (And.intro e7 (And.intro e8 e9)))))))))))))))))) ?_
          have hc2 : out.length + 1 ≤ cap' := hcap'
          have hfin : (out ++ [y] ++ [m]) ++ raF (v.drop (i + 1)) y true = raddF v x := by rw [List.append_assoc, List.append_assoc]; exact hf4
          have hl1 : (out ++ [y] ++ [m]).length = out.length + 1 + 1 := by simp
          have hs0 := spare_len 2 (cap' - (out.length + [encId y].length))
          clear hf4
          refine x_appendO rfl rfl rfl rfl rfl rfl (sv (And.intro @encId.eq_1 (And.intro e1 (And.intro e2 (And.intro e3 (And.intro e4 (And.intro e5 (And.intro e6 (And.intro e7 (And.intro e8 (And.intro e9 (And.intro d1 (And.intro d2 (And.intro d3 d4)))))))))))))) (by decide) (sc (And.intro @encId.eq_1 (And.intro e1 (And.intro e2 (And.intro e3 (And.intro e4 (And.intro e5 (And.intro e6 (And.intro e7 (And.intro e8 (And.intro e9 (And.intro d1 (And.intro d2 (And.intro d3 d4)))))))))))))) (sv (And.intro @encId.eq_1 (And.intro e1 (And.intro e2 (And.intro e3 (And.intro e4 (And.intro e5 (And.intro e6 (And.intro e7 (And.intro e8 (And.intro e9 (And.intro d1 (And.intro d2 (And.intro d3 d4)))))))))))))) (sx (And.intro @encId.eq_1 (And.intro e1 (And.intro e2 (And.intro e3 (And.intro e4 (And.intro e5 (And.intro e6 (And.intro e7 (And.intro e8 (And.intro e9 (And.intro d1 (And.intro d2 (And.intro d3 d4)))))))))))))) (by first | rfl | (simp; done) | (simp [spare_len]; omega)) (by first | omega | (simp; done) | (simp [spare_len]; omega)) (by first | omega | (simp; done) | (simp [spare_len]; omega)) (sx (And.intro @encId.eq_1 (And.intro e1 (And.intro e2 (And.intro e3 (And.intro e4 (And.intro e5 (And.intro e6 (And.intro e7 (And.intro e8 (And.intro e9 (And.intro d1 (And.intro d2 (And.intro d3 d4)))))))))))))) (encId_okRow m) (by first | omega | (simp; done) | (simp [spare_len]; omega)) (fun cap' hcap' => ?_)
          refine go (And.intro h0 (And.intro h3 (And.intro h5 (And.intro h6 (And.intro h7 (And.intro hh0 (And.intro hhb (And.intro hr (And.intro hmm (And.intro @encId.eq_1 (And.intro e1 (And.intro e2 (And.intro e3 (And.intro e4 (And.intro e5 (And.intro e6 (And.intro e7 (And.intro e8 (And.intro e9 (And.intro d1 (And.intro d2 (And.intro d3 d4)))))))))))))))))))))) ?_
          have hc3 : out.length + 1 + 1 ≤ cap' := hcap'
          have hs1 := spare_len 2 (cap' - (out.length + 1 + 1))
          (refine ⟨⟨i + 1, n + 1 + 1 + 1, cap', out ++ [y] ++ [m], spare 2 (cap' - (out.length + 1 + 1)), y, true, ?_, ?_, ?_, ?_, ?_, ?_, ?_, ?_, ?_, ?_, ?_, ?_, ?_, ?_⟩, ?_⟩ <;> (first | omega | (dsimp only; omega) | (first | omega | assumption | (simp [*]; done)) | exact sxa (And.intro @cast_succ (And.intro @encId.eq_1 (And.intro hl1 (And.intro @map_snoc (And.intro e1 (And.intro e2 (And.intro e3 (And.intro e4 (And.intro e5 (And.intro e6 (And.intro e7 (And.intro e8 (And.intro e9 (And.intro d1 (And.intro d2 (And.intro d3 d4)))))))))))))))) | exact soa trivial))
        · rw [c1, c2] at hf4
          simp only [Bool.or_false, Bool.not_false, Bool.not_true, Bool.and_false, if_true, Bool.false_eq_true, if_false] at hf4
          have hfin : (out ++ [m]) ++ raF (v.drop (i + 1)) y true = raddF v x := by rw [List.append_assoc]; exact hf4
          have hl1 : (out ++ [m]).length = out.length + 1 := by simp
          refine go (And.intro h0 (And.intro h3 (And.intro h5 (And.intro h6 (And.intro h7 (And.intro hh0 (And.intro hhb (And.intro hr (And.intro hmm (And.intro @encId.eq_1 (And.intro c1 (And.intro c2 (And.intro e1 (And.intro e2 (And.intro e3 (And.intro e4 (And.intro e5 (And.intro e6 e7)))))))))))))))))) ?_
          refine x_appendO rfl rfl rfl rfl rfl rfl (sv (And.intro h5 (And.intro hhb (And.intro @encId.eq_1 (And.intro e1 (And.intro e2 (And.intro e3 (And.intro e4 (And.intro e5 (And.intro e6 e7)))))))))) (by decide) (sc (And.intro h5 (And.intro hhb (And.intro @encId.eq_1 (And.intro e1 (And.intro e2 (And.intro e3 (And.intro e4 (And.intro e5 (And.intro e6 e7)))))))))) (sv (And.intro h5 (And.intro hhb (And.intro @encId.eq_1 (And.intro e1 (And.intro e2 (And.intro e3 (And.intro e4 (And.intro e5 (And.intro e6 e7)))))))))) (sx (And.intro h5 (And.intro hhb (And.intro @encId.eq_1 (And.intro e1 (And.intro e2 (And.intro e3 (And.intro e4 (And.intro e5 (And.intro e6 e7)))))))))) (by first | rfl | (simp; done) | (simp [spare_len]; omega)) (by first | omega | (simp; done) | (simp [spare_len]; omega)) (by first | omega | (simp; done) | (simp [spare_len]; omega)) (sx (And.intro h5 (And.intro hhb (And.intro @encId.eq_1 (And.intro e1 (And.intro e2 (And.intro e3 (And.intro e4 (And.intro e5 (And.intro e6 e7)))))))))) (encId_okRow m) (by first | omega | (simp; done) | (simp [spare_len]; omega)) (fun cap' hcap' => ?_)
          refine go (And.intro h0 (And.intro h3 (And.intro h5 (And.intro h6 (And.intro h7 (And.intro hh0 (And.intro hhb (And.intro hr (And.intro hmm (And.intro @encId.eq_1 (And.intro e1 (And.intro e2 (And.intro e3 (And.intro e4 (And.intro e5 (And.intro e6 e7)))))))))))))))) ?_
          have hc2 : out.length + 1 ≤ cap' := hcap'
          have hs1 := spare_len 2 (cap' - (out.length + 1))
          clear hf4
          (refine ⟨⟨i + 1, n + 1, cap', out ++ [m], spare 2 (cap' - (out.length + 1)), y, true, ?_, ?_, ?_, ?_, ?_, ?_, ?_, ?_, ?_, ?_, ?_, ?_, ?_, ?_⟩, ?_⟩ <;> (first | omega | (dsimp only; omega) | (first | omega | assumption | (simp [*]; done)) | exact sxa (And.intro @cast_succ (And.intro @encId.eq_1 (And.intro hl1 (And.intro @map_snoc (And.intro e1 (And.intro e2 (And.intro e3 (And.intro e4 (And.intro e5 (And.intro e6 e7)))))))))) | exact soa trivial))
      · rw [c1, c2] at hf4
        simp only [Bool.or_false, Bool.not_true, Bool.false_and, Bool.false_eq_true, if_false] at hf4
        have hfin : (out ++ [m]) ++ raF (v.drop (i + 1)) y laid = raddF v x := by rw [List.append_assoc]; exact hf4
        have hl1 : (out ++ [m]).length = out.length + 1 := by simp
        refine go (And.intro h0 (And.intro h3 (And.intro h5 (And.intro h6 (And.intro h7 (And.intro hh0 (And.intro hhb (And.intro hr (And.intro hmm (And.intro @encId.eq_1 (And.intro c1 (And.intro c2 (And.intro e1 (And.intro e2 (And.intro e3 (And.intro e4 (And.intro e5 (And.intro e6 e7)))))))))))))))))) ?_
        refine x_appendO rfl rfl rfl rfl rfl rfl (sv (And.intro h5 (And.intro hhb (And.intro @encId.eq_1 (And.intro e1 (And.intro e2 (And.intro e3 (And.intro e4 (And.intro e5 (And.intro e6 e7)))))))))) (by decide) (sc (And.intro h5 (And.intro hhb (And.intro @encId.eq_1 (And.intro e1 (And.intro e2 (And.intro e3 (And.intro e4 (And.intro e5 (And.intro e6 e7)))))))))) (sv (And.intro h5 (And.intro hhb (And.intro @encId.eq_1 (And.intro e1 (And.intro e2 (And.intro e3 (And.intro e4 (And.intro e5 (And.intro e6 e7)))))))))) (sx (And.intro h5 (And.intro hhb (And.intro @encId.eq_1 (And.intro e1 (And.intro e2 (And.intro e3 (And.intro e4 (And.intro e5 (And.intro e6 e7)))))))))) (by first | rfl | (simp; done) | (simp [spare_len]; omega)) (by first | omega | (simp; done) | (simp [spare_len]; omega)) (by first | omega | (simp; done) | (simp [spare_len]; omega)) (sx (And.intro h5 (And.intro hhb (And.intro @encId.eq_1 (And.intro e1 (And.intro e2 (And.intro e3 (And.intro e4 (And.intro e5 (And.intro e6 e7)))))))))) (encId_okRow m) (by first | omega | (simp; done) | (simp [spare_len]; omega)) (fun cap' hcap' => ?_)
        refine go (And.intro h0 (And.intro h3 (And.intro h5 (And.intro h6 (And.intro h7 (And.intro hh0 (And.intro hhb (And.intro hr (And.intro hmm (And.intro @encId.eq_1 (And.intro e1 (And.intro e2 (And.intro e3 (And.intro e4 (And.intro e5 (And.intro e6 e7)))))))))))))))) ?_
        have hc2 : out.length + 1 ≤ cap' := hcap'
        have hs1 := spare_len 2 (cap' - (out.length + 1))
        clear hf4
        (refine ⟨⟨i + 1, n + 1, cap', out ++ [m], spare 2 (cap' - (out.length + 1)), y, laid, ?_, ?_, ?_, ?_, ?_, ?_, ?_, ?_, ?_, ?_, ?_, ?_, ?_, ?_⟩, ?_⟩ <;> (first | omega | (dsimp only; omega) | (first | omega | assumption | (simp [*]; done)) | exact sxa (And.intro @cast_succ (And.intro @encId.eq_1 (And.intro hl1 (And.intro @map_snoc (And.intro e1 (And.intro e2 (And.intro e3 (And.intro e4 (And.intro e5 (And.intro e6 e7)))))))))) | exact soa trivial))
    · rw [c1] at hf4
      simp only [if_true] at hf4
      by_cases c3 : y.n < m.n
      · rw [if_pos c3] at hf4
        refine go (And.intro h0 (And.intro h3 (And.intro h5 (And.intro h6 (And.intro h7 (And.intro hh0 (And.intro hhb (And.intro hr (And.intro hmm (And.intro @encId.eq_1 (And.intro c1 (And.intro c3 (And.intro e1 (And.intro e2 (And.intro e3 (And.intro e4 (And.intro e5 (And.intro e6 e7)))))))))))))))))) ?_
        (refine ⟨⟨i + 1, b, cap, out, sp, m, laid, ?_, ?_, ?_, ?_, ?_, ?_, ?_, ?_, ?_, ?_, ?_, ?_, ?_, ?_⟩, ?_⟩ <;> (first | omega | (dsimp only; omega) | ((exact hf4)) | exact sxa (And.intro @cast_succ (And.intro @encId.eq_1 (And.intro e1 (And.intro e2 (And.intro e3 (And.intro e4 (And.intro e5 (And.intro e6 e7)))))))) | exact soa trivial))
      · rw [if_neg c3] at hf4
        refine go (And.intro h0 (And.intro h3 (And.intro h5 (And.intro h6 (And.intro h7 (And.intro hh0 (And.intro hhb (And.intro hr (And.intro hmm (And.intro @encId.eq_1 (And.intro c1 (And.intro c3 (And.intro e1 (And.intro e2 (And.intro e3 (And.intro e4 (And.intro e5 (And.intro e6 e7)))))))))))))))))) ?_
        (refine ⟨⟨i + 1, b, cap, out, sp, y, laid, ?_, ?_, ?_, ?_, ?_, ?_, ?_, ?_, ?_, ?_, ?_, ?_, ?_, ?_⟩, ?_⟩ <;> (first | omega | (dsimp only; omega) | ((exact hf4)) | exact sxa (And.intro @cast_succ (And.intro @encId.eq_1 (And.intro e1 (And.intro e2 (And.intro e3 (And.intro e4 (And.intro e5 (And.intro e6 e7)))))))) | exact soa trivial))
  · have e : i = v.length := by omega
    subst e
    rw [List.drop_length, raF] at hf4
    have e5 : (0 = n) = False := by simp <;> omega
    have e1 : (b = n) = False := by simp <;> omega
    have e2 : (b = n + 1) = False := by simp <;> omega
    have e3 : (n = b) = False := by simp <;> omega
    have e7 : (0 = b) = False := by simp <;> omega
    cases laid
    · refine go (And.intro h0 (And.intro h3 (And.intro h5 (And.intro h6 (And.intro h7 (And.intro hh0 (And.intro hhb (And.intro @encId.eq_1 (And.intro e1 (And.intro e2 (And.intro e3 (And.intro e5 e7)))))))))))) ?_
      refine x_appendO rfl rfl rfl rfl rfl rfl (sv (And.intro h5 (And.intro hhb (And.intro @encId.eq_1 (And.intro e1 (And.intro e2 (And.intro e3 (And.intro e5 e7)))))))) (by decide) (sc (And.intro h5 (And.intro hhb (And.intro @encId.eq_1 (And.intro e1 (And.intro e2 (And.intro e3 (And.intro e5 e7)))))))) (sv (And.intro h5 (And.intro hhb (And.intro @encId.eq_1 (And.intro e1 (And.intro e2 (And.intro e3 (And.intro e5 e7)))))))) (sx (And.intro h5 (And.intro hhb (And.intro @encId.eq_1 (And.intro e1 (And.intro e2 (And.intro e3 (And.intro e5 e7)))))))) (by first | rfl | (simp; done) | (simp [spare_len]; omega)) (by first | omega | (simp; done) | (simp [spare_len]; omega)) (by first | omega | (simp; done) | (simp [spare_len]; omega)) (sx (And.intro h5 (And.intro hhb (And.intro @encId.eq_1 (And.intro e1 (And.intro e2 (And.intro e3 (And.intro e5 e7)))))))) (encId_okRow y) (by first | omega | (simp; done) | (simp [spare_len]; omega)) (fun cap' hcap' => ?_)
      have hc2 : out.length + 1 ≤ cap' := hcap'
      refine go (And.intro h0 (And.intro h3 (And.intro h5 (And.intro h6 (And.intro h7 (And.intro hh0 (And.intro hhb (And.intro @encId.eq_1 (And.intro e1 (And.intro e2 (And.intro e3 (And.intro e5 e7)))))))))))) ?_
      simp only [Bool.false_eq_true, if_false] at hf4
      rw [← hf4, map_snoc]
      have hl : (out ++ [y]).length = out.length + 1 := by simp
      have hdp : ∀ r ∈ out.map encId ++ [encId y], ∀ q ∈ r, deepc q = true := by have := deepId (out ++ [y]); rwa [map_snoc] at this
      refine x_done (x_outL (sp := spare 2 (cap' - (out.length + 1))) (sr (And.intro @Tryd.f19.eq_1 (And.intro h5 @encId.eq_1))) (sx trivial) (by simp) hdp)
    · refine go (And.intro h0 (And.intro h3 (And.intro h5 (And.intro h6 (And.intro h7 (And.intro hh0 hhb)))))) ?_
      simp only [if_true, List.append_nil] at hf4
      rw [← hf4]
      refine x_done (x_outL (sp := sp) (sr (And.intro @Tryd.f19.eq_1 h5)) (sx hhb) (by simp) (deepId _))
end Go.Proofs.YtfpijfedodljfaaDoor

set_option linter.unusedVariables false
set_option linter.unusedSimpArgs false
set_option maxRecDepth 100000
set_option maxHeartbeats 8000000
namespace Go.Proofs.YtfpijfedodljfaaDoor
open Go Go.RowKit Am

/-- slices.Insert of one row into a row of the call's own. -/
def insT (z : Nat) : Pt := fun _ args σ K => ∃ (b cap b2 : Nat) (rows sp : List (List V)) (i : Nat) (x : List V), args = [.loc b 0 rows.length cap, .s (.int .i64 i), .loc b2 0 1 1] ∧ i ≤ rows.length ∧ rows.length ≤ 1099511627776 ∧ b ≠ b2 ∧ b < σ.n ∧ b2 < σ.n ∧
  σ.h b = some ⟨z, rows ++ sp, true⟩ ∧ cap = rows.length + sp.length ∧ σ.h b2 = some ⟨z, [x], true⟩ ∧ okRows z rows ∧ okRows z [x] ∧
  ∀ (b' cap' n' : Nat) (h' : Hp) (sp' : List (List V)), b' < n' → σ.n ≤ n' → h' b' = some ⟨z, rows.take i ++ [x] ++ rows.drop i ++ sp', true⟩ → cap' = rows.length + 1 + sp'.length → (∀ k, k < σ.n → k ≠ b → h' k = σ.h k) → (b' = b ∨ σ.n ≤ b') → K (.loc b' 0 (rows.length + 1) cap') ⟨σ.t, h', n'⟩
theorem okRows_take {z : Nat} {r : List (List V)} (m : Nat) (h : okRows z r) : okRows z (r.take m) := fun q hq => h q (List.mem_of_mem_take hq)
theorem okRows_drop {z : Nat} {r : List (List V)} (m : Nat) (h : okRows z r) : okRows z (r.drop m) := fun q hq => h q (List.mem_of_mem_drop hq)
theorem okRows_rep (z m : Nat) (c : List V) (h : c.length = z ∧ ∀ q ∈ c, cellish q = true) : okRows z (List.replicate m c) := fun q hq => by rw [(List.mem_replicate.1 hq).2]; exact h
theorem ins_grow {α : Type} (rows sp : List α) (x : α) (Zs S : List α) (i : Nat) (hi : i < rows.length) (hz : Zs.length = rows.length + 1 - i) :
    (((rows ++ sp).take i ++ Zs ++ S).take i ++ [x].take 1 ++ ((rows ++ sp).take i ++ Zs ++ S).drop (i + 1)).take (i + 1) ++ (rows.drop i).take (rows.length - i) ++ (((rows ++ sp).take i ++ Zs ++ S).take i ++ [x].take 1 ++ ((rows ++ sp).take i ++ Zs ++ S).drop (i + 1)).drop (i + 1 + (rows.length - i)) = rows.take i ++ [x] ++ rows.drop i ++ S := by
  have h1 : (rows ++ sp).take i = rows.take i := List.take_append_of_le_length (by omega)
  rw [h1]
  have hA : (rows.take i).length = i := by simp; omega
  generalize rows.take i = A at *
  have hD : (rows.drop i).take (rows.length - i) = rows.drop i := List.take_of_length_le (by simp)
  rw [hD]
  generalize rows.drop i = D at *
  have e1 : (A ++ Zs ++ S).take i = A := by rw [List.append_assoc, List.take_append_of_le_length (by omega), List.take_of_length_le (by omega)]
  have e2 : (A ++ Zs ++ S).drop (i + 1) = Zs.drop 1 ++ S := by
    rw [List.append_assoc, List.drop_append, List.drop_of_length_le (by omega), List.nil_append, List.drop_append_of_le_length (by omega)]
    congr 2; omega
  rw [e1, e2]
  have e3 : (A ++ [x].take 1 ++ (Zs.drop 1 ++ S)).take (i + 1) = A ++ [x] := by
    have : (A ++ [x].take 1).length = i + 1 := by simp [hA]
    rw [List.take_append_of_le_length (by omega), List.take_of_length_le (by omega)]
    simp
  have e4 : (A ++ [x].take 1 ++ (Zs.drop 1 ++ S)).drop (i + 1 + (rows.length - i)) = S := by
    have h2 : (A ++ [x].take 1 ++ Zs.drop 1).length = i + 1 + (rows.length - i) := by simp [hA]; omega
    rw [← List.append_assoc, ← h2]
    simp
  rw [e3, e4]
theorem ins_place {α : Type} (rows sp : List α) (x : α) (i : Nat) (hi : i < rows.length) (hs : 0 < sp.length) :
    ((rows ++ sp).take (i + 1) ++ (((rows ++ sp).drop i).take (rows.length + 1 - i)).take (rows.length - i) ++ (rows ++ sp).drop (i + 1 + (rows.length - i))).take i ++ [x].take 1 ++ ((rows ++ sp).take (i + 1) ++ (((rows ++ sp).drop i).take (rows.length + 1 - i)).take (rows.length - i) ++ (rows ++ sp).drop (i + 1 + (rows.length - i))).drop (i + 1) = rows.take i ++ [x] ++ rows.drop i ++ sp.drop 1 := by
  have h1 : (((rows ++ sp).drop i).take (rows.length + 1 - i)).take (rows.length - i) = rows.drop i := by
    rw [List.take_take, show min (rows.length - i) (rows.length + 1 - i) = rows.length - i by omega, List.drop_append_of_le_length (by omega), List.take_append_of_le_length (by simp), List.take_of_length_le (by simp)]
  have h2 : (rows ++ sp).drop (i + 1 + (rows.length - i)) = sp.drop 1 := by
    rw [List.drop_append, List.drop_of_length_le (by omega), List.nil_append]
    congr 1; omega
  have h3 : (rows ++ sp).take (i + 1) = rows.take (i + 1) := List.take_append_of_le_length (by omega)
  rw [h1, h2, h3]
  have hA : (rows.take (i + 1)).length = i + 1 := by simp; omega
  have e1 : (rows.take (i + 1) ++ rows.drop i ++ sp.drop 1).take i = rows.take i := by
    rw [List.append_assoc, List.take_append_of_le_length (by omega), List.take_take]
    congr 1; omega
  have e2 : (rows.take (i + 1) ++ rows.drop i ++ sp.drop 1).drop (i + 1) = rows.drop i ++ sp.drop 1 := by
    rw [List.append_assoc, List.drop_append, List.drop_of_length_le (by omega), List.nil_append, hA]
    simp
  rw [e1, e2]
  simp
theorem insI_sound {plain : TypeId → Bool} {Γ : FuncId → Option Fspec} {Δ : FuncId → Option Pt} (hE : EnvOk ⟨Tryd.prog, plain, Γ, Δ, fun _ => none, 0⟩) (hO : Δ 48 = some (overT 2)) : SoundT Tryd.prog 36 (insT 2) := by
  refine inl_sound hE Tryd.func36 rfl (by kernel_rfl) (by kernel_rfl) ?_
  rintro Φ args t0 h0 n0 K ⟨b, cap, b2, rows, sp, i, x, rfl, hi, hlen, hne, hbn, hb2n, hb, rfl, hb2, hok, hokx, hK⟩
  simp only at hbn hb2n hb hb2 hK
  refine ⟨by simp [Tryd.f36], ?_⟩
  refine W.out (E := ⟨Tryd.prog, plain, Γ, Δ, Φ, _⟩) ?_
  have e1 : (b = n0) = False := by simp; omega
  have e2 : (b2 = n0) = False := by simp; omega
  have e3 : (b2 = b) = False := by simp; omega
  have e4 : (b = b2) = False := by simp; omega
  have e5 : (((1 : Nat) : Int) == 0) = false := rfl
  have e6 : (b = n0 + 1) = False := by simp; omega
  have e7 : (b2 = n0 + 1) = False := by simp; omega
  by_cases h1 : i = rows.length
  · subst h1
    refine go (And.intro hb (And.intro hb2 (And.intro e1 (And.intro e2 (And.intro e3 (And.intro e4 e5)))))) ?_
    refine x_appendO rfl rfl rfl rfl rfl rfl (sv (And.intro hb (And.intro hb2 (And.intro e1 (And.intro e2 (And.intro e3 (And.intro e4 e5))))))) (by decide) (sc (And.intro hb (And.intro hb2 (And.intro e1 (And.intro e2 (And.intro e3 (And.intro e4 e5))))))) (sv (And.intro hb (And.intro hb2 (And.intro e1 (And.intro e2 (And.intro e3 (And.intro e4 e5))))))) (sx (And.intro hb (And.intro hb2 (And.intro e1 (And.intro e2 (And.intro e3 (And.intro e4 e5))))))) (by first | rfl | (simp; done) | (simp [spare_len]; omega)) (by first | omega | (simp; done) | (simp [spare_len]; omega)) (by first | omega | (simp; done) | (simp [spare_len]; omega)) (sx (And.intro hb (And.intro hb2 (And.intro e1 (And.intro e2 (And.intro e3 (And.intro e4 e5))))))) hokx (by first | omega | (simp; done) | (simp [spare_len]; omega)) (fun cap' hcap' => ?_)
    refine go (And.intro hb (And.intro hb2 (And.intro e1 (And.intro e2 (And.intro e3 (And.intro e4 e5)))))) ?_
    refine x_inl (sr @Tryd.f36.eq_1) ?_
    refine hK n0 cap' (n0 + 1) _ (spare 2 (cap' - (rows.length + 1))) (by omega) (by omega) ?_ (by simp [spare_len] at hcap' ⊢; omega) ?_ (.inr (Nat.le_refl _))
    · simp [upd_at]
    · intro k k1 k2
      have k3 : k ≠ n0 := by omega
      simp [upd_at, k2, k3]
  · have e8 : ((i : Int) == (rows.length : Int)) = false := by simp; omega
    have c1 : ((rows.length : Int) + ((1 : Nat) : Int)) = ((rows.length + 1 : Nat) : Int) := by omega
    have c2 : (((rows.length + 1 : Nat) : Int) - (i : Int)) = ((rows.length + 1 - i : Nat) : Int) := by omega
    have c3 : ((i : Int) + ((1 : Nat) : Int)) = ((i + 1 : Nat) : Int) := by omega
    have c4 : i + (rows.length + 1 - i) = rows.length + 1 := by omega
    have c5 : rows.length + 1 - (i + 1) = rows.length - i := by omega
    have c6 : ((rows ++ sp).drop i).take (rows.length - i) = rows.drop i := by rw [List.drop_append_of_le_length (by omega), List.take_append_of_le_length (by simp), List.take_of_length_le (by simp)]
    have c7 : min (rows.length - i) (rows.length - i) = rows.length - i := Nat.min_self _
    have c8 : min 1 (rows.length + 1 - i) = 1 := by omega
    have c11 : (rows ++ sp).length = rows.length + sp.length := List.length_append
    have c10 : min (rows.length - i) (rows.length + 1 - i) = rows.length - i := by omega
    have c9 : min (rows.length + 1 - i) (rows.length - i) = rows.length - i := by omega
    refine go (And.intro hb (And.intro hb2 (And.intro e1 (And.intro e2 (And.intro e3 (And.intro e4 (And.intro e5 (And.intro e6 (And.intro e7 (And.intro e8 (And.intro c1 (And.intro c2 (And.intro c3 (And.intro c4 (And.intro c5 (And.intro c6 c11)))))))))))))))) ?_
    refine x_condP (sv (And.intro hb (And.intro hb2 (And.intro e1 (And.intro e2 (And.intro e3 (And.intro e4 (And.intro e5 (And.intro e6 (And.intro e7 (And.intro e8 (And.intro c1 (And.intro c2 (And.intro c3 (And.intro c4 (And.intro c5 (And.intro c6 c11))))))))))))))))) (fun hc => ?_) (fun hc => ?_)
    · have h2 : sp.length = 0 := by omega
      have h3 : (rows ++ sp).length = rows.length := by simp [h2]
      refine go (And.intro hb (And.intro hb2 (And.intro e1 (And.intro e2 (And.intro e3 (And.intro e4 (And.intro e5 (And.intro e6 (And.intro e7 (And.intro e8 (And.intro c1 (And.intro c2 (And.intro c3 (And.intro c4 (And.intro c5 (And.intro c6 c11)))))))))))))))) ?_
      refine x_appendZ rfl rfl rfl rfl rfl rfl (sc (And.intro hb (And.intro hb2 (And.intro e1 (And.intro e2 (And.intro e3 (And.intro e4 (And.intro e5 (And.intro e6 (And.intro e7 (And.intro e8 (And.intro c1 (And.intro c2 (And.intro c3 (And.intro c4 (And.intro c5 (And.intro c6 c11))))))))))))))))) (sv (And.intro hb (And.intro hb2 (And.intro e1 (And.intro e2 (And.intro e3 (And.intro e4 (And.intro e5 (And.intro e6 (And.intro e7 (And.intro e8 (And.intro c1 (And.intro c2 (And.intro c3 (And.intro c4 (And.intro c5 (And.intro c6 c11))))))))))))))))) (by decide) (sc (And.intro hb (And.intro hb2 (And.intro e1 (And.intro e2 (And.intro e3 (And.intro e4 (And.intro e5 (And.intro e6 (And.intro e7 (And.intro e8 (And.intro c1 (And.intro c2 (And.intro c3 (And.intro c4 (And.intro c5 (And.intro c6 c11))))))))))))))))) (sv (And.intro hb (And.intro hb2 (And.intro e1 (And.intro e2 (And.intro e3 (And.intro e4 (And.intro e5 (And.intro e6 (And.intro e7 (And.intro e8 (And.intro c1 (And.intro c2 (And.intro c3 (And.intro c4 (And.intro c5 (And.intro c6 c11))))))))))))))))) (sv (And.intro hb (And.intro hb2 (And.intro e1 (And.intro e2 (And.intro e3 (And.intro e4 (And.intro e5 (And.intro e6 (And.intro e7 (And.intro e8 (And.intro c1 (And.intro c2 (And.intro c3 (And.intro c4 (And.intro c5 (And.intro c6 c11))))))))))))))))) (sx (And.intro hb (And.intro hb2 (And.intro e1 (And.intro e2 (And.intro e3 (And.intro e4 (And.intro e5 (And.intro e6 (And.intro e7 (And.intro e8 (And.intro c1 (And.intro c2 (And.intro c3 (And.intro c4 (And.intro c5 (And.intro c6 c11))))))))))))))))) (by rfl) (by rfl) (by first | omega | (simp; done) | (simp [spare_len]; omega)) (by first | omega | (simp; done) | (simp [spare_len]; omega)) (by first | omega | (simp; done) | (simp [spare_len]; omega)) (by first | omega | (simp; done) | (simp [spare_len]; omega)) (fun cap' hcap' => ?_)
      refine go (And.intro hb (And.intro hb2 (And.intro e1 (And.intro e2 (And.intro e3 (And.intro e4 (And.intro e5 (And.intro e6 (And.intro e7 (And.intro e8 (And.intro c1 (And.intro c2 (And.intro c3 (And.intro c4 (And.intro c5 (And.intro c6 c11)))))))))))))))) ?_
      refine x_copy rfl rfl rfl rfl rfl rfl (sv (And.intro hb (And.intro hb2 (And.intro e1 (And.intro e2 (And.intro e3 (And.intro e4 (And.intro e5 (And.intro e6 (And.intro e7 (And.intro e8 (And.intro c1 (And.intro c2 (And.intro c3 (And.intro c4 (And.intro c5 (And.intro c6 c11))))))))))))))))) (by decide) (sv (And.intro hb (And.intro hb2 (And.intro e1 (And.intro e2 (And.intro e3 (And.intro e4 (And.intro e5 (And.intro e6 (And.intro e7 (And.intro e8 (And.intro c1 (And.intro c2 (And.intro c3 (And.intro c4 (And.intro c5 (And.intro c6 c11))))))))))))))))) (sx (And.intro hb (And.intro hb2 (And.intro e1 (And.intro e2 (And.intro e3 (And.intro e4 (And.intro e5 (And.intro e6 (And.intro e7 (And.intro e8 (And.intro c1 (And.intro c2 (And.intro c3 (And.intro c4 (And.intro c5 (And.intro c6 c11))))))))))))))))) (okRows_take _ hokx) (sx (And.intro hb (And.intro hb2 (And.intro e1 (And.intro e2 (And.intro e3 (And.intro e4 (And.intro e5 (And.intro e6 (And.intro e7 (And.intro e8 (And.intro c1 (And.intro c2 (And.intro c3 (And.intro c4 (And.intro c5 (And.intro c6 c11))))))))))))))))) (by rfl) (by rfl) (by first | omega | (simp; done) | (simp [spare_len]; omega)) ?_
      refine go (And.intro hb (And.intro hb2 (And.intro e1 (And.intro e2 (And.intro e3 (And.intro e4 (And.intro e5 (And.intro e6 (And.intro e7 (And.intro e8 (And.intro c1 (And.intro c2 (And.intro c3 (And.intro c4 (And.intro c5 (And.intro c6 c11)))))))))))))))) ?_
      refine x_copy rfl rfl rfl rfl rfl rfl (sv (And.intro hb (And.intro hb2 (And.intro e1 (And.intro e2 (And.intro e3 (And.intro e4 (And.intro e5 (And.intro e6 (And.intro e7 (And.intro e8 (And.intro c1 (And.intro c2 (And.intro c3 (And.intro c4 (And.intro c5 (And.intro c6 c11))))))))))))))))) (by decide) (sv (And.intro hb (And.intro hb2 (And.intro e1 (And.intro e2 (And.intro e3 (And.intro e4 (And.intro e5 (And.intro e6 (And.intro e7 (And.intro e8 (And.intro c1 (And.intro c2 (And.intro c3 (And.intro c4 (And.intro c5 (And.intro c6 c11))))))))))))))))) (sx (And.intro hb (And.intro hb2 (And.intro e1 (And.intro e2 (And.intro e3 (And.intro e4 (And.intro e5 (And.intro e6 (And.intro e7 (And.intro e8 (And.intro c1 (And.intro c2 (And.intro c3 (And.intro c4 (And.intro c5 (And.intro c6 c11))))))))))))))))) (okRows_take _ (okRows_drop _ hok)) (sx (And.intro hb (And.intro hb2 (And.intro e1 (And.intro e2 (And.intro e3 (And.intro e4 (And.intro e5 (And.intro e6 (And.intro e7 (And.intro e8 (And.intro c1 (And.intro c2 (And.intro c3 (And.intro c4 (And.intro c5 (And.intro c6 c11))))))))))))))))) (by rfl) (by rfl) (by first | omega | (simp; done) | (simp [spare_len]; omega)) ?_
      refine go (And.intro hb (And.intro hb2 (And.intro e1 (And.intro e2 (And.intro e3 (And.intro e4 (And.intro e5 (And.intro e6 (And.intro e7 (And.intro e8 (And.intro c1 (And.intro c2 (And.intro c3 (And.intro c4 (And.intro c5 (And.intro c6 c11)))))))))))))))) ?_
      refine x_inl (sr @Tryd.f36.eq_1) ?_
      rw [c4] at hcap'
      refine hK n0 cap' (n0 + 1) _ (spare 2 (cap' - (rows.length + 1))) (by omega) (by omega) ?_ (by simp [spare_len]; omega) ?_ (.inr (Nat.le_refl _))
      · have key := ins_grow rows sp x (spare 2 (rows.length + 1 - i)) (spare 2 (cap' - (rows.length + 1))) i (by omega) (by simp [spare_len])
        rw [c6] at *
        simp only [upd_at, ↓reduceIte, List.length_cons, List.length_nil, Nat.zero_add, Nat.add_zero, c8, c4, c5, c7, List.length_drop] at key ⊢
        exact congrArg (fun r => some (⟨2, r, true⟩ : Blk)) key
      · intro k k1 k2
        have k3 : (k = n0) = False := by simp; omega
        simp only [upd_at, k3, if_false]
    · have h2 : 0 < sp.length := by omega
      have hok3 : okRows 2 ((((rows ++ sp).drop i).take (rows.length + 1 - i)).take (min (((rows ++ sp).drop i).take (rows.length + 1 - i)).length (rows.length - i))) := by
        have : min (((rows ++ sp).drop i).take (rows.length + 1 - i)).length (rows.length - i) = rows.length - i := by simp; omega
        rw [this, List.take_take, c10, List.drop_append_of_le_length (by omega), List.take_append_of_le_length (by simp), List.take_of_length_le (by simp)]
        exact okRows_drop _ hok
      refine go (And.intro hb (And.intro hb2 (And.intro e1 (And.intro e2 (And.intro e3 (And.intro e4 (And.intro e5 (And.intro e6 (And.intro e7 (And.intro e8 (And.intro c1 (And.intro c2 (And.intro c3 (And.intro c4 (And.intro c5 (And.intro c6 c11)))))))))))))))) ?_
      refine x_callI rfl rfl rfl rfl (sv (And.intro hb (And.intro hb2 (And.intro e1 (And.intro e2 (And.intro e3 (And.intro e4 (And.intro e5 (And.intro e6 (And.intro e7 (And.intro e8 (And.intro c1 (And.intro c2 (And.intro c3 (And.intro c4 (And.intro c5 (And.intro c6 c11))))))))))))))))) hO (sv (And.intro hb (And.intro hb2 (And.intro e1 (And.intro e2 (And.intro e3 (And.intro e4 (And.intro e5 (And.intro e6 (And.intro e7 (And.intro e8 (And.intro c1 (And.intro c2 (And.intro c3 (And.intro c4 (And.intro c5 (And.intro c6 c11))))))))))))))))) ⟨b2, 0, 1, 1, b, i + 1, rows.length - i, _, _, _, rfl, (Ne.symm hne), (sv (And.intro hb (And.intro hb2 (And.intro e1 (And.intro e2 (And.intro e3 (And.intro e4 (And.intro e5 (And.intro e6 (And.intro e7 (And.intro e8 (And.intro c1 (And.intro c2 (And.intro c3 (And.intro c4 (And.intro c5 (And.intro c6 c11))))))))))))))))), (sv (And.intro hb (And.intro hb2 (And.intro e1 (And.intro e2 (And.intro e3 (And.intro e4 (And.intro e5 (And.intro e6 (And.intro e7 (And.intro e8 (And.intro c1 (And.intro c2 (And.intro c3 (And.intro c4 (And.intro c5 (And.intro c6 c11))))))))))))))))), rfl, rfl, rfl, (by simp), (by simp; omega), Nat.zero_lt_one, (by omega), ?_⟩
      refine go (And.intro hb (And.intro hb2 (And.intro e1 (And.intro e2 (And.intro e3 (And.intro e4 (And.intro e5 (And.intro e6 (And.intro e7 (And.intro e8 (And.intro c1 (And.intro c2 (And.intro c3 (And.intro c4 (And.intro c5 (And.intro c6 c11)))))))))))))))) ?_
      refine x_copy rfl rfl rfl rfl rfl rfl (sv (And.intro hb (And.intro hb2 (And.intro e1 (And.intro e2 (And.intro e3 (And.intro e4 (And.intro e5 (And.intro e6 (And.intro e7 (And.intro e8 (And.intro c1 (And.intro c2 (And.intro c3 (And.intro c4 (And.intro c5 (And.intro c6 c11))))))))))))))))) (by decide) (sv (And.intro hb (And.intro hb2 (And.intro e1 (And.intro e2 (And.intro e3 (And.intro e4 (And.intro e5 (And.intro e6 (And.intro e7 (And.intro e8 (And.intro c1 (And.intro c2 (And.intro c3 (And.intro c4 (And.intro c5 (And.intro c6 c11))))))))))))))))) (sx (And.intro hb (And.intro hb2 (And.intro e1 (And.intro e2 (And.intro e3 (And.intro e4 (And.intro e5 (And.intro e6 (And.intro e7 (And.intro e8 (And.intro c1 (And.intro c2 (And.intro c3 (And.intro c4 (And.intro c5 (And.intro c6 c11))))))))))))))))) hok3 (sx (And.intro hb (And.intro hb2 (And.intro e1 (And.intro e2 (And.intro e3 (And.intro e4 (And.intro e5 (And.intro e6 (And.intro e7 (And.intro e8 (And.intro c1 (And.intro c2 (And.intro c3 (And.intro c4 (And.intro c5 (And.intro c6 c11))))))))))))))))) (by rfl) (by rfl) (by first | omega | (simp; done) | (simp [spare_len]; omega)) ?_
      refine go (And.intro hb (And.intro hb2 (And.intro e1 (And.intro e2 (And.intro e3 (And.intro e4 (And.intro e5 (And.intro e6 (And.intro e7 (And.intro e8 (And.intro c1 (And.intro c2 (And.intro c3 (And.intro c4 (And.intro c5 (And.intro c6 c11)))))))))))))))) ?_
      refine x_copy rfl rfl rfl rfl rfl rfl (sv (And.intro hb (And.intro hb2 (And.intro e1 (And.intro e2 (And.intro e3 (And.intro e4 (And.intro e5 (And.intro e6 (And.intro e7 (And.intro e8 (And.intro c1 (And.intro c2 (And.intro c3 (And.intro c4 (And.intro c5 (And.intro c6 c11))))))))))))))))) (by decide) (sv (And.intro hb (And.intro hb2 (And.intro e1 (And.intro e2 (And.intro e3 (And.intro e4 (And.intro e5 (And.intro e6 (And.intro e7 (And.intro e8 (And.intro c1 (And.intro c2 (And.intro c3 (And.intro c4 (And.intro c5 (And.intro c6 c11))))))))))))))))) (sx (And.intro hb (And.intro hb2 (And.intro e1 (And.intro e2 (And.intro e3 (And.intro e4 (And.intro e5 (And.intro e6 (And.intro e7 (And.intro e8 (And.intro c1 (And.intro c2 (And.intro c3 (And.intro c4 (And.intro c5 (And.intro c6 c11))))))))))))))))) (okRows_take _ hokx) (sx (And.intro hb (And.intro hb2 (And.intro e1 (And.intro e2 (And.intro e3 (And.intro e4 (And.intro e5 (And.intro e6 (And.intro e7 (And.intro e8 (And.intro c1 (And.intro c2 (And.intro c3 (And.intro c4 (And.intro c5 (And.intro c6 c11))))))))))))))))) (by rfl) (by rfl) (by first | omega | (simp; done) | (simp [spare_len]; omega)) ?_
      refine go (And.intro hb (And.intro hb2 (And.intro e1 (And.intro e2 (And.intro e3 (And.intro e4 (And.intro e5 (And.intro e6 (And.intro e7 (And.intro e8 (And.intro c1 (And.intro c2 (And.intro c3 (And.intro c4 (And.intro c5 (And.intro c6 c11)))))))))))))))) ?_
      refine x_inl (sr @Tryd.f36.eq_1) ?_
      refine hK b (rows.length + sp.length) n0 _ (sp.drop 1) hbn (Nat.le_refl _) ?_ (by simp; omega) ?_ (.inl rfl)
      · have key := ins_place rows sp x i (by omega) h2
        have c12 : (((rows ++ sp).drop i).take (rows.length + 1 - i)).length = rows.length + 1 - i := by simp; omega
        simp only [upd_at, ↓reduceIte, List.length_cons, List.length_nil, Nat.zero_add, Nat.add_zero, c12, c8, c9] at key ⊢
        exact congrArg (fun r => some (⟨2, r, true⟩ : Blk)) key
      · intro k k1 k2
        simp only [upd_at, k2, if_false]
end Go.Proofs.YtfpijfedodljfaaDoor

set_option linter.unusedVariables false
set_option linter.unusedSimpArgs false
set_option maxRecDepth 100000
set_option maxHeartbeats 8000000
namespace Go.Proofs.YtfpijfedodljfaaDoor
open Go Go.RowKit Am

theorem bsF_le (c : Nat → Int) (i j : Nat) (h : i ≤ j) : i ≤ bsF c i j ∧ bsF c i j ≤ j := by
  induction hd : j - i using Nat.strongRecOn generalizing i j with
  | _ d ih =>
    rw [bsF]
    split
    · rename_i hij
      split
      · have := ih (j - ((i + j) / 2 + 1)) (by omega) ((i + j) / 2 + 1) j (by omega) rfl
        omega
      · have := ih ((i + j) / 2 - i) (by omega) i ((i + j) / 2) (by omega) rfl
        omega
    · omega
def insAt {α : Type} (l : List α) (i : Nat) (x : α) : List α := l.take i ++ [x] ++ l.drop i
theorem insAt_map {α β : Type} (f : α → β) (l : List α) (i : Nat) (x : α) : (l.map f).take i ++ [f x] ++ (l.map f).drop i = (insAt l i x).map f := by simp [insAt]
theorem insAt_len {α : Type} (l : List α) (i : Nat) (x : α) : (insAt l i x).length = l.length + 1 := by simp [insAt]; omega
def maxId (y x : Idt) : Idt := ⟨y.a, if y.n < x.n then x.n else y.n⟩
def dId : Idt := ⟨⟨#[]⟩, 0⟩
def vaddF (v : List Idt) (x : Idt) : List Idt := if plHit v x.a then v.set (plPos v x.a) (maxId (v.getD (plPos v x.a) dId) x) else insAt v (plPos v x.a) x
def vaddS : Fspec := fun _ ds r => ∃ (v : List Idt) (x : Idt), v.length ≤ 1048576 ∧ ds = [encIds v, .agg (encId x)] ∧ r = .sl ((vaddF v x).map encId)
theorem row_at (v : List Idt) (sp : List (List Am.V)) (i : Nat) (h : i < v.length) : (v.map encId ++ sp).getD i [] = encId (v.getD i dId) := by
  rw [List.getD_eq_getElem?_getD, List.getElem?_append_left (by simpa using h), List.getElem?_map, List.getElem?_eq_getElem h, List.getD_eq_getElem?_getD, List.getElem?_eq_getElem h]
  rfl
theorem row_set (v : List Idt) (sp : List (List Am.V)) (i : Nat) (y : Idt) (h : i < v.length) : (v.map encId ++ sp).set i (encId y) = (v.set i y).map encId ++ sp := by
  rw [List.set_append_left _ _ (by simpa using h), List.map_set]
theorem vadd_sound {plain : TypeId → Bool} {Γ : FuncId → Option Fspec} {Δ : FuncId → Option Pt} (hE : EnvOk ⟨Tryd.prog, plain, Γ, Δ, fun _ => none, 0⟩) (g_cl : Γ 35 = some (weakS (cloneS encId 2))) (g_plac : Γ 30 = some placS) (hI : Δ 36 = some (insT 2)) : Sound Tryd.prog 17 vaddS := by
  refine sound_of_awp hE Tryd.func17 rfl (by kernel_rfl) ?_
  rintro Φ ds r ⟨v, x, hv, rfl, rfl⟩
  refine ⟨by simp [Tryd.f17], ?_⟩
  unfold st0 encIds
  refine W.out (E := ⟨Tryd.prog, plain, Γ, Δ, Φ, _⟩) ?_
  refine go @encId.eq_1 ?_
  refine x_callO rfl rfl rfl rfl (sv trivial) g_cl (sv trivial) (se trivial) (.inl ⟨v, by omega, rfl, rfl⟩) (by simp [touchA, touch]) (fun cap hcap => ?_)
  have hsl : (spare 2 (cap - (List.map encId v).length)).length = cap - v.length := by rw [spare_len, List.length_map]
  have hcap2 : v.length ≤ cap := by simpa using hcap
  generalize spare 2 (cap - (List.map encId v).length) = sp at *
  have tk : (v.map encId ++ sp).take v.length = v.map encId := List.take_left' (by simp)
  have ln : (v.map encId ++ sp).length = v.length + sp.length := by simp
  have hx1 : ∀ h d, allO (allO (expo h d)) (v.map encId) = some (v.map encId) := fun h d => allO_rows h d (deepId v)
  refine go @encId.eq_1 ?_
  refine x_callN rfl rfl rfl rfl (sv (And.intro tk (And.intro ln hx1))) g_plac (sv (And.intro tk (And.intro ln hx1))) (se (And.intro tk (And.intro ln hx1))) ⟨v, x.a, by omega, rfl, rfl⟩ rfl ?_
  have hp : plPos v x.a ≤ v.length := (bsF_le _ _ _ (Nat.zero_le _)).2
  cases hh : plHit v x.a
  · refine go (And.intro hh @encId.eq_1) ?_
    refine x_callI rfl rfl rfl rfl (sv trivial) hI (sv trivial) ⟨1, cap, 2, v.map encId, sp, plPos v x.a, encId x, (by rw [List.length_map]), (by rw [List.length_map]; exact hp), (by rw [List.length_map]; omega), by omega, by show 1 < 3; omega, by show 2 < 3; omega, (sx trivial), (by rw [List.length_map]; omega), (sx @encId.eq_1), okRowsId v, encId_okRow x, ?_⟩
    intro b' cap' n2 h2 sp2 hb2 hn3 hbb hcc hold2 hor
    rw [insAt_map, List.length_map] at *
    have hw : vaddF v x = insAt v (plPos v x.a) x := by rw [vaddF, hh]; rfl
    rw [← hw] at hbb
    have hwl : (vaddF v x).length = v.length + 1 := by rw [hw, insAt_len]
    refine go trivial ?_
    refine x_done (x_outL (sp := sp2) (rows := (vaddF v x).map encId) (sr @Tryd.f17.eq_1) hbb (by rw [List.length_map]; exact hwl) (deepId _))
  · have hlt : plPos v x.a < v.length := by
      simp only [plHit, bsHit, Bool.and_eq_true, decide_eq_true_eq] at hh
      exact hh.1
    have hw : vaddF v x = v.set (plPos v x.a) (maxId (v.getD (plPos v x.a) dId) x) := by rw [vaddF, hh]; rfl
    have gr := row_at v sp _ hlt
    have gs := row_set v sp _ (maxId (v.getD (plPos v x.a) dId) x) hlt
    rw [← hw] at gs
    have hwl : (vaddF v x).length = v.length := by rw [hw, List.length_set]
    generalize plPos v x.a = p at *
    generalize v.getD p dId = y at *
    have gs2 : (v.map encId ++ sp).set p [.s (.string y.a), .s (.int .i64 (if y.n < x.n then x.n else y.n))] = (vaddF v x).map encId ++ sp := gs
    have hlt2 : (p < v.length + sp.length) = True := by simp; omega
    refine go (And.intro hh (And.intro @encId.eq_1 (And.intro gr (And.intro ln (And.intro gs2 hlt2))))) ?_
    refine x_done (x_outL (sp := sp) (rows := (vaddF v x).map encId) (sr @Tryd.f17.eq_1) (sx (And.intro @encId.eq_1 (And.intro gr gs2))) (by rw [List.length_map]; exact hwl) (deepId _))
theorem vadd_len (v : List Idt) (x : Idt) : (vaddF v x).length ≤ v.length + 1 := by
  unfold vaddF
  split
  · rw [List.length_set]; omega
  · rw [insAt_len]; omega
def mergeF (a b : List Idt) : List Idt := b.foldl vaddF a
def mergeS : Fspec := fun _ ds r => ∃ a b : List Idt, a.length ≤ 500000 ∧ b.length ≤ 500000 ∧ ds = [encIds a, encIds b] ∧ r = .sl ((mergeF a b).map encId)
theorem merge_sound {plain : TypeId → Bool} {Γ : FuncId → Option Fspec} {Δ : FuncId → Option Pt} (hE : EnvOk ⟨Tryd.prog, plain, Γ, Δ, fun _ => none, 0⟩) (g_cl : Γ 35 = some (weakS (cloneS encId 2))) (g_vadd : Γ 17 = some vaddS) : Sound Tryd.prog 21 mergeS := by
  refine sound_of_awp hE Tryd.func21 rfl (by kernel_rfl) ?_
  rintro Φ ds r ⟨a, b, ha, hb, rfl, rfl⟩
  refine ⟨by simp [Tryd.f21], ?_⟩
  unfold st0 encIds
  refine W.out (E := ⟨Tryd.prog, plain, Γ, Δ, Φ, _⟩) ?_
  have hrb := encId_rows b
  refine go trivial ?_
  refine x_callS rfl rfl rfl rfl (sv trivial) g_cl (sv trivial) (se trivial) (.inr ⟨2, _, ⟨a, by omega, rfl, rfl⟩, rfl⟩) (by simp) (by simp [touchA, touch]) ?_
  refine go trivial ?_
  refine x_loop (fun σ => ∃ (i : Nat) (out : List Idt), σ.t 1 = .sl (b.map encId) ∧ σ.t 5 = .sl (out.map encId) ∧ σ.t 10 = .sl (b.map encId) ∧ σ.t 11 = .s (.int .i64 b.length) ∧ σ.t 12 = .s (.int .i64 i) ∧ i ≤ b.length ∧ out.length ≤ 500000 + i ∧ mergeF out (b.drop i) = mergeF a b) (fun σ => b.length - ix (σ.t 12)) ⟨0, a, (by first | assumption | exact sxa trivial), (by first | assumption | exact sxa trivial), (by first | assumption | exact sxa trivial), (by first | assumption | exact sxa trivial), (by first | assumption | exact sxa trivial), (by first | rfl | omega | assumption | (simp [*]; done)), (by first | rfl | omega | assumption | (simp [*]; done)), (by first | rfl | omega | assumption | (simp [*]; done))⟩ ?_
  rintro t h n ⟨i, out, h1, h5, h10, h11, h12, hf0, hf1, hf2⟩
  simp only at h1 h5 h10 h11 h12
  refine go (And.intro h1 (And.intro h5 (And.intro h10 (And.intro h11 h12)))) ?_
  refine x_condP (sv (And.intro h1 (And.intro h5 (And.intro h10 (And.intro h11 h12))))) (fun hc => ?_) (fun hc => ?_)
  · have hi : i < b.length := by omega
    rw [List.drop_eq_getElem_cons hi, mergeF, List.foldl_cons] at hf2
    have hl2 := vadd_len out b[i]
    generalize hmm : b[i] = m at *
    refine go (And.intro h1 (And.intro h5 (And.intro h10 (And.intro h11 (And.intro h12 (And.intro hrb (And.intro hmm @encId.eq_1))))))) ?_
    refine x_callS rfl rfl rfl rfl (sv @encId.eq_1) g_vadd (sv @encId.eq_1) (se @encId.eq_1) ⟨out, m, by omega, rfl, rfl⟩ (by simp) (by simp [touchA, touch]) ?_
    refine go (And.intro h1 (And.intro h5 (And.intro h10 (And.intro h11 (And.intro h12 (And.intro hrb (And.intro hmm @encId.eq_1))))))) ?_
    (refine ⟨⟨i + 1, vaddF out m, ?_, ?_, ?_, ?_, ?_, ?_, ?_, ?_⟩, ?_⟩ <;> (first | omega | (dsimp only; omega) | (first | omega | assumption | (simp [*]; done)) | exact sxa @cast_succ | exact soa trivial))
  · have e : i = b.length := by omega
    subst e
    rw [List.drop_length] at hf2
    have hf' : out = mergeF a b := hf2
    rw [← hf']
    refine go (And.intro h1 (And.intro h5 (And.intro h10 (And.intro h11 h12)))) ?_
    refine x_done (x_outV (sr (And.intro @Tryd.f21.eq_1 h5)) (by simp) (by simp) rfl)
theorem radd_len : ∀ (v : List Idt) (x : Idt) (laid : Bool), (raF v x laid).length ≤ v.length + 1
  | [], x, laid => by cases laid <;> simp [raF]
  | y :: v, x, laid => by
    rw [raF]
    split
    · have := radd_len v (if x.n < y.n then y else x) laid
      simp only [List.length_cons]; omega
    · split
      · have h2 : ∀ (v : List Idt) (x : Idt), (raF v x true).length ≤ v.length := by
          intro v
          induction v with
          | nil => intro x; simp [raF]
          | cons y v ih =>
            intro x
            rw [raF]
            split
            · have := ih (if x.n < y.n then y else x); simp only [List.length_cons]; omega
            · simp only [Bool.not_true, Bool.and_false, Bool.false_eq_true, if_false, List.length_cons]
              have := ih x
              omega
        have := h2 v x
        simp only [List.length_cons]; omega
      · have := radd_len v x laid
        simp only [List.length_cons]; omega
def rmaxF (a b : List Idt) : List Idt := b.foldl raddF a
def rmaxS : Fspec := fun _ ds r => ∃ a b : List Idt, a.length ≤ 500000 ∧ b.length ≤ 500000 ∧ ds = [encIds a, encIds b] ∧ r = .sl ((rmaxF a b).map encId)
theorem rmax_sound {plain : TypeId → Bool} {Γ : FuncId → Option Fspec} {Δ : FuncId → Option Pt} (hE : EnvOk ⟨Tryd.prog, plain, Γ, Δ, fun _ => none, 0⟩) (g_radd : Γ 19 = some raddS) : Sound Tryd.prog 22 rmaxS := by
  refine sound_of_awp hE Tryd.func22 rfl (by kernel_rfl) ?_
  rintro Φ ds r ⟨a, b, ha, hb, rfl, rfl⟩
  refine ⟨by simp [Tryd.f22], ?_⟩
  unfold st0 encIds
  refine W.out (E := ⟨Tryd.prog, plain, Γ, Δ, Φ, _⟩) ?_
  have hrb := encId_rows b
  refine go trivial ?_
  refine x_append rfl rfl rfl rfl rfl rfl (sv trivial) (by decide) (sc trivial) (sv trivial) (sx trivial) (okRowsId a) (sx trivial) (by first | rfl | (simp; done)) (by first | rfl | (simp; done)) (by first | omega | (simp; done) | (simp [spare_len]; omega)) (by first | omega | (simp; done) | (simp [spare_len]; omega)) (by first | omega | (simp; done) | (simp [spare_len]; omega)) (fun cap' hcap' => ?_)
  have hcap2 : a.length ≤ cap' := by simpa using hcap'
  have tk : (a.map encId ++ spare 2 (cap' - a.length)).take a.length = a.map encId := List.take_left' (by simp)
  have ln : (a.length ≤ (a.map encId ++ spare 2 (cap' - a.length)).length) = True := by simp
  have hx1 : ∀ h d, allO (allO (expo h d)) (a.map encId) = some (a.map encId) := fun h d => allO_rows h d (deepId a)
  refine go trivial ?_
  refine x_loopF 5 (.sl (a.map encId)) (fun σ => ∃ (i : Nat) (out : List Idt), σ.t 1 = .sl (b.map encId) ∧ σ.t 5 = .sl (out.map encId) ∧ σ.t 6 = .s (.int .i64 i) ∧ i ≤ b.length ∧ out.length ≤ 500000 + i ∧ rmaxF out (b.drop i) = rmaxF a b) (fun σ => b.length - ix (σ.t 6)) (se (And.intro tk (And.intro ln hx1))) (fun h2 hold => ⟨0, a, (by first | assumption | exact sxa trivial), (by first | assumption | exact sxa trivial), (by first | assumption | exact sxa trivial), (by first | rfl | omega | assumption | (simp [*]; done)), (by first | rfl | omega | assumption | (simp [*]; done)), (by first | rfl | omega | assumption | (simp [*]; done))⟩) ?_
  rintro t h n ⟨i, out, h1, h5, h6, hf0, hf1, hf2⟩
  simp only at h1 h5 h6
  refine go (And.intro h1 (And.intro h5 h6)) ?_
  refine x_condP (sv (And.intro h1 (And.intro h5 h6))) (fun hc => ?_) (fun hc => ?_)
  · have hi : i < b.length := by omega
    rw [List.drop_eq_getElem_cons hi, rmaxF, List.foldl_cons] at hf2
    have hl2 := radd_len out b[i] false
    generalize hmm : b[i] = m at *
    refine go (And.intro h1 (And.intro h5 (And.intro h6 (And.intro hrb (And.intro hmm @encId.eq_1))))) ?_
    refine x_callS rfl rfl rfl rfl (sv @encId.eq_1) g_radd (sv @encId.eq_1) (se @encId.eq_1) ⟨out, m, by omega, rfl, rfl⟩ (by simp) (by simp [touchA, touch]) ?_
    have hl3 : (raddF out m).length ≤ out.length + 1 := hl2
    refine go (And.intro h1 (And.intro h5 (And.intro h6 (And.intro hrb (And.intro hmm @encId.eq_1))))) ?_
    (refine ⟨⟨i + 1, raddF out m, ?_, ?_, ?_, ?_, ?_, ?_⟩, ?_⟩ <;> (first | omega | (dsimp only; omega) | (first | omega | assumption | (simp [*]; done)) | exact sxa @cast_succ | exact soa trivial))
  · have e : i = b.length := by omega
    subst e
    rw [List.drop_length] at hf2
    have hf' : out = rmaxF a b := hf2
    rw [← hf']
    refine go (And.intro h1 (And.intro h5 h6)) ?_
    refine x_done (x_outV (sr (And.intro @Tryd.f22.eq_1 h5)) (by simp) (by simp) rfl)
end Go.Proofs.YtfpijfedodljfaaDoor

set_option linter.unusedVariables false
set_option linter.unusedSimpArgs false
set_option maxRecDepth 100000
set_option maxHeartbeats 4000000
namespace Go.Proofs.YtfpijfedodljfaaDoor
open Go Go.RowKit Am

/-- A byte at a place, as a number. -/
def bAt (s : ByteArray) (i : Nat) : Int := ((byteAt s i).toNat : Int)
def badAt (s : ByteArray) (i : Nat) : Bool := !(decide (97 ≤ bAt s i) && decide (bAt s i ≤ 122)) && (decide (i = 0) || (decide (bAt s i < 48) || decide (57 < bAt s i)))
/-- The first n places from i on are good. -/
def goodFrom (s : ByteArray) : Nat → Nat → Bool
  | 0, _ => true
  | n + 1, i => !badAt s i && goodFrom s n (i + 1)
def authF (s : ByteArray) : Bool := goodFrom s s.size 0 && (decide (0 < (s.size : Int)) && decide ((s.size : Int) ≤ 24))
def authS : Fspec := fun _ ds r => ∃ s : ByteArray, s.size ≤ 1099511627776 ∧ ds = [.s (.string s)] ∧ r = .s (.bool (authF s))
theorem auth_sound {plain : TypeId → Bool} {Γ : FuncId → Option Fspec} {Δ : FuncId → Option Pt} (hE : EnvOk ⟨Tryd.prog, plain, Γ, Δ, fun _ => none, 0⟩) : Sound Tryd.prog 16 authS := by
  refine sound_of_awp hE Tryd.func16 rfl (by kernel_rfl) ?_
  rintro Φ ds r ⟨s, hs, rfl, rfl⟩
  refine ⟨by simp [Tryd.f16], ?_⟩
  unfold st0
  refine W.out (E := ⟨Tryd.prog, plain, Γ, Δ, Φ, _⟩) ?_
  refine go trivial ?_
  refine x_loop (fun σ => ∃ i : Nat, i ≤ s.size ∧ σ.t 0 = .s (.string s) ∧ σ.t 3 = .s (.int .i64 i) ∧ goodFrom s (s.size - i) i = goodFrom s s.size 0) (fun σ => s.size - ix (σ.t 3)) ⟨0, Nat.zero_le _, (sc trivial), (sc trivial), rfl⟩ ?_
  rintro t h n ⟨i, hi, h0, h3, hf⟩
  simp only at h0 h3
  refine go (And.intro h0 h3) ?_
  refine x_condP (sv trivial) (fun hc => ?_) (fun hc => ?_)
  · have hi' : i < s.size := by omega
    obtain ⟨m, hm⟩ : ∃ m, s.size - i = m + 1 := ⟨s.size - i - 1, by omega⟩
    rw [hm, goodFrom] at hf
    have e0 : ((i : Int) == 0) = decide (i = 0) := by rw [beq_eq_decide]; simp
    have eb : ((byteAt s i).toNat : Int) = bAt s i := rfl
    by_cases c1 : 97 ≤ bAt s i
    · by_cases c2 : bAt s i ≤ 122
      · have hb : badAt s i = false := by simp [badAt, c1, c2]
        rw [hb] at hf
        refine go (And.intro h0 (And.intro h3 (And.intro e0 (And.intro eb (And.intro c1 c2))))) ?_
        refine ⟨⟨i + 1, by omega, (sc h0), (sc (And.intro h3 @cast_succ)), by rw [show s.size - (i + 1) = m by omega]; simpa using hf⟩, ?_⟩
        exact so h3
      · skip
        by_cases c3 : i = 0
        · have c3' : (i = 0) = True := by simp [c3]
          · have hb : badAt s i = true := by simp [badAt, c1, c2, c3']
            rw [hb] at hf
            have hz : authF s = false := by simp only [authF, ← hf]; rfl
            refine go (And.intro h0 (And.intro h3 (And.intro e0 (And.intro eb (And.intro c1 (And.intro c2 c3')))))) ?_
            refine x_done (x_out (sr (And.intro @Tryd.f16.eq_1 hz)) (by simp) (by simp) rfl)
        · have c3' : (i = 0) = False := by simp [c3]
          by_cases c4 : bAt s i < 48
          · exact (by omega : False).elim
          · by_cases c5 : 57 < bAt s i
            · have hb : badAt s i = true := by simp [badAt, c1, c2, c3', c4, c5]
              rw [hb] at hf
              have hz : authF s = false := by simp only [authF, ← hf]; rfl
              refine go (And.intro h0 (And.intro h3 (And.intro e0 (And.intro eb (And.intro c1 (And.intro c2 (And.intro c3' (And.intro c4 c5)))))))) ?_
              refine x_done (x_out (sr (And.intro @Tryd.f16.eq_1 hz)) (by simp) (by simp) rfl)
            · exact (by omega : False).elim
    · skip
      by_cases c3 : i = 0
      · have c3' : (i = 0) = True := by simp [c3]
        · have hb : badAt s i = true := by simp [badAt, c1, c3']
          rw [hb] at hf
          have hz : authF s = false := by simp only [authF, ← hf]; rfl
          refine go (And.intro h0 (And.intro h3 (And.intro e0 (And.intro eb (And.intro c1 c3'))))) ?_
          refine x_done (x_out (sr (And.intro @Tryd.f16.eq_1 hz)) (by simp) (by simp) rfl)
      · have c3' : (i = 0) = False := by simp [c3]
        by_cases c4 : bAt s i < 48
        · have hb : badAt s i = true := by simp [badAt, c1, c3', c4]
          rw [hb] at hf
          have hz : authF s = false := by simp only [authF, ← hf]; rfl
          refine go (And.intro h0 (And.intro h3 (And.intro e0 (And.intro eb (And.intro c1 (And.intro c3' c4)))))) ?_
          refine x_done (x_out (sr (And.intro @Tryd.f16.eq_1 hz)) (by simp) (by simp) rfl)
        · by_cases c5 : 57 < bAt s i
          · have hb : badAt s i = true := by simp [badAt, c1, c3', c4, c5]
            rw [hb] at hf
            have hz : authF s = false := by simp only [authF, ← hf]; rfl
            refine go (And.intro h0 (And.intro h3 (And.intro e0 (And.intro eb (And.intro c1 (And.intro c3' (And.intro c4 c5))))))) ?_
            refine x_done (x_out (sr (And.intro @Tryd.f16.eq_1 hz)) (by simp) (by simp) rfl)
          · have hb : badAt s i = false := by simp [badAt, c1, c3', c4, c5]
            rw [hb] at hf
            refine go (And.intro h0 (And.intro h3 (And.intro e0 (And.intro eb (And.intro c1 (And.intro c3' (And.intro c4 c5))))))) ?_
            refine ⟨⟨i + 1, by omega, (sc h0), (sc (And.intro h3 @cast_succ)), by rw [show s.size - (i + 1) = m by omega]; simpa using hf⟩, ?_⟩
            exact so h3
  · have e : i = s.size := by omega
    subst e
    rw [Nat.sub_self, goodFrom] at hf
    by_cases d1 : 0 < (s.size : Int)
    · refine go (And.intro h0 (And.intro h3 d1)) ?_
      refine x_done (x_out (sr (And.intro @Tryd.f16.eq_1 (And.intro @authF.eq_1 (And.intro (hf).symm d1)))) (by simp) (by simp) rfl)
    · refine go (And.intro h0 (And.intro h3 d1)) ?_
      refine x_done (x_out (sr (And.intro @Tryd.f16.eq_1 (And.intro @authF.eq_1 (And.intro (hf).symm d1)))) (by simp) (by simp) rfl)
end Go.Proofs.YtfpijfedodljfaaDoor

set_option linter.unusedVariables false
set_option linter.unusedSimpArgs false
set_option maxRecDepth 100000
set_option maxHeartbeats 8000000
namespace Go.Proofs.YtfpijfedodljfaaDoor
open Go Go.RowKit Am

def idAt (v : List Idt) (i : Nat) : Idt := v[i]?.getD ⟨⟨#[]⟩, 0⟩
theorem idAt_lt (v : List Idt) {i : Nat} (h : i < v.length) : idAt v i = v[i] := by simp [idAt, h]
def chkAt (v : List Idt) (i : Nat) : Int :=
  if authF (idAt v i).a = false then 7 else if (idAt v i).n < 1 then 2 else
  if (decide (0 < i) && ((idAt v i).a.toList == (idAt v (i - 1)).a.toList)) = true then 8 else
  if (decide (0 < i) && Op.bytesLess (idAt v i).a.toList (idAt v (i - 1)).a.toList) = true then 3 else 0
def chkFrom (v : List Idt) : Nat → Nat → Int
  | 0, _ => 0
  | m + 1, i => if chkAt v i = 0 then chkFrom v m (i + 1) else chkAt v i
def chkF (v : List Idt) : Int := chkFrom v v.length 0
def chkS : Fspec := fun _ ds r => ∃ v : List Idt, v.length ≤ 1099511627776 ∧ (∀ x ∈ v, x.a.size ≤ 1099511627776) ∧ ds = [encIds v] ∧ r = .s (.int .i64 (chkF v))
theorem chk_sound {plain : TypeId → Bool} {Γ : FuncId → Option Fspec} {Δ : FuncId → Option Pt} (hE : EnvOk ⟨Tryd.prog, plain, Γ, Δ, fun _ => none, 0⟩) (g_auth : Γ 16 = some authS) : Sound Tryd.prog 26 chkS := by
  refine sound_of_awp hE Tryd.func26 rfl (by kernel_rfl) ?_
  rintro Φ ds r ⟨v, hv, hs, rfl, rfl⟩
  refine ⟨by simp [Tryd.f26], ?_⟩
  unfold st0 encIds
  refine W.out (E := ⟨Tryd.prog, plain, Γ, Δ, Φ, _⟩) ?_
  have hr := encId_rows v
  refine go trivial ?_
  refine x_loop (fun σ => ∃ i : Nat, i ≤ v.length ∧ σ.t 0 = .sl (v.map encId) ∧ σ.t 3 = .s (.int .i64 i) ∧ chkFrom v (v.length - i) i = chkFrom v v.length 0) (fun σ => v.length - ix (σ.t 3)) ⟨0, Nat.zero_le _, (sc trivial), (sc trivial), rfl⟩ ?_
  rintro t h n ⟨i, hi, h0, h3, hf⟩
  simp only at h0 h3
  refine go (And.intro h0 h3) ?_
  refine x_condP (sv trivial) (fun hc => ?_) (fun hc => ?_)
  · have hi' : i < v.length := by omega
    obtain ⟨m, hm⟩ : ∃ m, v.length - i = m + 1 := ⟨v.length - i - 1, by omega⟩
    rw [hm, chkFrom] at hf
    refine go (And.intro h0 (And.intro h3 (And.intro hr @encId.eq_1))) ?_
    refine x_callN rfl rfl rfl rfl (sv trivial) g_auth (sv trivial) (se trivial) ⟨v[i].a, hs _ (List.getElem_mem hi'), rfl, rfl⟩ rfl ?_
    have hat := idAt_lt v hi'
    have bad : ∀ q : Int, chkAt v i = q → q ≠ 0 → chkF v = q := fun q h1 h2 => by rw [h1, if_neg h2] at hf; exact hf.symm
    have good : chkAt v i = 0 → chkFrom v (v.length - (i + 1)) (i + 1) = chkFrom v v.length 0 := fun h1 => by rw [h1, if_pos rfl] at hf; rw [show v.length - (i + 1) = m by omega]; exact hf
    cases a1 : authF v[i].a
    · have hz := bad 7 (by simp [chkAt, hat, a1]) (by decide)
      refine go (And.intro h0 (And.intro h3 (And.intro hr (And.intro @encId.eq_1 a1)))) ?_
      refine x_done (x_out (sr (And.intro @Tryd.f26.eq_1 hz)) (by simp) (by simp) rfl)
    · by_cases a2 : v[i].n < 1
      · have hz := bad 2 (by simp [chkAt, hat, a1, a2]) (by decide)
        refine go (And.intro h0 (And.intro h3 (And.intro hr (And.intro @encId.eq_1 (And.intro a1 a2))))) ?_
        refine x_done (x_out (sr (And.intro @Tryd.f26.eq_1 hz)) (by simp) (by simp) rfl)
      · by_cases a3 : 0 < i
        · have a3' : (0 < (i : Int)) = True := by simp; omega
          have ej : (i : Int) - 1 = ((i - 1 : Nat) : Int) := by omega
          have hj' : i - 1 < v.length := by omega
          have hjt := idAt_lt v hj'
          cases a4 : (v[i].a.toList == v[i - 1].a.toList)
          · cases a5 : Op.bytesLess v[i].a.toList v[i - 1].a.toList
            · have hz := good (by simp only [chkAt, hat, hjt, a1, a2, a4, a5]; simp)
              refine go (And.intro h0 (And.intro h3 (And.intro hr (And.intro @encId.eq_1 (And.intro a1 (And.intro a2 (And.intro a3' (And.intro ej (And.intro a4 a5))))))))) ?_
              refine ⟨⟨i + 1, by omega, (sc h0), (sc (And.intro h3 @cast_succ)), hz⟩, ?_⟩
              exact so h3
            · have hz := bad 3 (by simp only [chkAt, hat, hjt, a1, a2, a4, a5]; simp [a3]) (by decide)
              refine go (And.intro h0 (And.intro h3 (And.intro hr (And.intro @encId.eq_1 (And.intro a1 (And.intro a2 (And.intro a3' (And.intro ej (And.intro a4 a5))))))))) ?_
              refine x_done (x_out (sr (And.intro @Tryd.f26.eq_1 hz)) (by simp) (by simp) rfl)
          · have hz := bad 8 (by simp only [chkAt, hat, hjt, a1, a2, a4]; simp [a3]) (by decide)
            refine go (And.intro h0 (And.intro h3 (And.intro hr (And.intro @encId.eq_1 (And.intro a1 (And.intro a2 (And.intro a3' (And.intro ej a4)))))))) ?_
            refine x_done (x_out (sr (And.intro @Tryd.f26.eq_1 hz)) (by simp) (by simp) rfl)
        · have a3' : (0 < (i : Int)) = False := by simp; omega
          have hz := good (by simp only [chkAt, hat, a1, a2]; simp [a3])
          refine go (And.intro h0 (And.intro h3 (And.intro hr (And.intro @encId.eq_1 (And.intro a1 (And.intro a2 a3')))))) ?_
          refine ⟨⟨i + 1, by omega, (sc h0), (sc (And.intro h3 @cast_succ)), hz⟩, ?_⟩
          exact so h3
  · have e : i = v.length := by omega
    subst e
    rw [Nat.sub_self, chkFrom] at hf
    have hz : chkF v = 0 := hf.symm
    refine go (And.intro h0 h3) ?_
    refine x_done (x_out (sr (And.intro @Tryd.f26.eq_1 hz)) (by simp) (by simp) rfl)
end Go.Proofs.YtfpijfedodljfaaDoor

/- Contracts of the library, laid at this program. -/
namespace Go.Proofs
open Go.RowKit Go.Sort Go.Lib Go.Shelf
def Tryd.lays156_ren : Go.Shelf.Ren := ⟨fun | 156 => 33 | 165 => 45 | 166 => 46 | 169 => 47 | 240 => 54 | 241 => 55 | 276 => 62 | 277 => 63 | n => n, fun | 31 => 49 | 9 => 9 | 3 => 3 | 4 => 4 | 0 => 0 | 20 => 20 | 72 => 64 | 76 => 68 | 70 => 61 | 37 => 62 | 75 => 67 | 127 => 77 | 164 => 84 | 5 => 5 | 80 => 70 | n => n, fun | n => n⟩
theorem Tryd.lays156 : Go.Proofs.Lays.n156 Tryd.prog Tryd.lays156_ren := {
  mixed := by kernel_rfl
  f156 := Tryd.func33.trans (congrArg some (by kernel_rfl))
  f165 := Tryd.func45.trans (congrArg some (by kernel_rfl))
  f166 := Tryd.func46.trans (congrArg some (by kernel_rfl))
  f169 := Tryd.func47.trans (congrArg some (by kernel_rfl))
  f240 := Tryd.func54.trans (congrArg some (by kernel_rfl))
  f241 := Tryd.func55.trans (congrArg some (by kernel_rfl))
  f276 := Tryd.func62.trans (congrArg some (by kernel_rfl))
  f277 := Tryd.func63.trans (congrArg some (by kernel_rfl))
  t0 := Tryd.underlying0
  a0 := Tryd.isAgg0
  z0 := Tryd.sizeOf0
  v0 := Tryd.zeroValue0
  t3 := Tryd.underlying3
  a3 := Tryd.isAgg3
  z3 := Tryd.sizeOf3
  v3 := Tryd.zeroValue3
  t4 := Tryd.underlying4
  a4 := Tryd.isAgg4
  z4 := Tryd.sizeOf4
  v4 := Tryd.zeroValue4
  t9 := Tryd.underlying9
  a9 := Tryd.isAgg9
  z9 := Tryd.sizeOf9
  v9 := Tryd.zeroValue9
  t20 := Tryd.underlying20
  a20 := Tryd.isAgg20
  z20 := Tryd.sizeOf20
  v20 := Tryd.zeroValue20
  t31 := Tryd.underlying49
  a31 := Tryd.isAgg49
  z31 := Tryd.sizeOf49
  v31 := Tryd.zeroValue49
  t37 := Tryd.underlying62
  a37 := Tryd.isAgg62
  z37 := Tryd.sizeOf62
  v37 := Tryd.zeroValue62
  t70 := Tryd.underlying61
  a70 := Tryd.isAgg61
  z70 := Tryd.sizeOf61
  v70 := Tryd.zeroValue61
  t72 := Tryd.underlying64
  a72 := Tryd.isAgg64
  z72 := Tryd.sizeOf64
  v72 := Tryd.zeroValue64
  t75 := Tryd.underlying67
  a75 := Tryd.isAgg67
  z75 := Tryd.sizeOf67
  v75 := Tryd.zeroValue67
  t76 := Tryd.underlying68
  a76 := Tryd.isAgg68
  z76 := Tryd.sizeOf68
  v76 := Tryd.zeroValue68
  t127 := Tryd.underlying77
  a127 := Tryd.isAgg77
  z127 := Tryd.sizeOf77
  v127 := Tryd.zeroValue77
  t164 := Tryd.underlying84
  a164 := Tryd.isAgg84
  z164 := Tryd.sizeOf84
  v164 := Tryd.zeroValue84 }
theorem Tryd.Builder_Extra_156 : Builder.Extra Tryd.prog Tryd.lays156_ren := {
  sizeBuilder := by kernel_rfl
  liesBuilder := by kernel_rfl
  t5 := Tryd.underlying5
  a5 := Tryd.isAgg5
  z5 := Tryd.sizeOf5
  v5 := Tryd.zeroValue5
  infoByte := by kernel_rfl
  cellsByte := by kernel_rfl
  sizeByte := by kernel_rfl
  neB5 := by decide }
theorem Tryd.strings_Join_none (a : Option Addr) (c : Nat) (sep : ByteArray) (w : World) :
    Calls Tryd.prog 33 #[.slice a 0 c, .string sep] w fun e w' => e = .returned (.string ⟨#[]⟩) ∧ w' = w := Any.strings_Join_none Tryd.lays156 Tryd.Builder_Extra_156 a c sep w
theorem Tryd.strings_Join (bk o c : Nat) (xs : List ByteArray) (sep : ByteArray) (w : World) (hcells : ∀ (j : Nat) x, xs[j]? = some x → w.cell? ⟨bk, o + j, none⟩ = some (.string x)) (hbk : bk < w.heap.size) (hN : xs.length ≤ 140737488355328) (hcap : xs.length ≤ c) (hlen : (Lib.join (xs.map (·.data.toList)) sep.data.toList).length ≤ 140737488355328) :
    Calls Tryd.prog 33 #[.slice (some ⟨bk, o, none⟩) xs.length c, .string sep] w fun e w' => e = .returned (.string ⟨(Lib.join (xs.map (·.data.toList)) sep.data.toList).toArray⟩) ∧ Below w.heap.size w w' := Any.strings_Join Tryd.lays156 Tryd.Builder_Extra_156 bk o c xs sep w hcells hbk hN hcap hlen
def Tryd.laysM171_ren : Go.Shelf.Ren := ⟨fun | 171 => 32 | 243 => 44 | 246 => 53 | 283 => 58 | 284 => 59 | 285 => 60 | 286 => 61 | 129 => 66 | 317 => 65 | 318 => 67 | 319 => 68 | 320 => 69 | 337 => 70 | 338 => 71 | n => n, fun | 3 => 3 | 9 => 9 | 2 => 2 | 4 => 4 | 171 => 78 | 0 => 0 | 53 => 79 | 37 => 62 | 5 => 5 | 173 => 82 | 212 => 90 | 51 => 91 | 20 => 20 | 213 => 92 | 46 => 75 | 232 => 95 | 233 => 96 | n => n, fun | 17 => 1 | 18 => 2 | 19 => 3 | n => n⟩
theorem Tryd.laysM171 : Go.Proofs.LaysM.n171 Tryd.prog Tryd.laysM171_ren := {
  mixed := by kernel_rfl
  f129 := Tryd.func66.trans (congrArg some (by kernel_rfl))
  f171 := Tryd.func32.trans (congrArg some (by kernel_rfl))
  f243 := Tryd.func44.trans (congrArg some (by kernel_rfl))
  f246 := Tryd.func53.trans (congrArg some (by kernel_rfl))
  f283 := Tryd.func58.trans (congrArg some (by kernel_rfl))
  f284 := Tryd.func59.trans (congrArg some (by kernel_rfl))
  f285 := Tryd.func60.trans (congrArg some (by kernel_rfl))
  f286 := Tryd.func61.trans (congrArg some (by kernel_rfl))
  f317 := Tryd.func65.trans (congrArg some (by kernel_rfl))
  f318 := Tryd.func67.trans (congrArg some (by kernel_rfl))
  f319 := Tryd.func68.trans (congrArg some (by kernel_rfl))
  f320 := Tryd.func69.trans (congrArg some (by kernel_rfl))
  f337 := Tryd.func70.trans (congrArg some (by kernel_rfl))
  f338 := Tryd.func71.trans (congrArg some (by kernel_rfl))
  t0 := Tryd.underlying0
  a0 := Tryd.isAgg0
  z0 := Tryd.sizeOf0
  v0 := Tryd.zeroValue0
  t2 := Tryd.underlying2
  a2 := Tryd.isAgg2
  z2 := Tryd.sizeOf2
  v2 := Tryd.zeroValue2
  t3 := Tryd.underlying3
  a3 := Tryd.isAgg3
  z3 := Tryd.sizeOf3
  v3 := Tryd.zeroValue3
  t4 := Tryd.underlying4
  a4 := Tryd.isAgg4
  z4 := Tryd.sizeOf4
  v4 := Tryd.zeroValue4
  t5 := Tryd.underlying5
  a5 := Tryd.isAgg5
  z5 := Tryd.sizeOf5
  v5 := Tryd.zeroValue5
  t9 := Tryd.underlying9
  a9 := Tryd.isAgg9
  z9 := Tryd.sizeOf9
  v9 := Tryd.zeroValue9
  t20 := Tryd.underlying20
  a20 := Tryd.isAgg20
  z20 := Tryd.sizeOf20
  v20 := Tryd.zeroValue20
  t37 := Tryd.underlying62
  a37 := Tryd.isAgg62
  z37 := Tryd.sizeOf62
  v37 := Tryd.zeroValue62
  t46 := Tryd.underlying75
  a46 := Tryd.isAgg75
  z46 := Tryd.sizeOf75
  v46 := Tryd.zeroValue75
  t51 := Tryd.underlying91
  a51 := Tryd.isAgg91
  z51 := Tryd.sizeOf91
  v51 := Tryd.zeroValue91
  t53 := Tryd.underlying79
  a53 := Tryd.isAgg79
  z53 := Tryd.sizeOf79
  v53 := Tryd.zeroValue79
  t171 := Tryd.underlying78
  a171 := Tryd.isAgg78
  z171 := Tryd.sizeOf78
  v171 := Tryd.zeroValue78
  t173 := Tryd.underlying82
  a173 := Tryd.isAgg82
  z173 := Tryd.sizeOf82
  v173 := Tryd.zeroValue82
  t212 := Tryd.underlying90
  a212 := Tryd.isAgg90
  z212 := Tryd.sizeOf90
  v212 := Tryd.zeroValue90
  t213 := Tryd.underlying92
  a213 := Tryd.isAgg92
  z213 := Tryd.sizeOf92
  t232 := Tryd.underlying95
  a232 := Tryd.isAgg95
  z232 := Tryd.sizeOf95
  v232 := Tryd.zeroValue95
  t233 := Tryd.underlying96
  a233 := Tryd.isAgg96
  z233 := Tryd.sizeOf96
  v233 := Tryd.zeroValue96
  g17 := by kernel_rfl
  g18 := by kernel_rfl
  g19 := by kernel_rfl
  i0 := by kernel_rfl
  i2 := by kernel_rfl
  i3 := by kernel_rfl
  i4 := by kernel_rfl
  i5 := by kernel_rfl
  i9 := by kernel_rfl
  i20 := by kernel_rfl
  i37 := by kernel_rfl
  i46 := by kernel_rfl
  i51 := by kernel_rfl
  i53 := by kernel_rfl
  i171 := by kernel_rfl
  i173 := by kernel_rfl
  i212 := by kernel_rfl
  i232 := by kernel_rfl
  i233 := by kernel_rfl
  m17 := by kernel_rfl
  m18 := by kernel_rfl
  m19 := by kernel_rfl }
theorem Tryd.strconv_Itoa (n : Int) (h0 : -9223372036854775808 ≤ n) (h1 : n ≤ 9223372036854775807) (w : World) (htab : Lib.TabIs Tryd.prog w "internal/strconv.uint64pow10" .u64 Lib.pow10Tab) :
    Calls Tryd.prog 32 #[.int .i64 n] w fun e w' => e = .returned (.string ⟨(Lib.itoa n).toArray⟩) ∧ ∃ k os, w' = grow (w.drewN k) os := Any.strconv_Itoa Tryd.laysM171 n h0 h1 w htab
end Go.Proofs

set_option linter.unusedVariables false
set_option linter.unusedSimpArgs false
set_option maxRecDepth 100000
set_option maxHeartbeats 4000000
namespace Go.Proofs.YtfpijfedodljfaaDoor
open Go Go.RowKit Am

def itoaB (n : Int) : ByteArray := ⟨(Lib.itoa n).toArray⟩
def itoaS : Fspec := fun _ ds r => ∃ n : Int, -9223372036854775808 ≤ n ∧ n ≤ 9223372036854775807 ∧ ds = [.s (.int .i64 n)] ∧ r = .s (.string (itoaB n))
theorem itoa_sound : Sound Tryd.prog 32 itoaS := by
  rintro c Φ ds r vals hc hok0 hX hΦ ⟨n, h0, h1, rfl, rfl⟩ ⟨hl, ha⟩
  have e0 : vals.getD 0 Go.undef = .int .i64 n := (ha 0 (by simp)).s_eq.1
  have hv : vals = #[.int .i64 n] := by
    apply Array.ext
    · simpa using hl
    · intro i g1 g2
      have : i = 0 := by simpa using g2
      subst this
      simpa [g1] using e0
  subst hv
  have htab : Lib.TabIs Tryd.prog c.w0 "internal/strconv.uint64pow10" .u64 Lib.pow10Tab := by
    have := c.inv c.w0 (Fr.refl _ _)
    rw [hc] at this
    exact this
  refine (Tryd.strconv_Itoa n h0 h1 c.w0 htab).mono ?_
  rintro e w' ⟨rfl, k, os, rfl⟩
  refine ⟨_, rfl, ⟨rfl, rfl, rfl, ?_, fun j hj => ?_⟩, fun fv => .s _ rfl⟩
  · show c.w0.heap.size ≤ (c.w0.heap ++ os).size
    simp
  · show (c.w0.heap ++ os)[j]? = c.w0.heap[j]?
    rw [Array.getElem?_append_left hj]
def encS (x : ByteArray) : List V := [.s (.string x)]
theorem encS_rows (v : List ByteArray) : (∀ r ∈ v.map encS, r.length = 1) = True := rows_map _ _ _ fun _ => rfl
def joinB (xs : List ByteArray) (sep : ByteArray) : ByteArray := ⟨(Lib.join (xs.map (·.data.toList)) sep.data.toList).toArray⟩
def joinT : Pt := fun _ args σ K => ∃ (b cap : Nat) (xs : List ByteArray) (sp : List (List V)) (sep : ByteArray), args = [.loc b 0 xs.length cap, .s (.string sep)] ∧ 0 < xs.length ∧ σ.h b = some ⟨1, xs.map encS ++ sp, true⟩ ∧ xs.length ≤ 1099511627776 ∧
  (Lib.join (xs.map (·.data.toList)) sep.data.toList).length ≤ 140737488355328 ∧ K (.s (.string (joinB xs sep))) σ
theorem joinT_sound : SoundT Tryd.prog 33 joinT := by
  rintro c Φ h n μ w args vals t K hc hΦ H hl ha ⟨b, cap, xs, sp, sep, rfl, hpos, hb, hlen, hj, hK⟩
  have a0 := ha 0 (by simp)
  have a1 : vals.getD 1 Go.undef = .string sep := (ha 1 (by simp)).s_eq.1
  obtain ⟨hcap, ⟨k, base, size, hmu, e0⟩ | ⟨hz, _⟩⟩ := a0.loc_inv
  · rcases H.blk b _ hb with ⟨g1, _⟩ | ⟨k', base', g1, g2, g3, g4, g5⟩
    · rw [hmu] at g1; cases g1
    · rw [hmu] at g1
      cases g1
      have hv : vals = #[.slice (some ⟨k, base, none⟩) xs.length cap, .string sep] := by
        apply Array.ext
        · simpa using hl
        · intro i h1 h2
          have h3 : i < 2 := by simpa using h2
          have : i = 0 ∨ i = 1 := by omega
          rcases this with rfl | rfl
          · simpa [h1] using e0
          · simpa [h1] using a1
      subst hv
      refine .inl ⟨by kernel_rfl, (Tryd.strings_Join k base cap xs sep w (fun j x hx => ?_) g2 (by omega) hcap hj).mono ?_⟩
      · have hjl : j < xs.length := (List.getElem?_eq_some_iff.1 hx).1
        obtain ⟨y, h1, _, h3⟩ := g5 j 0 (by simp; omega) (by simp)
        have h4 : cellAt (xs.map encS ++ sp) j 0 = .s (.string x) := by
          have h5 : (xs.map encS ++ sp)[j]? = some (encS x) := by
            rw [List.getElem?_append_left (by simpa using hjl), List.getElem?_map, hx]
            rfl
          simp [cellAt, List.getD_eq_getElem?_getD, h5, encS]
        rw [h4] at h3
        rw [h3.s_eq.1] at h1
        simpa using h1
      · rintro e w' ⟨rfl, hb'⟩
        have H2 := H.below hb'
        exact ⟨_, rfl, _, h, n, μ, hK, H2.1, H2.2, .s _ rfl⟩
  · omega
end Go.Proofs.YtfpijfedodljfaaDoor

set_option linter.unusedVariables false
set_option linter.unusedSimpArgs false
set_option maxRecDepth 100000
set_option maxHeartbeats 8000000
namespace Go.Proofs.YtfpijfedodljfaaDoor
open Go Go.RowKit Am

def decB (k : Nat) : ByteArray := ⟨(Lib.decDigits k).toArray⟩
theorem ba_app (a b : List UInt8) : (⟨a.toArray⟩ : ByteArray) ++ ⟨b.toArray⟩ = ⟨(a ++ b).toArray⟩ := by
  apply ByteArray.ext
  simp
theorem ba_of (a : ByteArray) : a = ⟨a.data.toList.toArray⟩ := by apply ByteArray.ext; simp
theorem decB_size (k : Nat) (h : k ≤ 9223372036854775807) : (decB k).size ≤ 20 := by
  have h1 : (decB k).size = (Lib.decDigits k).length := by show (Lib.decDigits k).toArray.size = _; simp
  rw [h1, Lib.decDigits_length]
  exact Lib.nDigits_le20 k (by omega)
theorem dec_digit : ∀ k : Fin 10, (⟨#[48, 49, 50, 51, 52, 53, 54, 55, 56, 57]⟩ : ByteArray).extract k.val (k.val + 1) = ⟨#[UInt8.ofNat (48 + k.val)]⟩ := by decide +kernel
def decS (N : Nat) : Fspec := fun _ ds r => ∃ k : Nat, k < N ∧ k ≤ 9223372036854775807 ∧ ds = [.s (.int .i64 (k : Int))] ∧ r = .s (.string (decB k))
theorem dec_step (N : Nat) {plain : TypeId → Bool} {Γ : FuncId → Option Fspec} {Δ : FuncId → Option Pt} (hE : EnvOk ⟨Tryd.prog, plain, Γ, Δ, fun _ => none, 0⟩) (g_dec : Γ 34 = some (decS N)) : Sound Tryd.prog 34 (decS (N + 1)) := by
  refine sound_of_awp hE Tryd.func34 rfl (by kernel_rfl) ?_
  rintro Φ ds r ⟨k, hk, hk2, rfl, rfl⟩
  refine ⟨by simp [Tryd.f34], ?_⟩
  unfold st0
  refine W.out (E := ⟨Tryd.prog, plain, Γ, Δ, Φ, _⟩) ?_
  have c0 : ¬ ((k : Int) < 0) := by omega
  by_cases c1 : (k : Int) < 10
  · have hd := dec_digit ⟨k, by omega⟩
    simp only at hd
    have hr : decB k = ⟨#[UInt8.ofNat (48 + k)]⟩ := by rw [decB, Lib.decDigits_one (by omega)]
    have ht : ((k : Int) + 1).toNat = k + 1 := by omega
    have hz : (⟨#[48, 49, 50, 51, 52, 53, 54, 55, 56, 57]⟩ : ByteArray).size = 10 := rfl
    have hin : (k ≤ k + 1 ∧ k + 1 ≤ 10) = True := by simp; omega
    refine go (And.intro c0 (And.intro c1 (And.intro asN_nat (And.intro ht (And.intro hz (And.intro hin hd)))))) ?_
    rw [hr]
    refine x_done (x_out (sr (And.intro @Tryd.f34.eq_1 hd)) (by simp) (by simp) rfl)
  · have hq : (k : Int).tdiv 10 = ((k / 10 : Nat) : Int) := rfl
    have hm : (k : Int).tmod 10 = ((k % 10 : Nat) : Int) := rfl
    have hs1 := decB_size (k / 10) (by omega)
    have hs2 := decB_size (k % 10) (by omega)
    have hr : decB k = decB (k / 10) ++ decB (k % 10) := by
      unfold decB
      rw [ba_app, Lib.decDigits, dif_neg (by omega), Lib.decDigits_one (i := k % 10) (by omega)]
    refine go (And.intro c0 (And.intro c1 hq)) ?_
    refine x_callN rfl rfl rfl rfl (sv trivial) g_dec (sv trivial) (se trivial) ⟨k / 10, by omega, by omega, rfl, rfl⟩ rfl ?_
    refine go (And.intro c0 (And.intro c1 hm)) ?_
    refine x_callN rfl rfl rfl rfl (sv trivial) g_dec (sv trivial) (se trivial) ⟨k % 10, by omega, by omega, rfl, rfl⟩ rfl ?_
    refine go trivial ?_
    rw [hr]
    refine x_done (x_out (sr @Tryd.f34.eq_1) (by simp) (by simp) rfl)
theorem dec_all {plain : TypeId → Bool} {Γ : FuncId → Option Fspec} {Δ : FuncId → Option Pt} (hE : EnvOk ⟨Tryd.prog, plain, Γ, Δ, fun _ => none, 0⟩) : ∀ N, Sound Tryd.prog 34 (decS N)
  | 0 => by rintro c Φ ds r vals hc hok0 hX hΦ ⟨k, hk, _⟩; exact absurd hk (Nat.not_lt_zero _)
  | N + 1 => dec_step N (Γ := upd Γ 34 (some (decS N))) (EnvOk.add hE (dec_all hE N) (by kernel_rfl)) (upd_same _ _ _)
def decT : Fspec := fun _ ds r => ∃ k : Nat, k ≤ 9223372036854775807 ∧ ds = [.s (.int .i64 (k : Int))] ∧ r = .s (.string (decB k))
theorem dec_sound {plain : TypeId → Bool} {Γ : FuncId → Option Fspec} {Δ : FuncId → Option Pt} (hE : EnvOk ⟨Tryd.prog, plain, Γ, Δ, fun _ => none, 0⟩) : Sound Tryd.prog 34 decT := by
  rintro c Φ ds r vals hc hok0 hX hΦ ⟨k, hk, h1, h2⟩ ha
  exact dec_all hE (k + 1) c Φ ds r vals hc hok0 hX hΦ ⟨k, by omega, hk, h1, h2⟩ ha
end Go.Proofs.YtfpijfedodljfaaDoor
