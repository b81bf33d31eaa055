/- Texts that the law's proof stands on: V29, V59, V62. -/
import Derived.Test.YtahgddfnbjpfiaaB29
import Derived.Test.YtahgddfnbjpfiaaRows
import Derived.Test.YtahgddfnbjpfiaaB25
import Derived.Test.YtahgddfnbjpfiaaB28
set_option linter.unusedVariables false
set_option maxRecDepth 100000
namespace Go.Proofs.Ytahgddfnbjpfiaa
open Go Go.RowKit Am Go.ChangeShapes Go.WideShapes

theorem bulk_pos {H : Type} (d : DataW H) : 1 ≤ Rows.uptoBulk d := by
  cases d with
  | lit l => cases l <;> simp [Rows.uptoBulk]
  | _ => simp [Rows.uptoBulk]
def bulk : Bulk where
  bk := Rows.uptoBulk
  bks := Rows.uptoBulkAll
  str := fun b => by simp only [Rows.uptoBulk]
  sl := fun e s => by simp only [Rows.uptoBulk]
  agg := fun e => by simp only [Rows.uptoBulk]
  pos := bulk_pos
  nil := by intro H; simp only [Rows.uptoBulkAll]
  cons := fun d r => by simp only [Rows.uptoBulkAll]
theorem opnStr : Opn bulk Try.prog 9 encStr bdStr := .str (by kernel_rfl)
theorem opnInt : Opn bulk Try.prog 3 (encInt .i64) (bdInt .i64) := .int (by kernel_rfl)
theorem opnU8 : Opn bulk Try.prog 5 (encInt .u8) (bdInt .u8) := .int (by kernel_rfl)
theorem opnBool : Opn bulk Try.prog 4 encBool bdBool := .bool (by kernel_rfl)
def bdId (x : Idt) (m : Nat) : Prop := x.a.size < m
theorem opnId : Opn bulk Try.prog 29 encId bdId := by
  refine Opn.map (fun p : ByteArray × Int × Unit => (⟨p.1, p.2.1⟩ : Idt)) (Opn.struct (enc := fun p => encStr p.1 ++ ((encInt .i64) p.2.1 ++ ([]))) (bd := fun p m => bdStr p.1 m ∧ ((bdInt .i64) p.2.1 m ∧ (True))) Try.underlying29 ?_) (fun _ => rfl) (by intro p m h; exact h.1) (by intro b m m' h h2; exact Nat.lt_of_lt_of_le h2 h)
  rw [show Program.cellsOf Try.prog 29 = 2 by kernel_rfl]
  exact OpnF.cons (enc := encStr) (bd := bdStr) (z := 1) rfl (by kernel_rfl) (fun _ => rfl) opnStr (OpnF.cons (enc := (encInt .i64)) (bd := (bdInt .i64)) (z := 1) rfl (by kernel_rfl) (fun _ => rfl) opnInt OpnF.nil)
instance : Inhabited Idt := ⟨⟨⟨#[]⟩, 0⟩⟩
theorem opnIds : Opn bulk Try.prog 30 (encSl encId) (bdSl bdId) := Opn.slice (z := 2) Try.underlying30 (by kernel_rfl) (by decide) (fun _ => rfl) opnId
def encRat (x : Bool × ByteArray × ByteArray) : List V := [.s (.bool x.1), .s (.string x.2.1), .s (.string x.2.2)]
def bdRat (x : Bool × ByteArray × ByteArray) (m : Nat) : Prop := x.2.1.size < m ∧ x.2.2.size < m
theorem opnRat : Opn bulk Try.prog 32 encRat bdRat := by
  refine Opn.map (fun p : Bool × ByteArray × ByteArray × Unit => ((p.1, p.2.1, p.2.2.1) : (Bool × ByteArray × ByteArray))) (Opn.struct (enc := fun p => encBool p.1 ++ (encStr p.2.1 ++ (encStr p.2.2.1 ++ ([])))) (bd := fun p m => bdBool p.1 m ∧ (bdStr p.2.1 m ∧ (bdStr p.2.2.1 m ∧ (True)))) Try.underlying32 ?_) (fun _ => rfl) (by intro p m h; exact ⟨h.2.1, h.2.2.1⟩) (by intro b m m' h h2; exact ⟨Nat.lt_of_lt_of_le h2.1 h, Nat.lt_of_lt_of_le h2.2 h⟩)
  rw [show Program.cellsOf Try.prog 32 = 3 by kernel_rfl]
  exact OpnF.cons (enc := encBool) (bd := bdBool) (z := 1) rfl (by kernel_rfl) (fun _ => rfl) opnBool (OpnF.cons (enc := encStr) (bd := bdStr) (z := 1) rfl (by kernel_rfl) (fun _ => rfl) opnStr (OpnF.cons (enc := encStr) (bd := bdStr) (z := 1) rfl (by kernel_rfl) (fun _ => rfl) opnStr OpnF.nil))
structure bdE (x : Edt) (m : Nat) : Prop where
  id : x.id.a.size < m
  node : x.node.a.size < m
  parent : x.parent.a.size < m
  target : x.target.a.size < m
  num : x.num.size < m
  den : x.den.size < m
  field : x.field.size < m
  value : x.value.size < m
  who : x.who.size < m
  deps : x.deps.length < m
  dep : ∀ y ∈ x.deps, bdId y m
instance : Inhabited Edt := ⟨⟨default, 0, 0, [], 0, default, default, false, ⟨#[]⟩, ⟨#[]⟩, ⟨#[]⟩, ⟨#[]⟩, default, ⟨#[]⟩⟩⟩
theorem opnE : Opn bulk Try.prog 34 encE bdE := by
  refine Opn.map (fun p : Idt × Int × Int × (List Idt) × Int × Idt × Idt × (Bool × ByteArray × ByteArray) × ByteArray × ByteArray × Idt × ByteArray × Unit => (⟨p.1, p.2.1, p.2.2.1, p.2.2.2.1, p.2.2.2.2.1, p.2.2.2.2.2.1, p.2.2.2.2.2.2.1, p.2.2.2.2.2.2.2.1.1, p.2.2.2.2.2.2.2.1.2.1, p.2.2.2.2.2.2.2.1.2.2, p.2.2.2.2.2.2.2.2.1, p.2.2.2.2.2.2.2.2.2.1, p.2.2.2.2.2.2.2.2.2.2.1, p.2.2.2.2.2.2.2.2.2.2.2.1⟩ : Edt)) (Opn.struct (enc := fun p => encId p.1 ++ ((encInt .i64) p.2.1 ++ ((encInt .i64) p.2.2.1 ++ ((encSl encId) p.2.2.2.1 ++ ((encInt .i64) p.2.2.2.2.1 ++ (encId p.2.2.2.2.2.1 ++ (encId p.2.2.2.2.2.2.1 ++ (encRat p.2.2.2.2.2.2.2.1 ++ (encStr p.2.2.2.2.2.2.2.2.1 ++ (encStr p.2.2.2.2.2.2.2.2.2.1 ++ (encId p.2.2.2.2.2.2.2.2.2.2.1 ++ (encStr p.2.2.2.2.2.2.2.2.2.2.2.1 ++ ([]))))))))))))) (bd := fun p m => bdId p.1 m ∧ ((bdInt .i64) p.2.1 m ∧ ((bdInt .i64) p.2.2.1 m ∧ ((bdSl bdId) p.2.2.2.1 m ∧ ((bdInt .i64) p.2.2.2.2.1 m ∧ (bdId p.2.2.2.2.2.1 m ∧ (bdId p.2.2.2.2.2.2.1 m ∧ (bdRat p.2.2.2.2.2.2.2.1 m ∧ (bdStr p.2.2.2.2.2.2.2.2.1 m ∧ (bdStr p.2.2.2.2.2.2.2.2.2.1 m ∧ (bdId p.2.2.2.2.2.2.2.2.2.2.1 m ∧ (bdStr p.2.2.2.2.2.2.2.2.2.2.2.1 m ∧ (True))))))))))))) Try.underlying34 ?_) (fun _ => rfl) (by intro p m h; exact ⟨h.1, h.2.2.2.2.2.1, h.2.2.2.2.2.2.1, h.2.2.2.2.2.2.2.2.2.2.1, h.2.2.2.2.2.2.2.1.1, h.2.2.2.2.2.2.2.1.2, h.2.2.2.2.2.2.2.2.1, h.2.2.2.2.2.2.2.2.2.1, h.2.2.2.2.2.2.2.2.2.2.2.1, h.2.2.2.1.1, h.2.2.2.1.2⟩) (by intro b m m' h h2; exact ⟨Nat.lt_of_lt_of_le h2.id h, Nat.lt_of_lt_of_le h2.node h, Nat.lt_of_lt_of_le h2.parent h, Nat.lt_of_lt_of_le h2.target h, Nat.lt_of_lt_of_le h2.num h, Nat.lt_of_lt_of_le h2.den h, Nat.lt_of_lt_of_le h2.field h, Nat.lt_of_lt_of_le h2.value h, Nat.lt_of_lt_of_le h2.who h, Nat.lt_of_lt_of_le h2.deps h, fun y hy => opnId.1 y m m' h (h2.dep y hy)⟩)
  rw [show Program.cellsOf Try.prog 34 = 18 by kernel_rfl]
  exact OpnF.cons (enc := encId) (bd := bdId) (z := 2) rfl (by kernel_rfl) (fun _ => rfl) opnId (OpnF.cons (enc := (encInt .i64)) (bd := (bdInt .i64)) (z := 1) rfl (by kernel_rfl) (fun _ => rfl) opnInt (OpnF.cons (enc := (encInt .i64)) (bd := (bdInt .i64)) (z := 1) rfl (by kernel_rfl) (fun _ => rfl) opnInt (OpnF.cons (enc := (encSl encId)) (bd := (bdSl bdId)) (z := 1) rfl (by kernel_rfl) (fun _ => rfl) opnIds (OpnF.cons (enc := (encInt .i64)) (bd := (bdInt .i64)) (z := 1) rfl (by kernel_rfl) (fun _ => rfl) opnInt (OpnF.cons (enc := encId) (bd := bdId) (z := 2) rfl (by kernel_rfl) (fun _ => rfl) opnId (OpnF.cons (enc := encId) (bd := bdId) (z := 2) rfl (by kernel_rfl) (fun _ => rfl) opnId (OpnF.cons (enc := encRat) (bd := bdRat) (z := 3) rfl (by kernel_rfl) (fun _ => rfl) opnRat (OpnF.cons (enc := encStr) (bd := bdStr) (z := 1) rfl (by kernel_rfl) (fun _ => rfl) opnStr (OpnF.cons (enc := encStr) (bd := bdStr) (z := 1) rfl (by kernel_rfl) (fun _ => rfl) opnStr (OpnF.cons (enc := encId) (bd := bdId) (z := 2) rfl (by kernel_rfl) (fun _ => rfl) opnId (OpnF.cons (enc := encStr) (bd := bdStr) (z := 1) rfl (by kernel_rfl) (fun _ => rfl) opnStr OpnF.nil)))))))))))
theorem opnEs : Opn bulk Try.prog 22 (encSl encE) (bdSl bdE) := Opn.slice (z := 18) Try.underlying22 (by kernel_rfl) (by decide) (fun _ => rfl) opnE
theorem smA_of {l : List Edt} {m : Nat} (h : bdSl bdE l m) (hm : m ≤ 1048576) : smA l := ⟨by have := h.1; omega, fun x hx => by
  have b := h.2 x hx
  have h1 := b.id; have h2 := b.node; have h3 := b.parent; have h4 := b.target; have h5 := b.num; have h6 := b.den; have h7 := b.field; have h8 := b.value; have h9 := b.who; have h10 := b.deps
  exact ⟨by omega, by omega, by omega, by omega, by omega, by omega, by omega, by omega, by omega, by omega, fun y hy => by have := b.dep y hy; unfold bdId at this; omega⟩⟩
theorem own : ownKnob Try.prog.godebug = none := by kernel_rfl
theorem laidOut : laidOutB Try.prog = true := by kernel_rfl
end Go.Proofs.Ytahgddfnbjpfiaa

set_option linter.unusedVariables false
set_option linter.unusedSimpArgs false
namespace Go.Proofs.Ytahgddfnbjpfiaa
open Go Go.RowKit Am

/-- What a valid edit says of itself. -/
structure VaE (e : Edt) : Prop where
  auth : authF e.id.a = true
  n1 : 1 ≤ e.id.n
  n2 : e.id.n ≤ 1000000000
  c1 : e.id.n ≤ e.clock
  c2 : e.clock ≤ 1000000000
  f1 : 0 ≤ e.floor
  f2 : e.floor < e.clock
  val : Val e.deps
  big : ∀ x ∈ e.deps, x.n ≤ 1000000000
  k1 : 1 ≤ e.kind
  k2 : e.kind ≤ 6
  dl : e.deps.length ≤ 20
  vl : e.value.size ≤ 300
  fl : e.field.size ≤ 300
theorem vaE_of {e : Edt} (h : eBad e = false) : VaE e := by
  unfold eBad at h
  simp only [Bool.or_eq_false_iff, decide_eq_false_iff_not, bne_eq_false_iff_eq] at h
  obtain ⟨⟨⟨h1, h2⟩, h3⟩, h4⟩ := h
  unfold chkEF at h4
  split at h4
  · cases h4
  rename_i a1
  split at h4
  · cases h4
  rename_i a2
  split at h4
  · rename_i a3
    rw [h4] at a3
    simp at a3
  rename_i a3
  split at h4
  · cases h4
  rename_i a4
  split at h4
  · cases h4
  rename_i a5
  split at h4
  · cases h4
  rename_i a6
  simp only [rngF, Bool.or_eq_true, decide_eq_true_eq, not_or] at a2
  simp only [Bool.or_eq_true, decide_eq_true_eq, not_or] at a6
  simp only [bigF, Bool.not_eq_true, List.any_eq_false, decide_eq_true_eq] at a4
  have a3 : chkF e.deps = 0 := by simpa using a3
  exact ⟨by simpa using a1, by omega, by omega, by omega, by omega, by omega, by omega, val_of_chk a3, fun x hx => by have := a4 x hx; omega, by omega, by omega, by omega, by omega, by omega⟩
theorem sFrom_all {l : List Edt} : ∀ (m i : Nat), i + m ≤ l.length → sFrom l m i = true → ∀ j (hj : j < l.length), i ≤ j → j < i + m → eBad l[j] = false ∧ ∀ h : 0 < j, cmpE l[j - 1] l[j] < 0
  | 0, i, _, _, j, _, h1, h2 => by omega
  | m + 1, i, hl, h, j, hj, h1, h2 => by
    have hi : i < l.length := by omega
    rw [sFrom, List.getElem?_eq_getElem hi] at h
    simp only [Bool.and_eq_true, Bool.not_eq_true'] at h
    obtain ⟨⟨g1, g2⟩, g3⟩ := h
    by_cases hji : j = i
    · subst hji
      refine ⟨g1, fun h0 => ?_⟩
      rw [List.getElem?_eq_getElem (by omega : j - 1 < l.length)] at g2
      simp only [Bool.and_eq_false_iff, decide_eq_false_iff_not] at g2
      rcases g2 with g2 | g2
      · omega
      · omega
    · exact sFrom_all m (i + 1) (by omega) g3 j hj (by omega) (by omega)
theorem cmpE_clock {a b : Edt} (h : cmpE a b < 0) : a.clock ≤ b.clock := by
  unfold cmpE at h
  by_cases h1 : a.clock ≤ b.clock
  · exact h1
  · rw [cmpI_gt (by omega)] at h
    simp [orF] at h
/-- A sorted list of valid edits. -/
structure Srt (l : List Edt) : Prop where
  len : l.length ≤ 40
  va : ∀ e ∈ l, VaE e
  ord : ∀ i (hi : i + 1 < l.length), cmpE l[i] l[i + 1] < 0
theorem srt_of {l : List Edt} (h : srtF l = true) : Srt l := by
  unfold srtF at h
  rw [Bool.and_eq_true, decide_eq_true_eq] at h
  have hall := sFrom_all l.length 0 (by omega) h.2
  refine ⟨by omega, fun e he => ?_, fun i hi => ?_⟩
  · obtain ⟨j, hj, rfl⟩ := List.getElem_of_mem he
    exact vaE_of (hall j hj (by omega) (by omega)).1
  · have := (hall (i + 1) hi (by omega) (by omega)).2 (by omega)
    simpa using this
theorem Srt.clock {l : List Edt} (h : Srt l) : ∀ (k i : Nat) (hk : k < l.length) (hi : i ≤ k), l[i].clock ≤ l[k].clock
  | 0, i, hk, hi => by
    have : i = 0 := by omega
    subst this; exact Int.le_refl _
  | k + 1, i, hk, hi => by
    by_cases e : i = k + 1
    · subst e; exact Int.le_refl _
    · exact Int.le_trans (h.clock k i (by omega) (by omega)) (cmpE_clock (h.ord k hk))
theorem Srt.res {l : List Edt} (h : Srt l) : allL unF l = allL rUn l := allL_congr l fun u hu x _ => un_r (h.va u hu).val x
end Go.Proofs.Ytahgddfnbjpfiaa

set_option linter.unusedVariables false
set_option linter.unusedSimpArgs false
set_option maxRecDepth 100000
set_option maxHeartbeats 16000000
namespace Go.Proofs.Ytahgddfnbjpfiaa
open Go Go.RowKit Am

/-- A law over a list of edits. -/
def lawES : Fspec := fun _ ds r => ∃ es : List Edt, smA es ∧ ds = [.sl (es.map encE)] ∧ r = .s (.bool true)
theorem resLaw_sound {plain : TypeId → Bool} {Γ : FuncId → Option Fspec} {Δ : FuncId → Option Pt} (hE : EnvOk ⟨Try.prog, plain, Γ, Δ, fun _ => none, 0⟩) (g_alive : Γ 9 = some aliveS) (g_sorted : Γ 10 = some sortedS) (g_live : Γ 11 = some live2S) (g_rlive : Γ 12 = some rliveS) : Sound Try.prog 3 lawES := by
  refine sound_of_awp hE Try.func3 rfl (by kernel_rfl) ?_
  rintro Φ ds r ⟨es, hs, rfl, rfl⟩
  refine ⟨by simp [Try.f3], ?_⟩
  unfold st0
  refine W.out (E := ⟨Try.prog, plain, Γ, Δ, Φ, _⟩) ?_
  refine go trivial ?_
  refine x_callN rfl rfl rfl rfl (sv trivial) g_alive (sv trivial) (se trivial) ⟨rfl, rfl⟩ rfl ?_
  refine go trivial ?_
  refine x_callN rfl rfl rfl rfl (sv trivial) g_sorted (sv trivial) (se trivial) ⟨es, hs, rfl, rfl⟩ rfl ?_
  cases hq : srtF es
  · rw [if_neg (by decide)]
    have z0 : ((0 : Int) == 0) = true := rfl
    refine go z0 ?_
    refine x_done (x_out (sr @Try.f3.eq_1) (by simp) (by simp) rfl)
  have z1 : ((1 : Int) == 0) = false := rfl
  have S := srt_of hq
  have hl40 := S.len
  rw [if_pos rfl]
  refine go z1 ?_
  refine x_callS rfl rfl rfl rfl (sv trivial) g_live (sv trivial) (se trivial) ⟨es, hs.l, rfl, rfl⟩ (by simp) (by simp [touchA, touch]) ?_
  refine go trivial ?_
  refine x_callS rfl rfl rfl rfl (sv trivial) g_rlive (sv trivial) (se trivial) ⟨es, hs.l, rfl, rfl⟩ (by simp) (by simp [touchA, touch]) ?_
  rw [S.res]
  have hlen := allL_len rUn es
  generalize allL rUn es = L at *
  have hr := encB_rows L
  refine go trivial ?_
  refine x_loop (fun σ => ∃ (i : Nat), σ.t 3 = .sl (L.map encBo) ∧ σ.t 4 = .sl (L.map encBo) ∧ σ.t 5 = .s (.int .i64 i) ∧ i ≤ L.length) (fun σ => L.length - ix (σ.t 5)) ⟨0, (by first | assumption | exact sxa trivial), (by first | assumption | exact sxa trivial), (by first | assumption | exact sxa trivial), (by first | rfl | omega | assumption | (simp [*]; done))⟩ ?_
  rintro t h n ⟨i, h3, h4, h5, hf0⟩
  simp only at h3 h4 h5
  refine go (And.intro h3 (And.intro h4 h5)) ?_
  refine x_condP (sv (And.intro h3 (And.intro h4 h5))) (fun hc => ?_) (fun hc => ?_)
  · have hi : i < L.length := by omega
    have hrow : ((L.map encBo).getD i []) = [.s (.bool L[i])] := getD_map _ _ _ hi
    generalize L[i] = x at *
    refine go (And.intro h3 (And.intro h4 (And.intro h5 (And.intro hr hrow)))) ?_
    (refine ⟨⟨i + 1, ?_, ?_, ?_, ?_⟩, ?_⟩ <;> (first | omega | (dsimp only; omega) | (first | omega | assumption | (simp [*]; done)) | exact sxa @cast_succ | exact soa trivial))
  · have e : i = L.length := by omega
    subst e
    refine go (And.intro h3 (And.intro h4 h5)) ?_
    refine x_done (x_out (sr @Try.f3.eq_1) (by simp) (by simp) rfl)
end Go.Proofs.Ytahgddfnbjpfiaa
