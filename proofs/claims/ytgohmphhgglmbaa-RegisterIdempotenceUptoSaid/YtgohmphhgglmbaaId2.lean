/- Texts that the law's proof stands on: AmOrd, AmFun, Ty, AmEv, AmEv2, Sv, V1, V3, V4, V5, V6, V2, V7, V16, AmRow, AmOver. -/
import Derived.Test.YtgohmphhgglmbaaId1
import Derived.Test.YtgohmphhgglmbaaProg
import Derived.Lib.Bytealg
import Derived.Laws.Externs
import Derived.JoinedCond
import Derived.OpenShut
import Derived.Deep.Slices
import Derived.WalkKit
import Derived.ProofKit
import Derived.Lib.Overlaps
/- An abstract machine over values: a region whose order is open comes to the same in every order. -/
set_option linter.unusedVariables false
set_option linter.unusedSimpArgs false
namespace Go.Proofs.Ytgohmphhgglmbaa.Am
open Go Go.RowKit

def waits (o : Oper) (j : Nat) : Bool := o.after.any fun e => Region.binds .any e && e.on == j
def quietN (ops : Array Oper) : Nat := (ops.toList.takeWhile fun o => quiet ops o).length
/-- What an operation waits for, through others too. -/
def msk (acc : List Nat) (l : List Edge) : Nat := match l with
  | [] => 0
  | e :: l => if Region.binds .any e then (2 ^ e.on ||| acc.getD e.on 0) ||| msk acc l else msk acc l
def masks : List Oper → List Nat → List Nat
  | [], acc => acc
  | o :: l, acc => masks l (acc ++ [msk acc o.after.toList])
inductive Reach (ops : Array Oper) : Nat → Nat → Prop
  | dir (i : Nat) (o : Oper) (e : Edge) (h : ops[i]? = some o) (he : e ∈ o.after) (hb : Region.binds .any e = true) : Reach ops i e.on
  | step (i j : Nat) (o : Oper) (e : Edge) (h : ops[i]? = some o) (he : e ∈ o.after) (hb : Region.binds .any e = true) (hr : Reach ops e.on j) : Reach ops i j
theorem msk_reach {ops : Array Oper} {acc : List Nat} {i : Nat} {o : Oper} (ho : ops[i]? = some o) (ha : ∀ k j, (acc.getD k 0).testBit j = true → Reach ops k j) : ∀ l : List Edge, (∀ e ∈ l, e ∈ o.after) → ∀ j, (msk acc l).testBit j = true → Reach ops i j
  | [], _, j, h => by simp [msk] at h
  | e :: l, hl, j, h => by
    unfold msk at h
    split at h
    · rename_i hb
      simp only [Nat.testBit_or, Bool.or_eq_true] at h
      rcases h with (h | h) | h
      · rw [Nat.testBit_two_pow] at h
        have : e.on = j := by simpa using h
        subst this
        exact .dir i o e ho (hl e (by simp)) hb
      · exact .step i j o e ho (hl e (by simp)) hb (ha _ _ h)
      · exact msk_reach ho ha l (fun e he => hl e (by simp [he])) j h
    · exact msk_reach ho ha l (fun e he => hl e (by simp [he])) j h
theorem masks_reach {ops : Array Oper} : ∀ (l : List Oper) (acc : List Nat), (∀ k o, l[k]? = some o → ops[acc.length + k]? = some o) → (∀ k j, (acc.getD k 0).testBit j = true → Reach ops k j) → ∀ k j, ((masks l acc).getD k 0).testBit j = true → Reach ops k j
  | [], acc, _, ha, k, j, h => ha k j h
  | o :: l, acc, hl, ha, k, j, h => by
    refine masks_reach l (acc ++ [msk acc o.after.toList]) (fun k' o' h' => ?_) (fun k' j' h' => ?_) k j h
    · have := hl (k' + 1) o' (by simpa using h')
      simpa [Nat.add_assoc, Nat.add_comm 1] using this
    · rcases Nat.lt_trichotomy k' acc.length with h1 | h1 | h1
      · rw [List.getD_eq_getElem?_getD, List.getElem?_append_left h1, ← List.getD_eq_getElem?_getD] at h'
        exact ha k' j' h'
      · subst h1
        have h2 : (acc ++ [msk acc o.after.toList]).getD acc.length 0 = msk acc o.after.toList := by simp [List.getD_eq_getElem?_getD]
        rw [h2] at h'
        have h3 := hl 0 o rfl
        exact msk_reach (by simpa using h3) ha _ (fun e he => by simpa using he) j' h'
      · rw [List.getD_eq_getElem?_getD, List.getElem?_eq_none (by simp; omega)] at h'
        simp at h'
def drawOk (ops : Array Oper) : Bool :=
  (List.range ops.size).all fun i => match ops[i]? with
    | none => false
    | some o => (o.after.all fun e => !Region.binds .any e || decide (e.on < i)) &&
      (if i < quietN ops then (List.range (quietN ops)).all fun j => match (ops[j]?).bind (·.dst) with
        | some d => (!(o.looksAt ops).contains d || (decide (j < i) && waits o j)) && (j == i || o.dst != some d)
        | none => true
      else (List.range i).all fun j => ((masks ops.toList []).getD i 0).testBit j)

theorem map_congr {e e' : Operand → V} {l : List Operand} (h : ∀ x ∈ l, e x = e' x) : l.map e = l.map e' := List.map_congr_left h
theorem pval_congr {P : Program} {plain : TypeId → Bool} {op : Op} {e e' : Operand → V} {h : Hp} {v : V} (he : ∀ x ∈ op.operands, e x = e' x) (hq : pval P plain h e op = some v) : pval P plain h e' op = some v := by
  cases op <;> simp only [pval] at hq ⊢ <;> try (cases hq; done)
  case move x => rw [← he x (by simp [Op.operands])]; exact hq
  case assign x => rw [← he x (by simp [Op.operands])]; exact hq
  case pick c a b => rw [← he c (by simp [Op.operands]), ← he a (by simp [Op.operands]), ← he b (by simp [Op.operands])]; exact hq
  case load T a => rw [← he a (by simp [Op.operands])]; exact hq
  case nilCheck x => rw [← he x (by simp [Op.operands])]; exact hq
  case binOp op T x y yT => rw [← he x (by simp [Op.operands]), ← he y (by simp [Op.operands])]; exact hq
  case unOp op T x => rw [← he x (by simp [Op.operands])]; exact hq
  case convert src dst x => rw [← he x (by simp [Op.operands])]; exact hq
  case slice T x lo hi mx =>
    have h1 : lo.map e = lo.map e' := by cases lo with | none => rfl | some y => simp [he y (by simp [Op.operands])]
    have h2 : hi.map e = hi.map e' := by cases hi with | none => rfl | some y => simp [he y (by simp [Op.operands])]
    have h3 : mx.map e = mx.map e' := by cases mx with | none => rfl | some y => simp [he y (by simp [Op.operands])]
    rw [← he x (by simp [Op.operands]), ← h1, ← h2, ← h3]; exact hq
  case field T x f => rw [← he x (by simp [Op.operands])]; exact hq
  case fieldAddr T x f => rw [← he x (by simp [Op.operands])]; exact hq
  case indexAddr T x i => rw [← he x (by simp [Op.operands]), ← he i (by simp [Op.operands])]; exact hq
  case index T x i => rw [← he x (by simp [Op.operands]), ← he i (by simp [Op.operands])]; exact hq
  case extract x i => rw [← he x (by simp [Op.operands])]; exact hq
  case makeFunc fn first caps =>
    have h1 : caps.toList.map e = caps.toList.map e' := map_congr fun x hx => he x (by simp [Op.operands]; exact .inr (by simpa using hx))
    rw [← h1]; exact hq
  case build T parts =>
    unfold abuild at hq ⊢
    have h1 : (parts.toList.map fun q => (q.1, e q.2)) = parts.toList.map fun q => (q.1, e' q.2) := List.map_congr_left fun q hq => by rw [he q.2 (by simp [Op.operands]; exact ⟨q.1, by simpa using hq⟩)]
    rw [← h1]; exact hq
  case call cl =>
    obtain ⟨callee, args, argTypes⟩ := cl
    have hmem : ∀ x ∈ args.toList, e x = e' x := fun x hx => he x (by simp [Op.operands, Call.operands]; exact .inr (by simpa using hx))
    have h1 : args.toList.map e = args.toList.map e' := map_congr hmem
    cases callee <;> simp only at hq ⊢ <;> try (cases hq; done)
    rename_i b
    generalize hal : args.toList = al at hq hmem h1
    generalize htl : argTypes.toList = tl at hq
    cases b <;> simp only at hq ⊢ <;> try (cases hq; done)
    case cap =>
      cases al with
      | nil => cases hq
      | cons x al => cases al with
        | nil =>
          have h2 := hmem x (by simp)
          cases tl with
          | nil => cases hq
          | cons T tl => cases tl with
            | nil => show acap P T (e' x) = some v; rw [← h2]; exact hq
            | cons U tl => cases hq
        | cons y al => cases hq
    case len =>
      cases al with
      | nil => cases hq
      | cons x al => cases al with
        | nil =>
          have h2 := hmem x (by simp)
          cases tl with
          | nil => cases hq
          | cons T tl => cases tl with
            | nil => show alen P T (e' x) = some v; rw [← h2]; exact hq
            | cons U tl => cases hq
        | cons y al => cases hq
    case max => rw [← h1]; exact hq
    case min => rw [← h1]; exact hq
/-- A quiet operation looks at its operands alone. -/
theorem qv_congr {E : Env} {op : Op} {e e' : Operand → V} {h : Hp} {v : V} (he : ∀ x ∈ op.operands, e x = e' x) (hq : qv E op e h v) : qv E op e' h v := by
  have hp : pval E.P E.plain h e op = some v → pval E.P E.plain h e' op = some v := fun hq => pval_congr he hq
  cases op <;> try exact hp hq
  case call cl =>
    obtain ⟨callee, args, argTypes⟩ := cl
    simp only [qv, qcl] at hq ⊢
    cases callee with
    | value f =>
      have h2 : e f = e' f := he f (by simp [Op.operands, Call.operands])
      have h1 : args.toList.map e = args.toList.map e' := map_congr fun x hx => he x (by simp [Op.operands, Call.operands]; exact .inr (by simpa using hx))
      simp only at hq ⊢
      rw [← h2, ← h1]
      exact hq
    | builtin b => cases b <;> first | exact hp hq | exact hq
    | invoke r m => exact hq

/-- What one operation of the quiet head yields, told by what it looks at. -/
def wantA (ops : Array Oper) (o : Oper) (t : Nat → V) (b : Bool) : Prop :=
  match o.guard with
  | none => b = true
  | some (j, want) => ∃ d, (ops[j]?).bind (·.dst) = some d ∧ ((∃ q, t d = .s (.bool q) ∧ b = (q == want)) ∨ (t d = .undef ∧ b = false))
def gdv (E : Env) (ops : Array Oper) (o : Oper) (t : Nat → V) (h : Hp) (v : V) : Prop :=
  ∃ b, wantA ops o t b ∧ (b = true → qv E o.op (ev t) h v) ∧ (b = false → v = .undef)
theorem gdv_congr {E : Env} {ops : Array Oper} {o : Oper} {t t' : Nat → V} {h : Hp} {v : V} (he : ∀ d ∈ o.looksAt ops, t d = t' d) (hg : gdv E ops o t h v) : gdv E ops o t' h v := by
  obtain ⟨b, h1, h2, h3⟩ := hg
  refine ⟨b, ?_, fun hb => qv_congr (fun x hx => ?_) (h2 hb), h3⟩
  · unfold wantA at h1 ⊢
    split at h1
    · exact h1
    · rename_i j want hg
      obtain ⟨d, hd, h4⟩ := h1
      refine ⟨d, hd, ?_⟩
      rw [← he d (by simp [Oper.looksAt, hg, hd])]
      exact h4
  · cases x with
    | tmp d => exact he d (by simp only [Oper.looksAt, List.mem_append, List.mem_filterMap]; exact .inl ⟨_, by simpa using hx, rfl⟩)
    | const v => rfl
    | global g => rfl
    | func f => rfl
theorem gdv_of_gd {E : Env} {ops : Array Oper} {o : Oper} {σ : St} {K : St → Prop} (hg : gd ops o σ (∃ v, qv E o.op (ev σ.t) σ.h v ∧ K (putS o.dst v σ)) (K (putS o.dst .undef σ))) : ∃ v, gdv E ops o σ.t σ.h v ∧ K (putS o.dst v σ) := by
  unfold gd at hg
  split at hg
  · rename_i hgu
    obtain ⟨v, h1, h2⟩ := hg
    exact ⟨v, ⟨true, by simp [wantA, hgu], fun _ => h1, (fun h => by cases h)⟩, h2⟩
  · rename_i j want hgu
    split at hg
    · rename_i d hd
      split at hg
      · rename_i q hq
        by_cases hqw : q = want
        · obtain ⟨v, h1, h2⟩ := hg.1 hqw
          exact ⟨v, ⟨true, (by simp only [wantA, hgu]; exact ⟨d, hd, .inl ⟨q, hq, by simp [hqw]⟩⟩), fun _ => h1, (fun h => by cases h)⟩, h2⟩
        · exact ⟨.undef, ⟨false, (by simp only [wantA, hgu]; exact ⟨d, hd, .inl ⟨q, hq, by simp [hqw]⟩⟩), (fun h => by cases h), fun _ => rfl⟩, hg.2 hqw⟩
      · rename_i hq
        exact ⟨.undef, ⟨false, (by simp only [wantA, hgu]; exact ⟨d, hd, .inr ⟨hq, trivial⟩⟩), (fun h => by cases h), fun _ => rfl⟩, hg⟩
      · exact hg.elim
    · exact hg.elim

/-- A state's variables agree with the values of the operations that are listed, and with what was before elsewhere. -/
def Agree (ops : Array Oper) (vs : Nat → V) (n : Nat) (L : Nat → Prop) (t0 t : Nat → V) : Prop :=
  (∀ i o d, i < n → L i → ops[i]? = some o → o.dst = some d → t d = vs i) ∧ ∀ d, (∀ i o, i < n → L i → ops[i]? = some o → o.dst ≠ some d) → t d = t0 d

theorem drawOk_at {ops : Array Oper} (h : drawOk ops = true) {i : Nat} {o : Oper} (hi : ops[i]? = some o) : (∀ e ∈ o.after, Region.binds .any e = true → e.on < i) ∧
    (i < quietN ops → ∀ j oj d, j < quietN ops → ops[j]? = some oj → oj.dst = some d → ((d ∈ o.looksAt ops → j < i ∧ waits o j = true) ∧ (j = i ∨ o.dst ≠ some d))) ∧ (quietN ops ≤ i → ∀ j, j < i → Reach ops i j) := by
  have hlt : i < ops.size := (Array.getElem?_eq_some_iff.1 hi).1
  unfold drawOk at h
  rw [List.all_eq_true] at h
  have h1 := h i (by simpa using hlt)
  rw [hi] at h1
  simp only [Bool.and_eq_true, Array.all_eq_true] at h1
  obtain ⟨h2, h3⟩ := h1
  refine ⟨fun e he hb => ?_, fun hin j oj d hj hoj hd => ?_, fun hin j hj => ?_⟩
  · obtain ⟨k, hk, rfl⟩ := Array.getElem_of_mem he
    have := h2 k hk
    simpa [hb] using this
  · rw [if_pos hin, List.all_eq_true] at h3
    have h4 := h3 j (by simpa using hj)
    simp only [hoj, Option.bind_some, hd, Bool.and_eq_true, Bool.or_eq_true, Bool.not_eq_true', decide_eq_true_eq] at h4
    refine ⟨fun hm => ?_, ?_⟩
    · rcases h4.1 with h5 | h5
      · rw [List.contains_iff_mem.2 hm] at h5; cases h5
      · exact h5
    · rcases h4.2 with h5 | h5
      · exact .inl (by simpa using h5)
      · exact .inr (by simpa using h5)
  · rw [if_neg (by omega), List.all_eq_true] at h3
    exact masks_reach ops.toList [] (fun k o hk => by simpa using hk) (fun k j h => by simp at h) i j (h3 j (by simpa using hj))

theorem ready_waits {ops : Array Oper} {listed : Array Bool} {i j : Nat} {o : Oper} (hr : i ∈ Region.ready .any ops listed) (ho : ops[i]? = some o) (hw : waits o j = true) : listed.getD j false = true := by
  obtain ⟨_, o', ho', h1⟩ := mem_ready.1 hr
  rw [ho] at ho'
  cases ho'
  unfold waits at hw
  rw [Array.any_eq_true] at hw
  obtain ⟨k, hk, h2⟩ := hw
  simp only [Bool.and_eq_true, beq_iff_eq] at h2
  rw [← h2.2]
  exact h1 _ (Array.getElem_mem hk) h2.1

theorem reach_lt {ops : Array Oper} (hok : drawOk ops = true) {i j : Nat} (hr : Reach ops i j) : j < i := by
  induction hr with
  | dir i o e h he hb => exact (drawOk_at hok h).1 e he hb
  | step i j o e h he hb _ ih => have := (drawOk_at hok h).1 e he hb; omega
theorem not_reach {ops : Array Oper} (hok : drawOk ops = true) {i k : Nat} {o : Oper} (hw : ∀ e ∈ o.after, Region.binds .any e = true → e.on < k) (ho : ops[i]? = some o) (hr : Reach ops i k) : False := by
  cases hr with
  | dir _ o' e h he hb => rw [ho] at h; cases h; have := hw e he hb; omega
  | step _ _ o' e h he hb hr => rw [ho] at h; cases h; have := hw e he hb; have := reach_lt hok hr; omega
/-- What is listed is closed. -/
theorem reach_listed {ops : Array Oper} {listed : Array Bool} (hcl : ∀ (i : Nat) (o : Oper), listed.getD i false = true → ops[i]? = some o → ∀ e ∈ o.after, Region.binds .any e = true → listed.getD e.on false = true) {i j : Nat} (hr : Reach ops i j) :
    (∀ o, ops[i]? = some o → ∀ e ∈ o.after, Region.binds .any e = true → listed.getD e.on false = true) → listed.getD j false = true := by
  induction hr with
  | dir i o e h he hb => intro hw; exact hw o h e he hb
  | step i j o e h he hb hr ih => intro hw; exact ih fun o' ho' => hcl _ o' (hw o h e he hb) ho'
section
variable {ps : Hp × Mu × World} {E : Env} {c : Cx}
/-- The tail of the region, in its own order. -/
theorem tail_sound (hE : EnvOk E) (hc : c.P = E.P) (hΦ : FvOk c E.Φ) {ops : Array Oper} (hok : drawOk ops = true) (hd : ∀ o ∈ ops.toList, dstOk E.nt o = true) {Q : Exit → Act → World → Prop} {K : St → Prop} (hQ : ∀ σ μ a w, K σ → Sim ps E c σ μ a w → Q .normal a w) :
    ∀ (m k : Nat) (listed : Array Bool) {σ : St} {μ : Mu} {a : Act} {w : World}, ops.size - k = m → k ≤ ops.size → quietN ops ≤ k → listed.size = ops.size → (∀ j, j < ops.size → (listed.getD j true = true ↔ j < k)) →
      awpOps E ops (ops.toList.drop k) K σ → Sim ps E c σ μ a w → wpAny c.P .any ops Q m listed a w := by
  intro m
  induction m with
  | zero =>
    intro k listed σ μ a w hm hk hq hls hl hK S
    have hke : k = ops.size := by omega
    have : ops.toList.drop k = [] := by simp [hke]
    rw [this] at hK
    refine ⟨?_, hQ σ μ a w hK S⟩
    rw [List.eq_nil_iff_forall_not_mem]
    intro i hi
    obtain ⟨h1, o, h2, _⟩ := mem_ready.1 hi
    have hlt : i < ops.size := (Array.getElem?_eq_some_iff.1 h2).1
    have := (hl i hlt).2 (by omega)
    rw [this] at h1
    cases h1
  | succ m ih =>
    intro k listed σ μ a w hm hk hq hls hl hK S
    have hlt : k < ops.size := by omega
    have hko : ops[k]? = some ops[k] := Array.getElem?_eq_getElem hlt
    have hkun : listed.getD k true = false := by
      cases hb : listed.getD k true with
      | false => rfl
      | true => have := (hl k hlt).1 hb; omega
    have hdrop : ops.toList.drop k = ops[k] :: ops.toList.drop (k + 1) := by
      rw [List.drop_eq_getElem_cons (by simpa using hlt)]
      simp
    have hlf : ∀ j, j < k → listed.getD j false = true := by
      intro j hj
      have := (hl j (by omega)).2 hj
      have hjs : j < listed.size := by omega
      simp [hjs] at this ⊢
      exact this
    have hkr : k ∈ Region.ready .any ops listed := mem_ready.2 ⟨hkun, ops[k], hko, fun e he hb => hlf _ ((drawOk_at hok hko).1 e he hb)⟩
    refine ⟨fun h0 => (by rw [h0] at hkr; cases hkr), fun i hi => ?_⟩
    have hik : i = k := by
      obtain ⟨h1, o, h2, _⟩ := mem_ready.1 hi
      have hilt : i < ops.size := (Array.getElem?_eq_some_iff.1 h2).1
      rcases Nat.lt_trichotomy i k with h3 | h3 | h3
      · have := (hl i hilt).2 h3; rw [this] at h1; cases h1
      · exact h3
      · exact (not_reach hok (fun e he hb => by
          obtain ⟨_, o', ho', h5⟩ := mem_ready.1 hi
          rw [h2] at ho'
          cases ho'
          have h6 := h5 e he hb
          rcases Nat.lt_or_ge e.on k with h7 | h7
          · exact h7
          · exfalso
            by_cases h8 : e.on < ops.size
            · have h9 : e.on < listed.size := by omega
              have := (hl e.on h8).1 (by simp [h9] at h6 ⊢; exact h6)
              omega
            · have : ¬ e.on < listed.size := by omega
              simp [this] at h6) h2 ((drawOk_at hok h2).2.2 (by omega) k h3)).elim
    subst hik
    rw [hdrop] at hK
    unfold awpOps at hK
    have hdo : ∀ d, ops[i].dst = some d → d < E.nt := by
      intro d hd'
      have := hd ops[i] (by simp)
      simp [dstOk, hd'] at this
      exact this
    have hl' : ∀ j, j < ops.size → ((listed.setIfInBounds i true).getD j true = true ↔ j < i + 1) := by
      intro j hj
      by_cases hji : j = i
      · subst hji
        have : j < listed.size := by omega
        simp [this]
      · rw [getD_set_ne true (fun e => hji e.symm), hl j hj]
        omega
    unfold wpOp
    rw [hko]
    simp only
    rcases gd_wanted ops (n := σ.n) S.tm hK with ⟨h1, h2⟩ | ⟨h1, h2⟩
    · rw [if_pos h1]
      refine .inl (op_sound hE hc hΦ S h2 ?_)
      intro v h' n' μ' x w' g1 g2 g3 g4
      exact ih (i + 1) _ (by omega) (by omega) (by omega) (by simp [hls]) hl' g1 (S.put g2 g3 g4 hdo)
    · rw [if_neg (by simp [h1])]
      exact ih (i + 1) _ (by omega) (by omega) (by omega) (by simp [hls]) hl' h2 (S.put S.hs (Ext.refl _ _ _ _) .undef hdo)

/-- The values that the quiet head comes to, in its listed order. -/
theorem head_vals (ops : Array Oper) {K : St → Prop} {h : Hp} {n : Nat} (tl : List Oper) : ∀ (l : List Oper) (t : Nat → V), (∀ o ∈ l, quiet ops o = true) → awpD E ops (l ++ tl) K ⟨t, h, n⟩ →
    ∃ (vs : Nat → V) (ts : Nat → Nat → V), ts 0 = t ∧ (∀ i o, l[i]? = some o → gdv E ops o (ts i) h (vs i) ∧ ts (i + 1) = (putS o.dst (vs i) ⟨ts i, h, n⟩).t) ∧ awpD E ops tl K ⟨ts l.length, h, n⟩ := by
  intro l
  induction l with
  | nil => intro t _ hk; exact ⟨fun _ => .undef, fun _ => t, rfl, fun i o h => by simp at h, hk⟩
  | cons o l ih =>
    intro t he hk
    have h0 := he o (by simp)
    simp only [List.cons_append, awpD, h0, if_true] at hk
    obtain ⟨v, h1, h2⟩ := gdv_of_gd (K := awpD E ops (l ++ tl) K) hk
    have h3 : putS o.dst v ⟨t, h, n⟩ = ⟨(putS o.dst v ⟨t, h, n⟩).t, h, n⟩ := by cases o.dst <;> rfl
    rw [h3] at h2
    obtain ⟨vs, ts, g1, g2, g3⟩ := ih _ (fun o ho => he o (by simp [ho])) h2
    refine ⟨fun i => match i with | 0 => v | i + 1 => vs i, fun i => match i with | 0 => t | i + 1 => ts i, rfl, fun i o' hi => ?_, g3⟩
    cases i with
    | zero => simp at hi; subst hi; exact ⟨h1, by simp only [Nat.zero_add]; rw [g1]⟩
    | succ i => exact g2 i o' (by simpa using hi)

theorem countP_flip {f g : Nat → Bool} {i : Nat} (hf : f i = true) (hg : g i = false) (hne : ∀ j, j ≠ i → g j = f j) : ∀ m, i < m → (List.range m).countP g + 1 = (List.range m).countP f
  | 0, h => absurd h (Nat.not_lt_zero _)
  | m + 1, h => by
    rw [List.range_succ, List.countP_append, List.countP_append]
    by_cases hm : i = m
    · subst hm
      have : (List.range i).countP g = (List.range i).countP f := List.countP_congr fun j hj => by
        rw [hne j (by have := List.mem_range.1 hj; omega)]
      simp [this, hf, hg]
    · have := countP_flip hf hg hne m (by omega)
      have h2 : [m].countP g = [m].countP f := by simp [hne m (fun e => hm e.symm)]
      omega
theorem gd_of_want {ops : Array Oper} {o : Oper} {t : Nat → V} {h : Hp} {n : Nat} {b : Bool} (hw : wantA ops o t b) : gd ops o ⟨t, h, n⟩ (b = true) (b = false) := by
  unfold wantA at hw
  unfold gd
  split at hw
  · rename_i hg; simp only [hg]; exact hw
  · rename_i j want hg
    obtain ⟨d, hd, hw⟩ := hw
    simp only [hg, hd]
    rcases hw with ⟨q, hq, rfl⟩ | ⟨hq, rfl⟩
    · simp only [hq]
      exact ⟨fun e => by simp [e], fun e => by simpa using e⟩
    · simp only [hq]
/-- The head, in whatever order. -/
theorem head_sound (hE : EnvOk E) (hc : c.P = E.P) (hΦ : FvOk c E.Φ) {ops : Array Oper} (hok : drawOk ops = true) (hd : ∀ o ∈ ops.toList, dstOk E.nt o = true) {Q : Exit → Act → World → Prop} {K : St → Prop} (hQ : ∀ σ μ a w, K σ → Sim ps E c σ μ a w → Q .normal a w)
    {t0 : Nat → V} {h : Hp} {n : Nat} {μ : Mu} {vs : Nat → V} {ts : Nat → Nat → V} (hN : quietN ops ≤ ops.size) (hts0 : ts 0 = t0)
    (hvs : ∀ i o, i < quietN ops → ops[i]? = some o → gdv E ops o (ts i) h (vs i) ∧ ts (i + 1) = (putS o.dst (vs i) ⟨ts i, h, n⟩).t)
    (hK : awpOps E ops (ops.toList.drop (quietN ops)) K ⟨ts (quietN ops), h, n⟩) :
    ∀ (u : Nat) (listed : Array Bool) {a : Act} {w : World}, ((List.range (quietN ops)).countP fun i => !listed.getD i true) = u → listed.size = ops.size → (∀ j, quietN ops ≤ j → j < ops.size → listed.getD j true = false) →
      (∀ (i : Nat) (o : Oper), listed.getD i false = true → ops[i]? = some o → ∀ e ∈ o.after, Region.binds .any e = true → listed.getD e.on false = true) →
      (∃ t, Agree ops vs (quietN ops) (fun i => listed.getD i true = true) t0 t ∧ Sim ps E c ⟨t, h, n⟩ μ a w) → wpAny c.P .any ops Q (ops.size - quietN ops + u) listed a w := by
  -- the values in the listed order
  have hagree : ∀ i, i ≤ quietN ops → Agree ops vs (quietN ops) (fun j => j < i) t0 (ts i) := by
    intro i
    induction i with
    | zero => intro _; exact ⟨fun j o d hj hl => absurd hl (Nat.not_lt_zero _), fun d _ => by rw [hts0]⟩
    | succ i ih =>
      intro hi
      obtain ⟨a1, a2⟩ := ih (by omega)
      have hio : ops[i]? = some (ops[i]'(by omega)) := Array.getElem?_eq_getElem (by omega)
      obtain ⟨g1, g2⟩ := hvs i _ (by omega) hio
      refine ⟨fun j o d hj hl ho hdd => ?_, fun d hdd => ?_⟩
      · rw [g2]
        by_cases hji : j = i
        · subst hji
          rw [hio] at ho
          cases ho
          rw [hdd]
          exact upd_same _ _ _
        · have hne : (ops[i]'(by omega)).dst ≠ some d := by
            have := ((drawOk_at hok hio).2.1 (by omega) j o d hj ho hdd).2
            rcases this with h5 | h5
            · exact absurd h5 hji
            · exact h5
          cases hdi : (ops[i]'(by omega)).dst with
          | none => simp only [putS]; exact a1 j o d hj (by omega) ho hdd
          | some d' =>
            simp only [putS]
            rw [upd_ne _ _ _ _ (by rw [hdi] at hne; intro e; subst e; exact hne rfl)]
            exact a1 j o d hj (by omega) ho hdd
      · rw [g2]
        have hne : (ops[i]'(by omega)).dst ≠ some d := hdd i _ (by omega) (by omega) hio
        cases hdi : (ops[i]'(by omega)).dst with
        | none => simp only [putS]; exact a2 d fun j o hj hl => hdd j o hj (by omega)
        | some d' =>
          simp only [putS]
          rw [upd_ne _ _ _ _ (by rw [hdi] at hne; intro e; subst e; exact hne rfl)]
          exact a2 d fun j o hj hl => hdd j o hj (by omega)
  intro u
  induction u with
  | zero =>
    intro listed a w hu hls htl hcl hS
    obtain ⟨t, hA, S⟩ := hS
    have hall : ∀ j, j < quietN ops → listed.getD j true = true := by
      intro j hj
      have := List.countP_eq_zero.1 hu j (by simpa using hj)
      simpa using this
    have hte : t = ts (quietN ops) := by
      funext d
      obtain ⟨b1, b2⟩ := hagree (quietN ops) (Nat.le_refl _)
      by_cases hex : ∃ i o, i < quietN ops ∧ ops[i]? = some o ∧ o.dst = some d
      · obtain ⟨i, o, hi, ho, hdd⟩ := hex
        rw [hA.1 i o d hi (hall i hi) ho hdd, b1 i o d hi hi ho hdd]
      · rw [hA.2 d fun i o hi _ ho hdd => hex ⟨i, o, hi, ho, hdd⟩, b2 d fun i o hi _ ho hdd => hex ⟨i, o, hi, ho, hdd⟩]
    subst hte
    exact tail_sound hE hc hΦ hok hd hQ _ (quietN ops) listed rfl hN (Nat.le_refl _) hls (fun j hj => ⟨fun hl => (by
      rcases Nat.lt_or_ge j (quietN ops) with h1 | h1
      · exact h1
      · rw [htl j h1 hj] at hl; cases hl), fun hl => hall j hl⟩) hK S
  | succ u ih =>
    intro listed a w hu hls htl hcl hS
    obtain ⟨t, hA, S⟩ := hS
    -- there is one that isn't listed, the first of them is ready
    obtain ⟨m, hm1, hm2, hm3⟩ : ∃ m, m < quietN ops ∧ listed.getD m true = false ∧ ∀ j, j < m → listed.getD j true = true := by
      have hex : ∃ m, m < quietN ops ∧ listed.getD m true = false := by
        have : 0 < (List.range (quietN ops)).countP fun i => !listed.getD i true := by omega
        obtain ⟨m, h1, h2⟩ := List.countP_pos_iff.1 this
        exact ⟨m, by simpa using h1, by simpa using h2⟩
      have key : ∀ k, (∃ m, m < k ∧ m < quietN ops ∧ listed.getD m true = false) → ∃ m, m < quietN ops ∧ listed.getD m true = false ∧ ∀ j, j < m → listed.getD j true = true := by
        intro k
        induction k with
        | zero => rintro ⟨m, h, _⟩; omega
        | succ k ihk =>
          rintro ⟨m, h1, h2, h3⟩
          by_cases hb : ∃ m, m < k ∧ m < quietN ops ∧ listed.getD m true = false
          · exact ihk hb
          · refine ⟨m, h2, h3, fun j hj => ?_⟩
            cases hq : listed.getD j true with
            | true => rfl
            | false => exact absurd ⟨j, by omega, by omega, hq⟩ hb
      obtain ⟨m, h1, h2⟩ := hex
      exact key (m + 1) ⟨m, by omega, h1, h2⟩
    have hmo : ops[m]? = some (ops[m]'(by omega)) := Array.getElem?_eq_getElem (by omega)
    have hmr : m ∈ Region.ready .any ops listed := mem_ready.2 ⟨hm2, _, hmo, fun e he hb => by
      have h1 := (drawOk_at hok hmo).1 e he hb
      have h2 := hm3 _ h1
      have h3 : e.on < listed.size := by omega
      simp [h3] at h2 ⊢
      exact h2⟩
    refine ⟨fun h0 => (by rw [h0] at hmr; cases hmr), fun i hi => ?_⟩
    obtain ⟨hiu, o, hio, _⟩ := mem_ready.1 hi
    have hilt : i < ops.size := (Array.getElem?_eq_some_iff.1 hio).1
    have hiq : i < quietN ops := by
      rcases Nat.lt_or_ge i (quietN ops) with h1 | h1
      · exact h1
      · have h4 : listed.getD m false = true := reach_listed hcl ((drawOk_at hok hio).2.2 h1 m (by omega)) (fun o' ho' => by
          obtain ⟨_, o2, ho2, h5⟩ := mem_ready.1 hi
          rw [ho'] at ho2
          cases ho2
          exact h5)
        have hms : m < listed.size := by omega
        simp [hms] at h4 hm2
        rw [h4] at hm2
        cases hm2
    have hdo : ∀ d, o.dst = some d → d < E.nt := by
      intro d hd'
      have := hd o (by rw [Array.getElem?_eq_some_iff] at hio; obtain ⟨_, rfl⟩ := hio; simp)
      simp [dstOk, hd'] at this
      exact this
    -- it looks at what it looks at in the listed order
    have hlook : ∀ d ∈ o.looksAt ops, ts i d = t d := by
      intro d hdl
      obtain ⟨b1, b2⟩ := hagree i (by omega)
      by_cases hex : ∃ j oj, j < quietN ops ∧ ops[j]? = some oj ∧ oj.dst = some d
      · obtain ⟨j, oj, hj, hoj, hdd⟩ := hex
        obtain ⟨h1, h2⟩ := ((drawOk_at hok hio).2.1 hiq j oj d hj hoj hdd).1 hdl
        have h3 := ready_waits hi hio h2
        have hjs : j < listed.size := by omega
        rw [b1 j oj d hj h1 hoj hdd, hA.1 j oj d hj (by simp [hjs] at h3 ⊢; exact h3) hoj hdd]
      · rw [b2 d fun j oj hj _ hoj hdd => hex ⟨j, oj, hj, hoj, hdd⟩, hA.2 d fun j oj hj _ hoj hdd => hex ⟨j, oj, hj, hoj, hdd⟩]
    obtain ⟨b, k1, k2, k3⟩ := gdv_congr hlook (hvs i o hiq hio).1
    have hset : (listed.setIfInBounds i true).getD i true = true := by
      have : i < listed.size := by omega
      simp [this]
    have hcount : ((List.range (quietN ops)).countP fun j => !(listed.setIfInBounds i true).getD j true) = u := by
      have := countP_flip (f := fun j => !listed.getD j true) (g := fun j => !(listed.setIfInBounds i true).getD j true) (i := i) (by simp only [hiu]; rfl) (by simp only [hset]; rfl) (fun j hj => by simp only [getD_set_ne true (fun e => hj e.symm)]) (quietN ops) hiq
      omega
    have htl' : ∀ j, quietN ops ≤ j → j < ops.size → (listed.setIfInBounds i true).getD j true = false := fun j h1 h2 => by
      rw [getD_set_ne true (by omega)]; exact htl j h1 h2
    have hcl' : ∀ (j : Nat) (oj : Oper), (listed.setIfInBounds i true).getD j false = true → ops[j]? = some oj → ∀ e ∈ oj.after, Region.binds .any e = true → (listed.setIfInBounds i true).getD e.on false = true := by
      have hmono : ∀ k, listed.getD k false = true → (listed.setIfInBounds i true).getD k false = true := by
        intro k hk
        by_cases hki : k = i
        · subst hki
          have : k < listed.size := by omega
          simp [this]
        · rw [getD_set_ne false (fun e => hki e.symm)]; exact hk
      intro j oj hl hoj e he hb
      by_cases hji : j = i
      · subst hji
        obtain ⟨_, o2, ho2, h5⟩ := mem_ready.1 hi
        rw [hoj] at ho2
        cases ho2
        exact hmono _ (h5 e he hb)
      · rw [getD_set_ne false (fun e => hji e.symm)] at hl
        exact hmono _ (hcl j oj hl hoj e he hb)
    have hA' : Agree ops vs (quietN ops) (fun j => (listed.setIfInBounds i true).getD j true = true) t0 (putS o.dst (vs i) ⟨t, h, n⟩).t := by
      refine ⟨fun j oj d hj hl hoj hdd => ?_, fun d hdd => ?_⟩
      · have hl : (listed.setIfInBounds i true).getD j true = true := hl
        by_cases hji : j = i
        · subst hji
          rw [hio] at hoj
          cases hoj
          rw [hdd]
          exact upd_same _ _ _
        · have hne : o.dst ≠ some d := by
            rcases ((drawOk_at hok hio).2.1 hiq j oj d hj hoj hdd).2 with h5 | h5
            · exact absurd h5 hji
            · exact h5
          have hlj : listed.getD j true = true := by rw [getD_set_ne true (fun e => hji e.symm)] at hl; exact hl
          cases hdi : o.dst with
          | none => simp only [putS]; exact hA.1 j oj d hj hlj hoj hdd
          | some d' =>
            simp only [putS]
            rw [upd_ne _ _ _ _ (by rw [hdi] at hne; intro e; subst e; exact hne rfl)]
            exact hA.1 j oj d hj hlj hoj hdd
      · have hne : o.dst ≠ some d := hdd i o hiq hset hio
        have hold : ∀ j oj, j < quietN ops → listed.getD j true = true → ops[j]? = some oj → oj.dst ≠ some d := by
          intro j oj hj hl hoj
          by_cases hji : j = i
          · subst hji; rw [hiu] at hl; cases hl
          · exact hdd j oj hj (by show (listed.setIfInBounds i true).getD j true = true; rw [getD_set_ne true (fun e => hji e.symm)]; exact hl) hoj
        cases hdi : o.dst with
        | none => simp only [putS]; exact hA.2 d hold
        | some d' =>
          simp only [putS]
          rw [upd_ne _ _ _ _ (by rw [hdi] at hne; intro e; subst e; exact hne rfl)]
          exact hA.2 d hold
    have hput : putS o.dst (vs i) ⟨t, h, n⟩ = ⟨(putS o.dst (vs i) ⟨t, h, n⟩).t, h, n⟩ := by cases o.dst <;> rfl
    unfold wpOp
    rw [hio]
    simp only
    rw [Nat.add_succ, Nat.succ_eq_add_one] at *
    rcases gd_wanted ops (n := n) S.tm (gd_of_want k1) with ⟨h1, h2⟩ | ⟨h1, h2⟩
    · rw [if_pos h1]
      refine .inl (q_sound hE hc hΦ S.hs S.tm (k2 h2) ?_)
      intro x w' g2 g3 g4
      refine ih _ hcount (by simp [hls]) htl' hcl' ⟨_, hA', ?_⟩
      rw [← hput]
      exact S.put g2 g3 g4 hdo
    · rw [if_neg (by simp [h1])]
      refine ih _ hcount (by simp [hls]) htl' hcl' ⟨_, hA', ?_⟩
      rw [← hput, k3 h2]
      exact S.put S.hs (Ext.refl _ _ _ _) .undef hdo
end
end Go.Proofs.Ytgohmphhgglmbaa.Am

/- An abstract machine over values: code, loops, functions. -/
set_option linter.unusedVariables false
set_option linter.unusedSimpArgs false
namespace Go.Proofs.Ytgohmphhgglmbaa.Am
open Go Go.RowKit

def codeOk (nt : Nat) : Code → Bool
  | .region _ ops draw => ops.toList.all (dstOk nt) && (!draw || drawOk ops)
  | .seq x y => codeOk nt x && codeOk nt y
  | .cond _ x y => codeOk nt x && codeOk nt y
  | .block _ x => codeOk nt x
  | .loop x => codeOk nt x
  | .skip | .exit _ | .ret => true
  | _ => false
def thenQ (K : St → Prop) (Q : Exit → St → Prop) : Exit → St → Prop
  | .normal, σ => K σ
  | e, σ => Q e σ
def blockQ (id : Nat) (Q : Exit → St → Prop) : Exit → St → Prop
  | .exit id', σ => if id' = id then Q .normal σ else Q (.exit id') σ
  | e, σ => Q e σ
/-- Without a step: an empty slice is taken as an empty row of one's own. -/
inductive Gh : St → St → Prop
  | refl (σ : St) : Gh σ σ
  | step {σ σ2 : St} (k z : Nat) (h : σ.t k = .cap0) (g : Gh ⟨upd σ.t k (.loc σ.n 0 0 0), upd σ.h σ.n (some ⟨z, [], true⟩), σ.n + 1⟩ σ2) : Gh σ σ2
  | data {σ σ2 : St} (k : Nat) (v : V) (h : expoA σ.h (σ.t k) = some v) (g : Gh ⟨upd σ.t k v, frz σ.h (fun b => (touchA σ.h (σ.t k)).contains b), σ.n⟩ σ2) : Gh σ σ2
def awp (E : Env) : Code → (Exit → St → Prop) → St → Prop
  | .skip, Q, σ => Q .normal σ
  | .region _ ops draw, Q, σ => if draw then awpD E ops ops.toList (Q .normal) σ else awpOps E ops ops.toList (Q .normal) σ
  | .seq x y, Q, σ => ∃ I : St → Prop, awp E x (thenQ I Q) σ ∧ ∀ σ, I σ → ∃ σ1, Gh σ σ1 ∧ awp E y Q σ1
  | .cond b x y, Q, σ => match ev σ.t b with
    | .s (.bool t) => (t = true → awp E x Q σ) ∧ (t = false → awp E y Q σ)
    | _ => False
  | .block id x, Q, σ => awp E x (blockQ id Q) σ
  | .loop x, Q, σ => ∃ (I : St → Prop) (m : St → Nat) (σ1 : St), Gh σ σ1 ∧ I σ1 ∧ ∀ σ, I σ → awp E x (thenQ (fun σ' => I σ' ∧ m σ' < m σ) Q) σ
  | .exit id, Q, σ => Q (.exit id) σ
  | .ret, Q, σ => Q .ret σ
  | _, _, _ => False

section
variable {ps : Hp × Mu × World} {E : Env} {c : Cx}
theorem drop_takeWhile {α : Type} (p : α → Bool) : ∀ l : List α, l.drop (l.takeWhile p).length = l.dropWhile p
  | [] => rfl
  | a :: l => by
    simp only [List.takeWhile_cons, List.dropWhile_cons]
    split
    · simpa using drop_takeWhile p l
    · rfl
theorem dropWhile_head {α : Type} (p : α → Bool) : ∀ (l : List α) {a : α} {r : List α}, l.dropWhile p = a :: r → p a = false
  | [], a, r, h => by cases h
  | b :: l, a, r, h => by
    rw [List.dropWhile_cons] at h
    split at h
    · exact dropWhile_head p l h
    · rename_i hb; cases h; simpa using hb
theorem draw_sound (hE : EnvOk E) (hc : c.P = E.P) (hΦ : FvOk c E.Φ) {ops : Array Oper} (hok : drawOk ops = true) (hd : ∀ o ∈ ops.toList, dstOk E.nt o = true) {Q : Exit → Act → World → Prop} {K : St → Prop} (hQ : ∀ σ μ a w, K σ → Sim ps E c σ μ a w → Q .normal a w)
    {σ : St} {μ : Mu} {a : Act} {w : World} (hk : awpD E ops ops.toList K σ) (S : Sim ps E c σ μ a w) : wpAny c.P .any ops Q ops.size (Array.replicate ops.size false) a w := by
  have hsplit : ops.toList = ops.toList.takeWhile (fun o => quiet ops o) ++ ops.toList.dropWhile (fun o => quiet ops o) := (List.takeWhile_append_dropWhile).symm
  have hq : ∀ o ∈ ops.toList.takeWhile (fun o => quiet ops o), quiet ops o = true := fun o ho => by
    have := List.all_takeWhile (p := fun o : Oper => quiet ops o) (l := ops.toList)
    rw [List.all_eq_true] at this
    simpa using this o ho
  have hN : quietN ops ≤ ops.size := by
    have := (List.takeWhile_prefix (l := ops.toList) (fun o : Oper => quiet ops o)).length_le
    simpa [quietN] using this
  have hk' := hk
  rw [hsplit] at hk'
  obtain ⟨vs, ts, h1, h2, h3⟩ := head_vals ops (ops.toList.dropWhile (fun o => quiet ops o)) (ops.toList.takeWhile (fun o => quiet ops o)) σ.t hq hk'
  have htl : awpOps E ops (ops.toList.drop (quietN ops)) K ⟨ts (quietN ops), σ.h, σ.n⟩ := by
    unfold quietN
    rw [drop_takeWhile]
    cases hdw : ops.toList.dropWhile (fun o => quiet ops o) with
    | nil => rw [hdw] at h3; exact h3
    | cons o rest =>
      rw [hdw] at h3
      have heff : quiet ops o = false := by
        simpa using dropWhile_head _ _ hdw
      simpa only [awpD, heff, Bool.false_eq_true, if_false] using h3
  have hcount : ((List.range (quietN ops)).countP fun i => !(Array.replicate ops.size false).getD i true) = quietN ops := by
    rw [List.countP_eq_length.2]
    · simp
    · intro i hi
      have : i < ops.size := by have := List.mem_range.1 hi; omega
      simp [this]
  have := head_sound hE hc hΦ hok hd hQ (t0 := σ.t) (h := σ.h) (n := σ.n) (μ := μ) (vs := vs) (ts := ts) hN h1 (fun i o hi ho => h2 i o (by
      have h4 : (ops.toList.takeWhile (fun o => quiet ops o))[i]? = ops.toList[i]? := by
        have h5 : ops.toList[i]? = (ops.toList.takeWhile (fun o => quiet ops o) ++ ops.toList.dropWhile (fun o => quiet ops o))[i]? := congrArg (fun l => l[i]?) hsplit
        rw [h5, List.getElem?_append_left (by simpa [quietN] using hi)]
      rw [h4]; simpa using ho)) htl (quietN ops) (Array.replicate ops.size false) (a := a) (w := w) hcount (by simp) (fun j _ hj => by simp [hj]) (fun j o hj => by
      by_cases h : j < ops.size <;> simp [h] at hj)
    ⟨σ.t, ⟨fun i o d hi hl => (by have : i < ops.size := by omega
                                  simp [this] at hl), fun d _ => rfl⟩, S⟩
  rwa [show ops.size - quietN ops + quietN ops = ops.size by omega] at this

theorem gh_sim {σ σ1 : St} (g : Gh σ σ1) : ∀ {μ : Mu} {a : Act} {w : World}, Sim ps E c σ μ a w → ∃ μ1, Sim ps E c σ1 μ1 a w := by
  induction g with
  | refl σ => exact fun S => ⟨_, S⟩
  | step k z h g ih =>
    intro μ a w S
    rename_i σ σ2
    have H := S.hs.virt z
    refine ih (μ := upd μ σ.n (some .virt)) ⟨H.1, fun i => ?_, S.nt, S.df, S.ex.trans H.2⟩
    by_cases hi : i = k
    · subst hi
      show R c _ _ w (upd σ.t i (V.loc σ.n 0 0 0) i) _
      rw [upd_same]
      have h1 := S.tm i
      rw [h] at h1
      obtain ⟨A, hA⟩ := h1.cap0_inv
      rw [hA]
      exact .loc0 _ _ _ _ (upd_same _ _ _)
    · show R c _ _ w (upd σ.t k (V.loc σ.n 0 0 0) i) _
      rw [upd_ne _ _ _ _ hi]
      exact H.2.R (S.tm i)
  | data k v h g ih =>
    intro μ a w S
    rename_i σ σ2
    have H := S.hs.freezeP (fun b => (touchA σ.h (σ.t k)).contains b)
    refine ih (μ := μ) ⟨H.1, fun i => ?_, S.nt, S.df, S.ex.trans H.2⟩
    by_cases hi : i = k
    · subst hi
      show R c _ _ w (upd σ.t i v i) _
      rw [upd_same]
      exact (expoA_sound S.hs (fun b => (touchA σ.h (σ.t i)).contains b) (fv := c.fvals) (S.tm i) h (fun b hb => by simpa using hb)).mono (fun q hq => ⟨hq, rfl⟩) (fun _ _ h => by cases h)
    · show R c _ _ w (upd σ.t k v i) _
      rw [upd_ne _ _ _ _ hi]
      exact H.2.R (S.tm i)
theorem awp_sound (hE : EnvOk E) (hc : c.P = E.P) (hΦ : FvOk c E.Φ) : ∀ (x : Code) {Q : Exit → St → Prop} {Q' : Exit → Act → World → Prop} {σ : St} {μ : Mu} {a : Act} {w : World}, codeOk E.nt x = true → awp E x Q σ → Sim ps E c σ μ a w →
    (∀ e σ μ a w, Q e σ → Sim ps E c σ μ a w → Q' e a w) → x.wp c.P Q' a w := by
  intro x
  induction x with
  | skip => intro Q Q' σ μ a w _ hk S hQ; exact wp_skip (hQ _ _ _ _ _ hk S)
  | region id ops draw =>
    intro Q Q' σ μ a w hok hk S hQ
    simp only [codeOk, Bool.and_eq_true, List.all_eq_true, Bool.or_eq_true, Bool.not_eq_true'] at hok
    simp only [awp] at hk
    cases draw with
    | false =>
      simp only [Bool.false_eq_true, if_false] at hk
      exact wp_region_list (ops_sound hE hc hΦ ops (fun σ μ a w => hQ _ σ μ a w) _ (fun o ho => hok.1 o ho) hk S)
    | true =>
      simp only [if_true] at hk
      have hdr : drawOk ops = true := by simpa using hok.2
      refine wp_region_any (by rw [hc]; exact hE.mixed) ?_
      have hb : Below w.heap.size w { w with drawn := w.drawn + 1 } := (Below.refl _ w).drew
      have H2 := S.hs.below hb
      exact draw_sound hE hc hΦ hdr (fun o ho => hok.1 o ho) (fun σ μ a w => hQ _ σ μ a w) hk ⟨H2.1, fun i => H2.2.R (S.tm i), S.nt, S.df, S.ex.trans H2.2⟩
  | seq x y ihx ihy =>
    intro Q Q' σ μ a w hok hk S hQ
    simp only [codeOk, Bool.and_eq_true] at hok
    simp only [awp] at hk
    obtain ⟨I, hx, hy⟩ := hk
    refine wp_seq (ihx hok.1 hx S ?_)
    intro e σ μ a w hq S
    cases e with
    | normal =>
      obtain ⟨σ1, hg, hy⟩ := hy _ hq
      obtain ⟨μ1, S⟩ := gh_sim hg S
      exact ihy hok.2 hy S hQ
    | _ => exact hQ _ _ _ _ _ hq S
  | cond b x y ihx ihy =>
    intro Q Q' σ μ a w hok hk S hQ
    simp only [codeOk, Bool.and_eq_true] at hok
    simp only [awp] at hk
    have hb : R c σ.h μ w (ev σ.t b) (a.eval b) := Rp.ev S.tm b
    split at hk
    · rename_i t ht
      rw [ht] at hb
      exact wp_cond_split hb.s_eq.1 (fun h => ihx hok.1 (hk.1 h) S hQ) (fun h => ihy hok.2 (hk.2 h) S hQ)
    · exact hk.elim
  | block id x ih =>
    intro Q Q' σ μ a w hok hk S hQ
    simp only [codeOk] at hok
    simp only [awp] at hk
    refine wp_block (ih hok hk S ?_)
    intro e σ μ a w hq S
    cases e with
    | exit id' =>
      simp only [blockQ, Exit.inBlock] at hq ⊢
      split
      · rename_i h; rw [if_pos h] at hq; exact hQ _ _ _ _ _ hq S
      · rename_i h; rw [if_neg h] at hq; exact hQ _ _ _ _ _ hq S
    | _ => exact hQ _ _ _ _ _ hq S
  | loop x ih =>
    intro Q Q' σ μ a w hok hk S hQ
    simp only [codeOk] at hok
    simp only [awp] at hk
    obtain ⟨I, m, σ1, hg, hI, hk⟩ := hk
    obtain ⟨μ1, S⟩ := gh_sim hg S
    have key : ∀ (n : Nat) {σ : St} {μ : Mu} {a : Act} {w : World}, I σ → m σ < n → Sim ps E c σ μ a w → Code.rounds c.P x Q' n a w := by
      intro n
      induction n with
      | zero => intro σ μ a w _ h; exact absurd h (Nat.not_lt_zero _)
      | succ n ihn =>
        intro σ μ a w hI hm S
        rw [rounds_succ]
        refine ih hok (hk σ hI) S ?_
        intro e σ' μ' a' w' hq S'
        cases e with
        | normal => exact ihn hq.1 (by have := hq.2; omega) S'
        | _ => exact hQ _ _ _ _ _ hq S'
    exact wp_loop_rounds (m σ1 + 1) (key _ hI (Nat.lt_succ_self _) S)
  | exit id => intro Q Q' σ μ a w _ hk S hQ; exact wp_exit (hQ _ _ _ _ _ hk S)
  | ret => intro Q Q' σ μ a w _ hk S hQ; exact wp_ret (hQ _ _ _ _ _ hk S)
  | _ => intro Q Q' σ μ a w hok; simp [codeOk] at hok

/-- What a function hands back. -/
def resV (E : Env) (σ : St) : ResultVar → Option V
  | .tmp t => some (σ.t t)
  | .cell p T => aload E.P σ.h T (σ.t p)
def oneOf : List V → V
  | [v] => v
  | vs => .tup vs
def outV (E : Env) (rs : List ResultVar) (σ : St) : Option V := (allO (resV E σ) rs).map oneOf
def handed (h : Hp) (r v : V) : Prop :=
  match r with
  | .own z rows => (v = .cap0 ∧ rows = []) ∨ ∃ b len cap B, v = .loc b 0 len cap ∧ h b = some B ∧ B.wr = true ∧ B.size = z ∧ len ≤ cap ∧ cap ≤ B.rows.length ∧ rows.length = len ∧ allO (allO (expo h 2)) (B.rows.take len) = some rows ∧
      b ∉ (B.rows.take len).flatMap fun q => q.flatMap (touch h 2)
  | .tup rs => ∃ vs, v = .tup vs ∧ allO (expoA h) vs = some rs
  | r => expoA h v = some r
def Ret (E : Env) (rs : List ResultVar) (r : V) (σ : St) : Prop := ∃ v, outV E rs σ = some v ∧ handed σ.h r v
def retQ (E : Env) (rs : List ResultVar) (r : V) : Exit → St → Prop
  | .normal, σ => Ret E rs r σ
  | .ret, σ => Ret E rs r σ
  | _, _ => False
def st0 (ds : List V) : St := ⟨fun i => ds.getD i .undef, fun _ => none, 0⟩

end
section
variable {ps : Hp × Mu × World} {E : Env} {c : Cx} {σ : St} {μ : Mu} {a : Act} {w : World}
theorem run_resultsM {P : Program} {f : ResultVar → Sem Value} : ∀ (l : List ResultVar) (ys : List Value), l.length = ys.length → (∀ (i : Nat) (r : ResultVar) (y : Value), l[i]? = some r → ys[i]? = some y → (f r).run P w = .ok y w) → (l.mapM f).run P w = .ok ys w
  | [], ys, h, _ => by
    cases ys with
    | nil => simp [Sem.run, pure]
    | cons y ys => simp at h
  | r :: l, ys, h, hf => by
    cases ys with
    | nil => simp at h
    | cons y ys =>
      have h1 := hf 0 r y rfl rfl
      have h2 := run_resultsM (P := P) (f := f) l ys (by simpa using h) (fun i r y h3 h4 => hf (i + 1) r y (by simpa using h3) (by simpa using h4))
      simp [List.mapM_cons, h1, h2]
theorem results_sound (S : Sim ps E c σ μ a w) (hc : c.P = E.P) {fn : Func} {v : V} (hv : outV E fn.results.toList σ = some v) : ∃ x, (results fn a.tmps).run c.P w = .ok x w ∧ R c σ.h μ w v x := by
  unfold outV at hv
  simp only [Option.map_eq_some_iff] at hv
  obtain ⟨vs, hvs, rfl⟩ := hv
  obtain ⟨e1, e2⟩ := allO_spec hvs
  let f : ResultVar → Sem Value := fun r => match r with
    | .tmp t => pure (a.tmps.getD t Go.undef)
    | .cell p T => do loadVar T (← asAddr (a.tmps.getD p Go.undef))
  have hone : ∀ i : Nat, ∃ y : Value, ∀ (r : ResultVar) (v : V), fn.results.toList[i]? = some r → vs[i]? = some v → (f r).run c.P w = .ok y w ∧ R c σ.h μ w v y := by
    intro i
    by_cases hi : i < fn.results.toList.length
    · have h1 : fn.results.toList[i]? = some fn.results.toList[i] := List.getElem?_eq_getElem hi
      have h2 : vs[i]? = some (vs[i]'(by omega)) := List.getElem?_eq_getElem (by omega)
      have h3 := e2 i _ _ h1 h2
      generalize fn.results.toList[i] = r at h1 h3
      generalize vs[i]'(by omega) = v at h2 h3
      cases r with
      | tmp t =>
        simp only [resV, Option.some.injEq] at h3
        refine ⟨a.tmps.getD t Go.undef, fun r' v' g1 g2 => ?_⟩
        rw [h1] at g1; cases g1
        rw [h2] at g2; cases g2
        exact ⟨rfl, by rw [← h3]; exact S.tm t⟩
      | cell p T =>
        simp only [resV] at h3
        rw [← hc] at h3
        obtain ⟨y, g1, g2⟩ := load_sound S.hs (S.tm p) h3
        refine ⟨y, fun r' v' g3 g4 => ?_⟩
        rw [h1] at g3; cases g3
        rw [h2] at g4; cases g4
        refine ⟨?_, g2⟩
        simp only [f]
        have hp := S.tm p
        unfold aload at h3
        split at h3
        · split at h3
          · rename_i cs hcs
            rw [hcs] at hp
            obtain ⟨ad, g, hx, _⟩ := hp.pc_inv
            rw [hx] at g1 ⊢
            simpa [Instr.loadAt, Instr.sureAddr, asAddr, Sem.run, pure] using g1
          · rename_i b r k hcs
            rw [hcs] at hp
            obtain ⟨q, base, size, _, hx⟩ := hp.ptr_inv
            rw [hx] at g1 ⊢
            simpa [Instr.loadAt, Instr.sureAddr, asAddr, Sem.run, pure] using g1
          · cases h3
        · cases h3
    · exact ⟨Go.undef, fun r v g1 => by rw [List.getElem?_eq_none (by omega)] at g1; cases g1⟩
  obtain ⟨y, hy⟩ := Classical.axiomOfChoice hone
  have hys : ∀ (i : Nat), i < vs.length → ((List.range vs.length).map y)[i]? = some (y i) := fun i hi => by simp [hi]
  have hrun := run_resultsM (P := c.P) (w := w) (f := f) fn.results.toList ((List.range vs.length).map y) (by simp [e1]) (fun i r z h1 h2 => by
    have hi : i < vs.length := by rw [e1]; exact (List.getElem?_eq_some_iff.1 h1).1
    rw [hys i hi] at h2; cases h2
    exact (hy i r (vs[i]) h1 (List.getElem?_eq_getElem hi)).1)
  have hR : ∀ (i : Nat) (hi : i < vs.length), R c σ.h μ w (vs[i]) (y i) := fun i hi => (hy i (fn.results.toList[i]'(by omega)) vs[i] (List.getElem?_eq_getElem (by omega)) (List.getElem?_eq_getElem hi)).2
  have hm : (fn.results.mapM f).run c.P w = .ok ((List.range vs.length).map y).toArray w := by
    rw [Array.mapM_eq_mapM_toList]
    simp [hrun]
  have hres : results fn a.tmps = (do let vs ← fn.results.mapM f; pure (if h : vs.size = 1 then vs[0] else .tuple vs)) := rfl
  rw [hres]
  simp only [Sem.run_bind, hm, Result.andThen_ok, Sem.run_pure]
  by_cases h1 : vs.length = 1
  · obtain ⟨v0, rfl⟩ : ∃ v0, vs = [v0] := by
      cases vs with
      | nil => simp at h1
      | cons v0 l => cases l with
        | nil => exact ⟨v0, rfl⟩
        | cons v1 l => simp at h1
    refine ⟨y 0, ?_, hR 0 (by simp)⟩
    simp
  · refine ⟨.tuple ((List.range vs.length).map y).toArray, ?_, ?_⟩
    · rw [dif_neg (by simpa using h1)]
    · have hoo : oneOf vs = .tup vs := by
        unfold oneOf
        split
        · simp at h1
        · rfl
      rw [hoo]
      refine .tup vs _ (by simp) fun i hi => ?_
      have g1 : vs.getD i .undef = vs[i] := by simp [List.getD_eq_getElem?_getD, hi]
      rw [g1]
      simpa [hi] using hR i hi

/-- What is handed back is what the contract says. -/
theorem handed_sound {h : Hp} {n : Nat} (H : HS c h n μ w) {r v : V} {x : Value} (hx : R c h μ w v x) (hh : handed h r v) : Res c w r x := by
  unfold handed at hh
  unfold Res
  have hall : ∀ p q, okB c (frz h p) μ w q → AllB c w q := fun p q hq => ⟨hq.1, hq.2.1⟩
  split at hh
  · rename_i z rows
    rcases hh with ⟨rfl, rfl⟩ | ⟨b, len, cap, B, rfl, hB, hwr, hBz, hlc, hcl, hrl, hex, hnb⟩
    · obtain ⟨A, rfl⟩ := hx.cap0_inv
      exact .inl ⟨rfl, A, rfl⟩
    · obtain ⟨_, ⟨q, base, size, hmu, rfl⟩ | ⟨h0, h00, A, t, hmu, rfl⟩⟩ := hx.loc_inv
      · right
        have hblk := H.blk b B hB
        rcases hblk with ⟨g1, _⟩ | ⟨k, base', g1, g2, g3, g4, g5⟩
        · rw [hmu] at g1; cases g1
        · rw [hmu] at g1
          cases g1
          obtain ⟨e1, e2⟩ := allO_spec hex
          have hlt : (B.rows.take len).length = len := by simp; omega
          have hrow : ∀ i, i < len → ∃ r r', (B.rows.take len)[i]? = some r ∧ rows[i]? = some r' ∧ allO (expo h 2) r = some r' := by
            intro i hi
            have h1 : (B.rows.take len)[i]? = some ((B.rows.take len)[i]'(by omega)) := List.getElem?_eq_getElem (by omega)
            have h2 : rows[i]? = some (rows[i]'(by omega)) := List.getElem?_eq_getElem (by omega)
            exact ⟨_, _, h1, h2, e2 i _ _ h1 h2⟩
          refine ⟨q, base, cap, by simp [hrl], by omega, g3.2 hwr, g2, fun r' hr' => ?_, fun i j hi hj => ?_⟩
          · obtain ⟨i, hi, rfl⟩ := List.getElem_of_mem hr'
            obtain ⟨r0, r1, f1, f2, f3⟩ := hrow i (by omega)
            rw [List.getElem?_eq_getElem hi] at f2
            cases f2
            rw [(allO_spec f3).1, ← hBz]
            exact g4 r0 (List.mem_of_mem_take (List.mem_of_getElem? f1))
          · subst hBz
            obtain ⟨y, y1, y2, y3⟩ := g5 i j (by omega) hj
            refine ⟨y, y1, y2, fun hir => ?_⟩
            obtain ⟨r0, r1, f1, f2, f3⟩ := hrow i (by omega)
            obtain ⟨e3, e4⟩ := allO_spec f3
            have hr0 := g4 r0 (List.mem_of_mem_take (List.mem_of_getElem? f1))
            have h5 : r0[j]? = some (r0[j]'(by omega)) := List.getElem?_eq_getElem (by omega)
            have h6 : r1[j]? = some (r1[j]'(by omega)) := List.getElem?_eq_getElem (by omega)
            have h9 : cellAt B.rows i j = r0[j]'(by omega) := by
              rw [← cellAt_take B.rows len i j (by omega)]
              simp [cellAt, List.getD_eq_getElem?_getD, f1, h5]
            have h10 : cellAt rows i j = r1[j]'(by omega) := by simp [cellAt, List.getD_eq_getElem?_getD, f2, h6]
            rw [h9] at y3
            rw [h10]
            have hd := expo_sound H (fun b' => decide (b' ≠ b)) 2 y3 (e4 j _ _ h5 h6) (fun b2 hb2 => by
              simp only [ne_eq, decide_eq_true_eq]
              rintro rfl
              exact hnb (by simp only [List.mem_flatMap]; exact ⟨r0, List.mem_of_getElem? f1, _, List.mem_of_getElem? h5, hb2⟩))
            refine hd.mono fun k hk => ⟨⟨hall _ _ hk, ?_⟩, rfl⟩
            rintro rfl
            exact hk.2.2 ⟨b, B, base, B.size, by simp [frz, hB], hwr, hmu⟩
      · left
        subst h0
        exact ⟨List.eq_nil_of_length_eq_zero hrl, A, rfl⟩
  · rename_i rs
    obtain ⟨vs, rfl, hvs⟩ := hh
    intro fv
    obtain ⟨xs, rfl, hl, hr⟩ := hx.tup_inv
    obtain ⟨e1, e2⟩ := allO_spec hvs
    refine .tup _ _ (by omega) fun i hi => ?_
    have h1 : vs[i]? = some (vs[i]'(by omega)) := List.getElem?_eq_getElem (by omega)
    have h2 : rs[i]? = some rs[i] := List.getElem?_eq_getElem hi
    have h3 := hr i (by omega)
    have h4 : vs.getD i .undef = vs[i]'(by omega) := by simp [List.getD_eq_getElem?_getD, h1]
    have h5 : rs.getD i .undef = rs[i] := by simp [List.getD_eq_getElem?_getD, h2]
    rw [h4] at h3
    rw [h5]
    exact (expoA_sound H (fun _ => true) (fv := fv) h3 (e2 i _ _ h1 h2) (fun _ _ => rfl)).mono (fun q hq => ⟨hall _ _ hq, rfl⟩) (fun _ _ h => h)
  · rename_i n1 n2
    split
    · exact absurd rfl (n1 _ _)
    · intro fv
      exact (expoA_sound H (fun _ => true) (fv := fv) hx hh (fun _ _ => rfl)).mono (fun q hq => ⟨hall _ _ hq, rfl⟩) (fun _ _ h => h)
end

/-- A function is right if its code, run over values, hands back what the contract says. -/
theorem sound_of_awp {P : Program} {plain : TypeId → Bool} {Γ : FuncId → Option Fspec} {Δ : FuncId → Option Pt} (hE : EnvOk ⟨P, plain, Γ, Δ, fun _ => none, 0⟩) {f : FuncId} {fn : Func} {code : Code} {F : Fspec} (hf : P.funcs[f]? = some fn) (hb : fn.body = some code) (hok : codeOk fn.ntmps code = true)
    (h : ∀ Φ ds r, F Φ ds r → ds.length ≤ fn.ntmps ∧ awp ⟨P, plain, Γ, Δ, Φ, fn.ntmps⟩ code (retQ ⟨P, plain, Γ, Δ, Φ, fn.ntmps⟩ fn.results.toList r) (st0 ds)) : Sound P f F := by
  intro c Φ ds r vals hc hok0 hX hΦ hF hargs
  obtain ⟨hlen, hk⟩ := h Φ ds r hF
  have hE' : EnvOk ⟨P, plain, Γ, Δ, Φ, fn.ntmps⟩ := ⟨hE.plain, hE.sound, hE.fn, hE.mixed, hE.soundT⟩
  rw [← hc] at hf
  have hnt : vals.size = ds.length := hargs.1
  have H0 : HS c (fun _ => none) 0 (fun _ => none) c.w0 := ⟨Fr.refl _ _, fun _ _ => rfl, fun _ _ => rfl, fun b B h => (by cases h), fun b b' B B' k base size base' size' h => (by cases h)⟩
  have hokB : ∀ q, c.ok0 q → okB c (fun _ => none) (fun _ => none) c.w0 q := fun q hq => ⟨.inl hq, hok0 q hq, fun ⟨b, B, _, _, h, _⟩ => by cases h⟩
  have S0 : Sim ((fun _ => none), (fun _ => none), c.w0) ⟨P, plain, Γ, Δ, Φ, fn.ntmps⟩ c (st0 ds) (fun _ => none) { tmps := vals ++ Array.replicate (fn.ntmps - vals.size) Go.undef, defers := [] } c.w0 := by
    refine ⟨H0, fun i => ?_, by simp; omega, rfl, Ext.refl _ _ _ _⟩
    by_cases hi : i < ds.length
    · have h1 := hargs.2 i hi
      have h2 : (vals ++ Array.replicate (fn.ntmps - vals.size) Go.undef).getD i Go.undef = vals.getD i Go.undef := by
        have : i < vals.size := by omega
        simp [Array.getElem?_append_left this]
      rw [h2]
      exact h1.mono (fun q hq => ⟨hokB q hq, rfl⟩) (fun _ _ h => h)
    · have h1 : (st0 ds).t i = .undef := by simp [st0, List.getD_eq_getElem?_getD, List.getElem?_eq_none (Nat.le_of_not_lt hi)]
      have h2 : (vals ++ Array.replicate (fn.ntmps - vals.size) Go.undef).getD i Go.undef = Go.undef := by
        simp only [Array.getD_eq_getD_getElem?]
        rw [Array.getElem?_append_right (by omega)]
        rw [Array.getElem?_replicate]
        split <;> rfl
      rw [h1, h2]
      exact .undef
  have hbel : ∀ {w' : World}, Fr c.w0 w' c.X → Below c.w0.heap.size c.w0 w' := fun hf => ⟨hf.os, hf.tape, hf.output, hf.size, fun k hk => hf.block k hk (hX k)⟩
  have key : ∀ (σ : St) (μ : Mu) (a : Act) (w : World), Ret ⟨P, plain, Γ, Δ, Φ, fn.ntmps⟩ fn.results.toList r σ → Sim ((fun _ => none), (fun _ => none), c.w0) ⟨P, plain, Γ, Δ, Φ, fn.ntmps⟩ c σ μ a w →
      a.defers = [] ∧ ∃ v, (results fn a.tmps).run c.P w = .ok v w ∧ ∃ x, (Ending.returned v : Ending) = .returned x ∧ Below c.w0.heap.size c.w0 w ∧ Res c w r x := by
    rintro σ μ a w ⟨v, hv, hh⟩ S
    obtain ⟨x, h1, h2⟩ := results_sound S hc hv
    exact ⟨S.df, x, h1, x, rfl, hbel S.hs.fr, handed_sound S.hs h2 hh⟩
  have hw := awp_sound hE' hc hΦ code (Q' := bodyPost c.P fn (fun e w' => ∃ x, e = .returned x ∧ Below c.w0.heap.size c.w0 w' ∧ Res c w' r x)) hok hk S0 (fun e σ μ a w hq S => by
    cases e with
    | normal => exact key σ μ a w hq S
    | ret => exact key σ μ a w hq S
    | _ => exact hq.elim)
  have := calls_of_wp hf hb hw
  rwa [hc] at this

/-- The same code, run on what it is handed. -/
def inlQ (E : Env) (rs : List ResultVar) (t : Nat → V) (K : V → St → Prop) : Exit → St → Prop
  | .normal, σ => ∃ v, outV E rs σ = some v ∧ K v ⟨t, σ.h, σ.n⟩
  | .ret, σ => ∃ v, outV E rs σ = some v ∧ K v ⟨t, σ.h, σ.n⟩
  | _, _ => False
def inl (P : Program) (plain : TypeId → Bool) (Γ : FuncId → Option Fspec) (Δ : FuncId → Option Pt) (fn : Func) (code : Code) : Pt := fun Φ args σ K =>
  args.length ≤ fn.ntmps ∧ awp ⟨P, plain, Γ, Δ, Φ, fn.ntmps⟩ code (inlQ ⟨P, plain, Γ, Δ, Φ, fn.ntmps⟩ fn.results.toList σ.t K) ⟨fun i => args.getD i .undef, σ.h, σ.n⟩
theorem inl_sound {P : Program} {plain : TypeId → Bool} {Γ : FuncId → Option Fspec} {Δ : FuncId → Option Pt} (hE : EnvOk ⟨P, plain, Γ, Δ, fun _ => none, 0⟩) {f : FuncId} {fn : Func} {code : Code} {T : Pt} (hf : P.funcs[f]? = some fn) (hb : fn.body = some code) (hok : codeOk fn.ntmps code = true) (hfn : fnOk P f = true)
    (hT : ∀ Φ args t h n K, T Φ args ⟨t, h, n⟩ K → inl P plain Γ Δ fn code Φ args ⟨t, h, n⟩ K) : SoundT P f T := by
  intro c Φ h n μ w args vals t K hc hΦ H hl ha hk
  obtain ⟨hlen, hk⟩ := hT _ _ _ _ _ _ hk
  have hE' : EnvOk ⟨P, plain, Γ, Δ, Φ, fn.ntmps⟩ := ⟨hE.plain, hE.sound, hE.fn, hE.mixed, hE.soundT⟩
  rw [← hc] at hf
  have S0 : Sim (h, μ, w) ⟨P, plain, Γ, Δ, Φ, fn.ntmps⟩ c ⟨fun i => args.getD i .undef, h, n⟩ μ { tmps := vals ++ Array.replicate (fn.ntmps - vals.size) Go.undef, defers := [] } w := by
    refine ⟨H, fun i => ?_, by simp; omega, rfl, Ext.refl _ _ _ _⟩
    by_cases hi : i < args.length
    · have h1 := ha i hi
      have h2 : (vals ++ Array.replicate (fn.ntmps - vals.size) Go.undef).getD i Go.undef = vals.getD i Go.undef := by
        have : i < vals.size := by omega
        simp [Array.getElem?_append_left this]
      simp only
      rw [h2]
      exact h1
    · have h1 : args.getD i .undef = .undef := by simp [List.getD_eq_getElem?_getD, List.getElem?_eq_none (Nat.le_of_not_lt hi)]
      have h2 : (vals ++ Array.replicate (fn.ntmps - vals.size) Go.undef).getD i Go.undef = Go.undef := by
        simp only [Array.getD_eq_getD_getElem?]
        rw [Array.getElem?_append_right (by omega)]
        rw [Array.getElem?_replicate]
        split <;> rfl
      simp only
      rw [h1, h2]
      exact .undef
  have key : ∀ (σ : St) (μ' : Mu) (a : Act) (w' : World), (∃ v, outV ⟨P, plain, Γ, Δ, Φ, fn.ntmps⟩ fn.results.toList σ = some v ∧ K v ⟨t, σ.h, σ.n⟩) → Sim (h, μ, w) ⟨P, plain, Γ, Δ, Φ, fn.ntmps⟩ c σ μ' a w' →
      a.defers = [] ∧ ∃ v, (results fn a.tmps).run c.P w' = .ok v w' ∧ ∃ x, (Ending.returned v : Ending) = .returned x ∧ ∃ v h' n' μ', K v ⟨t, h', n'⟩ ∧ HS c h' n' μ' w' ∧ Ext c h μ w h' μ' w' ∧ R c h' μ' w' v x := by
    rintro σ μ' a w' ⟨v, hv, hK⟩ S
    obtain ⟨x, h1, h2⟩ := results_sound S hc hv
    exact ⟨S.df, x, h1, x, rfl, v, σ.h, σ.n, μ', hK, S.hs, S.ex, h2⟩
  have hw := awp_sound hE' hc hΦ code (Q' := bodyPost c.P fn (fun e w' => ∃ x, e = .returned x ∧ ∃ v h' n' μ', K v ⟨t, h', n'⟩ ∧ HS c h' n' μ' w' ∧ Ext c h μ w h' μ' w' ∧ R c h' μ' w' v x)) hok hk S0 (fun e σ μ a w hq S => by
    cases e with
    | normal => exact key σ μ a w hq S
    | ret => exact key σ μ a w hq S
    | _ => exact hq.elim)
  have := calls_of_wp hf hb hw
  rw [hc] at this
  exact .inl ⟨hfn, this⟩
end Go.Proofs.Ytgohmphhgglmbaa.Am

/- Facts on the types of the program, asked of the kernel. -/
set_option maxRecDepth 100000
namespace Go.Proofs.Ytgohmphhgglmbaa
open Go Go.RowKit Am
theorem sz2 : szo Try.prog 2 = some 1 := by kernel_rfl
theorem ag2 : aggo Try.prog 2 = some false := by kernel_rfl
theorem zr2 : zro Try.prog 2 = some (.int .i64 0) := by kernel_rfl
theorem zok2 : zok Try.prog 2 1 = true := by kernel_rfl
theorem ii2 : isIntT Try.prog 2 = true := by kernel_rfl
theorem sz3 : szo Try.prog 3 = some 1 := by kernel_rfl
theorem ag3 : aggo Try.prog 3 = some false := by kernel_rfl
theorem zr3 : zro Try.prog 3 = some (.int .i64 0) := by kernel_rfl
theorem zok3 : zok Try.prog 3 1 = true := by kernel_rfl
theorem ii3 : isIntT Try.prog 3 = true := by kernel_rfl
theorem sz4 : szo Try.prog 4 = some 1 := by kernel_rfl
theorem ag4 : aggo Try.prog 4 = some false := by kernel_rfl
theorem zr4 : zro Try.prog 4 = some (.bool false) := by kernel_rfl
theorem zok4 : zok Try.prog 4 1 = true := by kernel_rfl
theorem bt4 : isBoolT Try.prog 4 = true := by kernel_rfl
theorem sz5 : szo Try.prog 5 = some 1 := by kernel_rfl
theorem ag5 : aggo Try.prog 5 = some false := by kernel_rfl
theorem zr5 : zro Try.prog 5 = some (.int .u8 0) := by kernel_rfl
theorem zok5 : zok Try.prog 5 1 = true := by kernel_rfl
theorem ii5 : isIntT Try.prog 5 = true := by kernel_rfl
theorem sz7 : szo Try.prog 7 = some 4 := by kernel_rfl
theorem ag7 : aggo Try.prog 7 = some true := by kernel_rfl
theorem zr7 : zro Try.prog 7 = some (.agg #[(.int .i64 0), (.int .i64 0), (.bool false), (.int .u8 0)]) := by kernel_rfl
theorem zok7 : zok Try.prog 7 4 = true := by kernel_rfl
theorem fl7_0 : fldo Try.prog 7 0 = some (0, 1, false) := by kernel_rfl
theorem fl7_1 : fldo Try.prog 7 1 = some (1, 1, false) := by kernel_rfl
theorem fl7_2 : fldo Try.prog 7 2 = some (2, 1, false) := by kernel_rfl
theorem fl7_3 : fldo Try.prog 7 3 = some (3, 1, false) := by kernel_rfl
theorem pl7 : plc Try.prog 7 = .fields [(0, 1), (1, 1), (2, 1), (3, 1)] := by kernel_rfl
theorem sz9 : szo Try.prog 9 = some 1 := by kernel_rfl
theorem ag9 : aggo Try.prog 9 = some false := by kernel_rfl
theorem zr9 : zro Try.prog 9 = some (.string ⟨#[]⟩) := by kernel_rfl
theorem zok9 : zok Try.prog 9 1 = true := by kernel_rfl
theorem sq9 : seqo Try.prog 9 = .str := by kernel_rfl
theorem sz12 : szo Try.prog 12 = some 1 := by kernel_rfl
theorem ag12 : aggo Try.prog 12 = some false := by kernel_rfl
theorem zr12 : zro Try.prog 12 = some (.int .u64 0) := by kernel_rfl
theorem zok12 : zok Try.prog 12 1 = true := by kernel_rfl
theorem ii12 : isIntT Try.prog 12 = true := by kernel_rfl
theorem sz13 : szo Try.prog 13 = some 2 := by kernel_rfl
theorem ag13 : aggo Try.prog 13 = some true := by kernel_rfl
theorem zr13 : zro Try.prog 13 = some (.agg #[(.string ⟨#[]⟩), (.int .u64 0)]) := by kernel_rfl
theorem zok13 : zok Try.prog 13 2 = true := by kernel_rfl
theorem fl13_0 : fldo Try.prog 13 0 = some (0, 1, false) := by kernel_rfl
theorem fl13_1 : fldo Try.prog 13 1 = some (1, 1, false) := by kernel_rfl
theorem pl13 : plc Try.prog 13 = .fields [(0, 1), (1, 1)] := by kernel_rfl
theorem sz21 : szo Try.prog 21 = some 1 := by kernel_rfl
theorem ag21 : aggo Try.prog 21 = some false := by kernel_rfl
theorem zr21 : zro Try.prog 21 = some (.int .i32 0) := by kernel_rfl
theorem zok21 : zok Try.prog 21 1 = true := by kernel_rfl
theorem ii21 : isIntT Try.prog 21 = true := by kernel_rfl
theorem sz22 : szo Try.prog 22 = some 1 := by kernel_rfl
theorem ag22 : aggo Try.prog 22 = some false := by kernel_rfl
theorem zr22 : zro Try.prog 22 = some (.slice none 0 0) := by kernel_rfl
theorem zok22 : zok Try.prog 22 1 = true := by kernel_rfl
theorem ist22 : isSliceT Try.prog 22 = true := by kernel_rfl
theorem sq22 : seqo Try.prog 22 = .slice 39 4 64 := by kernel_rfl
theorem sz23 : szo Try.prog 23 = some 1 := by kernel_rfl
theorem ag23 : aggo Try.prog 23 = some false := by kernel_rfl
theorem zr23 : zro Try.prog 23 = some (.slice none 0 0) := by kernel_rfl
theorem zok23 : zok Try.prog 23 1 = true := by kernel_rfl
theorem ist23 : isSliceT Try.prog 23 = true := by kernel_rfl
theorem sq23 : seqo Try.prog 23 = .slice 46 18 232 := by kernel_rfl
theorem sz30 : szo Try.prog 30 = some 2 := by kernel_rfl
theorem ag30 : aggo Try.prog 30 = some true := by kernel_rfl
theorem zr30 : zro Try.prog 30 = some (.agg #[(.string ⟨#[]⟩), (.int .i64 0)]) := by kernel_rfl
theorem zok30 : zok Try.prog 30 2 = true := by kernel_rfl
theorem fl30_0 : fldo Try.prog 30 0 = some (0, 1, false) := by kernel_rfl
theorem fl30_1 : fldo Try.prog 30 1 = some (1, 1, false) := by kernel_rfl
theorem pl30 : plc Try.prog 30 = .fields [(0, 1), (1, 1)] := by kernel_rfl
theorem sz31 : szo Try.prog 31 = some 2 := by kernel_rfl
theorem ag31 : aggo Try.prog 31 = some true := by kernel_rfl
theorem zr31 : zro Try.prog 31 = some (.agg #[(.string ⟨#[]⟩), (.int .i64 0)]) := by kernel_rfl
theorem zok31 : zok Try.prog 31 2 = true := by kernel_rfl
theorem fl31_0 : fldo Try.prog 31 0 = some (0, 1, false) := by kernel_rfl
theorem fl31_1 : fldo Try.prog 31 1 = some (1, 1, false) := by kernel_rfl
theorem pl31 : plc Try.prog 31 = .fields [(0, 1), (1, 1)] := by kernel_rfl
theorem sz32 : szo Try.prog 32 = some 1 := by kernel_rfl
theorem ag32 : aggo Try.prog 32 = some false := by kernel_rfl
theorem zr32 : zro Try.prog 32 = some (.slice none 0 0) := by kernel_rfl
theorem zok32 : zok Try.prog 32 1 = true := by kernel_rfl
theorem ist32 : isSliceT Try.prog 32 = true := by kernel_rfl
theorem sq32 : seqo Try.prog 32 = .slice 41 4 48 := by kernel_rfl
theorem sz38 : szo Try.prog 38 = some 4 := by kernel_rfl
theorem ag38 : aggo Try.prog 38 = some true := by kernel_rfl
theorem zr38 : zro Try.prog 38 = some (.agg #[(.string ⟨#[]⟩), (.int .i64 0), (.string ⟨#[]⟩), (.slice none 0 0)]) := by kernel_rfl
theorem zok38 : zok Try.prog 38 4 = true := by kernel_rfl
theorem fl38_0 : fldo Try.prog 38 0 = some (0, 2, true) := by kernel_rfl
theorem fl38_1 : fldo Try.prog 38 1 = some (2, 1, false) := by kernel_rfl
theorem fl38_2 : fldo Try.prog 38 2 = some (3, 1, false) := by kernel_rfl
theorem pl38 : plc Try.prog 38 = .fields [(0, 2), (2, 1), (3, 1)] := by kernel_rfl
theorem sz39 : szo Try.prog 39 = some 4 := by kernel_rfl
theorem ag39 : aggo Try.prog 39 = some true := by kernel_rfl
theorem zr39 : zro Try.prog 39 = some (.agg #[(.string ⟨#[]⟩), (.int .i64 0), (.string ⟨#[]⟩), (.slice none 0 0)]) := by kernel_rfl
theorem zok39 : zok Try.prog 39 4 = true := by kernel_rfl
theorem fl39_0 : fldo Try.prog 39 0 = some (0, 2, true) := by kernel_rfl
theorem fl39_1 : fldo Try.prog 39 1 = some (2, 1, false) := by kernel_rfl
theorem fl39_2 : fldo Try.prog 39 2 = some (3, 1, false) := by kernel_rfl
theorem pl39 : plc Try.prog 39 = .fields [(0, 2), (2, 1), (3, 1)] := by kernel_rfl
theorem sz40 : szo Try.prog 40 = some 4 := by kernel_rfl
theorem ag40 : aggo Try.prog 40 = some true := by kernel_rfl
theorem zr40 : zro Try.prog 40 = some (.agg #[(.string ⟨#[]⟩), (.int .i64 0), (.int .i64 0), (.string ⟨#[]⟩)]) := by kernel_rfl
theorem zok40 : zok Try.prog 40 4 = true := by kernel_rfl
theorem fl40_0 : fldo Try.prog 40 0 = some (0, 2, true) := by kernel_rfl
theorem fl40_1 : fldo Try.prog 40 1 = some (2, 1, false) := by kernel_rfl
theorem fl40_2 : fldo Try.prog 40 2 = some (3, 1, false) := by kernel_rfl
theorem pl40 : plc Try.prog 40 = .fields [(0, 2), (2, 1), (3, 1)] := by kernel_rfl
theorem sz41 : szo Try.prog 41 = some 4 := by kernel_rfl
theorem ag41 : aggo Try.prog 41 = some true := by kernel_rfl
theorem zr41 : zro Try.prog 41 = some (.agg #[(.string ⟨#[]⟩), (.int .i64 0), (.int .i64 0), (.string ⟨#[]⟩)]) := by kernel_rfl
theorem zok41 : zok Try.prog 41 4 = true := by kernel_rfl
theorem fl41_0 : fldo Try.prog 41 0 = some (0, 2, true) := by kernel_rfl
theorem fl41_1 : fldo Try.prog 41 1 = some (2, 1, false) := by kernel_rfl
theorem fl41_2 : fldo Try.prog 41 2 = some (3, 1, false) := by kernel_rfl
theorem pl41 : plc Try.prog 41 = .fields [(0, 2), (2, 1), (3, 1)] := by kernel_rfl
theorem sz42 : szo Try.prog 42 = some 1 := by kernel_rfl
theorem ag42 : aggo Try.prog 42 = some false := by kernel_rfl
theorem zr42 : zro Try.prog 42 = some (.slice none 0 0) := by kernel_rfl
theorem zok42 : zok Try.prog 42 1 = true := by kernel_rfl
theorem ist42 : isSliceT Try.prog 42 = true := by kernel_rfl
theorem sq42 : seqo Try.prog 42 = .slice 31 2 24 := by kernel_rfl
theorem sz43 : szo Try.prog 43 = some 3 := by kernel_rfl
theorem ag43 : aggo Try.prog 43 = some true := by kernel_rfl
theorem zr43 : zro Try.prog 43 = some (.agg #[(.bool false), (.string ⟨#[]⟩), (.string ⟨#[]⟩)]) := by kernel_rfl
theorem zok43 : zok Try.prog 43 3 = true := by kernel_rfl
theorem fl43_0 : fldo Try.prog 43 0 = some (0, 1, false) := by kernel_rfl
theorem fl43_1 : fldo Try.prog 43 1 = some (1, 1, false) := by kernel_rfl
theorem fl43_2 : fldo Try.prog 43 2 = some (2, 1, false) := by kernel_rfl
theorem pl43 : plc Try.prog 43 = .fields [(0, 1), (1, 1), (2, 1)] := by kernel_rfl
theorem sz44 : szo Try.prog 44 = some 3 := by kernel_rfl
theorem ag44 : aggo Try.prog 44 = some true := by kernel_rfl
theorem zr44 : zro Try.prog 44 = some (.agg #[(.bool false), (.string ⟨#[]⟩), (.string ⟨#[]⟩)]) := by kernel_rfl
theorem zok44 : zok Try.prog 44 3 = true := by kernel_rfl
theorem fl44_0 : fldo Try.prog 44 0 = some (0, 1, false) := by kernel_rfl
theorem fl44_1 : fldo Try.prog 44 1 = some (1, 1, false) := by kernel_rfl
theorem fl44_2 : fldo Try.prog 44 2 = some (2, 1, false) := by kernel_rfl
theorem pl44 : plc Try.prog 44 = .fields [(0, 1), (1, 1), (2, 1)] := by kernel_rfl
theorem sz45 : szo Try.prog 45 = some 18 := by kernel_rfl
theorem ag45 : aggo Try.prog 45 = some true := by kernel_rfl
theorem zr45 : zro Try.prog 45 = some (.agg #[(.string ⟨#[]⟩), (.int .i64 0), (.int .i64 0), (.int .i64 0), (.slice none 0 0), (.int .i64 0), (.string ⟨#[]⟩), (.int .i64 0), (.string ⟨#[]⟩), (.int .i64 0), (.bool false), (.string ⟨#[]⟩), (.string ⟨#[]⟩), (.string ⟨#[]⟩), (.string ⟨#[]⟩), (.string ⟨#[]⟩), (.int .i64 0), (.string ⟨#[]⟩)]) := by kernel_rfl
theorem zok45 : zok Try.prog 45 18 = true := by kernel_rfl
theorem fl45_0 : fldo Try.prog 45 0 = some (0, 2, true) := by kernel_rfl
theorem fl45_1 : fldo Try.prog 45 1 = some (2, 1, false) := by kernel_rfl
theorem fl45_2 : fldo Try.prog 45 2 = some (3, 1, false) := by kernel_rfl
theorem fl45_3 : fldo Try.prog 45 3 = some (4, 1, false) := by kernel_rfl
theorem fl45_4 : fldo Try.prog 45 4 = some (5, 1, false) := by kernel_rfl
theorem fl45_5 : fldo Try.prog 45 5 = some (6, 2, true) := by kernel_rfl
theorem fl45_6 : fldo Try.prog 45 6 = some (8, 2, true) := by kernel_rfl
theorem fl45_7 : fldo Try.prog 45 7 = some (10, 3, true) := by kernel_rfl
theorem fl45_8 : fldo Try.prog 45 8 = some (13, 1, false) := by kernel_rfl
theorem fl45_9 : fldo Try.prog 45 9 = some (14, 1, false) := by kernel_rfl
theorem fl45_10 : fldo Try.prog 45 10 = some (15, 2, true) := by kernel_rfl
theorem fl45_11 : fldo Try.prog 45 11 = some (17, 1, false) := by kernel_rfl
theorem pl45 : plc Try.prog 45 = .fields [(0, 2), (2, 1), (3, 1), (4, 1), (5, 1), (6, 2), (8, 2), (10, 3), (13, 1), (14, 1), (15, 2), (17, 1)] := by kernel_rfl
theorem sz46 : szo Try.prog 46 = some 18 := by kernel_rfl
theorem ag46 : aggo Try.prog 46 = some true := by kernel_rfl
theorem zr46 : zro Try.prog 46 = some (.agg #[(.string ⟨#[]⟩), (.int .i64 0), (.int .i64 0), (.int .i64 0), (.slice none 0 0), (.int .i64 0), (.string ⟨#[]⟩), (.int .i64 0), (.string ⟨#[]⟩), (.int .i64 0), (.bool false), (.string ⟨#[]⟩), (.string ⟨#[]⟩), (.string ⟨#[]⟩), (.string ⟨#[]⟩), (.string ⟨#[]⟩), (.int .i64 0), (.string ⟨#[]⟩)]) := by kernel_rfl
theorem zok46 : zok Try.prog 46 18 = true := by kernel_rfl
theorem fl46_0 : fldo Try.prog 46 0 = some (0, 2, true) := by kernel_rfl
theorem fl46_1 : fldo Try.prog 46 1 = some (2, 1, false) := by kernel_rfl
theorem fl46_2 : fldo Try.prog 46 2 = some (3, 1, false) := by kernel_rfl
theorem fl46_3 : fldo Try.prog 46 3 = some (4, 1, false) := by kernel_rfl
theorem fl46_4 : fldo Try.prog 46 4 = some (5, 1, false) := by kernel_rfl
theorem fl46_5 : fldo Try.prog 46 5 = some (6, 2, true) := by kernel_rfl
theorem fl46_6 : fldo Try.prog 46 6 = some (8, 2, true) := by kernel_rfl
theorem fl46_7 : fldo Try.prog 46 7 = some (10, 3, true) := by kernel_rfl
theorem fl46_8 : fldo Try.prog 46 8 = some (13, 1, false) := by kernel_rfl
theorem fl46_9 : fldo Try.prog 46 9 = some (14, 1, false) := by kernel_rfl
theorem fl46_10 : fldo Try.prog 46 10 = some (15, 2, true) := by kernel_rfl
theorem fl46_11 : fldo Try.prog 46 11 = some (17, 1, false) := by kernel_rfl
theorem pl46 : plc Try.prog 46 = .fields [(0, 2), (2, 1), (3, 1), (4, 1), (5, 1), (6, 2), (8, 2), (10, 3), (13, 1), (14, 1), (15, 2), (17, 1)] := by kernel_rfl
theorem sz53 : szo Try.prog 53 = some 1 := by kernel_rfl
theorem ag53 : aggo Try.prog 53 = some false := by kernel_rfl
theorem zr53 : zro Try.prog 53 = some (.int .i64 0) := by kernel_rfl
theorem zok53 : zok Try.prog 53 1 = true := by kernel_rfl
theorem ii53 : isIntT Try.prog 53 = true := by kernel_rfl
theorem sz67 : szo Try.prog 67 = some 1 := by kernel_rfl
theorem ag67 : aggo Try.prog 67 = some false := by kernel_rfl
theorem zr67 : zro Try.prog 67 = some (.int .u64 0) := by kernel_rfl
theorem zok67 : zok Try.prog 67 1 = true := by kernel_rfl
theorem ii67 : isIntT Try.prog 67 = true := by kernel_rfl
theorem sz80 : szo Try.prog 80 = some 1 := by kernel_rfl
theorem ag80 : aggo Try.prog 80 = some false := by kernel_rfl
theorem zr80 : zro Try.prog 80 = some (.slice none 0 0) := by kernel_rfl
theorem zok80 : zok Try.prog 80 1 = true := by kernel_rfl
theorem ist80 : isSliceT Try.prog 80 = true := by kernel_rfl
theorem sq80 : seqo Try.prog 80 = .slice 3 1 8 := by kernel_rfl
theorem sz90 : szo Try.prog 90 = some 0 := by kernel_rfl
theorem ag90 : aggo Try.prog 90 = some true := by kernel_rfl
theorem zr90 : zro Try.prog 90 = some (.agg #[]) := by kernel_rfl
theorem zok90 : zok Try.prog 90 0 = true := by kernel_rfl
theorem sz91 : szo Try.prog 91 = some 0 := by kernel_rfl
theorem ag91 : aggo Try.prog 91 = some true := by kernel_rfl
theorem zr91 : zro Try.prog 91 = some (.agg #[]) := by kernel_rfl
theorem zok91 : zok Try.prog 91 0 = true := by kernel_rfl
theorem fl91_0 : fldo Try.prog 91 0 = some (0, 0, true) := by kernel_rfl
theorem pl91 : plc Try.prog 91 = .fields [(0, 0)] := by kernel_rfl
theorem sz94 : szo Try.prog 94 = some 1 := by kernel_rfl
theorem ag94 : aggo Try.prog 94 = some false := by kernel_rfl
theorem zr94 : zro Try.prog 94 = some (.int .u32 0) := by kernel_rfl
theorem zok94 : zok Try.prog 94 1 = true := by kernel_rfl
theorem ii94 : isIntT Try.prog 94 = true := by kernel_rfl
/-  -/
end Go.Proofs.Ytgohmphhgglmbaa

/- An abstract machine over values: steps, one lemma each. -/
set_option linter.unusedVariables false
set_option linter.unusedSimpArgs false
namespace Go.Proofs.Ytgohmphhgglmbaa.Am
open Go Go.RowKit

def isPure : Op → Bool
  | .store .. | .alloc _ | .box .. | .buildSlice .. | .makeSlice .. => false
  | .convert .. => false
  | .binOp _ _ _ (.const (.slice none _ _)) _ => false
  | .call cl => match cl.callee with
    | .builtin .append => false
    | .builtin .copy => false
    | .builtin .clear => false
    | .builtin _ => true
    | _ => false
  | _ => true

theorem isPure_call {cl : Call} (h : isPure (.call cl) = true) : ∃ b, cl.callee = .builtin b ∧ b ≠ .append ∧ b ≠ .copy ∧ b ≠ .clear := by
  simp only [isPure] at h
  split at h
  · cases h
  · cases h
  · cases h
  · rename_i b hb hb2 hb3 hc; exact ⟨b, hc, fun e => by subst e; exact hb rfl, fun e => by subst e; exact hb2 rfl, fun e => by subst e; exact hb3 rfl⟩
  · cases h
/-- The same, with heads that the unifier cannot unfold. -/
structure W (E : Env) (c : Code) (Q : Exit → St → Prop) (σ : St) : Prop where
  out : awp E c Q σ
structure WQ (Q : Exit → St → Prop) (e : Exit) (σ : St) : Prop where
  out : Q e σ
structure WO (E : Env) (ops : Array Oper) (l : List Oper) (Q : Exit → St → Prop) (σ : St) : Prop where
  out : awpOps E ops l (Q .normal) σ
structure WD (E : Env) (ops : Array Oper) (l : List Oper) (Q : Exit → St → Prop) (σ : St) : Prop where
  out : awpD E ops l (Q .normal) σ
structure WA (E : Env) (op : Op) (σ : St) (K : V → St → Prop) : Prop where
  out : aop E op σ K
structure WP (E : Env) (ops : Array Oper) (l : List Oper) (Q : Exit → St → Prop) (d : Option Tmp) (v : V) (σ : St) : Prop where
  out : awpOps E ops l (Q .normal) (putS d v σ)
theorem W_eq (E : Env) (c : Code) (Q : Exit → St → Prop) : W E c Q = awp E c Q := funext fun σ => propext ⟨fun h => h.out, fun h => ⟨h⟩⟩
section
variable {E : Env} {Q : Exit → St → Prop} {K : St → Prop} {σ : St} {t : Nat → V} {h : Hp} {n : Nat} {ops : Array Oper} {o : Oper} {rest : List Oper} {x y : Code} {v : V} {d : Nat}
theorem x_seq (k : W E x (thenQ (W E y Q) Q) σ) : W E (.seq x y) Q σ := ⟨⟨awp E y Q, by have := k.out; rw [W_eq] at this; exact this, fun σ h => ⟨σ, .refl σ, h⟩⟩⟩
/-- What holds between two pieces of code, told once for all ways to it. -/
theorem x_cut (I : St → Prop) (h1 : W E x (thenQ I Q) σ) (h2 : ∀ t h n, I ⟨t, h, n⟩ → W E y Q ⟨t, h, n⟩) : W E (.seq x y) Q σ := ⟨⟨I, h1.out, fun σ hσ => ⟨σ, .refl σ, (h2 σ.t σ.h σ.n hσ).out⟩⟩⟩
/-- .. and a row of one's own is taken as data from there on. -/
theorem x_cutF (k : Nat) (I : St → Prop) (h1 : W E x (thenQ I Q) σ) (h2 : ∀ t h n, I ⟨t, h, n⟩ → ∃ v, expoA h (t k) = some v ∧ ∀ h' : Hp, (∀ b, (touchA h (t k)).contains b = false → h' b = h b) → W E y Q ⟨upd t k v, h', n⟩) : W E (.seq x y) Q σ := by
  refine ⟨⟨I, h1.out, fun σ hσ => ?_⟩⟩
  obtain ⟨v, hv, hk⟩ := h2 σ.t σ.h σ.n hσ
  exact ⟨_, .data k v hv (.refl _), (hk _ fun b hb => by unfold frz; simp only [hb, Bool.false_eq_true, if_false]).out⟩
theorem x_skip (k : WQ Q .normal σ) : W E .skip Q σ := ⟨k.out⟩
theorem x_exit {i : Nat} (k : WQ Q (.exit i) σ) : W E (.exit i) Q σ := ⟨k.out⟩
theorem x_ret (k : WQ Q .ret σ) : W E .ret Q σ := ⟨k.out⟩
theorem x_block {i : Nat} (k : W E x (blockQ i Q) σ) : W E (.block i x) Q σ := ⟨k.out⟩
theorem x_reg {i : Nat} {l : List Oper} (e : ops = List.toArray l) (k : WO E ops l Q σ) : W E (.region i ops false) Q σ := ⟨by subst e; exact k.out⟩
theorem x_regD {i : Nat} {l : List Oper} (e : ops = List.toArray l) (k : WD E ops l Q σ) : W E (.region i ops true) Q σ := ⟨by subst e; exact k.out⟩
theorem x_nil (k : WQ Q .normal σ) : WO E ops [] Q σ := ⟨k.out⟩
theorem x_nilD (k : WQ Q .normal σ) : WD E ops [] Q σ := ⟨k.out⟩
theorem x_thenN (k : K σ) : WQ (thenQ K Q) .normal σ := ⟨k⟩
theorem x_thenE {i : Nat} (k : WQ Q (.exit i) σ) : WQ (thenQ K Q) (.exit i) σ := ⟨k.out⟩
theorem x_thenR (k : WQ Q .ret σ) : WQ (thenQ K Q) .ret σ := ⟨k.out⟩
theorem x_blkN {i : Nat} (k : WQ Q .normal σ) : WQ (blockQ i Q) .normal σ := ⟨k.out⟩
theorem x_blkR {i : Nat} (k : WQ Q .ret σ) : WQ (blockQ i Q) .ret σ := ⟨k.out⟩
theorem x_blkE {i : Nat} (k : WQ Q .normal σ) : WQ (blockQ i Q) (.exit i) σ := ⟨by simpa [blockQ] using k.out⟩
theorem x_blkF {i j : Nat} (e : (j == i) = false) (k : WQ Q (.exit j) σ) : WQ (blockQ i Q) (.exit j) σ := by
  have : j ≠ i := by simpa using e
  exact ⟨by simpa [blockQ, this] using k.out⟩
theorem x_cond {b : Operand} {c : Bool} (e : ev t b = .s (.bool c)) (k1 : c = true → W E x Q ⟨t, h, n⟩) (k2 : c = false → W E y Q ⟨t, h, n⟩) : W E (.cond b x y) Q ⟨t, h, n⟩ := by
  refine ⟨?_⟩
  unfold awp; simp only [e]; exact ⟨fun e => (k1 e).out, fun e => (k2 e).out⟩
theorem x_isC {b : Operand} (k : W E (.cond b x y) Q ⟨t, h, n⟩) : W E (.cond b x y) Q ⟨t, h, n⟩ := k
theorem x_condT {b : Operand} (e : ev t b = .s (.bool true)) (k1 : W E x Q ⟨t, h, n⟩) : W E (.cond b x y) Q ⟨t, h, n⟩ := x_cond e (fun _ => k1) (fun e => by cases e)
theorem x_condF {b : Operand} (e : ev t b = .s (.bool false)) (k1 : W E y Q ⟨t, h, n⟩) : W E (.cond b x y) Q ⟨t, h, n⟩ := x_cond e (fun e => by cases e) (fun _ => k1)
theorem x_condP {b : Operand} {p : Prop} {_ : Decidable p} (e : ev t b = .s (.bool (decide p))) (k1 : p → W E x Q ⟨t, h, n⟩) (k2 : ¬ p → W E y Q ⟨t, h, n⟩) : W E (.cond b x y) Q ⟨t, h, n⟩ :=
  x_cond e (fun e => k1 (by simpa using e)) (fun e => k2 (by simpa using e))
theorem x_loop (I : St → Prop) (m : St → Nat) (h0 : I σ) (hs : ∀ t h n, I ⟨t, h, n⟩ → W E x (thenQ (fun σ' => I σ' ∧ m σ' < m ⟨t, h, n⟩) Q) ⟨t, h, n⟩) : W E (.loop x) Q σ := ⟨⟨I, m, σ, .refl _, h0, fun σ hσ => (hs σ.t σ.h σ.n hσ).out⟩⟩
theorem x_loopG {h' : Hp} (k z : Nat) (I : St → Prop) (m : St → Nat) (hk : t k = .cap0) (h0 : I ⟨upd t k (.loc n 0 0 0), upd h' n (some ⟨z, [], true⟩), n + 1⟩) (hs : ∀ t h n, I ⟨t, h, n⟩ → W E x (thenQ (fun σ' => I σ' ∧ m σ' < m ⟨t, h, n⟩) Q) ⟨t, h, n⟩) : W E (.loop x) Q ⟨t, h', n⟩ :=
  ⟨⟨I, m, _, .step k z hk (.refl _), h0, fun σ hσ => (hs σ.t σ.h σ.n hσ).out⟩⟩
theorem x_loopG2 {h' : Hp} (k z k2 z2 : Nat) (I : St → Prop) (m : St → Nat) (hk : t k = .cap0) (hne : k ≠ k2) (h2 : t k2 = .cap0) (h0 : I ⟨upd (upd t k (.loc n 0 0 0)) k2 (.loc (n + 1) 0 0 0), upd (upd h' n (some ⟨z, [], true⟩)) (n + 1) (some ⟨z2, [], true⟩), n + 1 + 1⟩) (hs : ∀ t h n, I ⟨t, h, n⟩ → W E x (thenQ (fun σ' => I σ' ∧ m σ' < m ⟨t, h, n⟩) Q) ⟨t, h, n⟩) : W E (.loop x) Q ⟨t, h', n⟩ :=
  ⟨⟨I, m, _, .step k z hk (.step k2 z2 (by simp only []; rw [upd_ne _ _ _ _ (Ne.symm hne)]; exact h2) (.refl _)), h0, fun σ hσ => (hs σ.t σ.h σ.n hσ).out⟩⟩
theorem aop_pure {op : Op} (hp : isPure op = true) {K : V → St → Prop} (hv : pval E.P E.plain h (ev t) op = some v) (k : K v ⟨t, h, n⟩) : aop E op ⟨t, h, n⟩ K := by
  unfold aop
  split <;> first | exact ⟨_, hv, k⟩ | (simp [isPure] at hp; done) | skip
  rename_i cl
  obtain ⟨b, h1, h2, h3, h4⟩ := isPure_call hp
  unfold acl
  rw [h1]
  cases b <;> first | exact (h2 rfl).elim | exact (h3 rfl).elim | exact (h4 rfl).elim | exact ⟨_, hv, k⟩
theorem x_ops (k : WO E ops (o :: rest) Q ⟨t, h, n⟩) : WO E ops (o :: rest) Q ⟨t, h, n⟩ := k
theorem x_opsD (k : WD E ops (o :: rest) Q ⟨t, h, n⟩) : WD E ops (o :: rest) Q ⟨t, h, n⟩ := k
theorem x_op (hg : o.guard = none) (hd : o.dst = some d) (hp : isPure o.op = true) (hv : pval E.P E.plain h (ev t) o.op = some v) (k : WO E ops rest Q ⟨upd t d v, h, n⟩) : WO E ops (o :: rest) Q ⟨t, h, n⟩ := by
  refine ⟨?_⟩
  unfold awpOps gd
  simp only [hg]
  exact aop_pure hp hv (by simpa [putS, hd] using k.out)
/-- An operation that turns memory. -/
theorem x_eff (hg : o.guard = none) (k : WA E o.op ⟨t, h, n⟩ fun v σ' => WP E ops rest Q o.dst v σ') : WO E ops (o :: rest) Q ⟨t, h, n⟩ := by
  have e : (fun v σ' => WP E ops rest Q o.dst v σ') = fun v σ' => awpOps E ops rest (Q .normal) (putS o.dst v σ') := funext fun v => funext fun σ' => propext ⟨fun h => h.out, fun h => ⟨h⟩⟩
  refine ⟨?_⟩
  unfold awpOps gd
  simp only [hg]
  have := k.out
  rwa [e] at this
theorem x_putS (k : WO E ops rest Q ⟨upd t d v, h, n⟩) : WP E ops rest Q (some d) v ⟨t, h, n⟩ := ⟨k.out⟩
theorem x_putN (k : WO E ops rest Q σ) : WP E ops rest Q none v σ := ⟨k.out⟩
/-- A guarded operation. -/
theorem x_gd {j e : Nat} {want b : Bool} (hg : o.guard = some (j, want)) (hj : (ops[j]?).bind (·.dst) = some e) (hb : t e = .s (.bool b)) (k1 : b = want → WA E o.op ⟨t, h, n⟩ fun v σ' => WP E ops rest Q o.dst v σ') (k2 : b = (!want) → WP E ops rest Q o.dst .undef ⟨t, h, n⟩) : WO E ops (o :: rest) Q ⟨t, h, n⟩ := by
  have e : (fun v σ' => WP E ops rest Q o.dst v σ') = fun v σ' => awpOps E ops rest (Q .normal) (putS o.dst v σ') := funext fun v => funext fun σ' => propext ⟨fun h => h.out, fun h => ⟨h⟩⟩
  refine ⟨?_⟩
  unfold awpOps gd
  simp only [hg, hj, hb]
  exact ⟨fun e1 => by have := (k1 e1).out; rwa [e] at this, fun e => (k2 (by cases b <;> cases want <;> simp_all)).out⟩
theorem x_gdU {j e : Nat} {want : Bool} (hg : o.guard = some (j, want)) (hj : (ops[j]?).bind (·.dst) = some e) (hb : t e = .undef) (k2 : WP E ops rest Q o.dst .undef ⟨t, h, n⟩) : WO E ops (o :: rest) Q ⟨t, h, n⟩ := by
  refine ⟨?_⟩
  unfold awpOps gd
  simp only [hg, hj, hb]
  exact k2.out
theorem wa_pure {op : Op} (hp : isPure op = true) {K : V → St → Prop} (hv : pval E.P E.plain h (ev t) op = some v) (k : K v ⟨t, h, n⟩) : WA E op ⟨t, h, n⟩ K := ⟨aop_pure hp hv k⟩
/-- Open order: a quiet operation. -/
theorem x_opD (hf : quiet ops o = true) (hg : o.guard = none) (hd : o.dst = some d) (hv : qv E o.op (ev t) h v) (k : WD E ops rest Q ⟨upd t d v, h, n⟩) : WD E ops (o :: rest) Q ⟨t, h, n⟩ := by
  refine ⟨?_⟩
  unfold awpD gd
  simp only [hf, hg, if_true]
  exact ⟨v, hv, by simpa [putS, hd] using k.out⟩
theorem x_gdD {j e : Nat} {want b : Bool} (hf : quiet ops o = true) (hg : o.guard = some (j, want)) (hd : o.dst = some d) (hj : (ops[j]?).bind (·.dst) = some e) (hb : t e = .s (.bool b)) (k1 : b = want → ∃ v, qv E o.op (ev t) h v ∧ WD E ops rest Q ⟨upd t d v, h, n⟩) (k2 : b = (!want) → WD E ops rest Q ⟨upd t d .undef, h, n⟩) : WD E ops (o :: rest) Q ⟨t, h, n⟩ := by
  refine ⟨?_⟩
  unfold awpD gd
  simp only [hf, hg, hj, hb, if_true]
  exact ⟨fun e1 => by obtain ⟨v, h1, h2⟩ := k1 e1; exact ⟨v, h1, by simpa [putS, hd] using h2.out⟩, fun e => by have := (k2 (by cases b <;> cases want <;> simp_all)).out; simpa [putS, hd] using this⟩
theorem x_gdDU {j e : Nat} {want : Bool} (hf : quiet ops o = true) (hg : o.guard = some (j, want)) (hd : o.dst = some d) (hj : (ops[j]?).bind (·.dst) = some e) (hb : t e = .undef) (k2 : WD E ops rest Q ⟨upd t d .undef, h, n⟩) : WD E ops (o :: rest) Q ⟨t, h, n⟩ := by
  refine ⟨?_⟩
  unfold awpD gd
  simp only [hf, hg, hj, hb, if_true]
  have := k2.out; simpa [putS, hd] using this
theorem qv_pure {op : Op} (hp : isPure op = true) (hv : pval E.P E.plain h (ev t) op = some v) : qv E op (ev t) h v := by
  unfold qv
  split
  · rename_i cl
    obtain ⟨b, h1, h2, h3, h4⟩ := isPure_call hp
    unfold qcl
    rw [h1]
    cases b <;> first | exact (h2 rfl).elim | exact (h3 rfl).elim | exact (h4 rfl).elim | exact hv
  · exact hv
theorem x_effD (hf : quiet ops o = false) (k : WO E ops (o :: rest) Q σ) : WD E ops (o :: rest) Q σ := by
  refine ⟨?_⟩
  unfold awpD
  simp only [hf, Bool.false_eq_true, if_false]
  exact k.out
/-- A call by its contract. -/
theorem wa_call {cl : Call} {g : FuncId} {caps args ds : List V} {r : V} {F : Fspec} {f : Operand} {K : V → St → Prop} (hf : cl.callee = .value f) (hv : ev t f = .fn g caps) (hΓ : E.Γ g = some F) (ha : cl.args.toList.map (ev t) ++ caps = args) (he : expArgs h 0 args = some ds) (hF : F (phi E h args) ds r) (k : aret args r ⟨t, h, n⟩ K) :
    WA E (.call cl) ⟨t, h, n⟩ K := by
  refine ⟨?_⟩
  unfold aop acl
  simp only [hf, hv]
  right
  unfold acall
  simp only [hΓ, ha, he]
  exact ⟨r, hF, k⟩
theorem frzOf_none {args : List V} (ht : args.flatMap (touchA h) = []) : frzOf h args = h := by
  unfold frzOf
  rw [ht]
  funext b
  simp [frz]
theorem x_callN {cl : Call} {g : FuncId} {caps args ds : List V} {r : V} {F : Fspec} {f : Operand} (hg : o.guard = none) (ho : o.op = .call cl) (hd : o.dst = some d) (hf : cl.callee = .value f) (hv : ev t f = .fn g caps) (hΓ : E.Γ g = some F) (ha : cl.args.toList.map (ev t) ++ caps = args) (he : expArgs h 0 args = some ds) (hF : F (phi E h args) ds r) (hr : noSl r = true) (k : WO E ops rest Q ⟨upd t d r, h, n⟩) : WO E ops (o :: rest) Q ⟨t, h, n⟩ := by
  refine x_eff hg ?_
  rw [ho]
  refine wa_call hf hv hΓ ha he hF ?_
  have hk : WP E ops rest Q o.dst r ⟨t, h, n⟩ := by rw [hd]; exact x_putS k
  unfold aret
  cases r <;> first | (simp only [noSl, Bool.false_eq_true] at hr; done) | (simp only [hr, if_true]; exact hk) | exact hk
theorem x_callS {cl : Call} {g : FuncId} {caps args ds : List V} {r : V} {F : Fspec} {f : Operand} (hg : o.guard = none) (ho : o.op = .call cl) (hd : o.dst = some d) (hf : cl.callee = .value f) (hv : ev t f = .fn g caps) (hΓ : E.Γ g = some F) (ha : cl.args.toList.map (ev t) ++ caps = args) (he : expArgs h 0 args = some ds) (hF : F (phi E h args) ds r) (hr : ∀ z rows, r ≠ .own z rows) (ht : args.flatMap (touchA h) = []) (k : WO E ops rest Q ⟨upd t d r, h, n⟩) : WO E ops (o :: rest) Q ⟨t, h, n⟩ := by
  refine x_eff hg ?_
  rw [ho]
  refine wa_call hf hv hΓ ha he hF ?_
  have hk : WP E ops rest Q o.dst r ⟨t, h, n⟩ := by rw [hd]; exact x_putS k
  unfold aret
  split
  · exact (hr _ _ rfl).elim
  · simp only [frzOf_none ht, ite_self]; exact hk
theorem x_callO {cl : Call} {g : FuncId} {caps args ds : List V} {z : Nat} {rows : List (List V)} {F : Fspec} {f : Operand} (hg : o.guard = none) (ho : o.op = .call cl) (hd : o.dst = some d) (hf : cl.callee = .value f) (hv : ev t f = .fn g caps) (hΓ : E.Γ g = some F) (ha : cl.args.toList.map (ev t) ++ caps = args) (he : expArgs h 0 args = some ds) (hF : F (phi E h args) ds (.own z rows)) (ht : args.flatMap (touchA h) = [])
    (k : ∀ cap, rows.length ≤ cap → WO E ops rest Q ⟨upd t d (.loc n 0 rows.length cap), upd h n (some ⟨z, rows ++ spare z (cap - rows.length), true⟩), n + 1⟩) : WO E ops (o :: rest) Q ⟨t, h, n⟩ := by
  refine x_eff hg ?_
  rw [ho]
  refine wa_call hf hv hΓ ha he hF ?_
  unfold aret
  intro cap hc
  simp only [frzOf_none ht]
  rw [hd]
  exact x_putS (k cap hc)
/-- A call in place. -/
theorem x_callI {cl : Call} {g : FuncId} {caps args : List V} {T : Pt} {f : Operand} (hg : o.guard = none) (ho : o.op = .call cl) (hd : o.dst = some d) (hf : cl.callee = .value f) (hv : ev t f = .fn g caps) (hΔ : E.Δ g = some T) (ha : cl.args.toList.map (ev t) ++ caps = args) (k : T E.Φ args ⟨t, h, n⟩ fun v σ' => WP E ops rest Q (some d) v σ') : WO E ops (o :: rest) Q ⟨t, h, n⟩ := by
  refine x_eff hg ?_
  rw [ho, hd]
  refine ⟨?_⟩
  unfold aop acl
  simp only [hf, hv]
  left
  exact ⟨T, hΔ, by rw [ha]; exact k⟩
/-- A function value that was handed in. -/
theorem x_callV {cl : Call} {i : Nat} {args ds : List V} {S : List V → Value → Prop} {x : Value} {f : Operand} (hg : o.guard = none) (ho : o.op = .call cl) (hd : o.dst = some d) (hf : cl.callee = .value f) (hv : ev t f = .fv i) (hS : E.Φ i = some S) (ha : cl.args.toList.map (ev t) = args) (he : allO (expoA h) args = some ds) (hx : flat x = true) (hF : S ds x) (k : WO E ops rest Q ⟨upd t d (.s x), h, n⟩) : WO E ops (o :: rest) Q ⟨t, h, n⟩ := by
  refine x_eff hg ?_
  rw [ho, hd]
  refine ⟨?_⟩
  unfold aop acl
  simp only [hf, hv]
  unfold afv
  simp only [hS, ha, he]
  exact ⟨x, hx, hF, x_putS k⟩
/-- append to nothing, and to a row of one's own. -/
theorem x_append0 {cl : Call} {s x : Operand} {T U : TypeId} {e z b8 : Nat} {nr : List (List V)} (hg : o.guard = none) (ho : o.op = .call cl) (hd : o.dst = some d) (hf : cl.callee = .builtin .append) (ha : cl.args = #[s, x]) (hT : cl.argTypes = #[T, U]) (hq : seqo E.P T = .slice e z b8) (hz : 0 < z ∧ 0 < b8) (hzk : zok E.P e z = true) (hs : ev t s = .cap0) (hx : srcRows E.P h U (ev t x) = some nr) (hok : okRows z nr) (hb : nr.length * b8 ≤ 140737488355328)
    (k : ∀ cap, nr.length ≤ cap → WO E ops rest Q ⟨upd t d (.loc n 0 nr.length cap), upd h n (some ⟨z, nr ++ spare z (cap - nr.length), true⟩), n + 1⟩) : WO E ops (o :: rest) Q ⟨t, h, n⟩ := by
  refine x_eff hg ?_
  rw [ho, hd]
  refine ⟨?_⟩
  unfold aop acl
  simp only [hf, ha, hT]
  unfold aappend
  simp only [hq, hs]
  exact .inl ⟨hz.1, hz.2, hzk, nr, hx, hok, hb, fun cap hc => x_putS (k cap hc)⟩
theorem x_append {cl : Call} {s x : Operand} {T U : TypeId} {e z b8 b len cap : Nat} {B : Blk} {nr : List (List V)} (hg : o.guard = none) (ho : o.op = .call cl) (hd : o.dst = some d) (hf : cl.callee = .builtin .append) (ha : cl.args = #[s, x]) (hT : cl.argTypes = #[T, U]) (hq : seqo E.P T = .slice e z b8) (hz : 0 < z ∧ 0 < b8) (hzk : zok E.P e z = true) (hs : ev t s = .loc b 0 len cap) (hx : srcRows E.P h U (ev t x) = some nr) (hok : okRows z nr)
    (hB : h b = some B) (hw : B.wr = true) (hBz : B.size = z) (hl : len ≤ cap) (hc : cap ≤ B.rows.length) (hb : (len + nr.length) * b8 ≤ 140737488355328)
    (k : ∀ cap', len + nr.length ≤ cap' → WO E ops rest Q ⟨upd t d (.loc n 0 (len + nr.length) cap'), upd (upd h b none) n (some ⟨z, B.rows.take len ++ nr ++ spare z (cap' - (len + nr.length)), true⟩), n + 1⟩) : WO E ops (o :: rest) Q ⟨t, h, n⟩ := by
  refine x_eff hg ?_
  rw [ho, hd]
  refine ⟨?_⟩
  unfold aop acl
  simp only [hf, ha, hT]
  unfold aappend
  simp only [hq, hs]
  exact .inl ⟨hz.1, hz.2, hzk, nr, hx, hok, B, hB, hw, hBz, hl, hc, hb, .inl fun cap hc => x_putS (k cap hc)⟩
/-- append, where the row's own places are told apart from its room. -/
theorem x_appendO {cl : Call} {s x : Operand} {T U : TypeId} {e z b8 b len cap : Nat} {rows sp : List (List V)} {nr : List (List V)} (hg : o.guard = none) (ho : o.op = .call cl) (hd : o.dst = some d) (hf : cl.callee = .builtin .append) (ha : cl.args = #[s, x]) (hT : cl.argTypes = #[T, U]) (hq : seqo E.P T = .slice e z b8) (hz : 0 < z ∧ 0 < b8) (hzk : zok E.P e z = true) (hs : ev t s = .loc b 0 len cap)
    (hB : h b = some ⟨z, rows ++ sp, true⟩) (hl : rows.length = len) (hc : len ≤ cap) (hc2 : cap ≤ len + sp.length) (hx : srcRows E.P h U (ev t x) = some nr) (hok : okRows z nr) (hb : (len + nr.length) * b8 ≤ 140737488355328)
    (k : ∀ cap', len + nr.length ≤ cap' → WO E ops rest Q ⟨upd t d (.loc n 0 (len + nr.length) cap'), upd (upd h b none) n (some ⟨z, (rows ++ nr) ++ spare z (cap' - (len + nr.length)), true⟩), n + 1⟩) : WO E ops (o :: rest) Q ⟨t, h, n⟩ := by
  refine x_append hg ho hd hf ha hT hq hz hzk hs hx hok hB rfl rfl hc (by simp [hl]; exact hc2) hb fun cap' hcap => ?_
  have : (rows ++ sp).take len = rows := by rw [← hl]; simp
  rw [this]
  exact k cap' hcap
/-- append to a part of a row that has no room: the row itself stays. -/
theorem x_appendN {cl : Call} {s x : Operand} {T U : TypeId} {e z b8 b len cap : Nat} {B : Blk} {nr : List (List V)} (hg : o.guard = none) (ho : o.op = .call cl) (hd : o.dst = some d) (hf : cl.callee = .builtin .append) (ha : cl.args = #[s, x]) (hT : cl.argTypes = #[T, U]) (hq : seqo E.P T = .slice e z b8) (hz : 0 < z ∧ 0 < b8) (hzk : zok E.P e z = true) (hs : ev t s = .loc b 0 len cap)
    (hB : h b = some B) (hw : B.wr = true) (hBz : B.size = z) (hl : len ≤ cap) (hc : cap ≤ B.rows.length) (hx : srcRows E.P h U (ev t x) = some nr) (hok : okRows z nr) (hb : (len + nr.length) * b8 ≤ 140737488355328) (hlt : cap < len + nr.length)
    (k : ∀ cap', len + nr.length ≤ cap' → WO E ops rest Q ⟨upd t d (.loc n 0 (len + nr.length) cap'), upd h n (some ⟨z, B.rows.take len ++ nr ++ spare z (cap' - (len + nr.length)), true⟩), n + 1⟩) : WO E ops (o :: rest) Q ⟨t, h, n⟩ := by
  refine x_eff hg ?_
  rw [ho, hd]
  refine ⟨?_⟩
  unfold aop acl
  simp only [hf, ha, hT]
  unfold aappend
  simp only [hq, hs]
  exact .inl ⟨hz.1, hz.2, hzk, nr, hx, hok, B, hB, hw, hBz, hl, hc, hb, .inr ⟨hlt, fun cap hc => x_putS (k cap hc)⟩⟩
/-- append of a made row to a part of a row that has no room. -/
theorem x_appendZ {cl : Call} {s x : Operand} {T U : TypeId} {e z b8 b len cap m : Nat} {B : Blk} (hg : o.guard = none) (ho : o.op = .call cl) (hd : o.dst = some d) (hf : cl.callee = .builtin .append) (ha : cl.args = #[s, x]) (hT : cl.argTypes = #[T, U]) (hU : isIntT E.P U = true) (hq : seqo E.P T = .slice e z b8) (hz : 0 < z ∧ 0 < b8) (hzk : zok E.P e z = true) (hs : ev t s = .loc b 0 len cap)
    (hm : asN (ev t x) = some m) (hB : h b = some B) (hw : B.wr = true) (hBz : B.size = z) (hl : len ≤ cap) (hc : cap ≤ B.rows.length) (hb : (len + m) * b8 ≤ 140737488355328) (hlt : cap < len + m)
    (k : ∀ cap', len + m ≤ cap' → WO E ops rest Q ⟨upd t d (.loc n 0 (len + m) cap'), upd h n (some ⟨z, B.rows.take len ++ spare z m ++ spare z (cap' - (len + m)), true⟩), n + 1⟩) : WO E ops (o :: rest) Q ⟨t, h, n⟩ := by
  refine x_eff hg ?_
  rw [ho, hd]
  refine ⟨?_⟩
  unfold aop acl
  simp only [hf, ha, hT]
  right
  unfold aappendZ
  simp only [hq, hs, hm]
  exact ⟨hU, hz.1, hz.2, hzk, B, hB, hw, hBz, hl, hc, hb, hlt, fun cap hc => x_putS (k cap hc)⟩
theorem x_copy {cl : Call} {s x : Operand} {T U : TypeId} {e z b8 b off len cap : Nat} {B : Blk} {nr : List (List V)} (hg : o.guard = none) (ho : o.op = .call cl) (hd : o.dst = some d) (hf : cl.callee = .builtin .copy) (ha : cl.args = #[s, x]) (hT : cl.argTypes = #[T, U]) (hq : seqo E.P T = .slice e z b8) (hz : 0 < z) (hs : ev t s = .loc b off len cap) (hx : rowsOf h (ev t x) = some nr)
    (hok : okRows z (nr.take (min nr.length len))) (hB : h b = some B) (hw : B.wr = true) (hBz : B.size = z) (hl : off + len ≤ B.rows.length)
    (k : WO E ops rest Q ⟨upd t d (.s (.int .i64 ((min nr.length len : Nat) : Int))), upd h b (some { B with rows := B.rows.take off ++ nr.take (min nr.length len) ++ B.rows.drop (off + min nr.length len) }), n⟩) : WO E ops (o :: rest) Q ⟨t, h, n⟩ := by
  refine x_eff hg ?_
  rw [ho, hd]
  refine ⟨?_⟩
  unfold aop acl
  simp only [hf, ha, hT]
  unfold acopy
  simp only [hq, hs]
  exact ⟨hz, nr, hx, hok, B, hB, hw, hBz, hl, x_putS k⟩
theorem x_clear {cl : Call} {s : Operand} {T : TypeId} {e z b8 b off len cap : Nat} {B : Blk} {zv : Value} (hg : o.guard = none) (ho : o.op = .call cl) (hd : o.dst = some d) (hf : cl.callee = .builtin .clear) (ha : cl.args = #[s]) (hT : cl.argTypes = #[T]) (hq : seqo E.P T = .slice e z b8) (hz : 0 < z) (hs : ev t s = .loc b off len cap) (hzv : zro E.P e = some zv) (hzs : zv.cells.size = z) (hz1 : (zv.cells.toList.all fun u => u.oneCell') = true)
    (hB : h b = some B) (hw : B.wr = true) (hBz : B.size = z) (hl : off + len ≤ B.rows.length)
    (k : WO E ops rest Q ⟨upd t d (.tup []), upd h b (some { B with rows := B.rows.take off ++ spare z len ++ B.rows.drop (off + len) }), n⟩) : WO E ops (o :: rest) Q ⟨t, h, n⟩ := by
  refine x_eff hg ?_
  rw [ho, hd]
  refine ⟨?_⟩
  unfold aop acl
  simp only [hf, ha, hT]
  unfold aclear
  simp only [hq, hs]
  exact ⟨hz, zv, hzv, hzs, hz1, B, hB, hw, hBz, hl, x_putS k⟩
theorem x_clearN {cl : Call} {s : Operand} {T : TypeId} {e z b8 b off len cap : Nat} {B : Blk} {zv : Value} (hg : o.guard = none) (ho : o.op = .call cl) (hd : o.dst = none) (hf : cl.callee = .builtin .clear) (ha : cl.args = #[s]) (hT : cl.argTypes = #[T]) (hq : seqo E.P T = .slice e z b8) (hz : 0 < z) (hs : ev t s = .loc b off len cap) (hzv : zro E.P e = some zv) (hzs : zv.cells.size = z) (hz1 : (zv.cells.toList.all fun u => u.oneCell') = true)
    (hB : h b = some B) (hw : B.wr = true) (hBz : B.size = z) (hl : off + len ≤ B.rows.length)
    (k : WO E ops rest Q ⟨t, upd h b (some { B with rows := B.rows.take off ++ spare z len ++ B.rows.drop (off + len) }), n⟩) : WO E ops (o :: rest) Q ⟨t, h, n⟩ := by
  refine x_eff hg ?_
  rw [ho, hd]
  refine ⟨?_⟩
  unfold aop acl
  simp only [hf, ha, hT]
  unfold aclear
  simp only [hq, hs]
  exact ⟨hz, zv, hzv, hzs, hz1, B, hB, hw, hBz, hl, x_putN k⟩
theorem EnvOk.add {P : Program} {plain : TypeId → Bool} {Γ : FuncId → Option Fspec} {Δ : FuncId → Option Pt} {Φ : FvSpec} {nt : Nat} (hE : EnvOk ⟨P, plain, Γ, Δ, Φ, nt⟩) {f : FuncId} {F : Fspec} (hs : Sound P f F) (hf : fnOk P f = true) : EnvOk ⟨P, plain, upd Γ f (some F), Δ, Φ, nt⟩ := by
  refine ⟨hE.plain, fun g G hg => ?_, fun g G hg => ?_, hE.mixed, hE.soundT⟩ <;> by_cases e : g = f
  · subst e; simp only [upd_same, Option.some.injEq] at hg; subst hg; exact hs
  · simp only [upd_ne _ _ _ _ e] at hg; exact hE.sound g G hg
  · subst e; exact hf
  · simp only [upd_ne _ _ _ _ e] at hg; exact hE.fn g G hg
theorem EnvOk.addT {P : Program} {plain : TypeId → Bool} {Γ : FuncId → Option Fspec} {Δ : FuncId → Option Pt} {Φ : FvSpec} {nt : Nat} (hE : EnvOk ⟨P, plain, Γ, Δ, Φ, nt⟩) {f : FuncId} {T : Pt} (hs : SoundT P f T) : EnvOk ⟨P, plain, Γ, upd Δ f (some T), Φ, nt⟩ := by
  refine ⟨hE.plain, hE.sound, hE.fn, hE.mixed, fun g G hg => ?_⟩
  by_cases e : g = f
  · subst e; simp only [upd_same, Option.some.injEq] at hg; subst hg; exact hs
  · simp only [upd_ne _ _ _ _ e] at hg; exact hE.soundT g G hg
/-- Guards whose answer is known. -/
theorem x_gT {j e : Nat} {want : Bool} (hg : o.guard = some (j, want)) (hj : (ops[j]?).bind (·.dst) = some e) (hb : t e = .s (.bool want)) (k : WO E ops ({ o with guard := none } :: rest) Q ⟨t, h, n⟩) : WO E ops (o :: rest) Q ⟨t, h, n⟩ := by
  have := k.out
  refine ⟨?_⟩
  unfold awpOps gd at this ⊢
  simp only [hg, hj, hb] at this ⊢
  exact ⟨fun _ => this, fun e => (e rfl).elim⟩
theorem x_gF {j e : Nat} {want : Bool} (hg : o.guard = some (j, want)) (hj : (ops[j]?).bind (·.dst) = some e) (hd : o.dst = some d) (hb : t e = .s (.bool !want)) (k : WO E ops rest Q ⟨upd t d .undef, h, n⟩) : WO E ops (o :: rest) Q ⟨t, h, n⟩ := by
  refine x_gd hg hj hb (fun e => by cases want <;> cases e) (fun _ => ?_)
  rw [hd]; exact x_putS k
theorem x_gU {j e : Nat} {want : Bool} (hg : o.guard = some (j, want)) (hj : (ops[j]?).bind (·.dst) = some e) (hd : o.dst = some d) (hb : t e = .undef) (k : WO E ops rest Q ⟨upd t d .undef, h, n⟩) : WO E ops (o :: rest) Q ⟨t, h, n⟩ := by
  refine x_gdU hg hj hb ?_
  rw [hd]; exact x_putS k
theorem x_gTD {j e : Nat} {want : Bool} (hf : quiet ops o = true) (hg : o.guard = some (j, want)) (hj : (ops[j]?).bind (·.dst) = some e) (hb : t e = .s (.bool want)) (k : WD E ops ({ o with guard := none } :: rest) Q ⟨t, h, n⟩) : WD E ops (o :: rest) Q ⟨t, h, n⟩ := by
  have := k.out
  have hf' : quiet ops { o with guard := none } = true := hf
  refine ⟨?_⟩
  unfold awpD gd at this ⊢
  simp only [hf, hf', hg, hj, hb, if_true] at this ⊢
  exact ⟨fun _ => this, fun e => (e rfl).elim⟩
theorem x_gFD {j e : Nat} {want : Bool} (hf : quiet ops o = true) (hg : o.guard = some (j, want)) (hj : (ops[j]?).bind (·.dst) = some e) (hd : o.dst = some d) (hb : t e = .s (.bool !want)) (k : WD E ops rest Q ⟨upd t d .undef, h, n⟩) : WD E ops (o :: rest) Q ⟨t, h, n⟩ :=
  x_gdD hf hg hd hj hb (fun e => by cases want <;> cases e) (fun _ => k)
theorem x_gUD {j e : Nat} {want : Bool} (hf : quiet ops o = true) (hg : o.guard = some (j, want)) (hj : (ops[j]?).bind (·.dst) = some e) (hd : o.dst = some d) (hb : t e = .undef) (k : WD E ops rest Q ⟨upd t d .undef, h, n⟩) : WD E ops (o :: rest) Q ⟨t, h, n⟩ :=
  x_gdDU hf hg hd hj hb k
theorem x_gTt {j e : Nat} {b : Bool} (hg : o.guard = some (j, true)) (hj : (ops[j]?).bind (·.dst) = some e) (hb : t e = .s (.bool b)) (hb2 : b = true) (k : WO E ops ({ o with guard := none } :: rest) Q ⟨t, h, n⟩) : WO E ops (o :: rest) Q ⟨t, h, n⟩ := x_gT hg hj (by rw [hb, hb2]) k
theorem x_gFt {j e : Nat} {b : Bool} (hg : o.guard = some (j, true)) (hj : (ops[j]?).bind (·.dst) = some e) (hd : o.dst = some d) (hb : t e = .s (.bool b)) (hb2 : b = false) (k : WO E ops rest Q ⟨upd t d .undef, h, n⟩) : WO E ops (o :: rest) Q ⟨t, h, n⟩ := x_gF hg hj hd (by rw [hb, hb2]; rfl) k
theorem x_gTf {j e : Nat} {b : Bool} (hg : o.guard = some (j, false)) (hj : (ops[j]?).bind (·.dst) = some e) (hb : t e = .s (.bool b)) (hb2 : b = false) (k : WO E ops ({ o with guard := none } :: rest) Q ⟨t, h, n⟩) : WO E ops (o :: rest) Q ⟨t, h, n⟩ := x_gT hg hj (by rw [hb, hb2]) k
theorem x_gFf {j e : Nat} {b : Bool} (hg : o.guard = some (j, false)) (hj : (ops[j]?).bind (·.dst) = some e) (hd : o.dst = some d) (hb : t e = .s (.bool b)) (hb2 : b = true) (k : WO E ops rest Q ⟨upd t d .undef, h, n⟩) : WO E ops (o :: rest) Q ⟨t, h, n⟩ := x_gF hg hj hd (by rw [hb, hb2]; rfl) k
theorem x_gU' {j e : Nat} {want : Bool} {v : V} (hg : o.guard = some (j, want)) (hj : (ops[j]?).bind (·.dst) = some e) (hd : o.dst = some d) (hb : t e = v) (hb2 : v = .undef) (k : WO E ops rest Q ⟨upd t d .undef, h, n⟩) : WO E ops (o :: rest) Q ⟨t, h, n⟩ := x_gU hg hj hd (by rw [hb, hb2]) k
theorem x_gTDt {j e : Nat} {b : Bool} (hf : quiet ops o = true) (hg : o.guard = some (j, true)) (hj : (ops[j]?).bind (·.dst) = some e) (hb : t e = .s (.bool b)) (hb2 : b = true) (k : WD E ops ({ o with guard := none } :: rest) Q ⟨t, h, n⟩) : WD E ops (o :: rest) Q ⟨t, h, n⟩ := x_gTD hf hg hj (by rw [hb, hb2]) k
theorem x_gFDt {j e : Nat} {b : Bool} (hf : quiet ops o = true) (hg : o.guard = some (j, true)) (hj : (ops[j]?).bind (·.dst) = some e) (hd : o.dst = some d) (hb : t e = .s (.bool b)) (hb2 : b = false) (k : WD E ops rest Q ⟨upd t d .undef, h, n⟩) : WD E ops (o :: rest) Q ⟨t, h, n⟩ := x_gFD hf hg hj hd (by rw [hb, hb2]; rfl) k
theorem x_gTDf {j e : Nat} {b : Bool} (hf : quiet ops o = true) (hg : o.guard = some (j, false)) (hj : (ops[j]?).bind (·.dst) = some e) (hb : t e = .s (.bool b)) (hb2 : b = false) (k : WD E ops ({ o with guard := none } :: rest) Q ⟨t, h, n⟩) : WD E ops (o :: rest) Q ⟨t, h, n⟩ := x_gTD hf hg hj (by rw [hb, hb2]) k
theorem x_gFDf {j e : Nat} {b : Bool} (hf : quiet ops o = true) (hg : o.guard = some (j, false)) (hj : (ops[j]?).bind (·.dst) = some e) (hd : o.dst = some d) (hb : t e = .s (.bool b)) (hb2 : b = true) (k : WD E ops rest Q ⟨upd t d .undef, h, n⟩) : WD E ops (o :: rest) Q ⟨t, h, n⟩ := x_gFD hf hg hj hd (by rw [hb, hb2]; rfl) k
theorem x_gUD' {j e : Nat} {want : Bool} {v : V} (hf : quiet ops o = true) (hg : o.guard = some (j, want)) (hj : (ops[j]?).bind (·.dst) = some e) (hd : o.dst = some d) (hb : t e = v) (hb2 : v = .undef) (k : WD E ops rest Q ⟨upd t d .undef, h, n⟩) : WD E ops (o :: rest) Q ⟨t, h, n⟩ := x_gUD hf hg hj hd (by rw [hb, hb2]) k
theorem x_condT' {b : Operand} {c : Bool} (e : ev t b = .s (.bool c)) (ec : c = true) (k1 : W E x Q ⟨t, h, n⟩) : W E (.cond b x y) Q ⟨t, h, n⟩ := x_condT (by rw [e, ec]) k1
theorem x_condF' {b : Operand} {c : Bool} (e : ev t b = .s (.bool c)) (ec : c = false) (k1 : W E y Q ⟨t, h, n⟩) : W E (.cond b x y) Q ⟨t, h, n⟩ := x_condF (by rw [e, ec]) k1
theorem x_isGt {j : Nat} (hg : o.guard = some (j, true)) (k : WO E ops (o :: rest) Q ⟨t, h, n⟩) : WO E ops (o :: rest) Q ⟨t, h, n⟩ := k
theorem x_isGf {j : Nat} (hg : o.guard = some (j, false)) (k : WO E ops (o :: rest) Q ⟨t, h, n⟩) : WO E ops (o :: rest) Q ⟨t, h, n⟩ := k
theorem x_isGtD {j : Nat} (hg : o.guard = some (j, true)) (k : WD E ops (o :: rest) Q ⟨t, h, n⟩) : WD E ops (o :: rest) Q ⟨t, h, n⟩ := k
theorem x_isGfD {j : Nat} (hg : o.guard = some (j, false)) (k : WD E ops (o :: rest) Q ⟨t, h, n⟩) : WD E ops (o :: rest) Q ⟨t, h, n⟩ := k
theorem x_isBox {T : TypeId} {x : Operand} (hg : o.op = .box T x) (k : WO E ops (o :: rest) Q ⟨t, h, n⟩) : WO E ops (o :: rest) Q ⟨t, h, n⟩ := k
theorem x_isAlloc {T : TypeId} (hg : o.op = .alloc T) (k : WO E ops (o :: rest) Q ⟨t, h, n⟩) : WO E ops (o :: rest) Q ⟨t, h, n⟩ := k
theorem x_isStore {T : TypeId} {a x : Operand} (hg : o.op = .store T a x) (k : WO E ops (o :: rest) Q ⟨t, h, n⟩) : WO E ops (o :: rest) Q ⟨t, h, n⟩ := k
theorem x_isBs {T : TypeId} {l : Nat} {ps : Array (Nat × Operand)} (hg : o.op = .buildSlice T l ps) (k : WO E ops (o :: rest) Q ⟨t, h, n⟩) : WO E ops (o :: rest) Q ⟨t, h, n⟩ := k
theorem x_isConv {T U : TypeId} {x : Operand} (hg : o.op = .convert T U x) (k : WO E ops (o :: rest) Q ⟨t, h, n⟩) : WO E ops (o :: rest) Q ⟨t, h, n⟩ := k
theorem x_conv {T U : TypeId} {x : Operand} (ho : o.op = .convert T U x) (hg : o.guard = none) (hd : o.dst = some d) {b : Bool} (hB : toB E.P T U = b) (hb : b = false) (hv : pval E.P E.plain h (ev t) (.convert T U x) = some v) (k : WO E ops rest Q ⟨upd t d v, h, n⟩) : WO E ops (o :: rest) Q ⟨t, h, n⟩ := by
  subst hb
  refine x_eff hg ⟨?_⟩
  rw [ho, hd]
  unfold aop
  simp only [hB, Bool.false_eq_true, if_false]
  exact ⟨v, hv, x_putS k⟩
theorem x_isConvD {T U : TypeId} {x : Operand} (hg : o.op = .convert T U x) (k : WD E ops (o :: rest) Q ⟨t, h, n⟩) : WD E ops (o :: rest) Q ⟨t, h, n⟩ := k
theorem x_convD {T U : TypeId} {x : Operand} (ho : o.op = .convert T U x) (hg : o.guard = none) (hd : o.dst = some d) (hv : pval E.P E.plain h (ev t) (.convert T U x) = some v) (k : WD E ops rest Q ⟨upd t d v, h, n⟩) : WD E ops (o :: rest) Q ⟨t, h, n⟩ :=
  x_opD (by simp [quiet, ho, eff]) hg hd (by rw [ho]; exact hv) k
/-- A guard whose answer isn't known: both ways. -/
theorem x_gB {j e : Nat} {want b : Bool} (hg : o.guard = some (j, want)) (hj : (ops[j]?).bind (·.dst) = some e) (hb : t e = .s (.bool b)) (k1 : b = true → WO E ops (o :: rest) Q ⟨t, h, n⟩) (k2 : b = false → WO E ops (o :: rest) Q ⟨t, h, n⟩) : WO E ops (o :: rest) Q ⟨t, h, n⟩ := by
  cases b
  · exact k2 rfl
  · exact k1 rfl
theorem x_gBD {j e : Nat} {want b : Bool} (hg : o.guard = some (j, want)) (hj : (ops[j]?).bind (·.dst) = some e) (hb : t e = .s (.bool b)) (k1 : b = true → WD E ops (o :: rest) Q ⟨t, h, n⟩) (k2 : b = false → WD E ops (o :: rest) Q ⟨t, h, n⟩) : WD E ops (o :: rest) Q ⟨t, h, n⟩ := by
  cases b
  · exact k2 rfl
  · exact k1 rfl
theorem x_gP {j e : Nat} {want : Bool} {p : Prop} {_ : Decidable p} (hg : o.guard = some (j, want)) (hj : (ops[j]?).bind (·.dst) = some e) (hb : t e = .s (.bool (decide p))) (k1 : p → WO E ops (o :: rest) Q ⟨t, h, n⟩) (k2 : ¬ p → WO E ops (o :: rest) Q ⟨t, h, n⟩) : WO E ops (o :: rest) Q ⟨t, h, n⟩ :=
  x_gB hg hj hb (fun e => k1 (by simpa using e)) (fun e => k2 (by simpa using e))
theorem x_gPD {j e : Nat} {want : Bool} {p : Prop} {_ : Decidable p} (hg : o.guard = some (j, want)) (hj : (ops[j]?).bind (·.dst) = some e) (hb : t e = .s (.bool (decide p))) (k1 : p → WD E ops (o :: rest) Q ⟨t, h, n⟩) (k2 : ¬ p → WD E ops (o :: rest) Q ⟨t, h, n⟩) : WD E ops (o :: rest) Q ⟨t, h, n⟩ :=
  x_gBD hg hj hb (fun e => k1 (by simpa using e)) (fun e => k2 (by simpa using e))
/-- Branches on '==' and '!=' of numbers: what omega can use, beside the Bool. -/
theorem x_condI {b : Operand} {p q : Int} (e : ev t b = .s (.bool (p == q))) (k1 : (p == q) = true → p ≤ q ∧ q ≤ p → W E x Q ⟨t, h, n⟩) (k2 : (p == q) = false → p < q ∨ q < p → W E y Q ⟨t, h, n⟩) : W E (.cond b x y) Q ⟨t, h, n⟩ :=
  x_cond e (fun e => k1 e (by have : p = q := by simpa using e
                              omega)) (fun e => k2 e (by have : p ≠ q := by simpa using e
                                                         omega))
theorem x_condJ {b : Operand} {p q : Int} (e : ev t b = .s (.bool (p != q))) (k1 : (p == q) = false → p < q ∨ q < p → W E x Q ⟨t, h, n⟩) (k2 : (p == q) = true → p ≤ q ∧ q ≤ p → W E y Q ⟨t, h, n⟩) : W E (.cond b x y) Q ⟨t, h, n⟩ :=
  x_cond e (fun e => k1 (by simpa using e) (by have : p ≠ q := by simpa using e
                                               omega)) (fun e => k2 (by simpa using e) (by have : p = q := by simpa using e
                                                                                           omega))
theorem x_condN {b : Operand} {c : Bool} (e : ev t b = .s (.bool !c)) (k1 : c = false → W E x Q ⟨t, h, n⟩) (k2 : c = true → W E y Q ⟨t, h, n⟩) : W E (.cond b x y) Q ⟨t, h, n⟩ :=
  x_cond e (fun e => k1 (by simpa using e)) (fun e => k2 (by simpa using e))
theorem x_condNP {b : Operand} {p : Prop} {_ : Decidable p} (e : ev t b = .s (.bool !(decide p))) (k1 : ¬ p → W E x Q ⟨t, h, n⟩) (k2 : p → W E y Q ⟨t, h, n⟩) : W E (.cond b x y) Q ⟨t, h, n⟩ :=
  x_cond e (fun e => k1 (by simpa using e)) (fun e => k2 (by simpa using e))
theorem ko_gI {G : Prop} {p q : Int} {b : Bool} (e : b = (p == q)) (k1 : (p == q) = true → p ≤ q ∧ q ≤ p → G) (k2 : (p == q) = false → p < q ∨ q < p → G) : G := by
  cases h : (p == q)
  · exact k2 h (by have : p ≠ q := by simpa using h
                   omega)
  · exact k1 h (by have : p = q := by simpa using h
                   omega)
theorem x_gI {j e : Nat} {want : Bool} {p q : Int} (hg : o.guard = some (j, want)) (hj : (ops[j]?).bind (·.dst) = some e) (hb : t e = .s (.bool (p == q))) (k1 : (p == q) = true → p ≤ q ∧ q ≤ p → WO E ops (o :: rest) Q ⟨t, h, n⟩) (k2 : (p == q) = false → p < q ∨ q < p → WO E ops (o :: rest) Q ⟨t, h, n⟩) : WO E ops (o :: rest) Q ⟨t, h, n⟩ := ko_gI rfl k1 k2
theorem x_gJ {j e : Nat} {want : Bool} {p q : Int} (hg : o.guard = some (j, want)) (hj : (ops[j]?).bind (·.dst) = some e) (hb : t e = .s (.bool (p != q))) (k1 : (p == q) = true → p ≤ q ∧ q ≤ p → WO E ops (o :: rest) Q ⟨t, h, n⟩) (k2 : (p == q) = false → p < q ∨ q < p → WO E ops (o :: rest) Q ⟨t, h, n⟩) : WO E ops (o :: rest) Q ⟨t, h, n⟩ := ko_gI rfl k1 k2
theorem x_gN {j e : Nat} {want : Bool} {c : Bool} (hg : o.guard = some (j, want)) (hj : (ops[j]?).bind (·.dst) = some e) (hb : t e = .s (.bool !c)) (k1 : c = true → WO E ops (o :: rest) Q ⟨t, h, n⟩) (k2 : c = false → WO E ops (o :: rest) Q ⟨t, h, n⟩) : WO E ops (o :: rest) Q ⟨t, h, n⟩ := by
  cases c
  · exact k2 rfl
  · exact k1 rfl
theorem x_gNP {j e : Nat} {want : Bool} {p : Prop} {_ : Decidable p} (hg : o.guard = some (j, want)) (hj : (ops[j]?).bind (·.dst) = some e) (hb : t e = .s (.bool !(decide p))) (k1 : p → WO E ops (o :: rest) Q ⟨t, h, n⟩) (k2 : ¬ p → WO E ops (o :: rest) Q ⟨t, h, n⟩) : WO E ops (o :: rest) Q ⟨t, h, n⟩ := by
  by_cases hp : p
  · exact k1 hp
  · exact k2 hp
theorem x_gID {j e : Nat} {want : Bool} {p q : Int} (hg : o.guard = some (j, want)) (hj : (ops[j]?).bind (·.dst) = some e) (hb : t e = .s (.bool (p == q))) (k1 : (p == q) = true → p ≤ q ∧ q ≤ p → WD E ops (o :: rest) Q ⟨t, h, n⟩) (k2 : (p == q) = false → p < q ∨ q < p → WD E ops (o :: rest) Q ⟨t, h, n⟩) : WD E ops (o :: rest) Q ⟨t, h, n⟩ := ko_gI rfl k1 k2
theorem x_gJD {j e : Nat} {want : Bool} {p q : Int} (hg : o.guard = some (j, want)) (hj : (ops[j]?).bind (·.dst) = some e) (hb : t e = .s (.bool (p != q))) (k1 : (p == q) = true → p ≤ q ∧ q ≤ p → WD E ops (o :: rest) Q ⟨t, h, n⟩) (k2 : (p == q) = false → p < q ∨ q < p → WD E ops (o :: rest) Q ⟨t, h, n⟩) : WD E ops (o :: rest) Q ⟨t, h, n⟩ := ko_gI rfl k1 k2
theorem x_gND {j e : Nat} {want : Bool} {c : Bool} (hg : o.guard = some (j, want)) (hj : (ops[j]?).bind (·.dst) = some e) (hb : t e = .s (.bool !c)) (k1 : c = true → WD E ops (o :: rest) Q ⟨t, h, n⟩) (k2 : c = false → WD E ops (o :: rest) Q ⟨t, h, n⟩) : WD E ops (o :: rest) Q ⟨t, h, n⟩ := by
  cases c
  · exact k2 rfl
  · exact k1 rfl
theorem x_gNPD {j e : Nat} {want : Bool} {p : Prop} {_ : Decidable p} (hg : o.guard = some (j, want)) (hj : (ops[j]?).bind (·.dst) = some e) (hb : t e = .s (.bool !(decide p))) (k1 : p → WD E ops (o :: rest) Q ⟨t, h, n⟩) (k2 : ¬ p → WD E ops (o :: rest) Q ⟨t, h, n⟩) : WD E ops (o :: rest) Q ⟨t, h, n⟩ := by
  by_cases hp : p
  · exact k1 hp
  · exact k2 hp
/-- Memory. -/
theorem x_box {T : TypeId} {x : Operand} {cs : List V} (ho : o.op = .box T x) (hg : o.guard = none) (hd : o.dst = some d) (hx : cellsV (ev t x) = some cs) (k : WO E ops rest Q ⟨upd t d (.ptr n 0 0), upd h n (some ⟨cs.length, [cs], true⟩), n + 1⟩) : WO E ops (o :: rest) Q ⟨t, h, n⟩ := by
  refine x_eff hg ⟨?_⟩
  rw [ho, hd]
  unfold aop abox
  simp only [hx]
  exact x_putS k
theorem x_alloc {T : TypeId} {z : Value} {cs : List V} (ho : o.op = .alloc T) (hg : o.guard = none) (hd : o.dst = some d) (hx : zro E.P T = some z) (hc : cellsZ z = cs) (k : WO E ops rest Q ⟨upd t d (.ptr n 0 0), upd h n (some ⟨cs.length, [cs], true⟩), n + 1⟩) : WO E ops (o :: rest) Q ⟨t, h, n⟩ := by
  subst hc
  refine x_eff hg ⟨?_⟩
  rw [ho, hd]
  unfold aop aalloc
  simp only [hx]
  exact x_putS k
theorem x_store {T : TypeId} {a x : Operand} {b r c z : Nat} {cs : List V} {B : Blk} (ho : o.op = .store T a x) (hg : o.guard = none) (hd : o.dst = none) (ha : ev t a = .ptr b r c) (hx : cellsV (ev t x) = some cs) (hz : szo E.P T = some z) (hB : h b = some B) (hw : B.wr = true) (hl : cs.length = z) (hce : ∀ q ∈ cs, cellish q = true) (hr : r < B.rows.length) (hc : c + z ≤ B.size)
    {B' : Blk} (hB' : (⟨B.size, B.rows.set r (setAt (B.rows.getD r []) c cs), B.wr⟩ : Blk) = B') (k : WO E ops rest Q ⟨t, upd h b (some B'), n⟩) : WO E ops (o :: rest) Q ⟨t, h, n⟩ := by
  subst hB'
  refine x_eff hg ⟨?_⟩
  rw [ho, hd]
  unfold aop astore
  simp only [ha, hx, hz]
  exact ⟨B, hB, hw, hl, hce, hr, hc, x_putN k⟩
theorem x_bslice {T el z b8 : TypeId} {len : Nat} {parts : Array (Nat × Operand)} {zv : Value} {cs : List V} {rows : List (List V)} (ho : o.op = .buildSlice T len parts) (hg : o.guard = none) (hd : o.dst = some d) (hq : seqo E.P T = .slice el z b8) (hzv : zro E.P el = some zv)
    (hf : afill (fun i => some (i * z, z)) (repCells (cellsZ zv) len) (parts.toList.map fun q => (q.1, ev t q.2)) = some cs) (hs : len * z ≤ 16777216 ∧ 0 < z ∧ (cellsZ zv).length = z) (hr : chunks z len cs = rows) (k : WO E ops rest Q ⟨upd t d (.loc n 0 len len), upd h n (some ⟨z, rows, true⟩), n + 1⟩) : WO E ops (o :: rest) Q ⟨t, h, n⟩ := by
  subst hr
  refine x_eff hg ⟨?_⟩
  rw [ho, hd]
  unfold aop abuildSlice
  simp only [hq, hzv, hf]
  exact ⟨hs.1, hs.2.1, hs.2.2, x_putS k⟩
theorem x_mslice {T el z b8 : TypeId} {l c : Operand} {m m' : Nat} {zv : Value} (ho : o.op = .makeSlice T l c) (hg : o.guard = none) (hd : o.dst = some d) (hq : seqo E.P T = .slice el z b8) (hzv : zro E.P el = some zv) (hl : asN (ev t l) = some m) (hc : asN (ev t c) = some m') (hs : m ≤ m' ∧ m' * b8 ≤ 281474976710656 ∧ m' ≤ 281474976710656 ∧ (cellsZ zv).length = z)
    (k : WO E ops rest Q ⟨upd t d (.loc n 0 m m'), upd h n (some ⟨z, List.replicate m' (cellsZ zv), true⟩), n + 1⟩) : WO E ops (o :: rest) Q ⟨t, h, n⟩ := by
  refine x_eff hg ⟨?_⟩
  rw [ho, hd]
  unfold aop amakeSlice
  simp only [hq, hzv, hl, hc]
  exact ⟨hs.1, hs.2.1, hs.2.2.1, hs.2.2.2, x_putS k⟩
theorem x_nilEq {T p : TypeId} {x : Operand} {q r m : Nat} (ho : o.op = .binOp .eql T x (.const (.slice none q r)) p) (hg : o.guard = none) (hd : o.dst = some d) (hT : isSliceT E.P T = true) (hm : slLen (ev t x) = some m) (k : ∀ b : Bool, (0 < m → b = false) → WO E ops rest Q ⟨upd t d (.s (.bool b)), h, n⟩) : WO E ops (o :: rest) Q ⟨t, h, n⟩ := by
  refine x_eff hg ⟨?_⟩
  rw [ho, hd]
  unfold aop
  exact ⟨hT, m, hm, fun b hb => x_putS (k b hb)⟩
/-- A quiet call. -/
theorem x_callD {cl : Call} {g : FuncId} {caps args ds : List V} {r : V} {F : Fspec} {f : Operand} (hf : quiet ops o = true) (hg : o.guard = none) (ho : o.op = .call cl) (hd : o.dst = some d) (hcl : cl.callee = .value f) (hv : ev t f = .fn g caps) (hΓ : E.Γ g = some F) (ha : cl.args.toList.map (ev t) ++ caps = args) (he : expArgs h 0 args = some ds) (hF : F (phi E h args) ds r) (hr : noSl r = true) (k : WD E ops rest Q ⟨upd t d r, h, n⟩) : WD E ops (o :: rest) Q ⟨t, h, n⟩ := by
  refine x_opD hf hg hd ?_ k
  rw [ho]
  unfold qv qcl
  simp only [hcl, hv]
  unfold qcall
  simp only [hΓ, ha, he]
  exact ⟨r, hF, .inl ⟨hr, rfl⟩⟩
theorem x_callVD {cl : Call} {i : Nat} {args ds : List V} {S : List V → Value → Prop} {x : Value} {f : Operand} (hf : quiet ops o = true) (hg : o.guard = none) (ho : o.op = .call cl) (hd : o.dst = some d) (hcl : cl.callee = .value f) (hv : ev t f = .fv i) (hS : E.Φ i = some S) (ha : cl.args.toList.map (ev t) = args) (he : allO (expoA h) args = some ds) (hx : flat x = true) (hF : S ds x) (k : WD E ops rest Q ⟨upd t d (.s x), h, n⟩) : WD E ops (o :: rest) Q ⟨t, h, n⟩ := by
  refine x_opD hf hg hd ?_ k
  rw [ho]
  unfold qv qcl
  simp only [hcl, hv]
  unfold qfv
  simp only [hS, ha, he]
  exact ⟨x, hx, hF, rfl⟩
theorem x_done {rs : List ResultVar} {r : V} (k : Ret E rs r σ) : WQ (retQ E rs r) .ret σ := ⟨k⟩
theorem x_doneN {rs : List ResultVar} {r : V} (k : Ret E rs r σ) : WQ (retQ E rs r) .normal σ := ⟨k⟩
theorem x_inl {rs : List ResultVar} {v : V} {K : V → St → Prop} {σ : St} {t0 : Nat → V} (ho : outV E rs σ = some v) (k : K v ⟨t0, σ.h, σ.n⟩) : WQ (inlQ E rs t0 K) .ret σ := ⟨v, ho, k⟩
theorem x_inlN {rs : List ResultVar} {v : V} {K : V → St → Prop} {σ : St} {t0 : Nat → V} (ho : outV E rs σ = some v) (k : K v ⟨t0, σ.h, σ.n⟩) : WQ (inlQ E rs t0 K) .normal σ := ⟨v, ho, k⟩
/-- Plain data is handed out as it is. -/
theorem x_out {rs : List ResultVar} {r : V} {σ : St} (ho : outV E rs σ = some r) (hr : ∀ z rows, r ≠ .own z rows) (ht : ∀ vs, r ≠ .tup vs) (he : expoA σ.h r = some r) : Ret E rs r σ := ⟨r, ho, by
  unfold handed
  split
  · exact (hr _ _ rfl).elim
  · exact (ht _ rfl).elim
  · exact he⟩
theorem x_outV {rs : List ResultVar} {r v : V} {σ : St} (ho : outV E rs σ = some v) (hr : ∀ z rows, r ≠ .own z rows) (ht : ∀ vs, r ≠ .tup vs) (he : expoA σ.h v = some r) : Ret E rs r σ := ⟨v, ho, by
  unfold handed
  split
  · exact (hr _ _ rfl).elim
  · exact (ht _ rfl).elim
  · exact he⟩
theorem touch_deep (h : Hp) (d : Nat) {v : V} (hv : deepc v = true) : touch h d v = [] := by cases d <;> cases v <;> simp_all [deepc, touch]
/-- A row of one's own is handed out. -/
theorem x_outO {rs : List ResultVar} {σ : St} {b len cap z : Nat} {rows sp : List (List V)} (ho : outV E rs σ = some (.loc b 0 len cap)) (hh : σ.h b = some ⟨z, rows ++ sp, true⟩) (hl : rows.length = len) (hc : len ≤ cap ∧ cap ≤ len + sp.length) (hd : ∀ r ∈ rows, ∀ q ∈ r, deepc q = true) : Ret E rs (.own z rows) σ := by
  have ht : (rows ++ sp).take len = rows := by rw [← hl]; simp
  refine ⟨_, ho, .inr ⟨b, len, cap, _, rfl, hh, rfl, rfl, hc.1, by simp [hl]; omega, hl, ?_, ?_⟩⟩
  · simp only [ht]; exact allO_rows _ _ hd
  · simp only [ht]
    have : rows.flatMap (fun q => q.flatMap (touch σ.h 2)) = [] := by
      rw [List.flatMap_eq_nil_iff]
      intro r hr
      rw [List.flatMap_eq_nil_iff]
      intro q hq
      exact touch_deep _ _ (hd r hr q hq)
    rw [this]
    simp
/-- Nothing is handed out as a row of one's own. -/
theorem x_outO0 {rs : List ResultVar} {σ : St} {z : Nat} (ho : outV E rs σ = some .cap0) : Ret E rs (.own z []) σ := ⟨_, ho, .inl ⟨rfl, rfl⟩⟩
/-- A row of one's own is handed out as data. -/
theorem x_outL {rs : List ResultVar} {σ : St} {b len cap z : Nat} {rows sp : List (List V)} (ho : outV E rs σ = some (.loc b 0 len cap)) (hh : σ.h b = some ⟨z, rows ++ sp, true⟩) (hl : rows.length = len) (hd : ∀ r ∈ rows, ∀ q ∈ r, deepc q = true) : Ret E rs (.sl rows) σ := by
  refine x_outV ho (by simp) (by simp) ?_
  show expo σ.h 2 (.loc b 0 len cap) = _
  have hr : rowsOf σ.h (.loc b 0 len cap) = some rows := by
    have ht : (rows ++ sp).take len = rows := by rw [← hl]; simp
    simp [rowsOf, hh, ht]
    omega
  show (match rowsOf σ.h (.loc b 0 len cap) with
    | some rows => (allO (allO (expo σ.h 1)) rows).map V.sl
    | none => none) = _
  rw [hr]
  simp only
  rw [allO_rows _ _ hd]
  rfl
theorem x_outT {rs : List ResultVar} {r vs : List V} {σ : St} (ho : outV E rs σ = some (.tup vs)) (he : allO (expoA σ.h) vs = some r) : Ret E rs (.tup r) σ := ⟨.tup vs, ho, vs, rfl, he⟩
end
section
variable (h : Hp)
theorem expo_s (d : Nat) (v : Value) : expo h d (.s v) = some (.s v) := by cases d <;> rfl
theorem expo_sl (d : Nat) (r : List (List V)) : expo h d (.sl r) = some (.sl r) := by cases d <;> rfl
theorem expo_cap0 (d : Nat) : expo h d .cap0 = some (.sl []) := by cases d <;> rfl
theorem expo_loc (d b off len cap : Nat) : expo h (d + 1) (.loc b off len cap) = match rowsOf h (.loc b off len cap) with
    | some rows => (allO (allO (expo h d)) rows).map .sl
    | none => none := rfl
theorem expoA_agg (cs : List V) : expoA h (.agg cs) = (allO (expo h 2) cs).map .agg := rfl
theorem expoA_s (v : Value) : expoA h (.s v) = some (.s v) := rfl
theorem expoA_sl (r : List (List V)) : expoA h (.sl r) = some (.sl r) := rfl
theorem expoA_cap0 : expoA h .cap0 = some (.sl []) := rfl
theorem expoA_pc (r : List V) : expoA h (.pc r) = some (.pc r) := rfl
theorem expoA_loc (b off len cap : Nat) : expoA h (.loc b off len cap) = expo h 2 (.loc b off len cap) := rfl
theorem expoA_ptr (b r k : Nat) : expoA h (.ptr b r k) = match h b with
    | some B => if r < B.rows.length ∧ k < B.size then (allO (expo h 2) ((B.rows.getD r []).drop k)).map .pc else none
    | none => none := rfl
theorem expArg_agg (i : Nat) (cs : List V) : expArg h i (.agg cs) = expoA h (.agg cs) := rfl
theorem expArg_s (i : Nat) (v : Value) : expArg h i (.s v) = some (.s v) := rfl
theorem expArg_sl (i : Nat) (r : List (List V)) : expArg h i (.sl r) = some (.sl r) := rfl
theorem expArg_cap0 (i : Nat) : expArg h i .cap0 = some (.sl []) := rfl
theorem expArg_pc (i : Nat) (r : List V) : expArg h i (.pc r) = some (.pc r) := rfl
theorem expArg_loc (i b off len cap : Nat) : expArg h i (.loc b off len cap) = expoA h (.loc b off len cap) := rfl
theorem expArg_ptr (i b r k : Nat) : expArg h i (.ptr b r k) = expoA h (.ptr b r k) := rfl
theorem expArg_fn (i g : Nat) (cs : List V) : expArg h i (.fn g cs) = some (.fv i) := rfl
theorem expArg_fv (i g : Nat) : expArg h i (.fv g) = some (.fv i) := rfl
end
theorem upd_at {α : Type} (f : Nat → α) (k : Nat) (v : α) (j : Nat) : upd f k v j = if j = k then v else f j := rfl
theorem ev_tmp (t : Nat → V) (i : Nat) : ev t (.tmp i) = t i := rfl
theorem ev_func (t : Nat → V) (f : FuncId) : ev t (.func f) = .fn f [] := rfl
theorem ev_const (t : Nat → V) (v : Value) : ev t (.const v) = ofVal v := rfl
theorem ofVal_int (k : IntKind) (n : Int) : ofVal (.int k n) = .s (.int k n) := rfl
theorem ofVal_str (s : ByteArray) : ofVal (.string s) = .s (.string s) := rfl
theorem ofVal_bool (b : Bool) : ofVal (.bool b) = .s (.bool b) := rfl
theorem ofVal_nil (q r : Nat) (h : q = 0 ∧ r = 0) : ofVal (.slice none q r) = .cap0 := by obtain ⟨rfl, rfl⟩ := h; rfl
theorem wrap_id (x : Int) (h : -9223372036854775808 ≤ x ∧ x < 9223372036854775808) : IntKind.i64.wrap x = x := by
  unfold IntKind.wrap
  simp only [IntKind.bits, IntKind.signed]
  simp only [Nat.reduceSub, Int.reducePow, Bool.true_and]
  split <;> rename_i h1 <;> simp at h1 <;> omega
theorem asN_nat (k : IntKind) (i : Nat) : asN (.s (.int k (i : Int))) = some i := by simp [asN]
theorem asN_pos (k : IntKind) (x : Int) (h : 0 ≤ x) : asN (.s (.int k x)) = some x.toNat := by simp [asN, h]
theorem getD_map {α : Type} (f : α → List V) (l : List α) (i : Nat) (h : i < l.length) : (l.map f).getD i [] = f l[i] := by simp [List.getD_eq_getElem?_getD, h]
theorem rows_map {α : Type} (f : α → List V) (l : List α) (z : Nat) (h : ∀ a, (f a).length = z) : (∀ r ∈ l.map f, r.length = z) = True := by
  simp only [eq_iff_iff, iff_true]
  intro r hr
  obtain ⟨a, _, rfl⟩ := List.mem_map.1 hr
  exact h a
theorem wrapU_id (x : Int) (h : 0 ≤ x ∧ x < 18446744073709551616) : IntKind.u64.wrap x = x := by
  unfold IntKind.wrap
  simp only [IntKind.bits, IntKind.signed]
  simp
  omega
theorem wrapB_id (x : Int) (h : 0 ≤ x ∧ x < 256) : IntKind.u8.wrap x = x := by
  unfold IntKind.wrap
  simp only [IntKind.bits, IntKind.signed]
  simp
  omega
theorem ashift_shr1 (a : Int) (h : 0 ≤ a) : ashift .shr .u64 a 1 = some (.s (.int .u64 (a / 2))) := by
  unfold ashift
  simp only [show ¬ ((1 : Int) < 0) by omega, if_false]
  rw [show (2 : Int) ^ min (1 : Int).toNat IntKind.u64.bits = 2 by rfl, Int.fdiv_eq_ediv_of_nonneg _ (by omega)]
theorem half_cast (i j : Nat) : ((i : Int) + (j : Int)) / 2 = (((i + j) / 2 : Nat) : Int) := by omega
theorem rg0 : List.range 0 = [] := rfl
theorem rg1 : List.range 1 = [0] := rfl
theorem rg2 : List.range 2 = [0, 1] := rfl
theorem rg3 : List.range 3 = [0, 1, 2] := rfl
theorem rg4 : List.range 4 = [0, 1, 2, 3] := rfl
theorem rg5 : List.range 5 = [0, 1, 2, 3, 4] := rfl
theorem rg6 : List.range 6 = [0, 1, 2, 3, 4, 5] := rfl
theorem okRows_map {α : Type} (f : α → List V) (l : List α) (z : Nat) (h : ∀ a, (f a).length = z ∧ ∀ q ∈ f a, cellish q = true) : okRows z (l.map f) := by
  intro r hr
  obtain ⟨a, _, rfl⟩ := List.mem_map.1 hr
  exact h a
theorem deep_map {α : Type} (f : α → List V) (l : List α) (h : ∀ a, ∀ q ∈ f a, deepc q = true) : ∀ r ∈ l.map f, ∀ q ∈ r, deepc q = true := by
  intro r hr
  obtain ⟨a, _, rfl⟩ := List.mem_map.1 hr
  exact h a
theorem spare_len (z m : Nat) : (spare z m).length = m := spare_length z m
/-- A number, for a measure. -/
def ix : V → Nat
  | .s (.int _ n) => n.toNat
  | _ => 0
theorem ix_nat (k : IntKind) (i : Nat) : ix (.s (.int k (i : Int))) = i := by simp [ix]
theorem ix_succ (k : IntKind) (i : Nat) : ix (.s (.int k ((i : Int) + 1))) = i + 1 := by simp only [ix]; omega
theorem cast_succ (i : Nat) : ((i : Int) + 1) = ((i + 1 : Nat) : Int) := by omega
end Go.Proofs.Ytgohmphhgglmbaa.Am

/- An abstract machine over values: steps, one lemma each, further. -/
set_option linter.unusedVariables false
set_option linter.unusedSimpArgs false
namespace Go.Proofs.Ytgohmphhgglmbaa.Am
open Go Go.RowKit
section
variable {E : Env} {Q : Exit → St → Prop} {K : St → Prop} {σ : St} {t : Nat → V} {h : Hp} {n : Nat} {ops : Array Oper} {o : Oper} {rest : List Oper} {x y : Code} {v : V} {d : Nat}
theorem frzOf_at {args : List V} (b : Nat) (hb : (args.flatMap (touchA h)).contains b = false) : frzOf h args b = h b := by
  unfold frzOf frz
  simp only [hb, Bool.false_eq_true, if_false]
/-- A call that is handed rows of one's own as data: what it wasn't handed stays. -/
theorem x_callF {cl : Call} {g : FuncId} {caps args ds : List V} {r : V} {F : Fspec} {f : Operand} (hg : o.guard = none) (ho : o.op = .call cl) (hd : o.dst = some d) (hf : cl.callee = .value f) (hv : ev t f = .fn g caps) (hΓ : E.Γ g = some F) (ha : cl.args.toList.map (ev t) ++ caps = args) (he : expArgs h 0 args = some ds) (hF : F (phi E h args) ds r) (hr : ∀ z rows, r ≠ .own z rows)
    (k : ∀ h2 : Hp, (∀ b, (args.flatMap (touchA h)).contains b = false → h2 b = h b) → WO E ops rest Q ⟨upd t d r, h2, n⟩) : WO E ops (o :: rest) Q ⟨t, h, n⟩ := by
  refine x_eff hg ?_
  rw [ho]
  refine wa_call hf hv hΓ ha he hF ?_
  rw [hd]
  unfold aret
  split
  · exact (hr _ _ rfl).elim
  · simp only
    split
    · exact x_putS (k h fun _ _ => rfl)
    · exact x_putS (k (frzOf h args) fun b hb => frzOf_at b hb)
/-- .. and hands back a row of one's own. -/
theorem x_callFO {cl : Call} {g : FuncId} {caps args ds : List V} {z : Nat} {rows : List (List V)} {F : Fspec} {f : Operand} (hg : o.guard = none) (ho : o.op = .call cl) (hd : o.dst = some d) (hf : cl.callee = .value f) (hv : ev t f = .fn g caps) (hΓ : E.Γ g = some F) (ha : cl.args.toList.map (ev t) ++ caps = args) (he : expArgs h 0 args = some ds) (hF : F (phi E h args) ds (.own z rows))
    (k : ∀ (h2 : Hp) (cap : Nat), (∀ b, (args.flatMap (touchA h)).contains b = false → h2 b = h b) → rows.length ≤ cap → WO E ops rest Q ⟨upd t d (.loc n 0 rows.length cap), upd h2 n (some ⟨z, rows ++ spare z (cap - rows.length), true⟩), n + 1⟩) : WO E ops (o :: rest) Q ⟨t, h, n⟩ := by
  refine x_eff hg ?_
  rw [ho]
  refine wa_call hf hv hΓ ha he hF ?_
  rw [hd]
  unfold aret
  intro cap hc
  exact x_putS (k (frzOf h args) cap (fun b hb => frzOf_at b hb) hc)
/-- A quiet call that hands back data. -/
theorem x_callDS {cl : Call} {g : FuncId} {caps args ds : List V} {r : V} {F : Fspec} {f : Operand} (hf : quiet ops o = true) (hg : o.guard = none) (ho : o.op = .call cl) (hd : o.dst = some d) (hcl : cl.callee = .value f) (hv : ev t f = .fn g caps) (hΓ : E.Γ g = some F) (ha : cl.args.toList.map (ev t) ++ caps = args) (he : expArgs h 0 args = some ds) (hF : F (phi E h args) ds r) (hr : ∀ z rows, r ≠ .own z rows) (ht : args.flatMap (touchA h) = []) (k : WD E ops rest Q ⟨upd t d r, h, n⟩) : WD E ops (o :: rest) Q ⟨t, h, n⟩ := by
  refine x_opD hf hg hd ?_ k
  rw [ho]
  unfold qv qcl
  simp only [hcl, hv]
  unfold qcall
  simp only [hΓ, ha, he]
  refine ⟨r, hF, .inr ⟨ht, ?_⟩⟩
  split
  · exact absurd rfl (hr _ _)
  · rfl
end
end Go.Proofs.Ytgohmphhgglmbaa.Am

/- The rewriting that the steps ask for, as lemmas: what is open is closed by it. -/
set_option linter.unusedVariables false
namespace Go.Proofs.Ytgohmphhgglmbaa
open Go Go.RowKit Am

theorem sv {q p : Prop} (e : q) (h : q → p := by intro e; simp (disch := omega) only [fits, fit1, ix_nat, ix_succ, pval, ↓upd_at, ev_tmp, ev_func, ev_const, ofVal_int, ofVal_str, ofVal_bool, ofVal_nil, asN_nat, asN_pos, wrap_id, wrapU_id, wrapB_id, ashift_shr1, half_cast, getD_map, if_pos, if_neg, aindexAddr, afieldAddr, aload, afield, aindex, aslice, abin, aint, astr, aun, aeq, allS, eqL, alen, acap, amin, amax, bnd, aconv, cellsV, cellsZ, cellOf, flat, abuild, afill, setAt, wk, cellish, cellAt, List.getD_cons_zero, List.getD_cons_succ, List.getD_nil, Nat.reduceEqDiff, ↓reduceIte, Option.map_some, Option.map_none, Option.bind_some, Option.isSome_some, Option.isSome_none, Option.isNone_some, Option.isNone_none, List.toList_toArray, List.map_cons, List.map_nil, List.drop_zero, List.drop_succ_cons, List.drop_nil, List.take_zero, List.take_succ_cons, List.take_nil, List.length_cons, List.length_nil, List.length_map, List.cons_append, List.nil_append, List.append_nil, List.set_cons_zero, List.set_cons_succ, List.getElem?_cons_zero, List.getElem?_cons_succ, Nat.reduceAdd, Nat.reduceSub, Nat.reduceMul, Nat.reduceLT, Nat.reduceLeDiff, Nat.zero_add, Nat.add_zero, Nat.zero_mul, Nat.mul_one, Nat.lt_irrefl, true_and, and_true, and_self, false_and, and_false, decide_true, decide_false, Bool.false_eq_true, Bool.true_eq_false, Bool.not_true, Bool.not_false, Bool.true_and, Bool.false_and, Bool.and_true, ge_iff_le, gt_iff_lt, Int.natCast_nonneg, Int.toNat_natCast, Int.reduceAdd, Int.reduceSub, Int.reduceNeg, Int.reduceToNat, Int.reduceLE, Int.reduceLT, Int.toNat_zero, Int.natCast_zero, List.mem_cons, List.not_mem_nil, or_false, or_true, true_or, false_or, Nat.le_refl, Nat.sub_self, Nat.sub_zero, forall_eq_or_imp, forall_eq, List.forall_mem_cons, List.forall_mem_nil, implies_true, Bool.false_or, Bool.true_or, Bool.or_false, Bool.or_true, List.length_set, List.map_nil, List.all_nil, List.getLast?_nil, srcRows, rowsOf, slLen, beq_self_eq_true, bne_self_eq_false, sz2, ag2, zr2, zok2, ii2, Try.underlying2, sz3, ag3, zr3, zok3, ii3, Try.underlying3, sz4, ag4, zr4, zok4, bt4, Try.underlying4, sz5, ag5, zr5, zok5, ii5, Try.underlying5, sz7, ag7, zr7, zok7, fl7_0, fl7_1, fl7_2, fl7_3, pl7, Try.underlying7, sz9, ag9, zr9, zok9, sq9, Try.underlying9, sz12, ag12, zr12, zok12, ii12, Try.underlying12, sz13, ag13, zr13, zok13, fl13_0, fl13_1, pl13, Try.underlying13, sz21, ag21, zr21, zok21, ii21, Try.underlying21, sz22, ag22, zr22, zok22, ist22, sq22, Try.underlying22, sz23, ag23, zr23, zok23, ist23, sq23, Try.underlying23, sz30, ag30, zr30, zok30, fl30_0, fl30_1, pl30, Try.underlying30, sz31, ag31, zr31, zok31, fl31_0, fl31_1, pl31, Try.underlying31, sz32, ag32, zr32, zok32, ist32, sq32, Try.underlying32, sz38, ag38, zr38, zok38, fl38_0, fl38_1, fl38_2, pl38, Try.underlying38, sz39, ag39, zr39, zok39, fl39_0, fl39_1, fl39_2, pl39, Try.underlying39, sz40, ag40, zr40, zok40, fl40_0, fl40_1, fl40_2, pl40, Try.underlying40, sz41, ag41, zr41, zok41, fl41_0, fl41_1, fl41_2, pl41, Try.underlying41, sz42, ag42, zr42, zok42, ist42, sq42, Try.underlying42, sz43, ag43, zr43, zok43, fl43_0, fl43_1, fl43_2, pl43, Try.underlying43, sz44, ag44, zr44, zok44, fl44_0, fl44_1, fl44_2, pl44, Try.underlying44, sz45, ag45, zr45, zok45, fl45_0, fl45_1, fl45_2, fl45_3, fl45_4, fl45_5, fl45_6, fl45_7, fl45_8, fl45_9, fl45_10, fl45_11, pl45, Try.underlying45, sz46, ag46, zr46, zok46, fl46_0, fl46_1, fl46_2, fl46_3, fl46_4, fl46_5, fl46_6, fl46_7, fl46_8, fl46_9, fl46_10, fl46_11, pl46, Try.underlying46, sz53, ag53, zr53, zok53, ii53, Try.underlying53, sz67, ag67, zr67, zok67, ii67, Try.underlying67, sz80, ag80, zr80, zok80, ist80, sq80, Try.underlying80, sz90, ag90, zr90, zok90, Try.underlying90, sz91, ag91, zr91, zok91, fl91_0, pl91, Try.underlying91, sz94, ag94, zr94, zok94, ii94, Try.underlying94, e]; first | done | with_reducible rfl) : p := h e
theorem sva {q p : Prop} (e : q) (h : q → p := by intro e; simp (disch := omega) only [fits, fit1, ix_nat, ix_succ, pval, ↓upd_at, ev_tmp, ev_func, ev_const, ofVal_int, ofVal_str, ofVal_bool, ofVal_nil, asN_nat, asN_pos, wrap_id, wrapU_id, wrapB_id, ashift_shr1, half_cast, getD_map, if_pos, if_neg, aindexAddr, afieldAddr, aload, afield, aindex, aslice, abin, aint, astr, aun, aeq, allS, eqL, alen, acap, amin, amax, bnd, aconv, cellsV, cellsZ, cellOf, flat, abuild, afill, setAt, wk, cellish, cellAt, List.getD_cons_zero, List.getD_cons_succ, List.getD_nil, Nat.reduceEqDiff, ↓reduceIte, Option.map_some, Option.map_none, Option.bind_some, Option.isSome_some, Option.isSome_none, Option.isNone_some, Option.isNone_none, List.toList_toArray, List.map_cons, List.map_nil, List.drop_zero, List.drop_succ_cons, List.drop_nil, List.take_zero, List.take_succ_cons, List.take_nil, List.length_cons, List.length_nil, List.length_map, List.cons_append, List.nil_append, List.append_nil, List.set_cons_zero, List.set_cons_succ, List.getElem?_cons_zero, List.getElem?_cons_succ, Nat.reduceAdd, Nat.reduceSub, Nat.reduceMul, Nat.reduceLT, Nat.reduceLeDiff, Nat.zero_add, Nat.add_zero, Nat.zero_mul, Nat.mul_one, Nat.lt_irrefl, true_and, and_true, and_self, false_and, and_false, decide_true, decide_false, Bool.false_eq_true, Bool.true_eq_false, Bool.not_true, Bool.not_false, Bool.true_and, Bool.false_and, Bool.and_true, ge_iff_le, gt_iff_lt, Int.natCast_nonneg, Int.toNat_natCast, Int.reduceAdd, Int.reduceSub, Int.reduceNeg, Int.reduceToNat, Int.reduceLE, Int.reduceLT, Int.toNat_zero, Int.natCast_zero, List.mem_cons, List.not_mem_nil, or_false, or_true, true_or, false_or, Nat.le_refl, Nat.sub_self, Nat.sub_zero, forall_eq_or_imp, forall_eq, List.forall_mem_cons, List.forall_mem_nil, implies_true, Bool.false_or, Bool.true_or, Bool.or_false, Bool.or_true, List.length_set, List.map_nil, List.all_nil, List.getLast?_nil, srcRows, rowsOf, slLen, beq_self_eq_true, bne_self_eq_false, sz2, ag2, zr2, zok2, ii2, Try.underlying2, sz3, ag3, zr3, zok3, ii3, Try.underlying3, sz4, ag4, zr4, zok4, bt4, Try.underlying4, sz5, ag5, zr5, zok5, ii5, Try.underlying5, sz7, ag7, zr7, zok7, fl7_0, fl7_1, fl7_2, fl7_3, pl7, Try.underlying7, sz9, ag9, zr9, zok9, sq9, Try.underlying9, sz12, ag12, zr12, zok12, ii12, Try.underlying12, sz13, ag13, zr13, zok13, fl13_0, fl13_1, pl13, Try.underlying13, sz21, ag21, zr21, zok21, ii21, Try.underlying21, sz22, ag22, zr22, zok22, ist22, sq22, Try.underlying22, sz23, ag23, zr23, zok23, ist23, sq23, Try.underlying23, sz30, ag30, zr30, zok30, fl30_0, fl30_1, pl30, Try.underlying30, sz31, ag31, zr31, zok31, fl31_0, fl31_1, pl31, Try.underlying31, sz32, ag32, zr32, zok32, ist32, sq32, Try.underlying32, sz38, ag38, zr38, zok38, fl38_0, fl38_1, fl38_2, pl38, Try.underlying38, sz39, ag39, zr39, zok39, fl39_0, fl39_1, fl39_2, pl39, Try.underlying39, sz40, ag40, zr40, zok40, fl40_0, fl40_1, fl40_2, pl40, Try.underlying40, sz41, ag41, zr41, zok41, fl41_0, fl41_1, fl41_2, pl41, Try.underlying41, sz42, ag42, zr42, zok42, ist42, sq42, Try.underlying42, sz43, ag43, zr43, zok43, fl43_0, fl43_1, fl43_2, pl43, Try.underlying43, sz44, ag44, zr44, zok44, fl44_0, fl44_1, fl44_2, pl44, Try.underlying44, sz45, ag45, zr45, zok45, fl45_0, fl45_1, fl45_2, fl45_3, fl45_4, fl45_5, fl45_6, fl45_7, fl45_8, fl45_9, fl45_10, fl45_11, pl45, Try.underlying45, sz46, ag46, zr46, zok46, fl46_0, fl46_1, fl46_2, fl46_3, fl46_4, fl46_5, fl46_6, fl46_7, fl46_8, fl46_9, fl46_10, fl46_11, pl46, Try.underlying46, sz53, ag53, zr53, zok53, ii53, Try.underlying53, sz67, ag67, zr67, zok67, ii67, Try.underlying67, sz80, ag80, zr80, zok80, ist80, sq80, Try.underlying80, sz90, ag90, zr90, zok90, Try.underlying90, sz91, ag91, zr91, zok91, fl91_0, pl91, Try.underlying91, sz94, ag94, zr94, zok94, ii94, Try.underlying94, e, *, bne]; first | done | with_reducible rfl) : p := h e
theorem sc {q p : Prop} (e : q) (h : q → p := by intro e; simp (disch := omega) only [fits, fit1, ix_nat, ix_succ, pval, ↓upd_at, ev_tmp, ev_func, ev_const, ofVal_int, ofVal_str, ofVal_bool, ofVal_nil, asN_nat, asN_pos, wrap_id, wrapU_id, wrapB_id, ashift_shr1, half_cast, getD_map, if_pos, if_neg, aindexAddr, afieldAddr, aload, afield, aindex, aslice, abin, aint, astr, aun, aeq, allS, eqL, alen, acap, amin, amax, bnd, aconv, cellsV, cellsZ, cellOf, flat, abuild, afill, setAt, wk, cellish, cellAt, List.getD_cons_zero, List.getD_cons_succ, List.getD_nil, Nat.reduceEqDiff, ↓reduceIte, Option.map_some, Option.map_none, Option.bind_some, Option.isSome_some, Option.isSome_none, Option.isNone_some, Option.isNone_none, List.toList_toArray, List.map_cons, List.map_nil, List.drop_zero, List.drop_succ_cons, List.drop_nil, List.take_zero, List.take_succ_cons, List.take_nil, List.length_cons, List.length_nil, List.length_map, List.cons_append, List.nil_append, List.append_nil, List.set_cons_zero, List.set_cons_succ, List.getElem?_cons_zero, List.getElem?_cons_succ, Nat.reduceAdd, Nat.reduceSub, Nat.reduceMul, Nat.reduceLT, Nat.reduceLeDiff, Nat.zero_add, Nat.add_zero, Nat.zero_mul, Nat.mul_one, Nat.lt_irrefl, true_and, and_true, and_self, false_and, and_false, decide_true, decide_false, Bool.false_eq_true, Bool.true_eq_false, Bool.not_true, Bool.not_false, Bool.true_and, Bool.false_and, Bool.and_true, ge_iff_le, gt_iff_lt, Int.natCast_nonneg, Int.toNat_natCast, Int.reduceAdd, Int.reduceSub, Int.reduceNeg, Int.reduceToNat, Int.reduceLE, Int.reduceLT, Int.toNat_zero, Int.natCast_zero, List.mem_cons, List.not_mem_nil, or_false, or_true, true_or, false_or, Nat.le_refl, Nat.sub_self, Nat.sub_zero, forall_eq_or_imp, forall_eq, List.forall_mem_cons, List.forall_mem_nil, implies_true, Bool.false_or, Bool.true_or, Bool.or_false, Bool.or_true, List.length_set, List.map_nil, List.all_nil, List.getLast?_nil, srcRows, rowsOf, slLen, beq_self_eq_true, bne_self_eq_false, sz2, ag2, zr2, zok2, ii2, Try.underlying2, sz3, ag3, zr3, zok3, ii3, Try.underlying3, sz4, ag4, zr4, zok4, bt4, Try.underlying4, sz5, ag5, zr5, zok5, ii5, Try.underlying5, sz7, ag7, zr7, zok7, fl7_0, fl7_1, fl7_2, fl7_3, pl7, Try.underlying7, sz9, ag9, zr9, zok9, sq9, Try.underlying9, sz12, ag12, zr12, zok12, ii12, Try.underlying12, sz13, ag13, zr13, zok13, fl13_0, fl13_1, pl13, Try.underlying13, sz21, ag21, zr21, zok21, ii21, Try.underlying21, sz22, ag22, zr22, zok22, ist22, sq22, Try.underlying22, sz23, ag23, zr23, zok23, ist23, sq23, Try.underlying23, sz30, ag30, zr30, zok30, fl30_0, fl30_1, pl30, Try.underlying30, sz31, ag31, zr31, zok31, fl31_0, fl31_1, pl31, Try.underlying31, sz32, ag32, zr32, zok32, ist32, sq32, Try.underlying32, sz38, ag38, zr38, zok38, fl38_0, fl38_1, fl38_2, pl38, Try.underlying38, sz39, ag39, zr39, zok39, fl39_0, fl39_1, fl39_2, pl39, Try.underlying39, sz40, ag40, zr40, zok40, fl40_0, fl40_1, fl40_2, pl40, Try.underlying40, sz41, ag41, zr41, zok41, fl41_0, fl41_1, fl41_2, pl41, Try.underlying41, sz42, ag42, zr42, zok42, ist42, sq42, Try.underlying42, sz43, ag43, zr43, zok43, fl43_0, fl43_1, fl43_2, pl43, Try.underlying43, sz44, ag44, zr44, zok44, fl44_0, fl44_1, fl44_2, pl44, Try.underlying44, sz45, ag45, zr45, zok45, fl45_0, fl45_1, fl45_2, fl45_3, fl45_4, fl45_5, fl45_6, fl45_7, fl45_8, fl45_9, fl45_10, fl45_11, pl45, Try.underlying45, sz46, ag46, zr46, zok46, fl46_0, fl46_1, fl46_2, fl46_3, fl46_4, fl46_5, fl46_6, fl46_7, fl46_8, fl46_9, fl46_10, fl46_11, pl46, Try.underlying46, sz53, ag53, zr53, zok53, ii53, Try.underlying53, sz67, ag67, zr67, zok67, ii67, Try.underlying67, sz80, ag80, zr80, zok80, ist80, sq80, Try.underlying80, sz90, ag90, zr90, zok90, Try.underlying90, sz91, ag91, zr91, zok91, fl91_0, pl91, Try.underlying91, sz94, ag94, zr94, zok94, ii94, Try.underlying94, e]; done) : p := h e
theorem sca {q p : Prop} (e : q) (h : q → p := by intro e; simp (disch := omega) only [fits, fit1, ix_nat, ix_succ, pval, ↓upd_at, ev_tmp, ev_func, ev_const, ofVal_int, ofVal_str, ofVal_bool, ofVal_nil, asN_nat, asN_pos, wrap_id, wrapU_id, wrapB_id, ashift_shr1, half_cast, getD_map, if_pos, if_neg, aindexAddr, afieldAddr, aload, afield, aindex, aslice, abin, aint, astr, aun, aeq, allS, eqL, alen, acap, amin, amax, bnd, aconv, cellsV, cellsZ, cellOf, flat, abuild, afill, setAt, wk, cellish, cellAt, List.getD_cons_zero, List.getD_cons_succ, List.getD_nil, Nat.reduceEqDiff, ↓reduceIte, Option.map_some, Option.map_none, Option.bind_some, Option.isSome_some, Option.isSome_none, Option.isNone_some, Option.isNone_none, List.toList_toArray, List.map_cons, List.map_nil, List.drop_zero, List.drop_succ_cons, List.drop_nil, List.take_zero, List.take_succ_cons, List.take_nil, List.length_cons, List.length_nil, List.length_map, List.cons_append, List.nil_append, List.append_nil, List.set_cons_zero, List.set_cons_succ, List.getElem?_cons_zero, List.getElem?_cons_succ, Nat.reduceAdd, Nat.reduceSub, Nat.reduceMul, Nat.reduceLT, Nat.reduceLeDiff, Nat.zero_add, Nat.add_zero, Nat.zero_mul, Nat.mul_one, Nat.lt_irrefl, true_and, and_true, and_self, false_and, and_false, decide_true, decide_false, Bool.false_eq_true, Bool.true_eq_false, Bool.not_true, Bool.not_false, Bool.true_and, Bool.false_and, Bool.and_true, ge_iff_le, gt_iff_lt, Int.natCast_nonneg, Int.toNat_natCast, Int.reduceAdd, Int.reduceSub, Int.reduceNeg, Int.reduceToNat, Int.reduceLE, Int.reduceLT, Int.toNat_zero, Int.natCast_zero, List.mem_cons, List.not_mem_nil, or_false, or_true, true_or, false_or, Nat.le_refl, Nat.sub_self, Nat.sub_zero, forall_eq_or_imp, forall_eq, List.forall_mem_cons, List.forall_mem_nil, implies_true, Bool.false_or, Bool.true_or, Bool.or_false, Bool.or_true, List.length_set, List.map_nil, List.all_nil, List.getLast?_nil, srcRows, rowsOf, slLen, beq_self_eq_true, bne_self_eq_false, sz2, ag2, zr2, zok2, ii2, Try.underlying2, sz3, ag3, zr3, zok3, ii3, Try.underlying3, sz4, ag4, zr4, zok4, bt4, Try.underlying4, sz5, ag5, zr5, zok5, ii5, Try.underlying5, sz7, ag7, zr7, zok7, fl7_0, fl7_1, fl7_2, fl7_3, pl7, Try.underlying7, sz9, ag9, zr9, zok9, sq9, Try.underlying9, sz12, ag12, zr12, zok12, ii12, Try.underlying12, sz13, ag13, zr13, zok13, fl13_0, fl13_1, pl13, Try.underlying13, sz21, ag21, zr21, zok21, ii21, Try.underlying21, sz22, ag22, zr22, zok22, ist22, sq22, Try.underlying22, sz23, ag23, zr23, zok23, ist23, sq23, Try.underlying23, sz30, ag30, zr30, zok30, fl30_0, fl30_1, pl30, Try.underlying30, sz31, ag31, zr31, zok31, fl31_0, fl31_1, pl31, Try.underlying31, sz32, ag32, zr32, zok32, ist32, sq32, Try.underlying32, sz38, ag38, zr38, zok38, fl38_0, fl38_1, fl38_2, pl38, Try.underlying38, sz39, ag39, zr39, zok39, fl39_0, fl39_1, fl39_2, pl39, Try.underlying39, sz40, ag40, zr40, zok40, fl40_0, fl40_1, fl40_2, pl40, Try.underlying40, sz41, ag41, zr41, zok41, fl41_0, fl41_1, fl41_2, pl41, Try.underlying41, sz42, ag42, zr42, zok42, ist42, sq42, Try.underlying42, sz43, ag43, zr43, zok43, fl43_0, fl43_1, fl43_2, pl43, Try.underlying43, sz44, ag44, zr44, zok44, fl44_0, fl44_1, fl44_2, pl44, Try.underlying44, sz45, ag45, zr45, zok45, fl45_0, fl45_1, fl45_2, fl45_3, fl45_4, fl45_5, fl45_6, fl45_7, fl45_8, fl45_9, fl45_10, fl45_11, pl45, Try.underlying45, sz46, ag46, zr46, zok46, fl46_0, fl46_1, fl46_2, fl46_3, fl46_4, fl46_5, fl46_6, fl46_7, fl46_8, fl46_9, fl46_10, fl46_11, pl46, Try.underlying46, sz53, ag53, zr53, zok53, ii53, Try.underlying53, sz67, ag67, zr67, zok67, ii67, Try.underlying67, sz80, ag80, zr80, zok80, ist80, sq80, Try.underlying80, sz90, ag90, zr90, zok90, Try.underlying90, sz91, ag91, zr91, zok91, fl91_0, pl91, Try.underlying91, sz94, ag94, zr94, zok94, ii94, Try.underlying94, e, *, bne]; done) : p := h e
theorem se {q p : Prop} (e : q) (h : q → p := by intro e; simp (disch := omega) only [fits, fit1, ix_nat, ix_succ, pval, ↓upd_at, ev_tmp, ev_func, ev_const, ofVal_int, ofVal_str, ofVal_bool, ofVal_nil, asN_nat, asN_pos, wrap_id, wrapU_id, wrapB_id, ashift_shr1, half_cast, getD_map, if_pos, if_neg, aindexAddr, afieldAddr, aload, afield, aindex, aslice, abin, aint, astr, aun, aeq, allS, eqL, alen, acap, amin, amax, bnd, aconv, cellsV, cellsZ, cellOf, flat, abuild, afill, setAt, wk, cellish, cellAt, List.getD_cons_zero, List.getD_cons_succ, List.getD_nil, Nat.reduceEqDiff, ↓reduceIte, Option.map_some, Option.map_none, Option.bind_some, Option.isSome_some, Option.isSome_none, Option.isNone_some, Option.isNone_none, List.toList_toArray, List.map_cons, List.map_nil, List.drop_zero, List.drop_succ_cons, List.drop_nil, List.take_zero, List.take_succ_cons, List.take_nil, List.length_cons, List.length_nil, List.length_map, List.cons_append, List.nil_append, List.append_nil, List.set_cons_zero, List.set_cons_succ, List.getElem?_cons_zero, List.getElem?_cons_succ, Nat.reduceAdd, Nat.reduceSub, Nat.reduceMul, Nat.reduceLT, Nat.reduceLeDiff, Nat.zero_add, Nat.add_zero, Nat.zero_mul, Nat.mul_one, Nat.lt_irrefl, true_and, and_true, and_self, false_and, and_false, decide_true, decide_false, Bool.false_eq_true, Bool.true_eq_false, Bool.not_true, Bool.not_false, Bool.true_and, Bool.false_and, Bool.and_true, ge_iff_le, gt_iff_lt, Int.natCast_nonneg, Int.toNat_natCast, Int.reduceAdd, Int.reduceSub, Int.reduceNeg, Int.reduceToNat, Int.reduceLE, Int.reduceLT, Int.toNat_zero, Int.natCast_zero, List.mem_cons, List.not_mem_nil, or_false, or_true, true_or, false_or, Nat.le_refl, Nat.sub_self, Nat.sub_zero, forall_eq_or_imp, forall_eq, List.forall_mem_cons, List.forall_mem_nil, implies_true, Bool.false_or, Bool.true_or, Bool.or_false, Bool.or_true, List.length_set, List.map_nil, List.all_nil, List.getLast?_nil, srcRows, rowsOf, slLen, beq_self_eq_true, bne_self_eq_false, sz2, ag2, zr2, zok2, ii2, Try.underlying2, sz3, ag3, zr3, zok3, ii3, Try.underlying3, sz4, ag4, zr4, zok4, bt4, Try.underlying4, sz5, ag5, zr5, zok5, ii5, Try.underlying5, sz7, ag7, zr7, zok7, fl7_0, fl7_1, fl7_2, fl7_3, pl7, Try.underlying7, sz9, ag9, zr9, zok9, sq9, Try.underlying9, sz12, ag12, zr12, zok12, ii12, Try.underlying12, sz13, ag13, zr13, zok13, fl13_0, fl13_1, pl13, Try.underlying13, sz21, ag21, zr21, zok21, ii21, Try.underlying21, sz22, ag22, zr22, zok22, ist22, sq22, Try.underlying22, sz23, ag23, zr23, zok23, ist23, sq23, Try.underlying23, sz30, ag30, zr30, zok30, fl30_0, fl30_1, pl30, Try.underlying30, sz31, ag31, zr31, zok31, fl31_0, fl31_1, pl31, Try.underlying31, sz32, ag32, zr32, zok32, ist32, sq32, Try.underlying32, sz38, ag38, zr38, zok38, fl38_0, fl38_1, fl38_2, pl38, Try.underlying38, sz39, ag39, zr39, zok39, fl39_0, fl39_1, fl39_2, pl39, Try.underlying39, sz40, ag40, zr40, zok40, fl40_0, fl40_1, fl40_2, pl40, Try.underlying40, sz41, ag41, zr41, zok41, fl41_0, fl41_1, fl41_2, pl41, Try.underlying41, sz42, ag42, zr42, zok42, ist42, sq42, Try.underlying42, sz43, ag43, zr43, zok43, fl43_0, fl43_1, fl43_2, pl43, Try.underlying43, sz44, ag44, zr44, zok44, fl44_0, fl44_1, fl44_2, pl44, Try.underlying44, sz45, ag45, zr45, zok45, fl45_0, fl45_1, fl45_2, fl45_3, fl45_4, fl45_5, fl45_6, fl45_7, fl45_8, fl45_9, fl45_10, fl45_11, pl45, Try.underlying45, sz46, ag46, zr46, zok46, fl46_0, fl46_1, fl46_2, fl46_3, fl46_4, fl46_5, fl46_6, fl46_7, fl46_8, fl46_9, fl46_10, fl46_11, pl46, Try.underlying46, sz53, ag53, zr53, zok53, ii53, Try.underlying53, sz67, ag67, zr67, zok67, ii67, Try.underlying67, sz80, ag80, zr80, zok80, ist80, sq80, Try.underlying80, sz90, ag90, zr90, zok90, Try.underlying90, sz91, ag91, zr91, zok91, fl91_0, pl91, Try.underlying91, sz94, ag94, zr94, zok94, ii94, Try.underlying94, expArgs, allO, expo_s, expo_sl, expo_cap0, expo_loc, expoA_agg, expoA_s, expoA_sl, expoA_cap0, expoA_pc, expoA_loc, expoA_ptr, expArg_agg, expArg_s, expArg_sl, expArg_cap0, expArg_pc, expArg_loc, expArg_ptr, expArg_fn, expArg_fv, e]; first | done | rfl) : p := h e
theorem sea {q p : Prop} (e : q) (h : q → p := by intro e; simp (disch := omega) only [fits, fit1, ix_nat, ix_succ, pval, ↓upd_at, ev_tmp, ev_func, ev_const, ofVal_int, ofVal_str, ofVal_bool, ofVal_nil, asN_nat, asN_pos, wrap_id, wrapU_id, wrapB_id, ashift_shr1, half_cast, getD_map, if_pos, if_neg, aindexAddr, afieldAddr, aload, afield, aindex, aslice, abin, aint, astr, aun, aeq, allS, eqL, alen, acap, amin, amax, bnd, aconv, cellsV, cellsZ, cellOf, flat, abuild, afill, setAt, wk, cellish, cellAt, List.getD_cons_zero, List.getD_cons_succ, List.getD_nil, Nat.reduceEqDiff, ↓reduceIte, Option.map_some, Option.map_none, Option.bind_some, Option.isSome_some, Option.isSome_none, Option.isNone_some, Option.isNone_none, List.toList_toArray, List.map_cons, List.map_nil, List.drop_zero, List.drop_succ_cons, List.drop_nil, List.take_zero, List.take_succ_cons, List.take_nil, List.length_cons, List.length_nil, List.length_map, List.cons_append, List.nil_append, List.append_nil, List.set_cons_zero, List.set_cons_succ, List.getElem?_cons_zero, List.getElem?_cons_succ, Nat.reduceAdd, Nat.reduceSub, Nat.reduceMul, Nat.reduceLT, Nat.reduceLeDiff, Nat.zero_add, Nat.add_zero, Nat.zero_mul, Nat.mul_one, Nat.lt_irrefl, true_and, and_true, and_self, false_and, and_false, decide_true, decide_false, Bool.false_eq_true, Bool.true_eq_false, Bool.not_true, Bool.not_false, Bool.true_and, Bool.false_and, Bool.and_true, ge_iff_le, gt_iff_lt, Int.natCast_nonneg, Int.toNat_natCast, Int.reduceAdd, Int.reduceSub, Int.reduceNeg, Int.reduceToNat, Int.reduceLE, Int.reduceLT, Int.toNat_zero, Int.natCast_zero, List.mem_cons, List.not_mem_nil, or_false, or_true, true_or, false_or, Nat.le_refl, Nat.sub_self, Nat.sub_zero, forall_eq_or_imp, forall_eq, List.forall_mem_cons, List.forall_mem_nil, implies_true, Bool.false_or, Bool.true_or, Bool.or_false, Bool.or_true, List.length_set, List.map_nil, List.all_nil, List.getLast?_nil, srcRows, rowsOf, slLen, beq_self_eq_true, bne_self_eq_false, sz2, ag2, zr2, zok2, ii2, Try.underlying2, sz3, ag3, zr3, zok3, ii3, Try.underlying3, sz4, ag4, zr4, zok4, bt4, Try.underlying4, sz5, ag5, zr5, zok5, ii5, Try.underlying5, sz7, ag7, zr7, zok7, fl7_0, fl7_1, fl7_2, fl7_3, pl7, Try.underlying7, sz9, ag9, zr9, zok9, sq9, Try.underlying9, sz12, ag12, zr12, zok12, ii12, Try.underlying12, sz13, ag13, zr13, zok13, fl13_0, fl13_1, pl13, Try.underlying13, sz21, ag21, zr21, zok21, ii21, Try.underlying21, sz22, ag22, zr22, zok22, ist22, sq22, Try.underlying22, sz23, ag23, zr23, zok23, ist23, sq23, Try.underlying23, sz30, ag30, zr30, zok30, fl30_0, fl30_1, pl30, Try.underlying30, sz31, ag31, zr31, zok31, fl31_0, fl31_1, pl31, Try.underlying31, sz32, ag32, zr32, zok32, ist32, sq32, Try.underlying32, sz38, ag38, zr38, zok38, fl38_0, fl38_1, fl38_2, pl38, Try.underlying38, sz39, ag39, zr39, zok39, fl39_0, fl39_1, fl39_2, pl39, Try.underlying39, sz40, ag40, zr40, zok40, fl40_0, fl40_1, fl40_2, pl40, Try.underlying40, sz41, ag41, zr41, zok41, fl41_0, fl41_1, fl41_2, pl41, Try.underlying41, sz42, ag42, zr42, zok42, ist42, sq42, Try.underlying42, sz43, ag43, zr43, zok43, fl43_0, fl43_1, fl43_2, pl43, Try.underlying43, sz44, ag44, zr44, zok44, fl44_0, fl44_1, fl44_2, pl44, Try.underlying44, sz45, ag45, zr45, zok45, fl45_0, fl45_1, fl45_2, fl45_3, fl45_4, fl45_5, fl45_6, fl45_7, fl45_8, fl45_9, fl45_10, fl45_11, pl45, Try.underlying45, sz46, ag46, zr46, zok46, fl46_0, fl46_1, fl46_2, fl46_3, fl46_4, fl46_5, fl46_6, fl46_7, fl46_8, fl46_9, fl46_10, fl46_11, pl46, Try.underlying46, sz53, ag53, zr53, zok53, ii53, Try.underlying53, sz67, ag67, zr67, zok67, ii67, Try.underlying67, sz80, ag80, zr80, zok80, ist80, sq80, Try.underlying80, sz90, ag90, zr90, zok90, Try.underlying90, sz91, ag91, zr91, zok91, fl91_0, pl91, Try.underlying91, sz94, ag94, zr94, zok94, ii94, Try.underlying94, expArgs, allO, expo_s, expo_sl, expo_cap0, expo_loc, expoA_agg, expoA_s, expoA_sl, expoA_cap0, expoA_pc, expoA_loc, expoA_ptr, expArg_agg, expArg_s, expArg_sl, expArg_cap0, expArg_pc, expArg_loc, expArg_ptr, expArg_fn, expArg_fv, e, *, bne]; first | done | rfl) : p := h e
theorem sb {q p : Prop} (e : q) (h : q → p := by intro e; simp (disch := omega) only [fits, fit1, ix_nat, ix_succ, pval, ↓upd_at, ev_tmp, ev_func, ev_const, ofVal_int, ofVal_str, ofVal_bool, ofVal_nil, asN_nat, asN_pos, wrap_id, wrapU_id, wrapB_id, ashift_shr1, half_cast, getD_map, if_pos, if_neg, aindexAddr, afieldAddr, aload, afield, aindex, aslice, abin, aint, astr, aun, aeq, allS, eqL, alen, acap, amin, amax, bnd, aconv, cellsV, cellsZ, cellOf, flat, abuild, afill, setAt, wk, cellish, cellAt, List.getD_cons_zero, List.getD_cons_succ, List.getD_nil, Nat.reduceEqDiff, ↓reduceIte, Option.map_some, Option.map_none, Option.bind_some, Option.isSome_some, Option.isSome_none, Option.isNone_some, Option.isNone_none, List.toList_toArray, List.map_cons, List.map_nil, List.drop_zero, List.drop_succ_cons, List.drop_nil, List.take_zero, List.take_succ_cons, List.take_nil, List.length_cons, List.length_nil, List.length_map, List.cons_append, List.nil_append, List.append_nil, List.set_cons_zero, List.set_cons_succ, List.getElem?_cons_zero, List.getElem?_cons_succ, Nat.reduceAdd, Nat.reduceSub, Nat.reduceMul, Nat.reduceLT, Nat.reduceLeDiff, Nat.zero_add, Nat.add_zero, Nat.zero_mul, Nat.mul_one, Nat.lt_irrefl, true_and, and_true, and_self, false_and, and_false, decide_true, decide_false, Bool.false_eq_true, Bool.true_eq_false, Bool.not_true, Bool.not_false, Bool.true_and, Bool.false_and, Bool.and_true, ge_iff_le, gt_iff_lt, Int.natCast_nonneg, Int.toNat_natCast, Int.reduceAdd, Int.reduceSub, Int.reduceNeg, Int.reduceToNat, Int.reduceLE, Int.reduceLT, Int.toNat_zero, Int.natCast_zero, List.mem_cons, List.not_mem_nil, or_false, or_true, true_or, false_or, Nat.le_refl, Nat.sub_self, Nat.sub_zero, forall_eq_or_imp, forall_eq, List.forall_mem_cons, List.forall_mem_nil, implies_true, Bool.false_or, Bool.true_or, Bool.or_false, Bool.or_true, List.length_set, List.map_nil, List.all_nil, List.getLast?_nil, srcRows, rowsOf, slLen, beq_self_eq_true, bne_self_eq_false, sz2, ag2, zr2, zok2, ii2, Try.underlying2, sz3, ag3, zr3, zok3, ii3, Try.underlying3, sz4, ag4, zr4, zok4, bt4, Try.underlying4, sz5, ag5, zr5, zok5, ii5, Try.underlying5, sz7, ag7, zr7, zok7, fl7_0, fl7_1, fl7_2, fl7_3, pl7, Try.underlying7, sz9, ag9, zr9, zok9, sq9, Try.underlying9, sz12, ag12, zr12, zok12, ii12, Try.underlying12, sz13, ag13, zr13, zok13, fl13_0, fl13_1, pl13, Try.underlying13, sz21, ag21, zr21, zok21, ii21, Try.underlying21, sz22, ag22, zr22, zok22, ist22, sq22, Try.underlying22, sz23, ag23, zr23, zok23, ist23, sq23, Try.underlying23, sz30, ag30, zr30, zok30, fl30_0, fl30_1, pl30, Try.underlying30, sz31, ag31, zr31, zok31, fl31_0, fl31_1, pl31, Try.underlying31, sz32, ag32, zr32, zok32, ist32, sq32, Try.underlying32, sz38, ag38, zr38, zok38, fl38_0, fl38_1, fl38_2, pl38, Try.underlying38, sz39, ag39, zr39, zok39, fl39_0, fl39_1, fl39_2, pl39, Try.underlying39, sz40, ag40, zr40, zok40, fl40_0, fl40_1, fl40_2, pl40, Try.underlying40, sz41, ag41, zr41, zok41, fl41_0, fl41_1, fl41_2, pl41, Try.underlying41, sz42, ag42, zr42, zok42, ist42, sq42, Try.underlying42, sz43, ag43, zr43, zok43, fl43_0, fl43_1, fl43_2, pl43, Try.underlying43, sz44, ag44, zr44, zok44, fl44_0, fl44_1, fl44_2, pl44, Try.underlying44, sz45, ag45, zr45, zok45, fl45_0, fl45_1, fl45_2, fl45_3, fl45_4, fl45_5, fl45_6, fl45_7, fl45_8, fl45_9, fl45_10, fl45_11, pl45, Try.underlying45, sz46, ag46, zr46, zok46, fl46_0, fl46_1, fl46_2, fl46_3, fl46_4, fl46_5, fl46_6, fl46_7, fl46_8, fl46_9, fl46_10, fl46_11, pl46, Try.underlying46, sz53, ag53, zr53, zok53, ii53, Try.underlying53, sz67, ag67, zr67, zok67, ii67, Try.underlying67, sz80, ag80, zr80, zok80, ist80, sq80, Try.underlying80, sz90, ag90, zr90, zok90, Try.underlying90, sz91, ag91, zr91, zok91, fl91_0, pl91, Try.underlying91, sz94, ag94, zr94, zok94, ii94, Try.underlying94, repCells, chunks, List.reduceReplicate, List.flatten_cons, List.flatten_nil, Nat.one_mul, rg0, rg1, rg2, rg3, rg4, rg5, rg6, e]; first | done | with_reducible rfl) : p := h e
theorem sba {q p : Prop} (e : q) (h : q → p := by intro e; simp (disch := omega) only [fits, fit1, ix_nat, ix_succ, pval, ↓upd_at, ev_tmp, ev_func, ev_const, ofVal_int, ofVal_str, ofVal_bool, ofVal_nil, asN_nat, asN_pos, wrap_id, wrapU_id, wrapB_id, ashift_shr1, half_cast, getD_map, if_pos, if_neg, aindexAddr, afieldAddr, aload, afield, aindex, aslice, abin, aint, astr, aun, aeq, allS, eqL, alen, acap, amin, amax, bnd, aconv, cellsV, cellsZ, cellOf, flat, abuild, afill, setAt, wk, cellish, cellAt, List.getD_cons_zero, List.getD_cons_succ, List.getD_nil, Nat.reduceEqDiff, ↓reduceIte, Option.map_some, Option.map_none, Option.bind_some, Option.isSome_some, Option.isSome_none, Option.isNone_some, Option.isNone_none, List.toList_toArray, List.map_cons, List.map_nil, List.drop_zero, List.drop_succ_cons, List.drop_nil, List.take_zero, List.take_succ_cons, List.take_nil, List.length_cons, List.length_nil, List.length_map, List.cons_append, List.nil_append, List.append_nil, List.set_cons_zero, List.set_cons_succ, List.getElem?_cons_zero, List.getElem?_cons_succ, Nat.reduceAdd, Nat.reduceSub, Nat.reduceMul, Nat.reduceLT, Nat.reduceLeDiff, Nat.zero_add, Nat.add_zero, Nat.zero_mul, Nat.mul_one, Nat.lt_irrefl, true_and, and_true, and_self, false_and, and_false, decide_true, decide_false, Bool.false_eq_true, Bool.true_eq_false, Bool.not_true, Bool.not_false, Bool.true_and, Bool.false_and, Bool.and_true, ge_iff_le, gt_iff_lt, Int.natCast_nonneg, Int.toNat_natCast, Int.reduceAdd, Int.reduceSub, Int.reduceNeg, Int.reduceToNat, Int.reduceLE, Int.reduceLT, Int.toNat_zero, Int.natCast_zero, List.mem_cons, List.not_mem_nil, or_false, or_true, true_or, false_or, Nat.le_refl, Nat.sub_self, Nat.sub_zero, forall_eq_or_imp, forall_eq, List.forall_mem_cons, List.forall_mem_nil, implies_true, Bool.false_or, Bool.true_or, Bool.or_false, Bool.or_true, List.length_set, List.map_nil, List.all_nil, List.getLast?_nil, srcRows, rowsOf, slLen, beq_self_eq_true, bne_self_eq_false, sz2, ag2, zr2, zok2, ii2, Try.underlying2, sz3, ag3, zr3, zok3, ii3, Try.underlying3, sz4, ag4, zr4, zok4, bt4, Try.underlying4, sz5, ag5, zr5, zok5, ii5, Try.underlying5, sz7, ag7, zr7, zok7, fl7_0, fl7_1, fl7_2, fl7_3, pl7, Try.underlying7, sz9, ag9, zr9, zok9, sq9, Try.underlying9, sz12, ag12, zr12, zok12, ii12, Try.underlying12, sz13, ag13, zr13, zok13, fl13_0, fl13_1, pl13, Try.underlying13, sz21, ag21, zr21, zok21, ii21, Try.underlying21, sz22, ag22, zr22, zok22, ist22, sq22, Try.underlying22, sz23, ag23, zr23, zok23, ist23, sq23, Try.underlying23, sz30, ag30, zr30, zok30, fl30_0, fl30_1, pl30, Try.underlying30, sz31, ag31, zr31, zok31, fl31_0, fl31_1, pl31, Try.underlying31, sz32, ag32, zr32, zok32, ist32, sq32, Try.underlying32, sz38, ag38, zr38, zok38, fl38_0, fl38_1, fl38_2, pl38, Try.underlying38, sz39, ag39, zr39, zok39, fl39_0, fl39_1, fl39_2, pl39, Try.underlying39, sz40, ag40, zr40, zok40, fl40_0, fl40_1, fl40_2, pl40, Try.underlying40, sz41, ag41, zr41, zok41, fl41_0, fl41_1, fl41_2, pl41, Try.underlying41, sz42, ag42, zr42, zok42, ist42, sq42, Try.underlying42, sz43, ag43, zr43, zok43, fl43_0, fl43_1, fl43_2, pl43, Try.underlying43, sz44, ag44, zr44, zok44, fl44_0, fl44_1, fl44_2, pl44, Try.underlying44, sz45, ag45, zr45, zok45, fl45_0, fl45_1, fl45_2, fl45_3, fl45_4, fl45_5, fl45_6, fl45_7, fl45_8, fl45_9, fl45_10, fl45_11, pl45, Try.underlying45, sz46, ag46, zr46, zok46, fl46_0, fl46_1, fl46_2, fl46_3, fl46_4, fl46_5, fl46_6, fl46_7, fl46_8, fl46_9, fl46_10, fl46_11, pl46, Try.underlying46, sz53, ag53, zr53, zok53, ii53, Try.underlying53, sz67, ag67, zr67, zok67, ii67, Try.underlying67, sz80, ag80, zr80, zok80, ist80, sq80, Try.underlying80, sz90, ag90, zr90, zok90, Try.underlying90, sz91, ag91, zr91, zok91, fl91_0, pl91, Try.underlying91, sz94, ag94, zr94, zok94, ii94, Try.underlying94, repCells, chunks, List.reduceReplicate, List.flatten_cons, List.flatten_nil, Nat.one_mul, rg0, rg1, rg2, rg3, rg4, rg5, rg6, e, *, bne]; first | done | with_reducible rfl) : p := h e
theorem st {q p : Prop} (e : q) (h : q → p := by intro e; simp (disch := omega) only [fits, fit1, ix_nat, ix_succ, pval, ↓upd_at, ev_tmp, ev_func, ev_const, ofVal_int, ofVal_str, ofVal_bool, ofVal_nil, asN_nat, asN_pos, wrap_id, wrapU_id, wrapB_id, ashift_shr1, half_cast, getD_map, if_pos, if_neg, aindexAddr, afieldAddr, aload, afield, aindex, aslice, abin, aint, astr, aun, aeq, allS, eqL, alen, acap, amin, amax, bnd, aconv, cellsV, cellsZ, cellOf, flat, abuild, afill, setAt, wk, cellish, cellAt, List.getD_cons_zero, List.getD_cons_succ, List.getD_nil, Nat.reduceEqDiff, ↓reduceIte, Option.map_some, Option.map_none, Option.bind_some, Option.isSome_some, Option.isSome_none, Option.isNone_some, Option.isNone_none, List.toList_toArray, List.map_cons, List.map_nil, List.drop_zero, List.drop_succ_cons, List.drop_nil, List.take_zero, List.take_succ_cons, List.take_nil, List.length_cons, List.length_nil, List.length_map, List.cons_append, List.nil_append, List.append_nil, List.set_cons_zero, List.set_cons_succ, List.getElem?_cons_zero, List.getElem?_cons_succ, Nat.reduceAdd, Nat.reduceSub, Nat.reduceMul, Nat.reduceLT, Nat.reduceLeDiff, Nat.zero_add, Nat.add_zero, Nat.zero_mul, Nat.mul_one, Nat.lt_irrefl, true_and, and_true, and_self, false_and, and_false, decide_true, decide_false, Bool.false_eq_true, Bool.true_eq_false, Bool.not_true, Bool.not_false, Bool.true_and, Bool.false_and, Bool.and_true, ge_iff_le, gt_iff_lt, Int.natCast_nonneg, Int.toNat_natCast, Int.reduceAdd, Int.reduceSub, Int.reduceNeg, Int.reduceToNat, Int.reduceLE, Int.reduceLT, Int.toNat_zero, Int.natCast_zero, List.mem_cons, List.not_mem_nil, or_false, or_true, true_or, false_or, Nat.le_refl, Nat.sub_self, Nat.sub_zero, forall_eq_or_imp, forall_eq, List.forall_mem_cons, List.forall_mem_nil, implies_true, Bool.false_or, Bool.true_or, Bool.or_false, Bool.or_true, List.length_set, List.map_nil, List.all_nil, List.getLast?_nil, srcRows, rowsOf, slLen, beq_self_eq_true, bne_self_eq_false, sz2, ag2, zr2, zok2, ii2, Try.underlying2, sz3, ag3, zr3, zok3, ii3, Try.underlying3, sz4, ag4, zr4, zok4, bt4, Try.underlying4, sz5, ag5, zr5, zok5, ii5, Try.underlying5, sz7, ag7, zr7, zok7, fl7_0, fl7_1, fl7_2, fl7_3, pl7, Try.underlying7, sz9, ag9, zr9, zok9, sq9, Try.underlying9, sz12, ag12, zr12, zok12, ii12, Try.underlying12, sz13, ag13, zr13, zok13, fl13_0, fl13_1, pl13, Try.underlying13, sz21, ag21, zr21, zok21, ii21, Try.underlying21, sz22, ag22, zr22, zok22, ist22, sq22, Try.underlying22, sz23, ag23, zr23, zok23, ist23, sq23, Try.underlying23, sz30, ag30, zr30, zok30, fl30_0, fl30_1, pl30, Try.underlying30, sz31, ag31, zr31, zok31, fl31_0, fl31_1, pl31, Try.underlying31, sz32, ag32, zr32, zok32, ist32, sq32, Try.underlying32, sz38, ag38, zr38, zok38, fl38_0, fl38_1, fl38_2, pl38, Try.underlying38, sz39, ag39, zr39, zok39, fl39_0, fl39_1, fl39_2, pl39, Try.underlying39, sz40, ag40, zr40, zok40, fl40_0, fl40_1, fl40_2, pl40, Try.underlying40, sz41, ag41, zr41, zok41, fl41_0, fl41_1, fl41_2, pl41, Try.underlying41, sz42, ag42, zr42, zok42, ist42, sq42, Try.underlying42, sz43, ag43, zr43, zok43, fl43_0, fl43_1, fl43_2, pl43, Try.underlying43, sz44, ag44, zr44, zok44, fl44_0, fl44_1, fl44_2, pl44, Try.underlying44, sz45, ag45, zr45, zok45, fl45_0, fl45_1, fl45_2, fl45_3, fl45_4, fl45_5, fl45_6, fl45_7, fl45_8, fl45_9, fl45_10, fl45_11, pl45, Try.underlying45, sz46, ag46, zr46, zok46, fl46_0, fl46_1, fl46_2, fl46_3, fl46_4, fl46_5, fl46_6, fl46_7, fl46_8, fl46_9, fl46_10, fl46_11, pl46, Try.underlying46, sz53, ag53, zr53, zok53, ii53, Try.underlying53, sz67, ag67, zr67, zok67, ii67, Try.underlying67, sz80, ag80, zr80, zok80, ist80, sq80, Try.underlying80, sz90, ag90, zr90, zok90, Try.underlying90, sz91, ag91, zr91, zok91, fl91_0, pl91, Try.underlying91, sz94, ag94, zr94, zok94, ii94, Try.underlying94, toB, e]; first | done | with_reducible rfl) : p := h e
theorem sta {q p : Prop} (e : q) (h : q → p := by intro e; simp (disch := omega) only [fits, fit1, ix_nat, ix_succ, pval, ↓upd_at, ev_tmp, ev_func, ev_const, ofVal_int, ofVal_str, ofVal_bool, ofVal_nil, asN_nat, asN_pos, wrap_id, wrapU_id, wrapB_id, ashift_shr1, half_cast, getD_map, if_pos, if_neg, aindexAddr, afieldAddr, aload, afield, aindex, aslice, abin, aint, astr, aun, aeq, allS, eqL, alen, acap, amin, amax, bnd, aconv, cellsV, cellsZ, cellOf, flat, abuild, afill, setAt, wk, cellish, cellAt, List.getD_cons_zero, List.getD_cons_succ, List.getD_nil, Nat.reduceEqDiff, ↓reduceIte, Option.map_some, Option.map_none, Option.bind_some, Option.isSome_some, Option.isSome_none, Option.isNone_some, Option.isNone_none, List.toList_toArray, List.map_cons, List.map_nil, List.drop_zero, List.drop_succ_cons, List.drop_nil, List.take_zero, List.take_succ_cons, List.take_nil, List.length_cons, List.length_nil, List.length_map, List.cons_append, List.nil_append, List.append_nil, List.set_cons_zero, List.set_cons_succ, List.getElem?_cons_zero, List.getElem?_cons_succ, Nat.reduceAdd, Nat.reduceSub, Nat.reduceMul, Nat.reduceLT, Nat.reduceLeDiff, Nat.zero_add, Nat.add_zero, Nat.zero_mul, Nat.mul_one, Nat.lt_irrefl, true_and, and_true, and_self, false_and, and_false, decide_true, decide_false, Bool.false_eq_true, Bool.true_eq_false, Bool.not_true, Bool.not_false, Bool.true_and, Bool.false_and, Bool.and_true, ge_iff_le, gt_iff_lt, Int.natCast_nonneg, Int.toNat_natCast, Int.reduceAdd, Int.reduceSub, Int.reduceNeg, Int.reduceToNat, Int.reduceLE, Int.reduceLT, Int.toNat_zero, Int.natCast_zero, List.mem_cons, List.not_mem_nil, or_false, or_true, true_or, false_or, Nat.le_refl, Nat.sub_self, Nat.sub_zero, forall_eq_or_imp, forall_eq, List.forall_mem_cons, List.forall_mem_nil, implies_true, Bool.false_or, Bool.true_or, Bool.or_false, Bool.or_true, List.length_set, List.map_nil, List.all_nil, List.getLast?_nil, srcRows, rowsOf, slLen, beq_self_eq_true, bne_self_eq_false, sz2, ag2, zr2, zok2, ii2, Try.underlying2, sz3, ag3, zr3, zok3, ii3, Try.underlying3, sz4, ag4, zr4, zok4, bt4, Try.underlying4, sz5, ag5, zr5, zok5, ii5, Try.underlying5, sz7, ag7, zr7, zok7, fl7_0, fl7_1, fl7_2, fl7_3, pl7, Try.underlying7, sz9, ag9, zr9, zok9, sq9, Try.underlying9, sz12, ag12, zr12, zok12, ii12, Try.underlying12, sz13, ag13, zr13, zok13, fl13_0, fl13_1, pl13, Try.underlying13, sz21, ag21, zr21, zok21, ii21, Try.underlying21, sz22, ag22, zr22, zok22, ist22, sq22, Try.underlying22, sz23, ag23, zr23, zok23, ist23, sq23, Try.underlying23, sz30, ag30, zr30, zok30, fl30_0, fl30_1, pl30, Try.underlying30, sz31, ag31, zr31, zok31, fl31_0, fl31_1, pl31, Try.underlying31, sz32, ag32, zr32, zok32, ist32, sq32, Try.underlying32, sz38, ag38, zr38, zok38, fl38_0, fl38_1, fl38_2, pl38, Try.underlying38, sz39, ag39, zr39, zok39, fl39_0, fl39_1, fl39_2, pl39, Try.underlying39, sz40, ag40, zr40, zok40, fl40_0, fl40_1, fl40_2, pl40, Try.underlying40, sz41, ag41, zr41, zok41, fl41_0, fl41_1, fl41_2, pl41, Try.underlying41, sz42, ag42, zr42, zok42, ist42, sq42, Try.underlying42, sz43, ag43, zr43, zok43, fl43_0, fl43_1, fl43_2, pl43, Try.underlying43, sz44, ag44, zr44, zok44, fl44_0, fl44_1, fl44_2, pl44, Try.underlying44, sz45, ag45, zr45, zok45, fl45_0, fl45_1, fl45_2, fl45_3, fl45_4, fl45_5, fl45_6, fl45_7, fl45_8, fl45_9, fl45_10, fl45_11, pl45, Try.underlying45, sz46, ag46, zr46, zok46, fl46_0, fl46_1, fl46_2, fl46_3, fl46_4, fl46_5, fl46_6, fl46_7, fl46_8, fl46_9, fl46_10, fl46_11, pl46, Try.underlying46, sz53, ag53, zr53, zok53, ii53, Try.underlying53, sz67, ag67, zr67, zok67, ii67, Try.underlying67, sz80, ag80, zr80, zok80, ist80, sq80, Try.underlying80, sz90, ag90, zr90, zok90, Try.underlying90, sz91, ag91, zr91, zok91, fl91_0, pl91, Try.underlying91, sz94, ag94, zr94, zok94, ii94, Try.underlying94, toB, e, *, bne]; first | done | with_reducible rfl) : p := h e
theorem sr {q p : Prop} (e : q) (h : q → p := by intro e; simp (disch := omega) only [fits, fit1, ix_nat, ix_succ, pval, ↓upd_at, ev_tmp, ev_func, ev_const, ofVal_int, ofVal_str, ofVal_bool, ofVal_nil, asN_nat, asN_pos, wrap_id, wrapU_id, wrapB_id, ashift_shr1, half_cast, getD_map, if_pos, if_neg, aindexAddr, afieldAddr, aload, afield, aindex, aslice, abin, aint, astr, aun, aeq, allS, eqL, alen, acap, amin, amax, bnd, aconv, cellsV, cellsZ, cellOf, flat, abuild, afill, setAt, wk, cellish, cellAt, List.getD_cons_zero, List.getD_cons_succ, List.getD_nil, Nat.reduceEqDiff, ↓reduceIte, Option.map_some, Option.map_none, Option.bind_some, Option.isSome_some, Option.isSome_none, Option.isNone_some, Option.isNone_none, List.toList_toArray, List.map_cons, List.map_nil, List.drop_zero, List.drop_succ_cons, List.drop_nil, List.take_zero, List.take_succ_cons, List.take_nil, List.length_cons, List.length_nil, List.length_map, List.cons_append, List.nil_append, List.append_nil, List.set_cons_zero, List.set_cons_succ, List.getElem?_cons_zero, List.getElem?_cons_succ, Nat.reduceAdd, Nat.reduceSub, Nat.reduceMul, Nat.reduceLT, Nat.reduceLeDiff, Nat.zero_add, Nat.add_zero, Nat.zero_mul, Nat.mul_one, Nat.lt_irrefl, true_and, and_true, and_self, false_and, and_false, decide_true, decide_false, Bool.false_eq_true, Bool.true_eq_false, Bool.not_true, Bool.not_false, Bool.true_and, Bool.false_and, Bool.and_true, ge_iff_le, gt_iff_lt, Int.natCast_nonneg, Int.toNat_natCast, Int.reduceAdd, Int.reduceSub, Int.reduceNeg, Int.reduceToNat, Int.reduceLE, Int.reduceLT, Int.toNat_zero, Int.natCast_zero, List.mem_cons, List.not_mem_nil, or_false, or_true, true_or, false_or, Nat.le_refl, Nat.sub_self, Nat.sub_zero, forall_eq_or_imp, forall_eq, List.forall_mem_cons, List.forall_mem_nil, implies_true, Bool.false_or, Bool.true_or, Bool.or_false, Bool.or_true, List.length_set, List.map_nil, List.all_nil, List.getLast?_nil, srcRows, rowsOf, slLen, beq_self_eq_true, bne_self_eq_false, sz2, ag2, zr2, zok2, ii2, Try.underlying2, sz3, ag3, zr3, zok3, ii3, Try.underlying3, sz4, ag4, zr4, zok4, bt4, Try.underlying4, sz5, ag5, zr5, zok5, ii5, Try.underlying5, sz7, ag7, zr7, zok7, fl7_0, fl7_1, fl7_2, fl7_3, pl7, Try.underlying7, sz9, ag9, zr9, zok9, sq9, Try.underlying9, sz12, ag12, zr12, zok12, ii12, Try.underlying12, sz13, ag13, zr13, zok13, fl13_0, fl13_1, pl13, Try.underlying13, sz21, ag21, zr21, zok21, ii21, Try.underlying21, sz22, ag22, zr22, zok22, ist22, sq22, Try.underlying22, sz23, ag23, zr23, zok23, ist23, sq23, Try.underlying23, sz30, ag30, zr30, zok30, fl30_0, fl30_1, pl30, Try.underlying30, sz31, ag31, zr31, zok31, fl31_0, fl31_1, pl31, Try.underlying31, sz32, ag32, zr32, zok32, ist32, sq32, Try.underlying32, sz38, ag38, zr38, zok38, fl38_0, fl38_1, fl38_2, pl38, Try.underlying38, sz39, ag39, zr39, zok39, fl39_0, fl39_1, fl39_2, pl39, Try.underlying39, sz40, ag40, zr40, zok40, fl40_0, fl40_1, fl40_2, pl40, Try.underlying40, sz41, ag41, zr41, zok41, fl41_0, fl41_1, fl41_2, pl41, Try.underlying41, sz42, ag42, zr42, zok42, ist42, sq42, Try.underlying42, sz43, ag43, zr43, zok43, fl43_0, fl43_1, fl43_2, pl43, Try.underlying43, sz44, ag44, zr44, zok44, fl44_0, fl44_1, fl44_2, pl44, Try.underlying44, sz45, ag45, zr45, zok45, fl45_0, fl45_1, fl45_2, fl45_3, fl45_4, fl45_5, fl45_6, fl45_7, fl45_8, fl45_9, fl45_10, fl45_11, pl45, Try.underlying45, sz46, ag46, zr46, zok46, fl46_0, fl46_1, fl46_2, fl46_3, fl46_4, fl46_5, fl46_6, fl46_7, fl46_8, fl46_9, fl46_10, fl46_11, pl46, Try.underlying46, sz53, ag53, zr53, zok53, ii53, Try.underlying53, sz67, ag67, zr67, zok67, ii67, Try.underlying67, sz80, ag80, zr80, zok80, ist80, sq80, Try.underlying80, sz90, ag90, zr90, zok90, Try.underlying90, sz91, ag91, zr91, zok91, fl91_0, pl91, Try.underlying91, sz94, ag94, zr94, zok94, ii94, Try.underlying94, outV, allO, resV, oneOf, e]; first | done | rfl) : p := h e
theorem sra {q p : Prop} (e : q) (h : q → p := by intro e; simp (disch := omega) only [fits, fit1, ix_nat, ix_succ, pval, ↓upd_at, ev_tmp, ev_func, ev_const, ofVal_int, ofVal_str, ofVal_bool, ofVal_nil, asN_nat, asN_pos, wrap_id, wrapU_id, wrapB_id, ashift_shr1, half_cast, getD_map, if_pos, if_neg, aindexAddr, afieldAddr, aload, afield, aindex, aslice, abin, aint, astr, aun, aeq, allS, eqL, alen, acap, amin, amax, bnd, aconv, cellsV, cellsZ, cellOf, flat, abuild, afill, setAt, wk, cellish, cellAt, List.getD_cons_zero, List.getD_cons_succ, List.getD_nil, Nat.reduceEqDiff, ↓reduceIte, Option.map_some, Option.map_none, Option.bind_some, Option.isSome_some, Option.isSome_none, Option.isNone_some, Option.isNone_none, List.toList_toArray, List.map_cons, List.map_nil, List.drop_zero, List.drop_succ_cons, List.drop_nil, List.take_zero, List.take_succ_cons, List.take_nil, List.length_cons, List.length_nil, List.length_map, List.cons_append, List.nil_append, List.append_nil, List.set_cons_zero, List.set_cons_succ, List.getElem?_cons_zero, List.getElem?_cons_succ, Nat.reduceAdd, Nat.reduceSub, Nat.reduceMul, Nat.reduceLT, Nat.reduceLeDiff, Nat.zero_add, Nat.add_zero, Nat.zero_mul, Nat.mul_one, Nat.lt_irrefl, true_and, and_true, and_self, false_and, and_false, decide_true, decide_false, Bool.false_eq_true, Bool.true_eq_false, Bool.not_true, Bool.not_false, Bool.true_and, Bool.false_and, Bool.and_true, ge_iff_le, gt_iff_lt, Int.natCast_nonneg, Int.toNat_natCast, Int.reduceAdd, Int.reduceSub, Int.reduceNeg, Int.reduceToNat, Int.reduceLE, Int.reduceLT, Int.toNat_zero, Int.natCast_zero, List.mem_cons, List.not_mem_nil, or_false, or_true, true_or, false_or, Nat.le_refl, Nat.sub_self, Nat.sub_zero, forall_eq_or_imp, forall_eq, List.forall_mem_cons, List.forall_mem_nil, implies_true, Bool.false_or, Bool.true_or, Bool.or_false, Bool.or_true, List.length_set, List.map_nil, List.all_nil, List.getLast?_nil, srcRows, rowsOf, slLen, beq_self_eq_true, bne_self_eq_false, sz2, ag2, zr2, zok2, ii2, Try.underlying2, sz3, ag3, zr3, zok3, ii3, Try.underlying3, sz4, ag4, zr4, zok4, bt4, Try.underlying4, sz5, ag5, zr5, zok5, ii5, Try.underlying5, sz7, ag7, zr7, zok7, fl7_0, fl7_1, fl7_2, fl7_3, pl7, Try.underlying7, sz9, ag9, zr9, zok9, sq9, Try.underlying9, sz12, ag12, zr12, zok12, ii12, Try.underlying12, sz13, ag13, zr13, zok13, fl13_0, fl13_1, pl13, Try.underlying13, sz21, ag21, zr21, zok21, ii21, Try.underlying21, sz22, ag22, zr22, zok22, ist22, sq22, Try.underlying22, sz23, ag23, zr23, zok23, ist23, sq23, Try.underlying23, sz30, ag30, zr30, zok30, fl30_0, fl30_1, pl30, Try.underlying30, sz31, ag31, zr31, zok31, fl31_0, fl31_1, pl31, Try.underlying31, sz32, ag32, zr32, zok32, ist32, sq32, Try.underlying32, sz38, ag38, zr38, zok38, fl38_0, fl38_1, fl38_2, pl38, Try.underlying38, sz39, ag39, zr39, zok39, fl39_0, fl39_1, fl39_2, pl39, Try.underlying39, sz40, ag40, zr40, zok40, fl40_0, fl40_1, fl40_2, pl40, Try.underlying40, sz41, ag41, zr41, zok41, fl41_0, fl41_1, fl41_2, pl41, Try.underlying41, sz42, ag42, zr42, zok42, ist42, sq42, Try.underlying42, sz43, ag43, zr43, zok43, fl43_0, fl43_1, fl43_2, pl43, Try.underlying43, sz44, ag44, zr44, zok44, fl44_0, fl44_1, fl44_2, pl44, Try.underlying44, sz45, ag45, zr45, zok45, fl45_0, fl45_1, fl45_2, fl45_3, fl45_4, fl45_5, fl45_6, fl45_7, fl45_8, fl45_9, fl45_10, fl45_11, pl45, Try.underlying45, sz46, ag46, zr46, zok46, fl46_0, fl46_1, fl46_2, fl46_3, fl46_4, fl46_5, fl46_6, fl46_7, fl46_8, fl46_9, fl46_10, fl46_11, pl46, Try.underlying46, sz53, ag53, zr53, zok53, ii53, Try.underlying53, sz67, ag67, zr67, zok67, ii67, Try.underlying67, sz80, ag80, zr80, zok80, ist80, sq80, Try.underlying80, sz90, ag90, zr90, zok90, Try.underlying90, sz91, ag91, zr91, zok91, fl91_0, pl91, Try.underlying91, sz94, ag94, zr94, zok94, ii94, Try.underlying94, outV, allO, resV, oneOf, e, *, bne]; first | done | rfl) : p := h e
theorem sx {q p : Prop} (e : q) (h : q → p := by intro e; simp (disch := omega) only [fits, fit1, ix_nat, ix_succ, pval, ↓upd_at, ev_tmp, ev_func, ev_const, ofVal_int, ofVal_str, ofVal_bool, ofVal_nil, asN_nat, asN_pos, wrap_id, wrapU_id, wrapB_id, ashift_shr1, half_cast, getD_map, if_pos, if_neg, aindexAddr, afieldAddr, aload, afield, aindex, aslice, abin, aint, astr, aun, aeq, allS, eqL, alen, acap, amin, amax, bnd, aconv, cellsV, cellsZ, cellOf, flat, abuild, afill, setAt, wk, cellish, cellAt, List.getD_cons_zero, List.getD_cons_succ, List.getD_nil, Nat.reduceEqDiff, ↓reduceIte, Option.map_some, Option.map_none, Option.bind_some, Option.isSome_some, Option.isSome_none, Option.isNone_some, Option.isNone_none, List.toList_toArray, List.map_cons, List.map_nil, List.drop_zero, List.drop_succ_cons, List.drop_nil, List.take_zero, List.take_succ_cons, List.take_nil, List.length_cons, List.length_nil, List.length_map, List.cons_append, List.nil_append, List.append_nil, List.set_cons_zero, List.set_cons_succ, List.getElem?_cons_zero, List.getElem?_cons_succ, Nat.reduceAdd, Nat.reduceSub, Nat.reduceMul, Nat.reduceLT, Nat.reduceLeDiff, Nat.zero_add, Nat.add_zero, Nat.zero_mul, Nat.mul_one, Nat.lt_irrefl, true_and, and_true, and_self, false_and, and_false, decide_true, decide_false, Bool.false_eq_true, Bool.true_eq_false, Bool.not_true, Bool.not_false, Bool.true_and, Bool.false_and, Bool.and_true, ge_iff_le, gt_iff_lt, Int.natCast_nonneg, Int.toNat_natCast, Int.reduceAdd, Int.reduceSub, Int.reduceNeg, Int.reduceToNat, Int.reduceLE, Int.reduceLT, Int.toNat_zero, Int.natCast_zero, List.mem_cons, List.not_mem_nil, or_false, or_true, true_or, false_or, Nat.le_refl, Nat.sub_self, Nat.sub_zero, forall_eq_or_imp, forall_eq, List.forall_mem_cons, List.forall_mem_nil, implies_true, Bool.false_or, Bool.true_or, Bool.or_false, Bool.or_true, List.length_set, List.map_nil, List.all_nil, List.getLast?_nil, srcRows, rowsOf, slLen, beq_self_eq_true, bne_self_eq_false, sz2, ag2, zr2, zok2, ii2, Try.underlying2, sz3, ag3, zr3, zok3, ii3, Try.underlying3, sz4, ag4, zr4, zok4, bt4, Try.underlying4, sz5, ag5, zr5, zok5, ii5, Try.underlying5, sz7, ag7, zr7, zok7, fl7_0, fl7_1, fl7_2, fl7_3, pl7, Try.underlying7, sz9, ag9, zr9, zok9, sq9, Try.underlying9, sz12, ag12, zr12, zok12, ii12, Try.underlying12, sz13, ag13, zr13, zok13, fl13_0, fl13_1, pl13, Try.underlying13, sz21, ag21, zr21, zok21, ii21, Try.underlying21, sz22, ag22, zr22, zok22, ist22, sq22, Try.underlying22, sz23, ag23, zr23, zok23, ist23, sq23, Try.underlying23, sz30, ag30, zr30, zok30, fl30_0, fl30_1, pl30, Try.underlying30, sz31, ag31, zr31, zok31, fl31_0, fl31_1, pl31, Try.underlying31, sz32, ag32, zr32, zok32, ist32, sq32, Try.underlying32, sz38, ag38, zr38, zok38, fl38_0, fl38_1, fl38_2, pl38, Try.underlying38, sz39, ag39, zr39, zok39, fl39_0, fl39_1, fl39_2, pl39, Try.underlying39, sz40, ag40, zr40, zok40, fl40_0, fl40_1, fl40_2, pl40, Try.underlying40, sz41, ag41, zr41, zok41, fl41_0, fl41_1, fl41_2, pl41, Try.underlying41, sz42, ag42, zr42, zok42, ist42, sq42, Try.underlying42, sz43, ag43, zr43, zok43, fl43_0, fl43_1, fl43_2, pl43, Try.underlying43, sz44, ag44, zr44, zok44, fl44_0, fl44_1, fl44_2, pl44, Try.underlying44, sz45, ag45, zr45, zok45, fl45_0, fl45_1, fl45_2, fl45_3, fl45_4, fl45_5, fl45_6, fl45_7, fl45_8, fl45_9, fl45_10, fl45_11, pl45, Try.underlying45, sz46, ag46, zr46, zok46, fl46_0, fl46_1, fl46_2, fl46_3, fl46_4, fl46_5, fl46_6, fl46_7, fl46_8, fl46_9, fl46_10, fl46_11, pl46, Try.underlying46, sz53, ag53, zr53, zok53, ii53, Try.underlying53, sz67, ag67, zr67, zok67, ii67, Try.underlying67, sz80, ag80, zr80, zok80, ist80, sq80, Try.underlying80, sz90, ag90, zr90, zok90, Try.underlying90, sz91, ag91, zr91, zok91, fl91_0, pl91, Try.underlying91, sz94, ag94, zr94, zok94, ii94, Try.underlying94, e]; first | done | rfl) : p := h e
theorem sxa {q p : Prop} (e : q) (h : q → p := by intro e; simp (disch := omega) only [fits, fit1, ix_nat, ix_succ, pval, ↓upd_at, ev_tmp, ev_func, ev_const, ofVal_int, ofVal_str, ofVal_bool, ofVal_nil, asN_nat, asN_pos, wrap_id, wrapU_id, wrapB_id, ashift_shr1, half_cast, getD_map, if_pos, if_neg, aindexAddr, afieldAddr, aload, afield, aindex, aslice, abin, aint, astr, aun, aeq, allS, eqL, alen, acap, amin, amax, bnd, aconv, cellsV, cellsZ, cellOf, flat, abuild, afill, setAt, wk, cellish, cellAt, List.getD_cons_zero, List.getD_cons_succ, List.getD_nil, Nat.reduceEqDiff, ↓reduceIte, Option.map_some, Option.map_none, Option.bind_some, Option.isSome_some, Option.isSome_none, Option.isNone_some, Option.isNone_none, List.toList_toArray, List.map_cons, List.map_nil, List.drop_zero, List.drop_succ_cons, List.drop_nil, List.take_zero, List.take_succ_cons, List.take_nil, List.length_cons, List.length_nil, List.length_map, List.cons_append, List.nil_append, List.append_nil, List.set_cons_zero, List.set_cons_succ, List.getElem?_cons_zero, List.getElem?_cons_succ, Nat.reduceAdd, Nat.reduceSub, Nat.reduceMul, Nat.reduceLT, Nat.reduceLeDiff, Nat.zero_add, Nat.add_zero, Nat.zero_mul, Nat.mul_one, Nat.lt_irrefl, true_and, and_true, and_self, false_and, and_false, decide_true, decide_false, Bool.false_eq_true, Bool.true_eq_false, Bool.not_true, Bool.not_false, Bool.true_and, Bool.false_and, Bool.and_true, ge_iff_le, gt_iff_lt, Int.natCast_nonneg, Int.toNat_natCast, Int.reduceAdd, Int.reduceSub, Int.reduceNeg, Int.reduceToNat, Int.reduceLE, Int.reduceLT, Int.toNat_zero, Int.natCast_zero, List.mem_cons, List.not_mem_nil, or_false, or_true, true_or, false_or, Nat.le_refl, Nat.sub_self, Nat.sub_zero, forall_eq_or_imp, forall_eq, List.forall_mem_cons, List.forall_mem_nil, implies_true, Bool.false_or, Bool.true_or, Bool.or_false, Bool.or_true, List.length_set, List.map_nil, List.all_nil, List.getLast?_nil, srcRows, rowsOf, slLen, beq_self_eq_true, bne_self_eq_false, sz2, ag2, zr2, zok2, ii2, Try.underlying2, sz3, ag3, zr3, zok3, ii3, Try.underlying3, sz4, ag4, zr4, zok4, bt4, Try.underlying4, sz5, ag5, zr5, zok5, ii5, Try.underlying5, sz7, ag7, zr7, zok7, fl7_0, fl7_1, fl7_2, fl7_3, pl7, Try.underlying7, sz9, ag9, zr9, zok9, sq9, Try.underlying9, sz12, ag12, zr12, zok12, ii12, Try.underlying12, sz13, ag13, zr13, zok13, fl13_0, fl13_1, pl13, Try.underlying13, sz21, ag21, zr21, zok21, ii21, Try.underlying21, sz22, ag22, zr22, zok22, ist22, sq22, Try.underlying22, sz23, ag23, zr23, zok23, ist23, sq23, Try.underlying23, sz30, ag30, zr30, zok30, fl30_0, fl30_1, pl30, Try.underlying30, sz31, ag31, zr31, zok31, fl31_0, fl31_1, pl31, Try.underlying31, sz32, ag32, zr32, zok32, ist32, sq32, Try.underlying32, sz38, ag38, zr38, zok38, fl38_0, fl38_1, fl38_2, pl38, Try.underlying38, sz39, ag39, zr39, zok39, fl39_0, fl39_1, fl39_2, pl39, Try.underlying39, sz40, ag40, zr40, zok40, fl40_0, fl40_1, fl40_2, pl40, Try.underlying40, sz41, ag41, zr41, zok41, fl41_0, fl41_1, fl41_2, pl41, Try.underlying41, sz42, ag42, zr42, zok42, ist42, sq42, Try.underlying42, sz43, ag43, zr43, zok43, fl43_0, fl43_1, fl43_2, pl43, Try.underlying43, sz44, ag44, zr44, zok44, fl44_0, fl44_1, fl44_2, pl44, Try.underlying44, sz45, ag45, zr45, zok45, fl45_0, fl45_1, fl45_2, fl45_3, fl45_4, fl45_5, fl45_6, fl45_7, fl45_8, fl45_9, fl45_10, fl45_11, pl45, Try.underlying45, sz46, ag46, zr46, zok46, fl46_0, fl46_1, fl46_2, fl46_3, fl46_4, fl46_5, fl46_6, fl46_7, fl46_8, fl46_9, fl46_10, fl46_11, pl46, Try.underlying46, sz53, ag53, zr53, zok53, ii53, Try.underlying53, sz67, ag67, zr67, zok67, ii67, Try.underlying67, sz80, ag80, zr80, zok80, ist80, sq80, Try.underlying80, sz90, ag90, zr90, zok90, Try.underlying90, sz91, ag91, zr91, zok91, fl91_0, pl91, Try.underlying91, sz94, ag94, zr94, zok94, ii94, Try.underlying94, e, *, bne]; first | done | rfl) : p := h e
theorem so {q p : Prop} (e : q) (h : q → p := by intro e; simp (disch := omega) only [fits, fit1, ix_nat, ix_succ, pval, ↓upd_at, ev_tmp, ev_func, ev_const, ofVal_int, ofVal_str, ofVal_bool, ofVal_nil, asN_nat, asN_pos, wrap_id, wrapU_id, wrapB_id, ashift_shr1, half_cast, getD_map, if_pos, if_neg, aindexAddr, afieldAddr, aload, afield, aindex, aslice, abin, aint, astr, aun, aeq, allS, eqL, alen, acap, amin, amax, bnd, aconv, cellsV, cellsZ, cellOf, flat, abuild, afill, setAt, wk, cellish, cellAt, List.getD_cons_zero, List.getD_cons_succ, List.getD_nil, Nat.reduceEqDiff, ↓reduceIte, Option.map_some, Option.map_none, Option.bind_some, Option.isSome_some, Option.isSome_none, Option.isNone_some, Option.isNone_none, List.toList_toArray, List.map_cons, List.map_nil, List.drop_zero, List.drop_succ_cons, List.drop_nil, List.take_zero, List.take_succ_cons, List.take_nil, List.length_cons, List.length_nil, List.length_map, List.cons_append, List.nil_append, List.append_nil, List.set_cons_zero, List.set_cons_succ, List.getElem?_cons_zero, List.getElem?_cons_succ, Nat.reduceAdd, Nat.reduceSub, Nat.reduceMul, Nat.reduceLT, Nat.reduceLeDiff, Nat.zero_add, Nat.add_zero, Nat.zero_mul, Nat.mul_one, Nat.lt_irrefl, true_and, and_true, and_self, false_and, and_false, decide_true, decide_false, Bool.false_eq_true, Bool.true_eq_false, Bool.not_true, Bool.not_false, Bool.true_and, Bool.false_and, Bool.and_true, ge_iff_le, gt_iff_lt, Int.natCast_nonneg, Int.toNat_natCast, Int.reduceAdd, Int.reduceSub, Int.reduceNeg, Int.reduceToNat, Int.reduceLE, Int.reduceLT, Int.toNat_zero, Int.natCast_zero, List.mem_cons, List.not_mem_nil, or_false, or_true, true_or, false_or, Nat.le_refl, Nat.sub_self, Nat.sub_zero, forall_eq_or_imp, forall_eq, List.forall_mem_cons, List.forall_mem_nil, implies_true, Bool.false_or, Bool.true_or, Bool.or_false, Bool.or_true, List.length_set, List.map_nil, List.all_nil, List.getLast?_nil, srcRows, rowsOf, slLen, beq_self_eq_true, bne_self_eq_false, sz2, ag2, zr2, zok2, ii2, Try.underlying2, sz3, ag3, zr3, zok3, ii3, Try.underlying3, sz4, ag4, zr4, zok4, bt4, Try.underlying4, sz5, ag5, zr5, zok5, ii5, Try.underlying5, sz7, ag7, zr7, zok7, fl7_0, fl7_1, fl7_2, fl7_3, pl7, Try.underlying7, sz9, ag9, zr9, zok9, sq9, Try.underlying9, sz12, ag12, zr12, zok12, ii12, Try.underlying12, sz13, ag13, zr13, zok13, fl13_0, fl13_1, pl13, Try.underlying13, sz21, ag21, zr21, zok21, ii21, Try.underlying21, sz22, ag22, zr22, zok22, ist22, sq22, Try.underlying22, sz23, ag23, zr23, zok23, ist23, sq23, Try.underlying23, sz30, ag30, zr30, zok30, fl30_0, fl30_1, pl30, Try.underlying30, sz31, ag31, zr31, zok31, fl31_0, fl31_1, pl31, Try.underlying31, sz32, ag32, zr32, zok32, ist32, sq32, Try.underlying32, sz38, ag38, zr38, zok38, fl38_0, fl38_1, fl38_2, pl38, Try.underlying38, sz39, ag39, zr39, zok39, fl39_0, fl39_1, fl39_2, pl39, Try.underlying39, sz40, ag40, zr40, zok40, fl40_0, fl40_1, fl40_2, pl40, Try.underlying40, sz41, ag41, zr41, zok41, fl41_0, fl41_1, fl41_2, pl41, Try.underlying41, sz42, ag42, zr42, zok42, ist42, sq42, Try.underlying42, sz43, ag43, zr43, zok43, fl43_0, fl43_1, fl43_2, pl43, Try.underlying43, sz44, ag44, zr44, zok44, fl44_0, fl44_1, fl44_2, pl44, Try.underlying44, sz45, ag45, zr45, zok45, fl45_0, fl45_1, fl45_2, fl45_3, fl45_4, fl45_5, fl45_6, fl45_7, fl45_8, fl45_9, fl45_10, fl45_11, pl45, Try.underlying45, sz46, ag46, zr46, zok46, fl46_0, fl46_1, fl46_2, fl46_3, fl46_4, fl46_5, fl46_6, fl46_7, fl46_8, fl46_9, fl46_10, fl46_11, pl46, Try.underlying46, sz53, ag53, zr53, zok53, ii53, Try.underlying53, sz67, ag67, zr67, zok67, ii67, Try.underlying67, sz80, ag80, zr80, zok80, ist80, sq80, Try.underlying80, sz90, ag90, zr90, zok90, Try.underlying90, sz91, ag91, zr91, zok91, fl91_0, pl91, Try.underlying91, sz94, ag94, zr94, zok94, ii94, Try.underlying94, e]; omega) : p := h e
theorem soa {q p : Prop} (e : q) (h : q → p := by intro e; simp (disch := omega) only [fits, fit1, ix_nat, ix_succ, pval, ↓upd_at, ev_tmp, ev_func, ev_const, ofVal_int, ofVal_str, ofVal_bool, ofVal_nil, asN_nat, asN_pos, wrap_id, wrapU_id, wrapB_id, ashift_shr1, half_cast, getD_map, if_pos, if_neg, aindexAddr, afieldAddr, aload, afield, aindex, aslice, abin, aint, astr, aun, aeq, allS, eqL, alen, acap, amin, amax, bnd, aconv, cellsV, cellsZ, cellOf, flat, abuild, afill, setAt, wk, cellish, cellAt, List.getD_cons_zero, List.getD_cons_succ, List.getD_nil, Nat.reduceEqDiff, ↓reduceIte, Option.map_some, Option.map_none, Option.bind_some, Option.isSome_some, Option.isSome_none, Option.isNone_some, Option.isNone_none, List.toList_toArray, List.map_cons, List.map_nil, List.drop_zero, List.drop_succ_cons, List.drop_nil, List.take_zero, List.take_succ_cons, List.take_nil, List.length_cons, List.length_nil, List.length_map, List.cons_append, List.nil_append, List.append_nil, List.set_cons_zero, List.set_cons_succ, List.getElem?_cons_zero, List.getElem?_cons_succ, Nat.reduceAdd, Nat.reduceSub, Nat.reduceMul, Nat.reduceLT, Nat.reduceLeDiff, Nat.zero_add, Nat.add_zero, Nat.zero_mul, Nat.mul_one, Nat.lt_irrefl, true_and, and_true, and_self, false_and, and_false, decide_true, decide_false, Bool.false_eq_true, Bool.true_eq_false, Bool.not_true, Bool.not_false, Bool.true_and, Bool.false_and, Bool.and_true, ge_iff_le, gt_iff_lt, Int.natCast_nonneg, Int.toNat_natCast, Int.reduceAdd, Int.reduceSub, Int.reduceNeg, Int.reduceToNat, Int.reduceLE, Int.reduceLT, Int.toNat_zero, Int.natCast_zero, List.mem_cons, List.not_mem_nil, or_false, or_true, true_or, false_or, Nat.le_refl, Nat.sub_self, Nat.sub_zero, forall_eq_or_imp, forall_eq, List.forall_mem_cons, List.forall_mem_nil, implies_true, Bool.false_or, Bool.true_or, Bool.or_false, Bool.or_true, List.length_set, List.map_nil, List.all_nil, List.getLast?_nil, srcRows, rowsOf, slLen, beq_self_eq_true, bne_self_eq_false, sz2, ag2, zr2, zok2, ii2, Try.underlying2, sz3, ag3, zr3, zok3, ii3, Try.underlying3, sz4, ag4, zr4, zok4, bt4, Try.underlying4, sz5, ag5, zr5, zok5, ii5, Try.underlying5, sz7, ag7, zr7, zok7, fl7_0, fl7_1, fl7_2, fl7_3, pl7, Try.underlying7, sz9, ag9, zr9, zok9, sq9, Try.underlying9, sz12, ag12, zr12, zok12, ii12, Try.underlying12, sz13, ag13, zr13, zok13, fl13_0, fl13_1, pl13, Try.underlying13, sz21, ag21, zr21, zok21, ii21, Try.underlying21, sz22, ag22, zr22, zok22, ist22, sq22, Try.underlying22, sz23, ag23, zr23, zok23, ist23, sq23, Try.underlying23, sz30, ag30, zr30, zok30, fl30_0, fl30_1, pl30, Try.underlying30, sz31, ag31, zr31, zok31, fl31_0, fl31_1, pl31, Try.underlying31, sz32, ag32, zr32, zok32, ist32, sq32, Try.underlying32, sz38, ag38, zr38, zok38, fl38_0, fl38_1, fl38_2, pl38, Try.underlying38, sz39, ag39, zr39, zok39, fl39_0, fl39_1, fl39_2, pl39, Try.underlying39, sz40, ag40, zr40, zok40, fl40_0, fl40_1, fl40_2, pl40, Try.underlying40, sz41, ag41, zr41, zok41, fl41_0, fl41_1, fl41_2, pl41, Try.underlying41, sz42, ag42, zr42, zok42, ist42, sq42, Try.underlying42, sz43, ag43, zr43, zok43, fl43_0, fl43_1, fl43_2, pl43, Try.underlying43, sz44, ag44, zr44, zok44, fl44_0, fl44_1, fl44_2, pl44, Try.underlying44, sz45, ag45, zr45, zok45, fl45_0, fl45_1, fl45_2, fl45_3, fl45_4, fl45_5, fl45_6, fl45_7, fl45_8, fl45_9, fl45_10, fl45_11, pl45, Try.underlying45, sz46, ag46, zr46, zok46, fl46_0, fl46_1, fl46_2, fl46_3, fl46_4, fl46_5, fl46_6, fl46_7, fl46_8, fl46_9, fl46_10, fl46_11, pl46, Try.underlying46, sz53, ag53, zr53, zok53, ii53, Try.underlying53, sz67, ag67, zr67, zok67, ii67, Try.underlying67, sz80, ag80, zr80, zok80, ist80, sq80, Try.underlying80, sz90, ag90, zr90, zok90, Try.underlying90, sz91, ag91, zr91, zok91, fl91_0, pl91, Try.underlying91, sz94, ag94, zr94, zok94, ii94, Try.underlying94, e, *, bne]; omega) : p := h e
structure Hd (p : Prop) : Prop where
  out : p
theorem go {q X Y : Prop} (e : q) (k : Y) (s : q → Hd Y → X := by intro ee k; (repeat (first | (refine x_ops ?_; refine x_op rfl rfl rfl (sv ee) ?_) | refine x_seq ?_ | refine x_reg rfl ?_ | refine x_nil ?_ | refine x_thenN ?_ | refine x_thenE ?_ | refine x_thenR ?_ | refine x_blkN ?_ | refine x_blkR ?_ | refine x_blkE ?_ | refine x_skip ?_ | refine x_exit ?_ | refine x_ret ?_ | refine x_block ?_ | refine x_putN ?_ | refine x_putS ?_ | refine x_regD rfl ?_ | refine x_nilD ?_ | refine x_blkF rfl ?_ | (refine x_opsD ?_; refine x_opD rfl rfl rfl (qv_pure rfl (sv ee)) ?_) | (refine x_isGt rfl ?_; first | refine x_gTt rfl rfl (sv ee) (by with_reducible rfl) ?_ | refine x_gFt rfl rfl rfl (sv ee) (by with_reducible rfl) ?_ | refine x_gU' rfl rfl rfl (sv ee) (by with_reducible rfl) ?_) | (refine x_isGf rfl ?_; first | refine x_gTf rfl rfl (sv ee) (by with_reducible rfl) ?_ | refine x_gFf rfl rfl rfl (sv ee) (by with_reducible rfl) ?_ | refine x_gU' rfl rfl rfl (sv ee) (by with_reducible rfl) ?_) | (refine x_isGtD rfl ?_; first | refine x_gTDt rfl rfl rfl (sv ee) (by with_reducible rfl) ?_ | refine x_gFDt rfl rfl rfl rfl (sv ee) (by with_reducible rfl) ?_ | refine x_gUD' rfl rfl rfl rfl (sv ee) (by with_reducible rfl) ?_) | (refine x_isGfD rfl ?_; first | refine x_gTDf rfl rfl rfl (sv ee) (by with_reducible rfl) ?_ | refine x_gFDf rfl rfl rfl rfl (sv ee) (by with_reducible rfl) ?_ | refine x_gUD' rfl rfl rfl rfl (sv ee) (by with_reducible rfl) ?_) | (refine x_opsD ?_; refine x_effD rfl ?_) | (refine x_isC ?_; refine x_condT' (sv ee) (by with_reducible rfl) ?_) | (refine x_isC ?_; refine x_condF' (sv ee) (by with_reducible rfl) ?_) | (refine x_isBox rfl ?_; refine x_box rfl rfl rfl (sv ee) ?_) | (refine x_isAlloc rfl ?_; refine x_alloc rfl rfl rfl (sv ee) (sv ee) ?_) | (refine x_isStore rfl ?_; refine x_store rfl rfl rfl (sv ee) (sv ee) (sv ee) (sv ee) rfl (sc ee) (sc ee) (sc ee) (sc ee) (sv ee) ?_) | (refine x_isConv rfl ?_; refine x_conv rfl rfl rfl (st ee) rfl (sv ee) ?_) | (refine x_isConvD rfl ?_; refine x_convD rfl rfl rfl (sv ee) ?_) | (refine x_isBs rfl ?_; refine x_bslice rfl rfl rfl (sv ee) (sv ee) (sb ee) (by simp [cellsZ, cellOf, flat]) (sb ee) ?_))); exact k.out) : X := s e ⟨k⟩
theorem goR {q X Y : Prop} (e : q) (k : Y) (s : q → Hd Y → X := by intro ee k; (repeat (first | (refine x_ops ?_; refine x_op rfl rfl rfl (sv ee) ?_) | refine x_reg rfl ?_ | refine x_nil ?_ | refine x_thenN ?_ | refine x_thenE ?_ | refine x_thenR ?_ | refine x_blkN ?_ | refine x_blkR ?_ | refine x_blkE ?_ | refine x_skip ?_ | refine x_exit ?_ | refine x_ret ?_ | refine x_block ?_ | refine x_putN ?_ | refine x_putS ?_ | refine x_regD rfl ?_ | refine x_nilD ?_ | refine x_blkF rfl ?_ | (refine x_opsD ?_; refine x_opD rfl rfl rfl (qv_pure rfl (sv ee)) ?_) | (refine x_isGt rfl ?_; first | refine x_gTt rfl rfl (sv ee) (by with_reducible rfl) ?_ | refine x_gFt rfl rfl rfl (sv ee) (by with_reducible rfl) ?_ | refine x_gU' rfl rfl rfl (sv ee) (by with_reducible rfl) ?_) | (refine x_isGf rfl ?_; first | refine x_gTf rfl rfl (sv ee) (by with_reducible rfl) ?_ | refine x_gFf rfl rfl rfl (sv ee) (by with_reducible rfl) ?_ | refine x_gU' rfl rfl rfl (sv ee) (by with_reducible rfl) ?_) | (refine x_isGtD rfl ?_; first | refine x_gTDt rfl rfl rfl (sv ee) (by with_reducible rfl) ?_ | refine x_gFDt rfl rfl rfl rfl (sv ee) (by with_reducible rfl) ?_ | refine x_gUD' rfl rfl rfl rfl (sv ee) (by with_reducible rfl) ?_) | (refine x_isGfD rfl ?_; first | refine x_gTDf rfl rfl rfl (sv ee) (by with_reducible rfl) ?_ | refine x_gFDf rfl rfl rfl rfl (sv ee) (by with_reducible rfl) ?_ | refine x_gUD' rfl rfl rfl rfl (sv ee) (by with_reducible rfl) ?_) | (refine x_opsD ?_; refine x_effD rfl ?_) | (refine x_isC ?_; refine x_condT' (sv ee) (by with_reducible rfl) ?_) | (refine x_isC ?_; refine x_condF' (sv ee) (by with_reducible rfl) ?_) | (refine x_isBox rfl ?_; refine x_box rfl rfl rfl (sv ee) ?_) | (refine x_isAlloc rfl ?_; refine x_alloc rfl rfl rfl (sv ee) (sv ee) ?_) | (refine x_isStore rfl ?_; refine x_store rfl rfl rfl (sv ee) (sv ee) (sv ee) (sv ee) rfl (sc ee) (sc ee) (sc ee) (sc ee) (sv ee) ?_) | (refine x_isConv rfl ?_; refine x_conv rfl rfl rfl (st ee) rfl (sv ee) ?_) | (refine x_isConvD rfl ?_; refine x_convD rfl rfl rfl (sv ee) ?_) | (refine x_isBs rfl ?_; refine x_bslice rfl rfl rfl (sv ee) (sv ee) (sb ee) (by simp [cellsZ, cellOf, flat]) (sb ee) ?_))); exact k.out) : X := s e ⟨k⟩
theorem goa {q X Y : Prop} (e : q) (k : Y) (s : q → Hd Y → X := by intro ee k; (repeat (first | (refine x_ops ?_; refine x_op rfl rfl rfl (sva ee) ?_) | refine x_seq ?_ | refine x_reg rfl ?_ | refine x_nil ?_ | refine x_thenN ?_ | refine x_thenE ?_ | refine x_thenR ?_ | refine x_blkN ?_ | refine x_blkR ?_ | refine x_blkE ?_ | refine x_skip ?_ | refine x_exit ?_ | refine x_ret ?_ | refine x_block ?_ | refine x_putN ?_ | refine x_putS ?_ | refine x_regD rfl ?_ | refine x_nilD ?_ | refine x_blkF rfl ?_ | (refine x_opsD ?_; refine x_opD rfl rfl rfl (qv_pure rfl (sva ee)) ?_) | (refine x_isGt rfl ?_; first | refine x_gTt rfl rfl (sva ee) (by with_reducible rfl) ?_ | refine x_gFt rfl rfl rfl (sva ee) (by with_reducible rfl) ?_ | refine x_gU' rfl rfl rfl (sva ee) (by with_reducible rfl) ?_) | (refine x_isGf rfl ?_; first | refine x_gTf rfl rfl (sva ee) (by with_reducible rfl) ?_ | refine x_gFf rfl rfl rfl (sva ee) (by with_reducible rfl) ?_ | refine x_gU' rfl rfl rfl (sva ee) (by with_reducible rfl) ?_) | (refine x_isGtD rfl ?_; first | refine x_gTDt rfl rfl rfl (sva ee) (by with_reducible rfl) ?_ | refine x_gFDt rfl rfl rfl rfl (sva ee) (by with_reducible rfl) ?_ | refine x_gUD' rfl rfl rfl rfl (sva ee) (by with_reducible rfl) ?_) | (refine x_isGfD rfl ?_; first | refine x_gTDf rfl rfl rfl (sva ee) (by with_reducible rfl) ?_ | refine x_gFDf rfl rfl rfl rfl (sva ee) (by with_reducible rfl) ?_ | refine x_gUD' rfl rfl rfl rfl (sva ee) (by with_reducible rfl) ?_) | (refine x_opsD ?_; refine x_effD rfl ?_) | (refine x_isC ?_; refine x_condT' (sva ee) (by with_reducible rfl) ?_) | (refine x_isC ?_; refine x_condF' (sva ee) (by with_reducible rfl) ?_) | (refine x_isBox rfl ?_; refine x_box rfl rfl rfl (sva ee) ?_) | (refine x_isAlloc rfl ?_; refine x_alloc rfl rfl rfl (sva ee) (sva ee) ?_) | (refine x_isStore rfl ?_; refine x_store rfl rfl rfl (sva ee) (sva ee) (sva ee) (sva ee) rfl (sca ee) (sca ee) (sca ee) (sca ee) (sva ee) ?_) | (refine x_isConv rfl ?_; refine x_conv rfl rfl rfl (sta ee) rfl (sva ee) ?_) | (refine x_isConvD rfl ?_; refine x_convD rfl rfl rfl (sva ee) ?_) | (refine x_isBs rfl ?_; refine x_bslice rfl rfl rfl (sva ee) (sva ee) (sba ee) (by simp [cellsZ, cellOf, flat]) (sba ee) ?_))); exact k.out) : X := s e ⟨k⟩
theorem go1a {q X Y : Prop} (e : q) (k : Y) (s : q → Hd Y → X := by intro ee k; (first | (refine x_ops ?_; refine x_op rfl rfl rfl (sva ee) ?_) | refine x_seq ?_ | refine x_reg rfl ?_ | refine x_nil ?_ | refine x_thenN ?_ | refine x_thenE ?_ | refine x_thenR ?_ | refine x_blkN ?_ | refine x_blkR ?_ | refine x_blkE ?_ | refine x_skip ?_ | refine x_exit ?_ | refine x_ret ?_ | refine x_block ?_ | refine x_putN ?_ | refine x_putS ?_ | refine x_regD rfl ?_ | refine x_nilD ?_ | refine x_blkF rfl ?_ | (refine x_opsD ?_; refine x_opD rfl rfl rfl (qv_pure rfl (sva ee)) ?_) | (refine x_isGt rfl ?_; first | refine x_gTt rfl rfl (sva ee) (by with_reducible rfl) ?_ | refine x_gFt rfl rfl rfl (sva ee) (by with_reducible rfl) ?_ | refine x_gU' rfl rfl rfl (sva ee) (by with_reducible rfl) ?_) | (refine x_isGf rfl ?_; first | refine x_gTf rfl rfl (sva ee) (by with_reducible rfl) ?_ | refine x_gFf rfl rfl rfl (sva ee) (by with_reducible rfl) ?_ | refine x_gU' rfl rfl rfl (sva ee) (by with_reducible rfl) ?_) | (refine x_isGtD rfl ?_; first | refine x_gTDt rfl rfl rfl (sva ee) (by with_reducible rfl) ?_ | refine x_gFDt rfl rfl rfl rfl (sva ee) (by with_reducible rfl) ?_ | refine x_gUD' rfl rfl rfl rfl (sva ee) (by with_reducible rfl) ?_) | (refine x_isGfD rfl ?_; first | refine x_gTDf rfl rfl rfl (sva ee) (by with_reducible rfl) ?_ | refine x_gFDf rfl rfl rfl rfl (sva ee) (by with_reducible rfl) ?_ | refine x_gUD' rfl rfl rfl rfl (sva ee) (by with_reducible rfl) ?_) | (refine x_opsD ?_; refine x_effD rfl ?_) | (refine x_isC ?_; refine x_condT' (sva ee) (by with_reducible rfl) ?_) | (refine x_isC ?_; refine x_condF' (sva ee) (by with_reducible rfl) ?_) | (refine x_isBox rfl ?_; refine x_box rfl rfl rfl (sva ee) ?_) | (refine x_isAlloc rfl ?_; refine x_alloc rfl rfl rfl (sva ee) (sva ee) ?_) | (refine x_isStore rfl ?_; refine x_store rfl rfl rfl (sva ee) (sva ee) (sva ee) (sva ee) rfl (sca ee) (sca ee) (sca ee) (sca ee) (sva ee) ?_) | (refine x_isConv rfl ?_; refine x_conv rfl rfl rfl (sta ee) rfl (sva ee) ?_) | (refine x_isConvD rfl ?_; refine x_convD rfl rfl rfl (sva ee) ?_) | (refine x_isBs rfl ?_; refine x_bslice rfl rfl rfl (sva ee) (sva ee) (sba ee) (by simp [cellsZ, cellOf, flat]) (sba ee) ?_)); (repeat (first | (refine x_ops ?_; refine x_op rfl rfl rfl (sva ee) ?_) | refine x_seq ?_ | refine x_reg rfl ?_ | refine x_nil ?_ | refine x_thenN ?_ | refine x_thenE ?_ | refine x_thenR ?_ | refine x_blkN ?_ | refine x_blkR ?_ | refine x_blkE ?_ | refine x_skip ?_ | refine x_exit ?_ | refine x_ret ?_ | refine x_block ?_ | refine x_putN ?_ | refine x_putS ?_ | refine x_regD rfl ?_ | refine x_nilD ?_ | refine x_blkF rfl ?_ | (refine x_opsD ?_; refine x_opD rfl rfl rfl (qv_pure rfl (sva ee)) ?_) | (refine x_isGt rfl ?_; first | refine x_gTt rfl rfl (sva ee) (by with_reducible rfl) ?_ | refine x_gFt rfl rfl rfl (sva ee) (by with_reducible rfl) ?_ | refine x_gU' rfl rfl rfl (sva ee) (by with_reducible rfl) ?_) | (refine x_isGf rfl ?_; first | refine x_gTf rfl rfl (sva ee) (by with_reducible rfl) ?_ | refine x_gFf rfl rfl rfl (sva ee) (by with_reducible rfl) ?_ | refine x_gU' rfl rfl rfl (sva ee) (by with_reducible rfl) ?_) | (refine x_isGtD rfl ?_; first | refine x_gTDt rfl rfl rfl (sva ee) (by with_reducible rfl) ?_ | refine x_gFDt rfl rfl rfl rfl (sva ee) (by with_reducible rfl) ?_ | refine x_gUD' rfl rfl rfl rfl (sva ee) (by with_reducible rfl) ?_) | (refine x_isGfD rfl ?_; first | refine x_gTDf rfl rfl rfl (sva ee) (by with_reducible rfl) ?_ | refine x_gFDf rfl rfl rfl rfl (sva ee) (by with_reducible rfl) ?_ | refine x_gUD' rfl rfl rfl rfl (sva ee) (by with_reducible rfl) ?_) | (refine x_opsD ?_; refine x_effD rfl ?_) | (refine x_isC ?_; refine x_condT' (sva ee) (by with_reducible rfl) ?_) | (refine x_isC ?_; refine x_condF' (sva ee) (by with_reducible rfl) ?_) | (refine x_isBox rfl ?_; refine x_box rfl rfl rfl (sva ee) ?_) | (refine x_isAlloc rfl ?_; refine x_alloc rfl rfl rfl (sva ee) (sva ee) ?_) | (refine x_isStore rfl ?_; refine x_store rfl rfl rfl (sva ee) (sva ee) (sva ee) (sva ee) rfl (sca ee) (sca ee) (sca ee) (sca ee) (sva ee) ?_) | (refine x_isConv rfl ?_; refine x_conv rfl rfl rfl (sta ee) rfl (sva ee) ?_) | (refine x_isConvD rfl ?_; refine x_convD rfl rfl rfl (sva ee) ?_) | (refine x_isBs rfl ?_; refine x_bslice rfl rfl rfl (sva ee) (sva ee) (sba ee) (by simp [cellsZ, cellOf, flat]) (sba ee) ?_))); exact k.out) : X := s e ⟨k⟩
theorem goaR {q X Y : Prop} (e : q) (k : Y) (s : q → Hd Y → X := by intro ee k; (repeat (first | (refine x_ops ?_; refine x_op rfl rfl rfl (sva ee) ?_) | refine x_reg rfl ?_ | refine x_nil ?_ | refine x_thenN ?_ | refine x_thenE ?_ | refine x_thenR ?_ | refine x_blkN ?_ | refine x_blkR ?_ | refine x_blkE ?_ | refine x_skip ?_ | refine x_exit ?_ | refine x_ret ?_ | refine x_block ?_ | refine x_putN ?_ | refine x_putS ?_ | refine x_regD rfl ?_ | refine x_nilD ?_ | refine x_blkF rfl ?_ | (refine x_opsD ?_; refine x_opD rfl rfl rfl (qv_pure rfl (sva ee)) ?_) | (refine x_isGt rfl ?_; first | refine x_gTt rfl rfl (sva ee) (by with_reducible rfl) ?_ | refine x_gFt rfl rfl rfl (sva ee) (by with_reducible rfl) ?_ | refine x_gU' rfl rfl rfl (sva ee) (by with_reducible rfl) ?_) | (refine x_isGf rfl ?_; first | refine x_gTf rfl rfl (sva ee) (by with_reducible rfl) ?_ | refine x_gFf rfl rfl rfl (sva ee) (by with_reducible rfl) ?_ | refine x_gU' rfl rfl rfl (sva ee) (by with_reducible rfl) ?_) | (refine x_isGtD rfl ?_; first | refine x_gTDt rfl rfl rfl (sva ee) (by with_reducible rfl) ?_ | refine x_gFDt rfl rfl rfl rfl (sva ee) (by with_reducible rfl) ?_ | refine x_gUD' rfl rfl rfl rfl (sva ee) (by with_reducible rfl) ?_) | (refine x_isGfD rfl ?_; first | refine x_gTDf rfl rfl rfl (sva ee) (by with_reducible rfl) ?_ | refine x_gFDf rfl rfl rfl rfl (sva ee) (by with_reducible rfl) ?_ | refine x_gUD' rfl rfl rfl rfl (sva ee) (by with_reducible rfl) ?_) | (refine x_opsD ?_; refine x_effD rfl ?_) | (refine x_isC ?_; refine x_condT' (sva ee) (by with_reducible rfl) ?_) | (refine x_isC ?_; refine x_condF' (sva ee) (by with_reducible rfl) ?_) | (refine x_isBox rfl ?_; refine x_box rfl rfl rfl (sva ee) ?_) | (refine x_isAlloc rfl ?_; refine x_alloc rfl rfl rfl (sva ee) (sva ee) ?_) | (refine x_isStore rfl ?_; refine x_store rfl rfl rfl (sva ee) (sva ee) (sva ee) (sva ee) rfl (sca ee) (sca ee) (sca ee) (sca ee) (sva ee) ?_) | (refine x_isConv rfl ?_; refine x_conv rfl rfl rfl (sta ee) rfl (sva ee) ?_) | (refine x_isConvD rfl ?_; refine x_convD rfl rfl rfl (sva ee) ?_) | (refine x_isBs rfl ?_; refine x_bslice rfl rfl rfl (sva ee) (sva ee) (sba ee) (by simp [cellsZ, cellOf, flat]) (sba ee) ?_))); exact k.out) : X := s e ⟨k⟩
theorem go1aR {q X Y : Prop} (e : q) (k : Y) (s : q → Hd Y → X := by intro ee k; (first | (refine x_ops ?_; refine x_op rfl rfl rfl (sva ee) ?_) | refine x_reg rfl ?_ | refine x_nil ?_ | refine x_thenN ?_ | refine x_thenE ?_ | refine x_thenR ?_ | refine x_blkN ?_ | refine x_blkR ?_ | refine x_blkE ?_ | refine x_skip ?_ | refine x_exit ?_ | refine x_ret ?_ | refine x_block ?_ | refine x_putN ?_ | refine x_putS ?_ | refine x_regD rfl ?_ | refine x_nilD ?_ | refine x_blkF rfl ?_ | (refine x_opsD ?_; refine x_opD rfl rfl rfl (qv_pure rfl (sva ee)) ?_) | (refine x_isGt rfl ?_; first | refine x_gTt rfl rfl (sva ee) (by with_reducible rfl) ?_ | refine x_gFt rfl rfl rfl (sva ee) (by with_reducible rfl) ?_ | refine x_gU' rfl rfl rfl (sva ee) (by with_reducible rfl) ?_) | (refine x_isGf rfl ?_; first | refine x_gTf rfl rfl (sva ee) (by with_reducible rfl) ?_ | refine x_gFf rfl rfl rfl (sva ee) (by with_reducible rfl) ?_ | refine x_gU' rfl rfl rfl (sva ee) (by with_reducible rfl) ?_) | (refine x_isGtD rfl ?_; first | refine x_gTDt rfl rfl rfl (sva ee) (by with_reducible rfl) ?_ | refine x_gFDt rfl rfl rfl rfl (sva ee) (by with_reducible rfl) ?_ | refine x_gUD' rfl rfl rfl rfl (sva ee) (by with_reducible rfl) ?_) | (refine x_isGfD rfl ?_; first | refine x_gTDf rfl rfl rfl (sva ee) (by with_reducible rfl) ?_ | refine x_gFDf rfl rfl rfl rfl (sva ee) (by with_reducible rfl) ?_ | refine x_gUD' rfl rfl rfl rfl (sva ee) (by with_reducible rfl) ?_) | (refine x_opsD ?_; refine x_effD rfl ?_) | (refine x_isC ?_; refine x_condT' (sva ee) (by with_reducible rfl) ?_) | (refine x_isC ?_; refine x_condF' (sva ee) (by with_reducible rfl) ?_) | (refine x_isBox rfl ?_; refine x_box rfl rfl rfl (sva ee) ?_) | (refine x_isAlloc rfl ?_; refine x_alloc rfl rfl rfl (sva ee) (sva ee) ?_) | (refine x_isStore rfl ?_; refine x_store rfl rfl rfl (sva ee) (sva ee) (sva ee) (sva ee) rfl (sca ee) (sca ee) (sca ee) (sca ee) (sva ee) ?_) | (refine x_isConv rfl ?_; refine x_conv rfl rfl rfl (sta ee) rfl (sva ee) ?_) | (refine x_isConvD rfl ?_; refine x_convD rfl rfl rfl (sva ee) ?_) | (refine x_isBs rfl ?_; refine x_bslice rfl rfl rfl (sva ee) (sva ee) (sba ee) (by simp [cellsZ, cellOf, flat]) (sba ee) ?_)); (repeat (first | (refine x_ops ?_; refine x_op rfl rfl rfl (sva ee) ?_) | refine x_reg rfl ?_ | refine x_nil ?_ | refine x_thenN ?_ | refine x_thenE ?_ | refine x_thenR ?_ | refine x_blkN ?_ | refine x_blkR ?_ | refine x_blkE ?_ | refine x_skip ?_ | refine x_exit ?_ | refine x_ret ?_ | refine x_block ?_ | refine x_putN ?_ | refine x_putS ?_ | refine x_regD rfl ?_ | refine x_nilD ?_ | refine x_blkF rfl ?_ | (refine x_opsD ?_; refine x_opD rfl rfl rfl (qv_pure rfl (sva ee)) ?_) | (refine x_isGt rfl ?_; first | refine x_gTt rfl rfl (sva ee) (by with_reducible rfl) ?_ | refine x_gFt rfl rfl rfl (sva ee) (by with_reducible rfl) ?_ | refine x_gU' rfl rfl rfl (sva ee) (by with_reducible rfl) ?_) | (refine x_isGf rfl ?_; first | refine x_gTf rfl rfl (sva ee) (by with_reducible rfl) ?_ | refine x_gFf rfl rfl rfl (sva ee) (by with_reducible rfl) ?_ | refine x_gU' rfl rfl rfl (sva ee) (by with_reducible rfl) ?_) | (refine x_isGtD rfl ?_; first | refine x_gTDt rfl rfl rfl (sva ee) (by with_reducible rfl) ?_ | refine x_gFDt rfl rfl rfl rfl (sva ee) (by with_reducible rfl) ?_ | refine x_gUD' rfl rfl rfl rfl (sva ee) (by with_reducible rfl) ?_) | (refine x_isGfD rfl ?_; first | refine x_gTDf rfl rfl rfl (sva ee) (by with_reducible rfl) ?_ | refine x_gFDf rfl rfl rfl rfl (sva ee) (by with_reducible rfl) ?_ | refine x_gUD' rfl rfl rfl rfl (sva ee) (by with_reducible rfl) ?_) | (refine x_opsD ?_; refine x_effD rfl ?_) | (refine x_isC ?_; refine x_condT' (sva ee) (by with_reducible rfl) ?_) | (refine x_isC ?_; refine x_condF' (sva ee) (by with_reducible rfl) ?_) | (refine x_isBox rfl ?_; refine x_box rfl rfl rfl (sva ee) ?_) | (refine x_isAlloc rfl ?_; refine x_alloc rfl rfl rfl (sva ee) (sva ee) ?_) | (refine x_isStore rfl ?_; refine x_store rfl rfl rfl (sva ee) (sva ee) (sva ee) (sva ee) rfl (sca ee) (sca ee) (sca ee) (sca ee) (sva ee) ?_) | (refine x_isConv rfl ?_; refine x_conv rfl rfl rfl (sta ee) rfl (sva ee) ?_) | (refine x_isConvD rfl ?_; refine x_convD rfl rfl rfl (sva ee) ?_) | (refine x_isBs rfl ?_; refine x_bslice rfl rfl rfl (sva ee) (sva ee) (sba ee) (by simp [cellsZ, cellOf, flat]) (sba ee) ?_))); exact k.out) : X := s e ⟨k⟩
theorem cbr {q X Y Z : Prop} (e : q) (k1 : Y) (k2 : Z) (s : q → Hd Y → Hd Z → X := by intro ee k1 k2; refine x_isC ?_; first | exact x_condI (sva ee) k1.out k2.out | exact x_condJ (sva ee) k1.out k2.out | exact x_condP (sva ee) k1.out k2.out | exact x_condNP (sva ee) k1.out k2.out | exact x_condN (sva ee) k1.out k2.out | exact x_cond (sva ee) k1.out k2.out) : X := s e ⟨k1⟩ ⟨k2⟩
theorem gbrt {q X Y Z : Prop} (e : q) (k1 : Y) (k2 : Z) (s : q → Hd Y → Hd Z → X := by intro ee k1 k2; refine x_isGt rfl ?_; first | exact x_gI rfl rfl (sva ee) k1.out k2.out | exact x_gJ rfl rfl (sva ee) k1.out k2.out | exact x_gP rfl rfl (sva ee) k1.out k2.out | exact x_gNP rfl rfl (sva ee) k1.out k2.out | exact x_gN rfl rfl (sva ee) k1.out k2.out | exact x_gB rfl rfl (sva ee) k1.out k2.out) : X := s e ⟨k1⟩ ⟨k2⟩
theorem gbrf {q X Y Z : Prop} (e : q) (k1 : Y) (k2 : Z) (s : q → Hd Y → Hd Z → X := by intro ee k1 k2; refine x_isGf rfl ?_; first | exact x_gI rfl rfl (sva ee) k1.out k2.out | exact x_gJ rfl rfl (sva ee) k1.out k2.out | exact x_gP rfl rfl (sva ee) k1.out k2.out | exact x_gNP rfl rfl (sva ee) k1.out k2.out | exact x_gN rfl rfl (sva ee) k1.out k2.out | exact x_gB rfl rfl (sva ee) k1.out k2.out) : X := s e ⟨k1⟩ ⟨k2⟩
theorem gbrtD {q X Y Z : Prop} (e : q) (k1 : Y) (k2 : Z) (s : q → Hd Y → Hd Z → X := by intro ee k1 k2; refine x_isGtD rfl ?_; first | exact x_gID rfl rfl (sva ee) k1.out k2.out | exact x_gJD rfl rfl (sva ee) k1.out k2.out | exact x_gPD rfl rfl (sva ee) k1.out k2.out | exact x_gNPD rfl rfl (sva ee) k1.out k2.out | exact x_gND rfl rfl (sva ee) k1.out k2.out | exact x_gBD rfl rfl (sva ee) k1.out k2.out) : X := s e ⟨k1⟩ ⟨k2⟩
theorem gbrfD {q X Y Z : Prop} (e : q) (k1 : Y) (k2 : Z) (s : q → Hd Y → Hd Z → X := by intro ee k1 k2; refine x_isGfD rfl ?_; first | exact x_gID rfl rfl (sva ee) k1.out k2.out | exact x_gJD rfl rfl (sva ee) k1.out k2.out | exact x_gPD rfl rfl (sva ee) k1.out k2.out | exact x_gNPD rfl rfl (sva ee) k1.out k2.out | exact x_gND rfl rfl (sva ee) k1.out k2.out | exact x_gBD rfl rfl (sva ee) k1.out k2.out) : X := s e ⟨k1⟩ ⟨k2⟩
end Go.Proofs.Ytgohmphhgglmbaa

set_option linter.unusedVariables false
set_option linter.unusedSimpArgs false
set_option maxRecDepth 100000
namespace Go.Proofs.Ytgohmphhgglmbaa
open Go Go.RowKit Am

structure Idt where
  a : ByteArray
  n : Int
def encId (x : Idt) : List V := [.s (.string x.a), .s (.int .i64 x.n)]
def encIds (v : List Idt) : V := .sl (v.map encId)
theorem encId_len (x : Idt) : (encId x).length = 2 := rfl
theorem encId_rows (v : List Idt) : (∀ r ∈ v.map encId, r.length = 2) = True := rows_map _ _ _ encId_len
def uptoF : List Idt → ByteArray → Int
  | [], _ => 0
  | x :: v, a => if x.a.toList == a.toList then x.n else uptoF v a
def uptoS : Fspec := fun _ ds r => ∃ (v : List Idt) (a : ByteArray), v.length ≤ 1099511627776 ∧ ds = [encIds v, .s (.string a)] ∧ r = .s (.int .i64 (uptoF v a))

theorem upto_sound {plain : TypeId → Bool} {Γ : FuncId → Option Fspec} {Δ : FuncId → Option Pt} (hE : EnvOk ⟨Try.prog, plain, Γ, Δ, fun _ => none, 0⟩) : Sound Try.prog 49 uptoS := by
  refine sound_of_awp hE Try.func49 rfl (by kernel_rfl) ?_
  rintro Φ ds r ⟨v, a, hv, rfl, rfl⟩
  refine ⟨by simp [Try.f49], ?_⟩
  unfold st0 encIds
  refine W.out (E := ⟨Try.prog, plain, Γ, Δ, Φ, _⟩) ?_
  refine go trivial ?_
  refine x_loop (fun σ => ∃ i : Nat, i ≤ v.length ∧ σ.t 0 = .sl (v.map encId) ∧ σ.t 1 = .s (.string a) ∧ σ.t 5 = .s (.int .i64 i) ∧ uptoF (v.drop i) a = uptoF v a) (fun σ => v.length - ix (σ.t 5)) ⟨0, Nat.zero_le _, ?_, ?_, ?_, rfl⟩ ?_
  · exact sx trivial
  · exact sx trivial
  · exact sx trivial
  rintro t h n ⟨i, hi, h0, h1, h5, hf⟩
  simp only at h0 h1 h5
  refine go (And.intro h0 (And.intro h1 h5)) ?_
  refine x_condP (sv trivial) (fun hc => ?_) (fun hc => ?_)
  · have hi' : i < v.length := by omega
    have hr := encId_rows v
    rw [List.drop_eq_getElem_cons hi', uptoF] at hf
    refine go (And.intro h0 (And.intro h1 (And.intro h5 (And.intro hr @encId.eq_1)))) ?_
    refine x_cond (sv trivial) (fun hc => ?_) (fun hc => ?_)
    · refine go (And.intro h0 (And.intro h1 (And.intro h5 (And.intro hr @encId.eq_1)))) ?_
      rw [if_pos hc] at hf
      refine x_done (x_out (sr (And.intro @Try.f49.eq_1 (hf).symm)) (by simp) (by simp) rfl)
    · refine go (And.intro h0 (And.intro h1 (And.intro h5 (And.intro hr @encId.eq_1)))) ?_
      rw [if_neg (by simp [hc])] at hf
      refine ⟨⟨i + 1, by omega, ?_, ?_, ?_, hf⟩, ?_⟩
      · exact sx h0
      · exact sx h1
      · exact sx (And.intro h5 @cast_succ)
      · exact so h5
  · have e : i = v.length := by omega
    subst e
    rw [List.drop_length] at hf
    refine go (And.intro h0 (And.intro h1 h5)) ?_
    have hz : uptoF v a = 0 := by rw [← hf]; rfl
    refine x_done (x_out (sr (And.intro @Try.f49.eq_1 hz)) (by simp) (by simp) rfl)
end Go.Proofs.Ytgohmphhgglmbaa

set_option linter.unusedVariables false
set_option linter.unusedSimpArgs false
set_option maxRecDepth 100000
namespace Go.Proofs.Ytgohmphhgglmbaa
open Go Go.RowKit Am

def cmpB (a b : ByteArray) : Int := Lib.compareBytes a.data.toList b.data.toList
def cmpT : Pt := fun _ args σ K => ∃ a b : ByteArray, args = [.s (.string a), .s (.string b)] ∧ K (.s (.int .i64 (cmpB a b))) σ
theorem cmpT_sound : SoundT Try.prog 59 cmpT := by
  rintro c Φ h n μ w args vals t K hc hΦ H hl ha ⟨a, b, rfl, hK⟩
  have h0 := ha 0 (by simp)
  have h1 := ha 1 (by simp)
  have e0 : vals.getD 0 Go.undef = .string a := h0.s_eq.1
  have e1 : vals.getD 1 Go.undef = .string b := h1.s_eq.1
  have hv : vals = #[.string a, .string b] := by
    apply Array.ext
    · simpa using hl
    · intro i g1 g2
      have g3 : i < 2 := by simpa using g2
      have : i = 0 ∨ i = 1 := by omega
      rcases this with rfl | rfl
      · simpa [g1] using e0
      · simpa [g1] using e1
  subst hv
  refine .inr ⟨.int .i64 (cmpB a b), w, ?_, _, h, n, μ, hK, H, Ext.refl _ _ _ _, .s _ rfl⟩
  rw [run_callFunc_extern Try.func59 (by kernel_rfl) (by kernel_rfl) (by kernel_rfl) (e := Extern.BytealgCompare.compare) (by kernel_rfl), Lib.run_compareString]
  rfl
def compareS : Fspec := fun _ ds r => ∃ a b : ByteArray, ds = [.s (.string a), .s (.string b)] ∧ r = .s (.int .i64 (cmpB a b))
theorem compareString_sound {plain : TypeId → Bool} {Γ : FuncId → Option Fspec} {Δ : FuncId → Option Pt} (hE : EnvOk ⟨Try.prog, plain, Γ, Δ, fun _ => none, 0⟩) (hΔ : Δ 59 = some cmpT) : Sound Try.prog 53 compareS := by
  refine sound_of_awp hE Try.func53 rfl (by kernel_rfl) ?_
  rintro Φ ds r ⟨a, b, rfl, rfl⟩
  refine ⟨by simp [Try.f53], ?_⟩
  unfold st0
  refine W.out (E := ⟨Try.prog, plain, Γ, Δ, Φ, _⟩) ?_
  refine go trivial ?_
  refine x_callI rfl rfl rfl rfl (sv trivial) hΔ (sv trivial) ⟨a, b, rfl, ?_⟩
  refine go trivial ?_
  refine x_done (x_out (sr @Try.f53.eq_1) (by simp) (by simp) rfl)
theorem compare_sound {plain : TypeId → Bool} {Γ : FuncId → Option Fspec} {Δ : FuncId → Option Pt} (hE : EnvOk ⟨Try.prog, plain, Γ, Δ, fun _ => none, 0⟩) (g_compare : Γ 53 = some compareS) : Sound Try.prog 41 compareS := by
  refine sound_of_awp hE Try.func41 rfl (by kernel_rfl) ?_
  rintro Φ ds r ⟨a, b, rfl, rfl⟩
  refine ⟨by simp [Try.f41], ?_⟩
  unfold st0
  refine W.out (E := ⟨Try.prog, plain, Γ, Δ, Φ, _⟩) ?_
  refine go trivial ?_
  refine x_callN rfl rfl rfl rfl (sv trivial) g_compare (sv trivial) (se trivial) ⟨a, b, rfl, rfl⟩ rfl ?_
  refine go trivial ?_
  refine x_done (x_out (sr @Try.f41.eq_1) (by simp) (by simp) rfl)

def nanS : Fspec := fun _ ds r => ∃ x : Int, ds = [.s (.int .i64 x)] ∧ r = .s (.bool false)
theorem nan_sound {plain : TypeId → Bool} {Γ : FuncId → Option Fspec} {Δ : FuncId → Option Pt} (hE : EnvOk ⟨Try.prog, plain, Γ, Δ, fun _ => none, 0⟩) : Sound Try.prog 58 nanS := by
  refine sound_of_awp hE Try.func58 rfl (by kernel_rfl) ?_
  rintro Φ ds r ⟨x, rfl, rfl⟩
  refine ⟨by simp [Try.f58], ?_⟩
  unfold st0
  refine W.out (E := ⟨Try.prog, plain, Γ, Δ, Φ, _⟩) ?_
  refine go trivial ?_
  refine x_done (x_out (sr @Try.f58.eq_1) (by simp) (by simp) rfl)
def cmpI (x y : Int) : Int := if x < y then -1 else if y < x then 1 else 0
def cmpIS : Fspec := fun _ ds r => ∃ x y : Int, ds = [.s (.int .i64 x), .s (.int .i64 y)] ∧ r = .s (.int .i64 (cmpI x y))
theorem cmpI_sound {plain : TypeId → Bool} {Γ : FuncId → Option Fspec} {Δ : FuncId → Option Pt} (hE : EnvOk ⟨Try.prog, plain, Γ, Δ, fun _ => none, 0⟩) (g_nan : Γ 58 = some nanS) : Sound Try.prog 52 cmpIS := by
  refine sound_of_awp hE Try.func52 rfl (by kernel_rfl) ?_
  rintro Φ ds r ⟨x, y, rfl, rfl⟩
  refine ⟨by simp [Try.f52], ?_⟩
  unfold st0
  refine W.out (E := ⟨Try.prog, plain, Γ, Δ, Φ, _⟩) ?_
  refine go trivial ?_
  refine x_callN rfl rfl rfl rfl (sv trivial) g_nan (sv trivial) (se trivial) ⟨x, rfl, rfl⟩ rfl ?_
  refine go trivial ?_
  refine x_callN rfl rfl rfl rfl (sv trivial) g_nan (sv trivial) (se trivial) ⟨y, rfl, rfl⟩ rfl ?_
  by_cases hc : x < y
  · refine go hc ?_
    refine x_done (x_out (sr (And.intro @Try.f52.eq_1 (And.intro @cmpI.eq_1 hc))) (by simp) (by simp) rfl)
  · by_cases hc2 : y < x
    · refine go (And.intro hc hc2) ?_
      refine x_done (x_out (sr (And.intro @Try.f52.eq_1 (And.intro @cmpI.eq_1 (And.intro hc hc2)))) (by simp) (by simp) rfl)
    · refine go (And.intro hc hc2) ?_
      refine x_done (x_out (sr (And.intro @Try.f52.eq_1 (And.intro @cmpI.eq_1 (And.intro hc hc2)))) (by simp) (by simp) rfl)

def orF : List Int → Int
  | [] => 0
  | x :: l => if x = 0 then orF l else x
def encI (x : Int) : List V := [.s (.int .i64 x)]
theorem encI_rows (v : List Int) : (∀ r ∈ v.map encI, r.length = 1) = True := rows_map _ _ _ fun _ => rfl
def orS : Fspec := fun _ ds r => ∃ l : List Int, l.length ≤ 1099511627776 ∧ ds = [.sl (l.map encI)] ∧ r = .s (.int .i64 (orF l))
theorem or_sound {plain : TypeId → Bool} {Γ : FuncId → Option Fspec} {Δ : FuncId → Option Pt} (hE : EnvOk ⟨Try.prog, plain, Γ, Δ, fun _ => none, 0⟩) : Sound Try.prog 39 orS := by
  refine sound_of_awp hE Try.func39 rfl (by kernel_rfl) ?_
  rintro Φ ds r ⟨v, hv, rfl, rfl⟩
  refine ⟨by simp [Try.f39], ?_⟩
  unfold st0
  refine W.out (E := ⟨Try.prog, plain, Γ, Δ, Φ, _⟩) ?_
  refine go trivial ?_
  refine x_loop (fun σ => ∃ i : Nat, i ≤ v.length ∧ σ.t 3 = .s (.int .i64 0) ∧ σ.t 6 = .sl (v.map encI) ∧ σ.t 7 = .s (.int .i64 v.length) ∧ σ.t 8 = .s (.int .i64 i) ∧ orF (v.drop i) = orF v) (fun σ => v.length - ix (σ.t 8)) ⟨0, Nat.zero_le _, (sc trivial), (sc trivial), (sc trivial), (sc trivial), rfl⟩ ?_
  rintro t h n ⟨i, hi, h3, h6, h7, h8, hf⟩
  simp only at h3 h6 h7 h8
  refine go (And.intro h3 (And.intro h6 (And.intro h7 h8))) ?_
  refine x_condP (sv trivial) (fun hc => ?_) (fun hc => ?_)
  · have hi' : i < v.length := by omega
    have hr := encI_rows v
    rw [List.drop_eq_getElem_cons hi', orF] at hf
    refine go (And.intro h3 (And.intro h6 (And.intro h7 (And.intro h8 (And.intro hr @encI.eq_1))))) ?_
    by_cases hz : v[i] = 0
    · rw [if_pos hz] at hf
      refine x_condF (sc hz) ?_
      refine go (And.intro h3 (And.intro h6 (And.intro h7 (And.intro h8 (And.intro hr @encI.eq_1))))) ?_
      refine ⟨⟨i + 1, by omega, (sc h3), (sc h6), (sc h7), (sc (And.intro h8 @cast_succ)), hf⟩, ?_⟩
      exact so h8
    · rw [if_neg hz] at hf
      refine x_condT (by simp (disch := omega) only [fits, fit1, ix_nat, ix_succ, pval, ↓upd_at, ev_tmp, ev_func, ev_const, ofVal_int, ofVal_str, ofVal_bool, ofVal_nil, asN_nat, asN_pos, wrap_id, wrapU_id, wrapB_id, ashift_shr1, half_cast, getD_map, if_pos, if_neg, aindexAddr, afieldAddr, aload, afield, aindex, aslice, abin, aint, astr, aun, aeq, allS, eqL, alen, acap, amin, amax, bnd, aconv, cellsV, cellsZ, cellOf, flat, abuild, afill, setAt, wk, cellish, cellAt, List.getD_cons_zero, List.getD_cons_succ, List.getD_nil, Nat.reduceEqDiff, ↓reduceIte, Option.map_some, Option.map_none, Option.bind_some, Option.isSome_some, Option.isSome_none, Option.isNone_some, Option.isNone_none, List.toList_toArray, List.map_cons, List.map_nil, List.drop_zero, List.drop_succ_cons, List.drop_nil, List.take_zero, List.take_succ_cons, List.take_nil, List.length_cons, List.length_nil, List.length_map, List.cons_append, List.nil_append, List.append_nil, List.set_cons_zero, List.set_cons_succ, List.getElem?_cons_zero, List.getElem?_cons_succ, Nat.reduceAdd, Nat.reduceSub, Nat.reduceMul, Nat.reduceLT, Nat.reduceLeDiff, Nat.zero_add, Nat.add_zero, Nat.zero_mul, Nat.mul_one, Nat.lt_irrefl, true_and, and_true, and_self, false_and, and_false, decide_true, decide_false, Bool.false_eq_true, Bool.true_eq_false, Bool.not_true, Bool.not_false, Bool.true_and, Bool.false_and, Bool.and_true, ge_iff_le, gt_iff_lt, Int.natCast_nonneg, Int.toNat_natCast, Int.reduceAdd, Int.reduceSub, Int.reduceNeg, Int.reduceToNat, Int.reduceLE, Int.reduceLT, Int.toNat_zero, Int.natCast_zero, List.mem_cons, List.not_mem_nil, or_false, or_true, true_or, false_or, Nat.le_refl, Nat.sub_self, Nat.sub_zero, forall_eq_or_imp, forall_eq, List.forall_mem_cons, List.forall_mem_nil, implies_true, Bool.false_or, Bool.true_or, Bool.or_false, Bool.or_true, List.length_set, List.map_nil, List.all_nil, List.getLast?_nil, srcRows, rowsOf, slLen, beq_self_eq_true, bne_self_eq_false, sz2, ag2, zr2, zok2, ii2, Try.underlying2, sz3, ag3, zr3, zok3, ii3, Try.underlying3, sz4, ag4, zr4, zok4, bt4, Try.underlying4, sz5, ag5, zr5, zok5, ii5, Try.underlying5, sz7, ag7, zr7, zok7, fl7_0, fl7_1, fl7_2, fl7_3, pl7, Try.underlying7, sz9, ag9, zr9, zok9, sq9, Try.underlying9, sz12, ag12, zr12, zok12, ii12, Try.underlying12, sz13, ag13, zr13, zok13, fl13_0, fl13_1, pl13, Try.underlying13, sz21, ag21, zr21, zok21, ii21, Try.underlying21, sz22, ag22, zr22, zok22, ist22, sq22, Try.underlying22, sz23, ag23, zr23, zok23, ist23, sq23, Try.underlying23, sz30, ag30, zr30, zok30, fl30_0, fl30_1, pl30, Try.underlying30, sz31, ag31, zr31, zok31, fl31_0, fl31_1, pl31, Try.underlying31, sz32, ag32, zr32, zok32, ist32, sq32, Try.underlying32, sz38, ag38, zr38, zok38, fl38_0, fl38_1, fl38_2, pl38, Try.underlying38, sz39, ag39, zr39, zok39, fl39_0, fl39_1, fl39_2, pl39, Try.underlying39, sz40, ag40, zr40, zok40, fl40_0, fl40_1, fl40_2, pl40, Try.underlying40, sz41, ag41, zr41, zok41, fl41_0, fl41_1, fl41_2, pl41, Try.underlying41, sz42, ag42, zr42, zok42, ist42, sq42, Try.underlying42, sz43, ag43, zr43, zok43, fl43_0, fl43_1, fl43_2, pl43, Try.underlying43, sz44, ag44, zr44, zok44, fl44_0, fl44_1, fl44_2, pl44, Try.underlying44, sz45, ag45, zr45, zok45, fl45_0, fl45_1, fl45_2, fl45_3, fl45_4, fl45_5, fl45_6, fl45_7, fl45_8, fl45_9, fl45_10, fl45_11, pl45, Try.underlying45, sz46, ag46, zr46, zok46, fl46_0, fl46_1, fl46_2, fl46_3, fl46_4, fl46_5, fl46_6, fl46_7, fl46_8, fl46_9, fl46_10, fl46_11, pl46, Try.underlying46, sz53, ag53, zr53, zok53, ii53, Try.underlying53, sz67, ag67, zr67, zok67, ii67, Try.underlying67, sz80, ag80, zr80, zok80, ist80, sq80, Try.underlying80, sz90, ag90, zr90, zok90, Try.underlying90, sz91, ag91, zr91, zok91, fl91_0, pl91, Try.underlying91, sz94, ag94, zr94, zok94, ii94, Try.underlying94]; simp [hz]) ?_
      refine go (And.intro h3 (And.intro h6 (And.intro h7 (And.intro h8 (And.intro hr @encI.eq_1))))) ?_
      refine x_done (x_out (sr (And.intro @Try.f39.eq_1 hf)) (by simp) (by simp) rfl)
  · have e : i = v.length := by omega
    subst e
    rw [List.drop_length] at hf
    refine go (And.intro h3 (And.intro h6 (And.intro h7 h8))) ?_
    have hz : orF v = 0 := by rw [← hf]; rfl
    refine x_done (x_out (sr (And.intro @Try.f39.eq_1 (And.intro h3 hz))) (by simp) (by simp) rfl)
end Go.Proofs.Ytgohmphhgglmbaa

set_option linter.unusedVariables false
set_option linter.unusedSimpArgs false
set_option maxRecDepth 100000
set_option maxHeartbeats 4000000
namespace Go.Proofs.Ytgohmphhgglmbaa
open Go Go.RowKit Am

structure Wrt where
  id : Idt
  c : Int
  x : ByteArray
def encW (x : Wrt) : List V := [.s (.string x.id.a), .s (.int .i64 x.id.n), .s (.int .i64 x.c), .s (.string x.x)]
structure Rgs where
  id : Idt
  f : ByteArray
  w : List Wrt
def encR (x : Rgs) : List V := [.s (.string x.id.a), .s (.int .i64 x.id.n), .s (.string x.f), .sl (x.w.map encW)]
theorem encW_rows (v : List Wrt) : (∀ r ∈ v.map encW, r.length = 4) = True := rows_map _ _ _ fun _ => rfl
theorem encR_rows (v : List Rgs) : (∀ r ∈ v.map encR, r.length = 4) = True := rows_map _ _ _ fun _ => rfl
theorem beq_eq_decide (a b : Int) : (a == b) = decide (a = b) := by by_cases h : a = b <;> simp [h]

def bsF (c : Nat → Int) (i j : Nat) : Nat := if i < j then (if c ((i + j) / 2) < 0 then bsF c ((i + j) / 2 + 1) j else bsF c i ((i + j) / 2)) else i
termination_by j - i
def cAt {α : Type} (cf : α → Int) (v : List α) (k : Nat) : Int := match v[k]? with
  | some x => cf x
  | none => 0
theorem cAt_lt {α : Type} (cf : α → Int) (v : List α) {k : Nat} (h : k < v.length) : cAt cf v k = cf v[k] := by simp [cAt, h]
def bsPos {α : Type} (cf : α → Int) (v : List α) : Nat := bsF (cAt cf v) 0 v.length
def bsHit {α : Type} (cf : α → Int) (v : List α) : Bool := decide (bsF (cAt cf v) 0 v.length < v.length) && decide (cAt cf v (bsF (cAt cf v) 0 v.length) = 0)
def bsS {α : Type} (enc : α → List V) : Fspec := fun Φ ds r => ∃ (v : List α) (tv : V) (cf : α → Int) (S : List V → Value → Prop), v.length ≤ 1099511627776 ∧ (∀ h, expoA h tv = some tv) ∧ ds = [.sl (v.map enc), tv, .fv 2] ∧ Φ 2 = some S ∧ (∀ x ∈ v, S [.agg (enc x), tv] (.int .i64 (cf x))) ∧ r = .tup [.s (.int .i64 (bsF (cAt cf v) 0 v.length)), .s (.bool (bsHit cf v))]

theorem bsI_sound {plain : TypeId → Bool} {Γ : FuncId → Option Fspec} {Δ : FuncId → Option Pt} (hE : EnvOk ⟨Try.prog, plain, Γ, Δ, fun _ => none, 0⟩) : Sound Try.prog 50 (bsS encId) := by
  refine sound_of_awp hE Try.func50 rfl (by kernel_rfl) ?_
  rintro Φ ds r ⟨v, tv, cf, S, hv, htv, rfl, hS, hcf, rfl⟩
  refine ⟨by simp [Try.f50], ?_⟩
  unfold st0
  refine W.out (E := ⟨Try.prog, plain, Γ, Δ, Φ, _⟩) ?_
  have hr := encId_rows v
  refine go trivial ?_
  refine x_loop (fun σ => ∃ i j : Nat, i ≤ j ∧ j ≤ v.length ∧ σ.t 0 = .sl (v.map encId) ∧ σ.t 1 = tv ∧ σ.t 2 = .fv 2 ∧ σ.t 8 = .s (.int .i64 v.length) ∧ σ.t 9 = .s (.int .i64 i) ∧ σ.t 10 = .s (.int .i64 j) ∧ bsF (cAt cf v) i j = bsF (cAt cf v) 0 v.length) (fun σ => ix (σ.t 10) - ix (σ.t 9)) ⟨0, v.length, Nat.zero_le _, Nat.le_refl _, (sc trivial), (sc trivial), (sc trivial), (sc trivial), (sc trivial), (sc trivial), rfl⟩ ?_
  rintro t h n ⟨i, j, hij, hj, h0, h1, h2, h8, h9, h10, hf⟩
  simp only at h0 h1 h2 h8 h9 h10
  refine go (And.intro h0 (And.intro h1 (And.intro h2 (And.intro h8 (And.intro h9 h10))))) ?_
  refine x_condP (sv trivial) (fun hc => ?_) (fun hc => ?_)
  · have hi' : i < j := by omega
    have hm : (i + j) / 2 < v.length := by omega
    rw [bsF, if_pos hi', cAt_lt cf v hm] at hf
    refine go (And.intro h0 (And.intro h1 (And.intro h2 (And.intro h8 (And.intro h9 (And.intro h10 (And.intro hr @encId.eq_1))))))) ?_
    refine x_callV rfl rfl rfl rfl (sv (And.intro @encId.eq_1 htv)) hS (sv (And.intro @encId.eq_1 htv)) (se (And.intro @encId.eq_1 htv)) rfl (hcf _ (List.getElem_mem hm)) ?_
    by_cases hz : cf v[(i + j) / 2] < 0
    · rw [if_pos hz] at hf
      refine go (And.intro h0 (And.intro h1 (And.intro h2 (And.intro h8 (And.intro h9 (And.intro h10 (And.intro hr (And.intro hz @encId.eq_1)))))))) ?_
      refine ⟨⟨(i + j) / 2 + 1, j, by omega, hj, (sc h0), (sc h1), (sc h2), (sc h8), (sc @cast_succ), (sc h10), hf⟩, ?_⟩
      exact so (And.intro h9 h10)
    · rw [if_neg hz] at hf
      refine go (And.intro h0 (And.intro h1 (And.intro h2 (And.intro h8 (And.intro h9 (And.intro h10 (And.intro hr (And.intro hz @encId.eq_1)))))))) ?_
      refine ⟨⟨i, (i + j) / 2, by omega, by omega, (sc h0), (sc h1), (sc h2), (sc h8), (sc h9), (sc trivial), hf⟩, ?_⟩
      exact so (And.intro h9 h10)
  · have e : i = j := by omega
    subst e
    rw [bsF, if_neg (by omega)] at hf
    by_cases hn : i < v.length
    · have hn' : (i : Int) < (v.length : Int) := by omega
      have hb : bsHit cf v = decide (cf v[i] = 0) := by simp [bsHit, ← hf, hn, cAt_lt cf v hn]
      refine go (And.intro h0 (And.intro h1 (And.intro h2 (And.intro h8 (And.intro h9 (And.intro h10 (And.intro hr (And.intro hn' @encId.eq_1)))))))) ?_
      refine x_callV rfl rfl rfl rfl (sv (And.intro @encId.eq_1 htv)) hS (sv (And.intro @encId.eq_1 htv)) (se (And.intro @encId.eq_1 htv)) rfl (hcf _ (List.getElem_mem hn)) ?_
      refine go (And.intro h0 (And.intro h1 (And.intro h2 (And.intro h8 (And.intro h9 (And.intro h10 (And.intro hr (And.intro hn' @encId.eq_1)))))))) ?_
      rw [hb, ← hf]
      refine x_done (x_outT (sr (And.intro @Try.f50.eq_1 @beq_eq_decide)) rfl)
    · have hn' : ¬ ((i : Int) < (v.length : Int)) := by omega
      have hb : bsHit cf v = false := by simp [bsHit, ← hf, hn]
      refine go (And.intro h0 (And.intro h1 (And.intro h2 (And.intro h8 (And.intro h9 (And.intro h10 (And.intro hr (And.intro hn' @encId.eq_1)))))))) ?_
      rw [hb, ← hf]
      refine x_done (x_outT (sr @Try.f50.eq_1) rfl)
end Go.Proofs.Ytgohmphhgglmbaa

set_option linter.unusedVariables false
set_option linter.unusedSimpArgs false
set_option maxRecDepth 100000
set_option maxHeartbeats 4000000
namespace Go.Proofs.Ytgohmphhgglmbaa
open Go Go.RowKit Am

def bsS2 {α : Type} (enc : α → List V) : Fspec := fun Φ ds r => ∃ (v : List α) (y : α) (cf : α → Int) (S : List V → Value → Prop), v.length ≤ 1099511627776 ∧ ds = [.sl (v.map enc), .agg (enc y), .fv 2] ∧ Φ 2 = some S ∧ (∀ x ∈ v, S [.agg (enc x), .agg (enc y)] (.int .i64 (cf x))) ∧ r = .tup [.s (.int .i64 (bsF (cAt cf v) 0 v.length)), .s (.bool (bsHit cf v))]
theorem bsR_sound {plain : TypeId → Bool} {Γ : FuncId → Option Fspec} {Δ : FuncId → Option Pt} (hE : EnvOk ⟨Try.prog, plain, Γ, Δ, fun _ => none, 0⟩) : Sound Try.prog 27 (bsS2 encR) := by
  refine sound_of_awp hE Try.func27 rfl (by kernel_rfl) ?_
  rintro Φ ds r ⟨v, y, cf, S, hv, rfl, hS, hcf, rfl⟩
  refine ⟨by simp [Try.f27], ?_⟩
  unfold st0
  refine W.out (E := ⟨Try.prog, plain, Γ, Δ, Φ, _⟩) ?_
  have hr := encR_rows v
  refine go @encR.eq_1 ?_
  refine x_loop (fun σ => ∃ i j : Nat, i ≤ j ∧ j ≤ v.length ∧ σ.t 0 = .sl (v.map encR) ∧ σ.t 4 = .ptr 0 0 0 ∧ σ.h 0 = some ⟨4, [encR y], true⟩ ∧ σ.t 2 = .fv 2 ∧ σ.t 8 = .s (.int .i64 v.length) ∧ σ.t 9 = .s (.int .i64 i) ∧ σ.t 10 = .s (.int .i64 j) ∧ bsF (cAt cf v) i j = bsF (cAt cf v) 0 v.length) (fun σ => ix (σ.t 10) - ix (σ.t 9)) ⟨0, v.length, Nat.zero_le _, Nat.le_refl _, (sc trivial), (sc trivial), (sc @encR.eq_1), (sc trivial), (sc trivial), (sc trivial), (sc trivial), rfl⟩ ?_
  rintro t h n ⟨i, j, hij, hj, h0, h4, hh, h2, h8, h9, h10, hf⟩
  simp only at h0 h4 hh h2 h8 h9 h10
  refine go (And.intro h0 (And.intro h4 (And.intro hh (And.intro h2 (And.intro h8 (And.intro h9 h10)))))) ?_
  refine x_condP (sv trivial) (fun hc => ?_) (fun hc => ?_)
  · have hi' : i < j := by omega
    have hm : (i + j) / 2 < v.length := by omega
    rw [bsF, if_pos hi', cAt_lt cf v hm] at hf
    refine go (And.intro h0 (And.intro h4 (And.intro hh (And.intro h2 (And.intro h8 (And.intro h9 (And.intro h10 (And.intro hr @encR.eq_1)))))))) ?_
    refine x_callVD rfl rfl rfl rfl rfl (sv @encR.eq_1) hS (sv @encR.eq_1) (se @encR.eq_1) rfl (hcf _ (List.getElem_mem hm)) ?_
    by_cases hz : cf v[(i + j) / 2] < 0
    · rw [if_pos hz] at hf
      refine go (And.intro h0 (And.intro h4 (And.intro hh (And.intro h2 (And.intro h8 (And.intro h9 (And.intro h10 (And.intro hr (And.intro hz @encR.eq_1))))))))) ?_
      refine ⟨⟨(i + j) / 2 + 1, j, by omega, hj, (sc h0), (sc h4), hh, (sc h2), (sc h8), (sc @cast_succ), (sc h10), hf⟩, ?_⟩
      exact so (And.intro h9 h10)
    · rw [if_neg hz] at hf
      refine go (And.intro h0 (And.intro h4 (And.intro hh (And.intro h2 (And.intro h8 (And.intro h9 (And.intro h10 (And.intro hr (And.intro hz @encR.eq_1))))))))) ?_
      refine ⟨⟨i, (i + j) / 2, by omega, by omega, (sc h0), (sc h4), hh, (sc h2), (sc h8), (sc h9), (sc trivial), hf⟩, ?_⟩
      exact so (And.intro h9 h10)
  · have e : i = j := by omega
    subst e
    rw [bsF, if_neg (by omega)] at hf
    by_cases hn : i < v.length
    · have hn' : (i : Int) < (v.length : Int) := by omega
      have hb : bsHit cf v = decide (cf v[i] = 0) := by simp [bsHit, ← hf, hn, cAt_lt cf v hn]
      refine go (And.intro h0 (And.intro h4 (And.intro hh (And.intro h2 (And.intro h8 (And.intro h9 (And.intro h10 (And.intro hr (And.intro hn' @encR.eq_1))))))))) ?_
      refine x_callVD rfl rfl rfl rfl rfl (sv @encR.eq_1) hS (sv @encR.eq_1) (se @encR.eq_1) rfl (hcf _ (List.getElem_mem hn)) ?_
      refine go (And.intro h0 (And.intro h4 (And.intro hh (And.intro h2 (And.intro h8 (And.intro h9 (And.intro h10 (And.intro hr (And.intro hn' @encR.eq_1))))))))) ?_
      rw [hb, ← hf]
      refine x_done (x_outT (sr (And.intro @Try.f27.eq_1 @beq_eq_decide)) rfl)
    · have hn' : ¬ ((i : Int) < (v.length : Int)) := by omega
      have hb : bsHit cf v = false := by simp [bsHit, ← hf, hn]
      refine go (And.intro h0 (And.intro h4 (And.intro hh (And.intro h2 (And.intro h8 (And.intro h9 (And.intro h10 (And.intro hr hn')))))))) ?_
      rw [hb, ← hf]
      refine x_done (x_outT (sr @Try.f27.eq_1) rfl)

theorem bsW_sound {plain : TypeId → Bool} {Γ : FuncId → Option Fspec} {Δ : FuncId → Option Pt} (hE : EnvOk ⟨Try.prog, plain, Γ, Δ, fun _ => none, 0⟩) : Sound Try.prog 46 (bsS2 encW) := by
  refine sound_of_awp hE Try.func46 rfl (by kernel_rfl) ?_
  rintro Φ ds r ⟨v, y, cf, S, hv, rfl, hS, hcf, rfl⟩
  refine ⟨by simp [Try.f46], ?_⟩
  unfold st0
  refine W.out (E := ⟨Try.prog, plain, Γ, Δ, Φ, _⟩) ?_
  have hr := encW_rows v
  refine go @encW.eq_1 ?_
  refine x_loop (fun σ => ∃ i j : Nat, i ≤ j ∧ j ≤ v.length ∧ σ.t 0 = .sl (v.map encW) ∧ σ.t 4 = .ptr 0 0 0 ∧ σ.h 0 = some ⟨4, [encW y], true⟩ ∧ σ.t 2 = .fv 2 ∧ σ.t 8 = .s (.int .i64 v.length) ∧ σ.t 9 = .s (.int .i64 i) ∧ σ.t 10 = .s (.int .i64 j) ∧ bsF (cAt cf v) i j = bsF (cAt cf v) 0 v.length) (fun σ => ix (σ.t 10) - ix (σ.t 9)) ⟨0, v.length, Nat.zero_le _, Nat.le_refl _, (sc trivial), (sc trivial), (sc @encW.eq_1), (sc trivial), (sc trivial), (sc trivial), (sc trivial), rfl⟩ ?_
  rintro t h n ⟨i, j, hij, hj, h0, h4, hh, h2, h8, h9, h10, hf⟩
  simp only at h0 h4 hh h2 h8 h9 h10
  refine go (And.intro h0 (And.intro h4 (And.intro hh (And.intro h2 (And.intro h8 (And.intro h9 h10)))))) ?_
  refine x_condP (sv trivial) (fun hc => ?_) (fun hc => ?_)
  · have hi' : i < j := by omega
    have hm : (i + j) / 2 < v.length := by omega
    rw [bsF, if_pos hi', cAt_lt cf v hm] at hf
    refine go (And.intro h0 (And.intro h4 (And.intro hh (And.intro h2 (And.intro h8 (And.intro h9 (And.intro h10 (And.intro hr @encW.eq_1)))))))) ?_
    refine x_callVD rfl rfl rfl rfl rfl (sv @encW.eq_1) hS (sv @encW.eq_1) (se @encW.eq_1) rfl (hcf _ (List.getElem_mem hm)) ?_
    by_cases hz : cf v[(i + j) / 2] < 0
    · rw [if_pos hz] at hf
      refine go (And.intro h0 (And.intro h4 (And.intro hh (And.intro h2 (And.intro h8 (And.intro h9 (And.intro h10 (And.intro hr (And.intro hz @encW.eq_1))))))))) ?_
      refine ⟨⟨(i + j) / 2 + 1, j, by omega, hj, (sc h0), (sc h4), hh, (sc h2), (sc h8), (sc @cast_succ), (sc h10), hf⟩, ?_⟩
      exact so (And.intro h9 h10)
    · rw [if_neg hz] at hf
      refine go (And.intro h0 (And.intro h4 (And.intro hh (And.intro h2 (And.intro h8 (And.intro h9 (And.intro h10 (And.intro hr (And.intro hz @encW.eq_1))))))))) ?_
      refine ⟨⟨i, (i + j) / 2, by omega, by omega, (sc h0), (sc h4), hh, (sc h2), (sc h8), (sc h9), (sc trivial), hf⟩, ?_⟩
      exact so (And.intro h9 h10)
  · have e : i = j := by omega
    subst e
    rw [bsF, if_neg (by omega)] at hf
    by_cases hn : i < v.length
    · have hn' : (i : Int) < (v.length : Int) := by omega
      have hb : bsHit cf v = decide (cf v[i] = 0) := by simp [bsHit, ← hf, hn, cAt_lt cf v hn]
      refine go (And.intro h0 (And.intro h4 (And.intro hh (And.intro h2 (And.intro h8 (And.intro h9 (And.intro h10 (And.intro hr (And.intro hn' @encW.eq_1))))))))) ?_
      refine x_callVD rfl rfl rfl rfl rfl (sv @encW.eq_1) hS (sv @encW.eq_1) (se @encW.eq_1) rfl (hcf _ (List.getElem_mem hn)) ?_
      refine go (And.intro h0 (And.intro h4 (And.intro hh (And.intro h2 (And.intro h8 (And.intro h9 (And.intro h10 (And.intro hr (And.intro hn' @encW.eq_1))))))))) ?_
      rw [hb, ← hf]
      refine x_done (x_outT (sr (And.intro @Try.f46.eq_1 @beq_eq_decide)) rfl)
    · have hn' : ¬ ((i : Int) < (v.length : Int)) := by omega
      have hb : bsHit cf v = false := by simp [bsHit, ← hf, hn]
      refine go (And.intro h0 (And.intro h4 (And.intro hh (And.intro h2 (And.intro h8 (And.intro h9 (And.intro h10 (And.intro hr hn')))))))) ?_
      rw [hb, ← hf]
      refine x_done (x_outT (sr @Try.f46.eq_1) rfl)

end Go.Proofs.Ytgohmphhgglmbaa

set_option linter.unusedVariables false
set_option linter.unusedSimpArgs false
set_option maxRecDepth 100000
set_option maxHeartbeats 4000000
namespace Go.Proofs.Ytgohmphhgglmbaa
open Go Go.RowKit Am

def cmpId (a b : Idt) : Int := orF [cmpB a.a b.a, cmpI a.n b.n]
def cmpIdS : Fspec := fun _ ds r => ∃ a b : Idt, ds = [.agg (encId a), .agg (encId b)] ∧ r = .s (.int .i64 (cmpId a b))
theorem cmpId_sound {plain : TypeId → Bool} {Γ : FuncId → Option Fspec} {Δ : FuncId → Option Pt} (hE : EnvOk ⟨Try.prog, plain, Γ, Δ, fun _ => none, 0⟩) (g_compare : Γ 41 = some compareS) (g_cmpI : Γ 52 = some cmpIS) (g_or : Γ 39 = some orS) : Sound Try.prog 40 cmpIdS := by
  refine sound_of_awp hE Try.func40 rfl (by kernel_rfl) ?_
  rintro Φ ds r ⟨a, b, rfl, rfl⟩
  refine ⟨by simp [Try.f40], ?_⟩
  unfold st0 encId
  refine W.out (E := ⟨Try.prog, plain, Γ, Δ, Φ, _⟩) ?_
  refine go trivial ?_
  refine x_callD rfl rfl rfl rfl rfl (sv trivial) g_compare (sv trivial) (se trivial) ⟨a.a, b.a, rfl, rfl⟩ rfl ?_
  refine go trivial ?_
  refine x_callD rfl rfl rfl rfl rfl (sv trivial) g_cmpI (sv trivial) (se trivial) ⟨a.n, b.n, rfl, rfl⟩ rfl ?_
  refine go trivial ?_
  refine x_callN rfl rfl rfl rfl (sv trivial) g_or (sv trivial) (se trivial) ⟨[cmpB a.a b.a, cmpI a.n b.n], by simp, rfl, rfl⟩ rfl ?_
  refine go trivial ?_
  refine x_done (x_out (sr (And.intro @Try.f40.eq_1 @cmpId.eq_1)) (by simp) (by simp) rfl)
def cmpReg (a b : Rgs) : Int := orF [cmpId a.id b.id, cmpB a.f b.f]
def cmpRegS : Fspec := fun _ ds r => ∃ a b : Rgs, ds = [.agg (encR a), .agg (encR b)] ∧ r = .s (.int .i64 (cmpReg a b))
theorem cmpReg_sound {plain : TypeId → Bool} {Γ : FuncId → Option Fspec} {Δ : FuncId → Option Pt} (hE : EnvOk ⟨Try.prog, plain, Γ, Δ, fun _ => none, 0⟩) (g_cmpId : Γ 40 = some cmpIdS) (g_compare : Γ 41 = some compareS) (g_or : Γ 39 = some orS) : Sound Try.prog 28 cmpRegS := by
  refine sound_of_awp hE Try.func28 rfl (by kernel_rfl) ?_
  rintro Φ ds r ⟨a, b, rfl, rfl⟩
  refine ⟨by simp [Try.f28], ?_⟩
  unfold st0 encR
  refine W.out (E := ⟨Try.prog, plain, Γ, Δ, Φ, _⟩) ?_
  refine go trivial ?_
  refine x_callD rfl rfl rfl rfl rfl (sv trivial) g_cmpId (sv trivial) (se trivial) ⟨a.id, b.id, rfl, rfl⟩ rfl ?_
  refine go trivial ?_
  refine x_callD rfl rfl rfl rfl rfl (sv trivial) g_compare (sv trivial) (se trivial) ⟨a.f, b.f, rfl, rfl⟩ rfl ?_
  refine go trivial ?_
  refine x_callN rfl rfl rfl rfl (sv trivial) g_or (sv trivial) (se trivial) ⟨[cmpId a.id b.id, cmpB a.f b.f], by simp, rfl, rfl⟩ rfl ?_
  refine go trivial ?_
  refine x_done (x_out (sr (And.intro @Try.f28.eq_1 @cmpReg.eq_1)) (by simp) (by simp) rfl)
def cmpW (a b : Wrt) : Int := orF [cmpI a.c b.c, cmpId a.id b.id]
def cmpWS : Fspec := fun _ ds r => ∃ a b : Wrt, ds = [.agg (encW a), .agg (encW b)] ∧ r = .s (.int .i64 (cmpW a b))
theorem cmpW_sound {plain : TypeId → Bool} {Γ : FuncId → Option Fspec} {Δ : FuncId → Option Pt} (hE : EnvOk ⟨Try.prog, plain, Γ, Δ, fun _ => none, 0⟩) (g_cmpId : Γ 40 = some cmpIdS) (g_cmpI : Γ 52 = some cmpIS) (g_or : Γ 39 = some orS) : Sound Try.prog 47 cmpWS := by
  refine sound_of_awp hE Try.func47 rfl (by kernel_rfl) ?_
  rintro Φ ds r ⟨a, b, rfl, rfl⟩
  refine ⟨by simp [Try.f47], ?_⟩
  unfold st0 encW
  refine W.out (E := ⟨Try.prog, plain, Γ, Δ, Φ, _⟩) ?_
  refine go trivial ?_
  refine x_callD rfl rfl rfl rfl rfl (sv trivial) g_cmpI (sv trivial) (se trivial) ⟨a.c, b.c, rfl, rfl⟩ rfl ?_
  refine go trivial ?_
  refine x_callD rfl rfl rfl rfl rfl (sv trivial) g_cmpId (sv trivial) (se trivial) ⟨a.id, b.id, rfl, rfl⟩ rfl ?_
  refine go trivial ?_
  refine x_callN rfl rfl rfl rfl (sv trivial) g_or (sv trivial) (se trivial) ⟨[cmpI a.c b.c, cmpId a.id b.id], by simp, rfl, rfl⟩ rfl ?_
  refine go trivial ?_
  refine x_done (x_out (sr (And.intro @Try.f47.eq_1 @cmpW.eq_1)) (by simp) (by simp) rfl)
def plac1S : Fspec := fun _ ds r => ∃ (x : Idt) (a : ByteArray), ds = [.agg (encId x), .s (.string a)] ∧ r = .s (.int .i64 (cmpB x.a a))
theorem plac1_sound {plain : TypeId → Bool} {Γ : FuncId → Option Fspec} {Δ : FuncId → Option Pt} (hE : EnvOk ⟨Try.prog, plain, Γ, Δ, fun _ => none, 0⟩) (g_compare : Γ 41 = some compareS) : Sound Try.prog 51 plac1S := by
  refine sound_of_awp hE Try.func51 rfl (by kernel_rfl) ?_
  rintro Φ ds r ⟨x, a, rfl, rfl⟩
  refine ⟨by simp [Try.f51], ?_⟩
  unfold st0 encId
  refine W.out (E := ⟨Try.prog, plain, Γ, Δ, Φ, _⟩) ?_
  refine go trivial ?_
  refine x_callN rfl rfl rfl rfl (sv trivial) g_compare (sv trivial) (se trivial) ⟨x.a, a, rfl, rfl⟩ rfl ?_
  refine go trivial ?_
  refine x_done (x_out (sr @Try.f51.eq_1) (by simp) (by simp) rfl)
def plPos (v : List Idt) (a : ByteArray) : Nat := bsF (cAt (fun x => cmpB x.a a) v) 0 v.length
def plHit (v : List Idt) (a : ByteArray) : Bool := bsHit (fun x => cmpB x.a a) v
def placS : Fspec := fun _ ds r => ∃ (v : List Idt) (a : ByteArray), v.length ≤ 1099511627776 ∧ ds = [encIds v, .s (.string a)] ∧ r = .tup [.s (.int .i64 (plPos v a)), .s (.bool (plHit v a))]
def bsIS : Fspec := bsS encId
theorem plac_sound {plain : TypeId → Bool} {Γ : FuncId → Option Fspec} {Δ : FuncId → Option Pt} (hE : EnvOk ⟨Try.prog, plain, Γ, Δ, fun _ => none, 0⟩) (g_plac1 : Γ 51 = some plac1S) (g_bs : Γ 50 = some (bsS encId)) : Sound Try.prog 36 placS := by
  refine sound_of_awp hE Try.func36 rfl (by kernel_rfl) ?_
  rintro Φ ds r ⟨v, a, hv, rfl, rfl⟩
  refine ⟨by simp [Try.f36], ?_⟩
  unfold st0 encIds
  refine W.out (E := ⟨Try.prog, plain, Γ, Δ, Φ, _⟩) ?_
  refine go trivial ?_
  refine x_callN rfl rfl rfl rfl (sv trivial) g_bs (sv trivial) (se trivial) ⟨v, .s (.string a), (fun x => cmpB x.a a), _, hv, fun _ => rfl, rfl, (by simp only [phi, closS, allO, List.getElem?_cons_zero, List.getElem?_cons_succ, g_plac1]; rfl), (by intro x _; exact ⟨x, a, rfl, rfl⟩), rfl⟩ rfl ?_
  refine go trivial ?_
  refine x_done (x_outT (sr (And.intro @Try.f36.eq_1 (And.intro @plPos.eq_1 @plHit.eq_1))) rfl)
end Go.Proofs.Ytgohmphhgglmbaa

set_option linter.unusedVariables false
set_option linter.unusedSimpArgs false
set_option maxRecDepth 100000
namespace Go.Proofs.Ytgohmphhgglmbaa
open Go Go.RowKit Am

def hasF (v : List Idt) (x : Idt) : Bool := decide (1 ≤ x.n) && decide (x.n ≤ uptoF v x.a)
def hasS : Fspec := fun _ ds r => ∃ (v : List Idt) (x : Idt), v.length ≤ 1099511627776 ∧ ds = [encIds v, .agg (encId x)] ∧ r = .s (.bool (hasF v x))
theorem has_sound {plain : TypeId → Bool} {Γ : FuncId → Option Fspec} {Δ : FuncId → Option Pt} (hE : EnvOk ⟨Try.prog, plain, Γ, Δ, fun _ => none, 0⟩) (g_upto : Γ 49 = some uptoS) : Sound Try.prog 35 hasS := by
  refine sound_of_awp hE Try.func35 rfl (by kernel_rfl) ?_
  rintro Φ ds r ⟨v, x, hv, rfl, rfl⟩
  refine ⟨by simp [Try.f35], ?_⟩
  unfold st0 encIds
  refine W.out (E := ⟨Try.prog, plain, Γ, Δ, Φ, _⟩) ?_
  by_cases hc : 1 ≤ x.n
  · refine go (And.intro hc @encId.eq_1) ?_
    refine x_callD rfl rfl rfl rfl rfl (sv trivial) g_upto (sv trivial) (se trivial) ⟨v, x.a, hv, rfl, rfl⟩ rfl ?_
    refine go (And.intro hc @encId.eq_1) ?_
    refine x_done (x_out (sr (And.intro @Try.f35.eq_1 (And.intro @hasF.eq_1 hc))) (by simp) (by simp) rfl)
  · refine go (And.intro hc @encId.eq_1) ?_
    refine x_done (x_out (sr (And.intro @Try.f35.eq_1 (And.intro @hasF.eq_1 hc))) (by simp) (by simp) rfl)
end Go.Proofs.Ytgohmphhgglmbaa

set_option linter.unusedVariables false
set_option linter.unusedSimpArgs false
set_option maxRecDepth 100000
set_option maxHeartbeats 4000000
namespace Go.Proofs.Ytgohmphhgglmbaa
open Go Go.RowKit Am

def nAt (v : List Idt) (k : Nat) : Int := match v[k]? with
  | some x => x.n
  | none => 0
theorem nAt_lt (v : List Idt) {k : Nat} (h : k < v.length) : nAt v k = v[k].n := by simp [nAt, h]
def contF (v : List Idt) (x : Idt) : Bool := plHit v x.a && (decide (1 ≤ x.n) && decide (x.n ≤ nAt v (plPos v x.a)))
def contS : Fspec := fun _ ds r => ∃ (v : List Idt) (x : Idt), v.length ≤ 1099511627776 ∧ ds = [encIds v, .agg (encId x)] ∧ r = .s (.bool (contF v x))
theorem cont_sound {plain : TypeId → Bool} {Γ : FuncId → Option Fspec} {Δ : FuncId → Option Pt} (hE : EnvOk ⟨Try.prog, plain, Γ, Δ, fun _ => none, 0⟩) (g_plac : Γ 36 = some placS) : Sound Try.prog 21 contS := by
  refine sound_of_awp hE Try.func21 rfl (by kernel_rfl) ?_
  rintro Φ ds r ⟨v, x, hv, rfl, rfl⟩
  refine ⟨by simp [Try.f21], ?_⟩
  unfold st0 encIds
  refine W.out (E := ⟨Try.prog, plain, Γ, Δ, Φ, _⟩) ?_
  have hr := encId_rows v
  refine go @encId.eq_1 ?_
  refine x_callN rfl rfl rfl rfl (sv trivial) g_plac (sv trivial) (se trivial) ⟨v, x.a, hv, rfl, rfl⟩ rfl ?_
  cases hb : plHit v x.a
  · refine go (And.intro hb @encId.eq_1) ?_
    refine x_done (x_out (sr (And.intro @Try.f21.eq_1 (And.intro @contF.eq_1 hb))) (by simp) (by simp) rfl)
  · have hp : plPos v x.a < v.length := by
      simp only [plHit, bsHit, Bool.and_eq_true, decide_eq_true_eq] at hb
      exact hb.1
    by_cases hc : 1 ≤ x.n
    · refine go (And.intro hb (And.intro hc (And.intro hr @encId.eq_1))) ?_
      refine x_done (x_out (sr (And.intro @Try.f21.eq_1 (And.intro @contF.eq_1 (And.intro hb (And.intro hc ((nAt_lt v hp))))))) (by simp) (by simp) rfl)
    · refine go (And.intro hb (And.intro hc (And.intro hr @encId.eq_1))) ?_
      refine x_done (x_out (sr (And.intro @Try.f21.eq_1 (And.intro @contF.eq_1 (And.intro hb hc)))) (by simp) (by simp) rfl)

def lessF (a b : Idt) : Bool := Op.bytesLess a.a.toList b.a.toList || ((a.a.toList == b.a.toList) && decide (a.n < b.n))
def lessS : Fspec := fun _ ds r => ∃ a b : Idt, ds = [.agg (encId a), .agg (encId b)] ∧ r = .s (.bool (lessF a b))
theorem less_sound {plain : TypeId → Bool} {Γ : FuncId → Option Fspec} {Δ : FuncId → Option Pt} (hE : EnvOk ⟨Try.prog, plain, Γ, Δ, fun _ => none, 0⟩) : Sound Try.prog 37 lessS := by
  refine sound_of_awp hE Try.func37 rfl (by kernel_rfl) ?_
  rintro Φ ds r ⟨a, b, rfl, rfl⟩
  refine ⟨by simp [Try.f37], ?_⟩
  unfold st0 encId
  refine W.out (E := ⟨Try.prog, plain, Γ, Δ, Φ, _⟩) ?_
  cases h1 : Op.bytesLess a.a.toList b.a.toList
  · cases h2 : (a.a.toList == b.a.toList)
    · refine go (And.intro h1 h2) ?_
      refine x_done (x_out (sr (And.intro @Try.f37.eq_1 (And.intro @lessF.eq_1 (And.intro h1 h2)))) (by simp) (by simp) rfl)
    · refine go (And.intro h1 h2) ?_
      refine x_done (x_out (sr (And.intro @Try.f37.eq_1 (And.intro @lessF.eq_1 (And.intro h1 h2)))) (by simp) (by simp) rfl)
  · refine go h1 ?_
    refine x_done (x_out (sr (And.intro @Try.f37.eq_1 (And.intro @lessF.eq_1 h1))) (by simp) (by simp) rfl)
def aheadF (a b : Wrt) : Bool := decide (a.c < b.c) || ((a.c == b.c) && lessF a.id b.id)
def aheadS : Fspec := fun _ ds r => ∃ a b : Wrt, ds = [.agg (encW a), .agg (encW b)] ∧ r = .s (.bool (aheadF a b))
theorem ahead_sound {plain : TypeId → Bool} {Γ : FuncId → Option Fspec} {Δ : FuncId → Option Pt} (hE : EnvOk ⟨Try.prog, plain, Γ, Δ, fun _ => none, 0⟩) (g_less : Γ 37 = some lessS) : Sound Try.prog 24 aheadS := by
  refine sound_of_awp hE Try.func24 rfl (by kernel_rfl) ?_
  rintro Φ ds r ⟨a, b, rfl, rfl⟩
  refine ⟨by simp [Try.f24], ?_⟩
  unfold st0 encW
  refine W.out (E := ⟨Try.prog, plain, Γ, Δ, Φ, _⟩) ?_
  by_cases h1 : a.c < b.c
  · refine go h1 ?_
    refine x_done (x_out (sr (And.intro @Try.f24.eq_1 (And.intro @aheadF.eq_1 h1))) (by simp) (by simp) rfl)
  · cases h2 : (a.c == b.c)
    · refine go (And.intro h1 h2) ?_
      refine x_done (x_out (sr (And.intro @Try.f24.eq_1 (And.intro @aheadF.eq_1 (And.intro h1 h2)))) (by simp) (by simp) rfl)
    · refine go (And.intro h1 h2) ?_
      refine x_callN rfl rfl rfl rfl (sv trivial) g_less (sv trivial) (se trivial) ⟨a.id, b.id, rfl, rfl⟩ rfl ?_
      refine go (And.intro h1 h2) ?_
      refine x_done (x_out (sr (And.intro @Try.f24.eq_1 (And.intro @aheadF.eq_1 (And.intro h1 h2)))) (by simp) (by simp) rfl)
def eqId (a b : Idt) : Bool := (a.a.toList == b.a.toList) && ((a.n == b.n) && true)
def firstF (a b : Rgs) : Bool := lessF a.id b.id || (eqId a.id b.id && Op.bytesLess a.f.toList b.f.toList)
def firstS : Fspec := fun _ ds r => ∃ a b : Rgs, ds = [.agg (encR a), .agg (encR b)] ∧ r = .s (.bool (firstF a b))
theorem first_sound {plain : TypeId → Bool} {Γ : FuncId → Option Fspec} {Δ : FuncId → Option Pt} (hE : EnvOk ⟨Try.prog, plain, Γ, Δ, fun _ => none, 0⟩) (hpl : plain 31 = true) (g_less : Γ 37 = some lessS) : Sound Try.prog 23 firstS := by
  refine sound_of_awp hE Try.func23 rfl (by kernel_rfl) ?_
  rintro Φ ds r ⟨a, b, rfl, rfl⟩
  refine ⟨by simp [Try.f23], ?_⟩
  unfold st0 encR
  refine W.out (E := ⟨Try.prog, plain, Γ, Δ, Φ, _⟩) ?_
  refine go trivial ?_
  refine x_callN rfl rfl rfl rfl (sv trivial) g_less (sv trivial) (se trivial) ⟨a.id, b.id, rfl, rfl⟩ rfl ?_
  cases h1 : lessF a.id b.id
  · cases h2 : eqId a.id b.id
    · have h3 : ((a.id.a.toList == b.id.a.toList) && (a.id.n == b.id.n)) = false := by simpa [eqId] using h2
      refine go (And.intro h1 (And.intro h3 hpl)) ?_
      refine x_done (x_out (sr (And.intro @Try.f23.eq_1 (And.intro @firstF.eq_1 (And.intro h1 h2)))) (by simp) (by simp) rfl)
    · have h3 : ((a.id.a.toList == b.id.a.toList) && (a.id.n == b.id.n)) = true := by simpa [eqId] using h2
      refine go (And.intro h1 (And.intro h3 hpl)) ?_
      refine x_done (x_out (sr (And.intro @Try.f23.eq_1 (And.intro @firstF.eq_1 (And.intro h1 h2)))) (by simp) (by simp) rfl)
  · refine go h1 ?_
    refine x_done (x_out (sr (And.intro @Try.f23.eq_1 (And.intro @firstF.eq_1 h1))) (by simp) (by simp) rfl)
end Go.Proofs.Ytgohmphhgglmbaa

set_option linter.unusedVariables false
set_option linter.unusedSimpArgs false
set_option maxRecDepth 100000
set_option maxHeartbeats 4000000
namespace Go.Proofs.Ytgohmphhgglmbaa
open Go Go.RowKit Am

structure Edt where
  id : Idt
  clock : Int
  floor : Int
  deps : List Idt
  kind : Int
  node : Idt
  parent : Idt
  neg : Bool
  num : ByteArray
  den : ByteArray
  field : ByteArray
  value : ByteArray
  target : Idt
  who : ByteArray
def encE (x : Edt) : List V := [.s (.string x.id.a), .s (.int .i64 x.id.n), .s (.int .i64 x.clock), .s (.int .i64 x.floor), .sl (x.deps.map encId), .s (.int .i64 x.kind), .s (.string x.node.a), .s (.int .i64 x.node.n), .s (.string x.parent.a), .s (.int .i64 x.parent.n), .s (.bool x.neg), .s (.string x.num), .s (.string x.den), .s (.string x.field), .s (.string x.value), .s (.string x.target.a), .s (.int .i64 x.target.n), .s (.string x.who)]
def wr1F (e : Edt) (m : Wrt) : Bool := ((m.id.a.toList == e.id.a.toList) && (m.id.n == e.id.n)) || contF e.deps m.id
def wr1S : Fspec := fun _ ds r => ∃ (m : Wrt) (e : Edt), e.deps.length ≤ 1099511627776 ∧ ds = [.agg (encW m), .pc (encE e)] ∧ r = .s (.bool (wr1F e m))
theorem wr1_sound {plain : TypeId → Bool} {Γ : FuncId → Option Fspec} {Δ : FuncId → Option Pt} (hE : EnvOk ⟨Try.prog, plain, Γ, Δ, fun _ => none, 0⟩) (hpl : plain 31 = true) (g_cont : Γ 21 = some contS) : Sound Try.prog 45 wr1S := by
  refine sound_of_awp hE Try.func45 rfl (by kernel_rfl) ?_
  rintro Φ ds r ⟨m, e, hd, rfl, rfl⟩
  refine ⟨by simp [Try.f45], ?_⟩
  unfold st0 encW
  refine W.out (E := ⟨Try.prog, plain, Γ, Δ, Φ, _⟩) ?_
  cases ha : ((m.id.a.toList == e.id.a.toList) && (m.id.n == e.id.n))
  · refine go (And.intro hpl (And.intro ha @encE.eq_1)) ?_
    refine x_callN rfl rfl rfl rfl (sv trivial) g_cont (sv trivial) (se trivial) ⟨e.deps, m.id, hd, rfl, rfl⟩ rfl ?_
    refine go trivial ?_
    refine x_done (x_out (sr (And.intro @Try.f45.eq_1 (And.intro @wr1F.eq_1 ha))) (by simp) (by simp) rfl)
  · refine go (And.intro hpl (And.intro ha @encE.eq_1)) ?_
    refine x_done (x_out (sr (And.intro @Try.f45.eq_1 (And.intro @wr1F.eq_1 ha))) (by simp) (by simp) rfl)
end Go.Proofs.Ytgohmphhgglmbaa

/- What an argument of a law reads as, as a value of the abstract machine; what a law's statement asks for behind its contract. -/
set_option linter.unusedVariables false
set_option linter.unusedSimpArgs false
namespace Go.Proofs.Ytgohmphhgglmbaa.Am
open Go Go.RowKit Go.ChangeShapes Go.WideShapes

/-- A measure of readings. -/
structure Bulk where
  bk : {H : Type} → DataW H → Nat
  bks : {H : Type} → List (DataW H) → Nat
  str : ∀ {H : Type} (b : List UInt8), bk (.lit (.string b) : DataW H) = b.length + 1
  sl : ∀ {H : Type} (e s : List (DataW H)), bk (.slice e s) = bks e + bks s + 1
  agg : ∀ {H : Type} (e : List (DataW H)), bk (.agg e) = bks e + 1
  pos : ∀ {H : Type} (d : DataW H), 1 ≤ bk d
  nil : ∀ {H : Type}, bks ([] : List (DataW H)) = 0
  cons : ∀ {H : Type} (d : DataW H) (r : List (DataW H)), bks (d :: r) = bk d + bks r
theorem Bulk.len (B : Bulk) {H : Type} : ∀ l : List (DataW H), l.length ≤ B.bks l
  | [] => by simp
  | d :: r => by have := B.len r; have := B.pos d; rw [B.cons]; simp; omega
theorem Bulk.mem (B : Bulk) {H : Type} : ∀ (l : List (DataW H)) (d : DataW H), d ∈ l → B.bk d ≤ B.bks l
  | [], d, h => by cases h
  | e :: r, d, h => by
    rw [B.cons]
    rcases List.mem_cons.1 h with rfl | h
    · omega
    · have := B.mem r d h; omega

def okAll (w : World) (k : Nat) : Prop := k < w.heap.size
/-- A type whose readings are values a, laid out by enc; bd: what their measure bounds. -/
def Opn {α : Type} (B : Bulk) (P : Program) (t : TypeId) (enc : α → List V) (bd : α → Nat → Prop) : Prop :=
  (∀ a m m', m ≤ m' → bd a m → bd a m') ∧
  ∀ {H : Type} (en : TypeId × Value → H) (w : World) (base fuel : Nat) (cs : List Value) (x : DataW H × List MemPlace), DataW.trod en P w base (fun _ => true) true fuel t cs = some x →
    ∃ a : α, (enc a).length = cs.length ∧ (∀ j, j < cs.length → Dp w (okAll w) ((enc a).getD j .undef) (cs.getD j Go.undef)) ∧ bd a (B.bk x.1)
section
variable {B : Bulk} {P : Program} {t : TypeId} {α β : Type}
theorem one_cell {w : World} {v : V} {x : Value} (h : Dp w (okAll w) v x) : ∀ j, j < [x].length → Dp w (okAll w) ([v].getD j .undef) ([x].getD j Go.undef) := by
  intro j hj
  have : j = 0 := by simpa using hj
  subst this
  exact h
def encInt (k : IntKind) (n : Int) : List V := [.s (.int k n)]
def bdInt (k : IntKind) (n : Int) (_ : Nat) : Prop := (Lit.int k n).wf = true
theorem Opn.int {k : IntKind} (ht : P.underlying t = some (.int k)) : Opn B P t (encInt k) (bdInt k) := by
  refine ⟨fun _ _ _ _ h => h, fun en w base fuel cs x h => ?_⟩
  obtain ⟨n, rfl, rfl, hw⟩ := DataW.trod_int ht h
  exact ⟨n, rfl, one_cell (.s _ rfl), hw⟩
def encStr (s : ByteArray) : List V := [.s (.string s)]
def bdStr (s : ByteArray) (m : Nat) : Prop := s.size < m
theorem Opn.str (ht : P.underlying t = some .string) : Opn B P t encStr bdStr := by
  refine ⟨fun _ _ _ hm h => Nat.lt_of_lt_of_le h hm, fun en w base fuel cs x h => ?_⟩
  obtain ⟨s, rfl, rfl, hw⟩ := DataW.trod_string ht h
  refine ⟨s, rfl, one_cell (.s _ rfl), ?_⟩
  show s.size < B.bk (.lit (.string s.data.toList))
  rw [B.str, Array.length_toList]
  exact Nat.lt_succ_self _
def encBool (b : Bool) : List V := [.s (.bool b)]
def bdBool (_ : Bool) (_ : Nat) : Prop := True
theorem Opn.bool (ht : P.underlying t = some .bool) : Opn B P t encBool bdBool := by
  refine ⟨fun _ _ _ _ h => h, fun en w base fuel cs x h => ?_⟩
  obtain ⟨b, rfl, rfl⟩ := DataW.trod_bool ht h
  exact ⟨b, rfl, one_cell (.s _ rfl), trivial⟩
def encSl (enc : α → List V) (l : List α) : List V := [.sl (l.map enc)]
def bdSl (bd : α → Nat → Prop) (l : List α) (m : Nat) : Prop := l.length < m ∧ ∀ a ∈ l, bd a m
theorem Opn.slice {e z : Nat} {enc : α → List V} {bd : α → Nat → Prop} [Inhabited α] (ht : P.underlying t = some (.slice e)) (hc : P.cellsOf e = z) (hz : 0 < z) (hl : ∀ a, (enc a).length = z) (ho : Opn B P e enc bd) : Opn B P t (encSl enc) (bdSl bd) := by
  refine ⟨fun l m m' hm h => ⟨Nat.lt_of_lt_of_le h.1 hm, fun a ha => ho.1 a m m' hm (h.2 a ha)⟩, fun en w base fuel cs x h => ?_⟩
  rcases Go.Deep.open_slice ht h with ⟨rfl, rfl⟩ | ⟨a, len, cap, m, n, D, Pl, rfl, hb, hlc, hm, hmm, rfl, hel⟩
  · exact ⟨[], rfl, one_cell (Dp.nil _ _), B.pos _, by simp⟩
  · simp only [if_true] at hmm
    obtain rfl : cap = m := hmm.symm
    have hex : ∀ i, i < len → ∃ q : List Value × α, w.cells? base (a.add (i * z)) z = some q.1 ∧ (enc q.2).length = q.1.length ∧ (∀ j, j < q.1.length → Dp w (okAll w) ((enc q.2).getD j .undef) (q.1.getD j Go.undef)) ∧ bd q.2 (B.bk (D i)) := by
      intro i hi
      obtain ⟨cs', h1, h2⟩ := hel i (by omega)
      rw [hc] at h1
      obtain ⟨b, h3, h4, h5⟩ := ho.2 en w base n cs' _ h2
      exact ⟨(cs', b), h1, h3, h4, h5⟩
    obtain ⟨f, hf⟩ := Go.Deep.choose_lt (α := List Value × α) hex
    have hlen : ∀ i, i < len → (f i).1.length = z := fun i hi => by have := (hf i hi).2.1; rw [hl] at this; exact this.symm
    have hcell : ∀ i j, i < len → j < z → w.cell? (a.add (i * z + j)) = some ((f i).1.getD j Go.undef) := by
      intro i j hi hj
      obtain ⟨_, g1, g2⟩ := World.cells?_some (hf i hi).1
      have := g2 j hj
      rw [Go.Deep.add_add] at this
      rw [this]
      have hj' : j < (f i).1.length := by rw [hlen i hi]; exact hj
      simp [hj']
    refine ⟨(List.range len).map fun i => (f i).2, rfl, one_cell ?_, ?_⟩
    · refine .sl _ len cap z (some a) (fun i j => (f i).1.getD j Go.undef) (by simp) hlc ?_ ?_ ?_
      · intro r hr
        simp only [List.mem_map] at hr
        obtain ⟨q, _, rfl⟩ := hr
        exact hl q
      · intro hn
        refine ⟨a, rfl, ?_, hcell⟩
        have := hcell 0 0 (by omega) hz
        have := World.block_lt_of_cell? w _ this
        rwa [add_block] at this
      · intro i j hi hj
        have h1 : (((List.range len).map fun i => (f i).2).map enc).getD i [] = enc (f i).2 := by simp [List.getD_eq_getElem?_getD, hi]
        rw [h1]
        exact (hf i hi).2.2.1 j (by rw [hlen i hi]; exact hj)
    · have hbk : ∀ i, i < len → B.bk (D i) ≤ B.bk (.slice ((List.range len).map D) ((List.range (cap - len)).map fun j => D (len + j))) := by
        intro i hi
        rw [B.sl]
        have := B.mem ((List.range len).map D) (D i) (List.mem_map.2 ⟨i, List.mem_range.2 hi, rfl⟩)
        omega
      refine ⟨?_, fun b hb => ?_⟩
      · have := B.len ((List.range len).map D)
        show _ < B.bk (.slice ((List.range len).map D) _)
        rw [B.sl]
        simp at this ⊢
        omega
      · simp only [List.mem_map, List.mem_range] at hb
        obtain ⟨i, hi, rfl⟩ := hb
        exact ho.1 _ _ _ (hbk i hi) (hf i hi).2.2.2
/-- Fields from a place on. -/
def OpnF {α : Type} (B : Bulk) (P : Program) (fs : List Field) (off tot : Nat) (enc : α → List V) (bd : α → Nat → Prop) : Prop :=
  (∀ a m m', m ≤ m' → bd a m → bd a m') ∧
  ∀ {H : Type} (en : TypeId × Value → H) (w : World) (base n : Nat) (cs : List Value) (xs : List (DataW H × List MemPlace)), cs.length = tot → xs.length = fs.length →
    (∀ (i : Nat) (f : Field), fs[i]? = some f → DataW.trod en P w base (fun _ => true) true n f.type ((cs.drop f.offset).take (P.cellsOf f.type)) = xs[i]?) →
    ∃ a : α, off + (enc a).length = tot ∧ (∀ j, j < (enc a).length → Dp w (okAll w) ((enc a).getD j .undef) (cs.getD (off + j) Go.undef)) ∧ bd a (B.bks (xs.map (·.1)))
theorem OpnF.nil {off : Nat} : OpnF B P [] off off (fun _ : Unit => []) (fun _ _ => True) :=
  ⟨fun _ _ _ _ h => h, fun en w base n cs xs _ _ _ => ⟨(), by simp, by simp, trivial⟩⟩
theorem OpnF.cons {f : Field} {fs : List Field} {off tot z : Nat} {enc : α → List V} {bd : α → Nat → Prop} {enc2 : β → List V} {bd2 : β → Nat → Prop} (hoff : f.offset = off) (hz : P.cellsOf f.type = z) (hl : ∀ a, (enc a).length = z)
    (h1 : Opn B P f.type enc bd) (h2 : OpnF B P fs (off + z) tot enc2 bd2) : OpnF B P (f :: fs) off tot (fun p : α × β => enc p.1 ++ enc2 p.2) (fun p m => bd p.1 m ∧ bd2 p.2 m) := by
  refine ⟨fun a m m' hm h => ⟨h1.1 _ _ _ hm h.1, h2.1 _ _ _ hm h.2⟩, fun en w base n cs xs hcs hxs hel => ?_⟩
  cases xs with
  | nil => simp at hxs
  | cons x xs =>
    have e0 := hel 0 f rfl
    simp only [List.getElem?_cons_zero] at e0
    rw [hoff, hz] at e0
    obtain ⟨a, a1, a2, a3⟩ := h1.2 en w base n _ _ e0
    obtain ⟨b, b1, b2, b3⟩ := h2.2 en w base n cs xs hcs (by simpa using hxs) (fun i g hg => by
      have := hel (i + 1) g (by simpa using hg)
      simpa using this)
    have hlen : z = min z (cs.length - off) := by rw [hl] at a1; simpa using a1
    refine ⟨(a, b), by simp [hl]; omega, fun j hj => ?_, ?_⟩
    · by_cases hjz : j < z
      · have g1 : (enc a ++ enc2 b).getD j .undef = (enc a).getD j .undef := by simp [List.getD_eq_getElem?_getD, List.getElem?_append_left (show j < (enc a).length by rw [hl]; exact hjz)]
        have g2 := a2 j (by simp; omega)
        have g3 : ((cs.drop off).take z).getD j Go.undef = cs.getD (off + j) Go.undef := by simp [List.getD_eq_getElem?_getD, List.getElem?_take, hjz]
        rw [g3] at g2
        show Dp w (okAll w) ((enc a ++ enc2 b).getD j .undef) _
        rw [g1]; exact g2
      · have hj' : j - z < (enc2 b).length := by simp [hl] at hj; omega
        have g1 : (enc a ++ enc2 b).getD j .undef = (enc2 b).getD (j - z) .undef := by simp [List.getD_eq_getElem?_getD, List.getElem?_append_right (show (enc a).length ≤ j by rw [hl]; omega), hl]
        have g2 := b2 (j - z) hj'
        rw [show off + z + (j - z) = off + j by omega] at g2
        show Dp w (okAll w) ((enc a ++ enc2 b).getD j .undef) _
        rw [g1]; exact g2
    · simp only [List.map_cons, B.cons]
      exact ⟨h1.1 _ _ _ (by omega) a3, h2.1 _ _ _ (by omega) b3⟩
theorem Opn.struct {fs : Array Field} {enc : α → List V} {bd : α → Nat → Prop} (ht : P.underlying t = some (.struct fs)) (h : OpnF B P fs.toList 0 (P.cellsOf t) enc bd) : Opn B P t enc bd := by
  refine ⟨h.1, fun en w base fuel cs x hx => ?_⟩
  obtain ⟨xs, n, rfl, rfl, hlen, hxs, hel⟩ := DataW.trod_struct ht hx
  obtain ⟨a, a1, a2, a3⟩ := h.2 en w base n cs xs hlen (by simpa using hxs) (fun i f hf => hel i f (by simpa using hf))
  refine ⟨a, by omega, fun j hj => ?_, ?_⟩
  · have := a2 j (by omega)
    simpa using this
  · show bd a (B.bk (.agg (xs.map (·.1))))
    rw [B.agg]
    exact h.1 _ _ _ (by omega) a3
theorem Opn.map {enc : α → List V} {bd : α → Nat → Prop} {enc2 : β → List V} {bd2 : β → Nat → Prop} (f : α → β) (h : Opn B P t enc bd) (he : ∀ a, enc2 (f a) = enc a) (hb : ∀ a m, bd a m → bd2 (f a) m) (hm : ∀ b m m', m ≤ m' → bd2 b m → bd2 b m') : Opn B P t enc2 bd2 := by
  refine ⟨hm, fun en w base fuel cs x hx => ?_⟩
  obtain ⟨a, a1, a2, a3⟩ := h.2 en w base fuel cs x hx
  exact ⟨f a, by rw [he]; exact a1, by rw [he]; exact a2, hb _ _ a3⟩

/-- One argument. -/
theorem Opn.one {H : Type} {en : TypeId × Value → H} {w : World} {base : Nat} {d : DataW H} {ps : List MemPlace} {fv : Nat → Value} {v : Value} {enc : α → List V} {bd : α → Nat → Prop} (h : Opn B P t enc bd) (hl : ∀ a, (enc a).length = 1) (hv : v.cells = #[v])
    (ht : DataW.Trod en P w base (fun _ => true) true t v d ps) : ∃ a, Rp fv w (okAll w) noMu ((enc a).getD 0 .undef) v ∧ bd a (B.bk d) := by
  obtain ⟨fuel, ht⟩ := ht
  rw [hv] at ht
  obtain ⟨a, a1, a2, a3⟩ := h.2 en w base fuel _ _ ht
  exact ⟨a, (a2 0 (by simp)).R, a3⟩
theorem Opn.arg {H : Type} {en : TypeId × Value → H} {w : World} {base : Nat} {d : DataW H} {ps : List MemPlace} {fv : Nat → Value} {v : Value} {cs : Array Value} {enc : α → List V} {bd : α → Nat → Prop} (h : Opn B P t enc bd) (hv : v = .agg cs)
    (ht : DataW.Trod en P w base (fun _ => true) true t v d ps) : ∃ a, Rp fv w (okAll w) noMu (.agg (enc a)) v ∧ bd a (B.bk d) := by
  obtain ⟨fuel, ht⟩ := ht
  subst hv
  obtain ⟨a, a1, a2, a3⟩ := h.2 en w base fuel _ _ ht
  refine ⟨a, .agg _ _ (by rw [a1]; simp [Value.cells]) fun i hi => ?_, a3⟩
  have hi' : i < cs.size := by rw [a1] at hi; simpa [Value.cells] using hi
  have := (a2 i (by rw [a1] at hi; exact hi)).R (fvals := fv) (μ := noMu)
  simpa [Value.cells] using this
theorem okWide_agg {w : World} {r : Go.Reach} {b0 : Nat} {fs : Array Field} {v : Value} (ht : P.underlying t = some (.struct fs)) (h : Value.okWide P w r b0 t v) : ∃ cs, v = .agg cs := by
  unfold Value.okWide at h
  rw [ht] at h
  obtain ⟨cs, rfl, _⟩ := h
  exact ⟨cs, rfl⟩
theorem okWide_one {w : World} {r : Go.Reach} {b0 : Nat} {v : Value} (ht : (∃ k, P.underlying t = some (.int k)) ∨ P.underlying t = some .string ∨ P.underlying t = some .bool ∨ ∃ e, P.underlying t = some (.slice e)) (h : Value.okWide P w r b0 t v) : v.cells = #[v] := by
  unfold Value.okWide at h
  rcases ht with ⟨k, ht⟩ | ht | ht | ⟨e, ht⟩ <;> (rw [ht] at h; simp only [Cell.okWide, ht, Cell.ok] at h; cases v <;> simp_all [Value.cells])
end

section
variable {H : Type} {en : TypeId × Value → H} {P : Program} {W W' : World}
theorem trodAll_below (hl : laidOutB P = true) (hb : Below W.heap.size W W') : ∀ {ts : List TypeId} {vs : List Value} {ds : List (DataW H)} {ps : List MemPlace}, (∀ t ∈ ts, P.readableRec t = true ∧ t < P.types.size) →
    DataW.TrodAll en P W 0 (fun _ => true) true ts vs ds ps → DataW.TrodAll en P W' 0 (fun b => decide (b < W.heap.size)) true ts vs ds ps
  | [], vs, ds, ps, _, h => by
    obtain ⟨rfl, rfl, rfl⟩ := trodAll_nil h
    exact trodAll_mk0
  | t :: ts, vs, ds, ps, ht, h => by
    obtain ⟨v, vs1, d, ds1, a, b, rfl, rfl, rfl, h1, h2⟩ := trodAll_cons h
    have g := ht t (by simp)
    exact trodAll_cons_mk (Below.trod hl g.1 g.2 h1 hb (by obtain ⟨m, hm⟩ := h1; exact DataW.trod_lt m _ _ _ hm)) (trodAll_below hl hb (fun t' ht' => ht t' (by simp [ht'])) h2)
/-- What a law's statement asks for behind the call: it returned true and turned nothing that was there. -/
theorem row_post {fn : Func} {s : ChangeSpec} {args : Array Value} {ds gs : List (DataW H)} {before : List MemPlace} {tb : TypeId} (hl : laidOutB P = true) (hts : ∀ t ∈ fn.params.toList, P.readableRec t = true ∧ t < P.types.size)
    (hW : DataW.Whole en P fn.params.toList s.vars false W args.toList ds gs before) (hv : s.vars = []) (hb : Below W.heap.size W W') (hr : fn.resultTypes = #[tb]) (htb : P.underlying tb = some .bool)
    (hs : s.fn H (ds ++ gs) = { results := [.lit (.bool true)], args := ds }) : s.post en P fn false true false false W args (.bool true) W' := by
  have hW' := hW
  obtain ⟨p, q, hA, hV, rfl, hfz, hnd⟩ := hW
  rw [hv] at hV
  obtain ⟨rfl, rfl⟩ := trodVars_none hV
  refine ⟨ds, [], _, [], p, [], hW', ?_, ?_, ?_, hb.frame _, fun h => by cases h⟩
  · rw [hr, hs]
    exact trodAll_mk1 (shut_bool htb _)
  · rw [hs]
    exact trodAll_below hl hb hts hA
  · rw [hs, hv]
    rfl
theorem Sound.row {f : FuncId} {fn : Func} {s : ChangeSpec} {args : Array Value} {ds gs : List (DataW H)} {before : List MemPlace} {tb : TypeId} {F : Fspec} {vs : List V} (hS : Sound P f F) (hl : laidOutB P = true) (hts : ∀ t ∈ fn.params.toList, P.readableRec t = true ∧ t < P.types.size)
    (hW : DataW.Whole en P fn.params.toList s.vars false W args.toList ds gs before) (hv : s.vars = []) (hr : fn.resultTypes = #[tb]) (htb : P.underlying tb = some .bool)
    (hs : s.fn H (ds ++ gs) = { results := [.lit (.bool true)], args := ds }) (ha : ArgsR (fun _ => Go.undef) W (okAll W) vs args) (hF : F (fun _ => none) vs (.s (.bool true))) :
    Calls P f args W fun e W' => ∃ v, e = .returned v ∧ s.post en P fn false true false false W args v W' := by
  refine (hS ⟨P, W, okAll W, fun _ => False, fun _ => Go.undef⟩ (fun _ => none) vs (.s (.bool true)) args rfl (fun _ h => h) (fun _ h => h) (fun k S h => by cases h) hF ha).mono ?_
  rintro e W' ⟨x, rfl, hb, hR⟩
  have := (hR fun _ => Go.undef).s_eq.1
  subst this
  exact ⟨_, rfl, row_post hl hts hW hv hb hr htb hs⟩
end
end Go.Proofs.Ytgohmphhgglmbaa.Am

/- slices.overlaps at two blocks of the call's own: it answers no. -/
set_option linter.unusedVariables false
set_option linter.unusedSimpArgs false
namespace Go.Proofs.Ytgohmphhgglmbaa.Am
open Go Go.RowKit

def overT (z : Nat) : Pt := fun _ args σ K => ∃ (b off len cap b2 off2 len2 cap2 : Nat) (B B2 : Blk), args = [.loc b off len cap, .loc b2 off2 len2 cap2] ∧ b ≠ b2 ∧ σ.h b = some B ∧ σ.h b2 = some B2 ∧ B.wr = true ∧ B.size = z ∧ B2.size = z ∧ off < B.rows.length ∧ off2 < B2.rows.length ∧ 0 < len ∧ 0 < len2 ∧ K (.s (.bool false)) σ
theorem shape_of_cell {w : World} {k o : Nat} {x : Value} (h : w.cell? ⟨k, o, none⟩ = some x) : ∃ t n, w.shape? k = some (t, n) ∧ n ≠ 0 := by
  unfold World.cell? at h
  unfold World.shape?
  simp only at h
  split at h
  · rename_i cs t fr hh
    refine ⟨t, cs.size, by simp [hh], fun e => ?_⟩
    have : cs = #[] := Array.eq_empty_of_size_eq_zero e
    subst this
    simp at h
  · cases h
theorem overT_sound {P : Program} {f : FuncId} {fn : Func} {tS tR e : TypeId} {z : Nat} (hf : P.funcs[f]? = some fn) (hname : (fn.name == "runtime.NumGoroutine") = false)
    (hb : fn.body.isNone = true) (hn : Extern.findNext fn = none) (he : Extern.find fn = some (Extern.SlicesOverlaps.overlaps #[tS, tS] #[tR])) (ht : P.underlying tS = some (.slice e)) (hz : szo P e = some z) (h0 : 0 < z) (h1 : z ≠ 1) : SoundT P f (overT z) := by
  rintro c Φ h n μ w args vals t K hc hΦ H hl ha ⟨b, off, len, cap, b2, off2, len2, cap2, B, B2, rfl, hne, hB, hB2, hw, hs, hs2, ho, ho2, hlen, hlen2, hK⟩
  have g0 := ha 0 (by simp)
  have g1 := ha 1 (by simp)
  have r0 : R c h μ w (.loc b off len cap) (vals.getD 0 Go.undef) := g0
  have r1 : R c h μ w (.loc b2 off2 len2 cap2) (vals.getD 1 Go.undef) := g1
  obtain ⟨_, ⟨k, base, size, m1, e1⟩ | ⟨q0, _⟩⟩ := r0.loc_inv
  case inr => omega
  obtain ⟨_, ⟨k2, base2, size2, m2, e2⟩ | ⟨q0, _⟩⟩ := r1.loc_inv
  case inr => omega
  have hv : vals = #[vals.getD 0 Go.undef, vals.getD 1 Go.undef] := by
    apply Array.ext
    · simpa using hl
    · intro i g1 g2
      have g3 : i < 2 := by simpa using g2
      have : i = 0 ∨ i = 1 := by omega
      rcases this with rfl | rfl <;> simp [g1]
  rw [e1, e2] at hv
  obtain ⟨a1, x1, c1, f1, _⟩ := H.at hB m1 ho (show 0 < B.size by omega)
  obtain ⟨a2, x2, c2, f2, _⟩ := H.at hB2 m2 ho2 (show 0 < B2.size by omega)
  have hk : k ≠ k2 := fun e => by
    subst e
    exact hne (H.inj b b2 B B2 k base size base2 size2 hB hB2 hw m1 m2)
  obtain ⟨tA, nA, s1, n1⟩ := shape_of_cell c1
  obtain ⟨tB, nB, s2, n2⟩ := shape_of_cell c2
  subst hv
  refine .inr ⟨.bool false, w, ?_, _, h, n, μ, hK, H, Ext.refl _ _ _ _, .s _ rfl⟩
  rw [run_callFunc_extern hf hname hb hn he, Lib.run_overlaps_apart w tS tR e ht z (fun w => run_size hz) ⟨k, base + off * size, none⟩ ⟨k2, base2 + off2 * size2, none⟩ len cap len2 cap2 hk tA tB nA nB s1 s2 n2 (f1 _ (.inl (by omega))) (f1 _ (.inl (by omega)))]
  rfl
end Go.Proofs.Ytgohmphhgglmbaa.Am
