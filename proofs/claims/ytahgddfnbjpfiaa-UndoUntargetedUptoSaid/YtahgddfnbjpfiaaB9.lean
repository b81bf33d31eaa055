/- Texts that the law's proof stands on: AmX. -/
import Derived.Test.YtahgddfnbjpfiaaB8
/- An abstract machine over values: a region whose order is open, its quiet operations among the others. -/
set_option linter.unusedVariables false
set_option linter.unusedSimpArgs false
namespace Go.Proofs.Ytahgddfnbjpfiaa.Am
open Go Go.RowKit

theorem bool_tf {b : Bool} (h1 : b = true) (h2 : b = false) : False := by rw [h1] at h2; cases h2
/-- A heap that holds what another one holds. -/
def HLe (h h' : Hp) : Prop := ∀ b B, h b = some B → h' b = some B
section
variable {P : Program} {h h' : Hp} (hle : HLe h h')
include hle
theorem rowsOf_le {v : V} {r : List (List V)} (hq : rowsOf h v = some r) : rowsOf h' v = some r := by
  cases v with
  | loc b off len cap =>
    cases hb : h b with
    | none => simp only [rowsOf, hb] at hq; cases hq
    | some B => rw [← hq]; simp only [rowsOf, hb, hle _ _ hb]
  | _ => exact hq
theorem aload_le {T : TypeId} {p v : V} (hq : aload P h T p = some v) : aload P h' T p = some v := by
  cases p with
  | ptr b r k =>
    cases hb : h b with
    | none => unfold aload at hq; simp only [hb] at hq; split at hq <;> cases hq
    | some B => rw [← hq]; unfold aload; simp only [hb, hle _ _ hb]
  | _ => exact hq
theorem aindexAddr_le {T : TypeId} {p i v : V} (hq : aindexAddr P h T p i = some v) : aindexAddr P h' T p i = some v := by
  cases p with
  | loc b off len cap =>
    cases hb : h b with
    | none =>
      unfold aindexAddr at hq
      simp only [hb] at hq
      split at hq
      · cases hq
      · split at hq <;> cases hq
      · cases hq
    | some B => rw [← hq]; unfold aindexAddr; simp only [hb, hle _ _ hb]
  | _ => exact hq
theorem aslice_le {T : TypeId} {x v : V} {lo hi mx : Option V} (hq : aslice P h T x lo hi mx = some v) : aslice P h' T x lo hi mx = some v := by
  unfold aslice at hq ⊢
  generalize seqo P T = sq at hq ⊢
  cases x with
  | loc b off len cap =>
    cases hb : h b with
    | none =>
      cases sq <;> (try simp only [hb] at hq) <;> first | (cases hq; done) | (split at hq <;> cases hq)
    | some B => cases sq <;> (try simp only [hb] at hq) <;> (try simp only [hle _ _ hb]) <;> exact hq
  | s q => cases sq <;> cases mx <;> first | exact hq | (cases q <;> exact hq)
  | _ => cases sq <;> cases mx <;> exact hq
theorem aconv_le {src dst : TypeId} {x v : V} (hq : aconv P h src dst x = some v) : aconv P h' src dst x = some v := by
  unfold aconv at hq ⊢
  split at hq
  · exact hq
  · exact hq
  · split at hq
    · rename_i rows h1 h2
      simp only [h1, rowsOf_le hle h2]
      exact hq
    · cases hq
  · cases hq
theorem pval_le {plain : TypeId → Bool} {e : Operand → V} {op : Op} {v : V} (hq : pval P plain h e op = some v) : pval P plain h' e op = some v := by
  cases op with
  | load T a => exact aload_le hle hq
  | convert src dst x => exact aconv_le hle hq
  | slice T x lo hi mx => exact aslice_le hle hq
  | indexAddr T x i => exact aindexAddr_le hle hq
  | _ => exact hq
omit hle in
theorem allO_le {α β : Type} {f g : α → Option β} (hfg : ∀ a b, f a = some b → g a = some b) : ∀ {l : List α} {r : List β}, allO f l = some r → allO g l = some r
  | [], r, h => h
  | a :: l, r, h => by
    unfold allO at h ⊢
    split at h
    · rename_i b r' h1 h2
      rw [hfg _ _ h1, allO_le hfg h2]
      exact h
    · cases h
theorem expo_le : ∀ (d : Nat) {v r : V}, expo h d v = some r → expo h' d v = some r
  | 0, v, r, hq => by cases v <;> exact hq
  | d + 1, v, r, hq => by
    cases v with
    | loc b off len cap =>
      simp only [expo] at hq ⊢
      split at hq
      · rename_i rows hr
        rw [rowsOf_le hle hr]
        simp only [Option.map_eq_some_iff] at hq ⊢
        obtain ⟨a, h1, h2⟩ := hq
        exact ⟨a, allO_le (fun _ _ hh => allO_le (fun _ _ h3 => expo_le d h3) hh) h1, h2⟩
      · cases hq
    | _ => exact hq
theorem expoA_le {v r : V} (hq : expoA h v = some r) : expoA h' v = some r := by
  cases v with
  | agg cs =>
    simp only [expoA, Option.map_eq_some_iff] at hq ⊢
    obtain ⟨a, h1, h2⟩ := hq
    exact ⟨a, allO_le (fun _ _ hh => expo_le hle 2 hh) h1, h2⟩
  | ptr b r k =>
    simp only [expoA] at hq ⊢
    split at hq
    · rename_i B hB
      rw [hle _ _ hB]
      simp only
      split at hq
      · rename_i hlt
        rw [if_pos hlt]
        simp only [Option.map_eq_some_iff] at hq ⊢
        obtain ⟨a, h1, h2⟩ := hq
        exact ⟨a, allO_le (fun _ _ hh => expo_le hle 2 hh) h1, h2⟩
      · cases hq
    · cases hq
  | pc cs => exact hq
  | _ => simp only [expoA] at hq ⊢; exact expo_le hle 2 hq
theorem expArg_le {i : Nat} {v r : V} (hq : expArg h i v = some r) : expArg h' i v = some r := by
  cases v <;> simp only [expArg] at hq ⊢ <;> first | exact hq | exact expoA_le hle hq
theorem expArgs_le : ∀ {l : List V} {i : Nat} {r : List V}, expArgs h i l = some r → expArgs h' i l = some r
  | [], i, r, hq => hq
  | a :: l, i, r, hq => by
    unfold expArgs at hq ⊢
    split at hq
    · rename_i d r' h1 h2
      rw [expArg_le hle h1, expArgs_le h2]
      exact hq
    · cases hq
omit hle in
theorem touch_nil {v : V} (hq : touch h 2 v = []) : touch h' 2 v = [] := by
  cases v with
  | loc b off len cap => simp only [touch] at hq; cases hq
  | _ => rfl
omit hle in
theorem touchA_nil {v : V} (hq : touchA h v = []) : touchA h' v = [] := by
  cases v with
  | agg cs =>
    simp only [touchA, List.flatMap_eq_nil_iff] at hq ⊢
    exact fun x hx => touch_nil (hq x hx)
  | ptr b r k => simp only [touchA] at hq; cases hq
  | _ => simp only [touchA] at hq ⊢; exact touch_nil hq
end

def noFn : V → Bool
  | .fn _ _ => false
  | _ => true
def fnFree (op : Op) (e : Operand → V) : Bool := match op with
  | .call cl => (cl.args.toList.map e).all noFn && (match cl.callee with
    | .value f => match e f with
      | .fn _ caps => caps.all noFn
      | _ => true
    | _ => true)
  | _ => true
theorem fnFree_congr {op : Op} {e e' : Operand → V} (he : ∀ x ∈ op.operands, e x = e' x) (hq : fnFree op e = true) : fnFree op e' = true := by
  cases op <;> try exact hq
  case call cl =>
    obtain ⟨callee, args, argTypes⟩ := cl
    have h1 : args.toList.map e = args.toList.map e' := List.map_congr_left fun x hx => he x (by simp [Op.operands, Call.operands]; exact .inr (by simpa using hx))
    simp only [fnFree] at hq ⊢
    rw [← h1]
    cases callee with
    | value f =>
      have h2 : e f = e' f := he f (by simp [Op.operands, Call.operands])
      simp only at hq ⊢
      rw [← h2]
      exact hq
    | builtin b => exact hq
    | invoke r m => exact hq
theorem phi_le {E : Env} {h h' : Hp} {args : List V} (ha : args.all noFn = true) : phi E h args = phi E h' args := by
  funext i
  unfold phi
  split
  · rename_i g caps hk
    rw [List.all_eq_true] at ha
    have := ha _ (List.mem_of_getElem? hk)
    cases this
  · rfl
  · rfl
theorem qv_le {E : Env} {op : Op} {e : Operand → V} {h h' : Hp} {v : V} (hle : HLe h h') (hf : fnFree op e = true) (hq : qv E op e h v) : qv E op e h' v := by
  cases op <;> try exact pval_le hle hq
  case call cl =>
    obtain ⟨callee, args, argTypes⟩ := cl
    simp only [qv, qcl] at hq ⊢
    cases callee with
    | value f =>
      simp only [fnFree, Bool.and_eq_true] at hf hq ⊢
      split at hq
      · rename_i g caps hg
        rw [hg] at hf
        have hall : (args.toList.map e ++ caps).all noFn = true := by rw [List.all_append, hf.1]; exact hf.2
        unfold qcall at hq ⊢
        split at hq
        · rename_i F ds hF hds
          rw [hF, expArgs_le hle hds]
          obtain ⟨r, h1, h2⟩ := hq
          refine ⟨r, by rw [← phi_le (h := h) hall]; exact h1, ?_⟩
          rcases h2 with h2 | ⟨h2, h3⟩
          · exact .inl h2
          · refine .inr ⟨?_, h3⟩
            rw [List.flatMap_eq_nil_iff] at h2 ⊢
            exact fun x hx => touchA_nil (h2 x hx)
        · exact hq.elim
      · rename_i k hk
        unfold qfv at hq ⊢
        split at hq
        · rename_i S ds hS hds
          rw [hS, allO_le (fun _ _ hh => expoA_le hle hh) hds]
          exact hq
        · exact hq.elim
      · exact hq.elim
    | builtin b => cases b <;> first | exact pval_le hle hq | exact hq
    | invoke r m => exact hq

def qvX (E : Env) (op : Op) (e : Operand → V) (h : Hp) (v : V) : Prop := qv E op e h v ∧ fnFree op e = true
def gdvX (E : Env) (ops : Array Oper) (o : Oper) (t : Nat → V) (h : Hp) (v : V) : Prop :=
  ∃ b, wantA ops o t b ∧ (b = true → qvX E o.op (ev t) h v) ∧ (b = false → v = .undef)
theorem wantA_congr {ops : Array Oper} {o : Oper} {t t' : Nat → V} {b : Bool} (he : ∀ d ∈ o.looksAt ops, t d = t' d) (h1 : wantA ops o t b) : wantA ops o t' b := by
  unfold wantA at h1 ⊢
  split at h1
  · exact h1
  · rename_i j want hg
    obtain ⟨d, hd, h4⟩ := h1
    refine ⟨d, hd, ?_⟩
    rw [← he d (by simp [Oper.looksAt, hg, hd])]
    exact h4
theorem ev_looks {ops : Array Oper} {o : Oper} {t t' : Nat → V} (he : ∀ d ∈ o.looksAt ops, t d = t' d) : ∀ x ∈ o.op.operands, ev t x = ev t' x := by
  intro x hx
  cases x with
  | tmp d => exact he d (by simp only [Oper.looksAt, List.mem_append, List.mem_filterMap]; exact .inl ⟨_, by simpa using hx, rfl⟩)
  | const v => rfl
  | global g => rfl
  | func f => rfl
theorem gdvX_congr {E : Env} {ops : Array Oper} {o : Oper} {t t' : Nat → V} {h : Hp} {v : V} (he : ∀ d ∈ o.looksAt ops, t d = t' d) (hg : gdvX E ops o t h v) : gdvX E ops o t' h v := by
  obtain ⟨b, h1, h2, h3⟩ := hg
  exact ⟨b, wantA_congr he h1, fun hb => ⟨qv_congr (ev_looks he) (h2 hb).1, fnFree_congr (ev_looks he) (h2 hb).2⟩, h3⟩
theorem gdvX_of_gd {E : Env} {ops : Array Oper} {o : Oper} {σ : St} {K : St → Prop} (hg : gd ops o σ (∃ v, qvX E o.op (ev σ.t) σ.h v ∧ K (putS o.dst v σ)) (K (putS o.dst .undef σ))) : ∃ v, gdvX E ops o σ.t σ.h v ∧ K (putS o.dst v σ) := by
  unfold gd at hg
  split at hg
  · rename_i hgu
    obtain ⟨v, h1, h2⟩ := hg
    exact ⟨v, ⟨true, by simp [wantA, hgu], fun _ => h1, (fun h => by cases h)⟩, h2⟩
  · rename_i j want hgu
    split at hg
    · rename_i d hd
      split at hg
      · rename_i q hq
        by_cases hqw : q = want
        · obtain ⟨v, h1, h2⟩ := hg.1 hqw
          exact ⟨v, ⟨true, (by simp only [wantA, hgu]; exact ⟨d, hd, .inl ⟨q, hq, by simp [hqw]⟩⟩), fun _ => h1, (fun h => by cases h)⟩, h2⟩
        · exact ⟨.undef, ⟨false, (by simp only [wantA, hgu]; exact ⟨d, hd, .inl ⟨q, hq, by simp [hqw]⟩⟩), (fun h => by cases h), fun _ => rfl⟩, hg.2 hqw⟩
      · rename_i hq
        exact ⟨.undef, ⟨false, (by simp only [wantA, hgu]; exact ⟨d, hd, .inr ⟨hq, trivial⟩⟩), (fun h => by cases h), fun _ => rfl⟩, hg⟩
      · exact hg.elim
    · exact hg.elim
theorem gd_congr {ops : Array Oper} {o : Oper} {t t' : Nat → V} {h : Hp} {n : Nat} {r s : Prop} (he : ∀ d ∈ o.looksAt ops, t d = t' d) (hg : gd ops o ⟨t, h, n⟩ r s) : gd ops o ⟨t', h, n⟩ r s := by
  unfold gd at hg ⊢
  split at hg
  · exact hg
  · rename_i j want hgu
    split at hg
    · rename_i d hd
      simp only at hg ⊢
      rw [← he d (by simp [Oper.looksAt, hgu, hd])]
      exact hg
    · exact hg.elim
def effOk : Op → Bool
  | .assign _ | .convert .. | .binOp .. | .move _ => true
  | op => eff op
theorem aop_congr {E : Env} {op : Op} {t t' : Nat → V} {h : Hp} {n : Nat} {K : V → St → Prop} (hf : effOk op = true) (he : ∀ x ∈ op.operands, ev t x = ev t' x) (hk : aop E op ⟨t, h, n⟩ K) : aop E op ⟨t', h, n⟩ (fun v σ => K v ⟨t, σ.h, σ.n⟩) := by
  cases op <;> try (cases hf; done)
  case store T a x =>
    simp only [aop] at hk ⊢
    rw [← he a (by simp [Op.operands]), ← he x (by simp [Op.operands])]
    exact hk
  case assign x =>
    simp only [aop, pval] at hk ⊢
    rw [← he x (by simp [Op.operands])]
    exact hk
  case move x =>
    simp only [aop, pval] at hk ⊢
    rw [← he x (by simp [Op.operands])]
    exact hk
  case convert S T x =>
    simp only [aop, pval] at hk ⊢
    rw [← he x (by simp [Op.operands])]
    exact hk
  case binOp b T x y p =>
    have h1 : ev t x = ev t' x := he x (by simp [Op.operands])
    have h2 : ev t y = ev t' y := he y (by simp [Op.operands])
    have key : (∃ v, pval E.P E.plain h (ev t) (.binOp b T x y p) = some v ∧ K v ⟨t, h, n⟩) → ∃ v, pval E.P E.plain h (ev t') (.binOp b T x y p) = some v ∧ K v ⟨t, h, n⟩ := by
      rintro ⟨v, hv, hK⟩
      refine ⟨v, ?_, hK⟩
      simp only [pval] at hv ⊢
      rw [← h1, ← h2]
      exact hv
    cases y with
    | const v =>
      cases v with
      | slice A q r =>
        cases A with
        | none =>
          simp only [aop, anil] at hk ⊢
          rw [← h1]
          exact hk
        | some a => exact key hk
      | _ => exact key hk
    | _ => exact key hk
  case alloc T => exact hk
  case box T x =>
    simp only [aop] at hk ⊢
    rw [← he x (by simp [Op.operands])]
    exact hk
  case buildSlice T len parts =>
    simp only [aop, abuildSlice] at hk ⊢
    have h1 : (parts.toList.map fun q => (q.1, ev t q.2)) = parts.toList.map fun q => (q.1, ev t' q.2) := List.map_congr_left fun q hq => by rw [he q.2 (by simp [Op.operands]; exact ⟨q.1, by simpa using hq⟩)]
    rw [← h1]
    exact hk
  case makeSlice T l k =>
    simp only [aop] at hk ⊢
    rw [← he l (by simp [Op.operands]), ← he k (by simp [Op.operands])]
    exact hk
  case call cl =>
    obtain ⟨callee, args, argTypes⟩ := cl
    simp only [aop, acl] at hk ⊢
    have hmem : ∀ x ∈ args.toList, ev t x = ev t' x := fun x hx => he x (by simp [Op.operands, Call.operands]; exact .inr (by simpa using hx))
    cases callee with
    | value f => simp [effOk, eff] at hf
    | invoke r m => exact hk
    | builtin b =>
      generalize args.toList = al at hk hmem
      generalize argTypes.toList = tl at hk
      cases b <;> first | (simp [effOk, eff] at hf; done) | skip
      all_goals
        simp only at hk ⊢
        split at hk
        · rename_i s x T U
          try simp only
          rw [← hmem s (by simp), ← hmem x (by simp)]
          exact hk
        · exact hk.elim

/-- Quiet, and so is whatever it reads. -/
def quietF : Nat → Array Oper → Oper → Bool
  | 0, ops, o => quiet ops o
  | k + 1, ops, o => quiet ops o && ops.toList.all fun o' => (match o'.op, o'.dst with
    | .assign _, _ => true
    | _, some d => !(o.op.operands.any fun x => match x with
      | .tmp q => q == d
      | _ => false)
    | _, none => true) || quietF k ops o'
def quietX (ops : Array Oper) (o : Oper) : Bool := quietF 4 ops o
theorem quietX_quiet {ops : Array Oper} {o : Oper} (h : quietX ops o = true) : quiet ops o = true := by
  simp only [quietX, quietF, Bool.and_eq_true] at h
  exact h.1
/-- Quiet operations first, in their listed order. -/
def awpX1 (E : Env) (ops : Array Oper) : List Oper → (St → Prop) → St → Prop
  | [], K, σ => K σ
  | o :: rest, K, σ => if quietX ops o then gd ops o σ (∃ v, qvX E o.op (ev σ.t) σ.h v ∧ awpX1 E ops rest K (putS o.dst v σ)) (awpX1 E ops rest K (putS o.dst .undef σ)) else awpX1 E ops rest K σ
def reach (ops : Array Oper) (i j : Nat) : Bool := ((masks ops.toList []).getD i 0).testBit j
/-- Does an operation wait for all quiet ones? -/
def allQ (ops : Array Oper) (i : Nat) : Bool := (List.range ops.size).all fun j => match ops[j]? with
  | some o => !quietX ops o || reach ops i j
  | none => true
/-- The others, in theirs: one that doesn't wait for all quiet ones leaves the blocks alone that were there. -/
def awpX2 (E : Env) (ops : Array Oper) (h0 : Hp) (Kb : Nat → Prop) : Nat → List Oper → (St → Prop) → St → Prop
  | _, [], K, σ => K σ
  | i, o :: rest, K, σ => if quietX ops o then awpX2 E ops h0 Kb (i + 1) rest K σ
      else gd ops o σ (aop E o.op σ fun v σ' => (allQ ops i = true ∨ ∀ b, Kb b → σ'.h b = h0 b) ∧ awpX2 E ops h0 Kb (i + 1) rest K (putS o.dst v σ')) (awpX2 E ops h0 Kb (i + 1) rest K (putS o.dst .undef σ))
/-- 'Kb': the blocks that the quiet ones may read (all, unless a store to another block comes among them). -/
def awpX (E : Env) (ops : Array Oper) (K : St → Prop) (σ : St) : Prop := ∃ (Kb : Nat → Prop) (hq : Hp), (∀ b B, hq b = some B → (Kb b ∨ σ.n ≤ b) ∧ σ.h b = some B) ∧ awpX1 E ops ops.toList (fun σ1 => awpX2 E ops σ.h Kb 0 ops.toList K ⟨σ1.t, σ.h, σ.n⟩) ⟨σ.t, hq, σ.n⟩

def pairX (ops : Array Oper) (i : Nat) (oi : Oper) (j : Nat) (oj : Oper) : Bool :=
  match quietX ops oi, quietX ops oj with
  | true, true => match oj.dst with
    | some d => (!(oi.looksAt ops).contains d || (decide (j < i) && waits oi j)) && (j == i || oi.dst != some d)
    | none => true
  | true, false => match oj.dst with
    | some d => (!(oi.looksAt ops).contains d || reach ops j i) && oi.dst != some d
    | none => true
  | false, true => match oj.dst with
    | some d => !(oi.looksAt ops).contains d || reach ops i j
    | none => true
  | false, false => !decide (j < i) || reach ops i j
def drawX (ops : Array Oper) : Bool :=
  (List.range ops.size).all fun i => match ops[i]? with
    | none => false
    | some o => (o.after.all fun e => !Region.binds .any e || decide (e.on < i)) && (quietX ops o || effOk o.op) && (List.range ops.size).all fun j => match ops[j]? with
      | some oj => pairX ops i o j oj
      | none => true
theorem reach_of {ops : Array Oper} {i j : Nat} (h : reach ops i j = true) : Reach ops i j :=
  masks_reach ops.toList [] (fun k o hk => by simpa using hk) (fun k j h => by simp at h) i j h
theorem drawX_at {ops : Array Oper} (h : drawX ops = true) {i : Nat} {o : Oper} (hi : ops[i]? = some o) : (∀ e ∈ o.after, Region.binds .any e = true → e.on < i) ∧ (quietX ops o = true ∨ effOk o.op = true) ∧ ∀ j oj, ops[j]? = some oj → pairX ops i o j oj = true := by
  have hlt : i < ops.size := (Array.getElem?_eq_some_iff.1 hi).1
  unfold drawX at h
  rw [List.all_eq_true] at h
  have h1 := h i (by simpa using hlt)
  rw [hi] at h1
  simp only [Bool.and_eq_true, Bool.or_eq_true, Array.all_eq_true, List.all_eq_true] at h1
  obtain ⟨⟨h2, h3⟩, h4⟩ := h1
  refine ⟨fun e he hb => ?_, h3, fun j oj hj => ?_⟩
  · obtain ⟨k, hk, rfl⟩ := Array.getElem_of_mem he
    have := h2 k hk
    simpa [hb] using this
  · have := h4 j (by simpa using (Array.getElem?_eq_some_iff.1 hj).1)
    rwa [hj] at this
theorem pair_qq {ops : Array Oper} {i j : Nat} {oi oj : Oper} {d : Tmp} (h : pairX ops i oi j oj = true) (hi : quietX ops oi = true) (hj : quietX ops oj = true) (hd : oj.dst = some d) : (d ∈ oi.looksAt ops → j < i ∧ waits oi j = true) ∧ (j = i ∨ oi.dst ≠ some d) := by
  unfold pairX at h
  simp only [hi, hj, hd, Bool.and_eq_true, Bool.or_eq_true, Bool.not_eq_true', decide_eq_true_eq] at h
  refine ⟨fun hm => ?_, ?_⟩
  · rcases h.1 with h5 | h5
    · rw [List.contains_iff_mem.2 hm] at h5; cases h5
    · exact h5
  · rcases h.2 with h5 | h5
    · exact .inl (by simpa using h5)
    · exact .inr (by simpa using h5)
theorem pair_qe {ops : Array Oper} {i j : Nat} {oi oj : Oper} {d : Tmp} (h : pairX ops i oi j oj = true) (hi : quietX ops oi = true) (hj : quietX ops oj = false) (hd : oj.dst = some d) : (d ∈ oi.looksAt ops → Reach ops j i) ∧ oi.dst ≠ some d := by
  unfold pairX at h
  simp only [hi, hj, hd, Bool.and_eq_true, Bool.or_eq_true, Bool.not_eq_true'] at h
  refine ⟨fun hm => ?_, by simpa using h.2⟩
  rcases h.1 with h5 | h5
  · rw [List.contains_iff_mem.2 hm] at h5; cases h5
  · exact reach_of h5
theorem pair_eq {ops : Array Oper} {i j : Nat} {oi oj : Oper} {d : Tmp} (h : pairX ops i oi j oj = true) (hi : quietX ops oi = false) (hj : quietX ops oj = true) (hd : oj.dst = some d) (hm : d ∈ oi.looksAt ops) : Reach ops i j := by
  unfold pairX at h
  simp only [hi, hj, hd, Bool.or_eq_true, Bool.not_eq_true'] at h
  rcases h with h5 | h5
  · rw [List.contains_iff_mem.2 hm] at h5; cases h5
  · exact reach_of h5
theorem pair_ee {ops : Array Oper} {i j : Nat} {oi oj : Oper} (h : pairX ops i oi j oj = true) (hi : quietX ops oi = false) (hj : quietX ops oj = false) (hlt : j < i) : Reach ops i j := by
  unfold pairX at h
  simp only [hi, hj, Bool.or_eq_true, Bool.not_eq_true', decide_eq_false_iff_not] at h
  rcases h with h5 | h5
  · exact absurd hlt h5
  · exact reach_of h5
theorem allQ_of {ops : Array Oper} {i : Nat} (h : allQ ops i = true) {j : Nat} {o : Oper} (hj : ops[j]? = some o) (hq : quietX ops o = true) : Reach ops i j := by
  unfold allQ at h
  rw [List.all_eq_true] at h
  have := h j (by simpa using (Array.getElem?_eq_some_iff.1 hj).1)
  rw [hj] at this
  simp only [hq, Bool.not_true, Bool.false_or] at this
  exact reach_of this

/-- The values that the quiet operations come to, in their listed order. -/
theorem headX (E : Env) (ops : Array Oper) {K : St → Prop} {h : Hp} {n : Nat} : ∀ (l : List Oper) (t : Nat → V), awpX1 E ops l K ⟨t, h, n⟩ →
    ∃ (vs : Nat → V) (ts : Nat → Nat → V), ts 0 = t ∧ (∀ i o, l[i]? = some o → (quietX ops o = true → gdvX E ops o (ts i) h (vs i) ∧ ts (i + 1) = (putS o.dst (vs i) ⟨ts i, h, n⟩).t) ∧ (quietX ops o = false → ts (i + 1) = ts i)) ∧ K ⟨ts l.length, h, n⟩ := by
  intro l
  induction l with
  | nil => intro t hk; exact ⟨fun _ => .undef, fun _ => t, rfl, fun i o h => by simp at h, hk⟩
  | cons o l ih =>
    intro t hk
    cases hq : quietX ops o with
    | true =>
      simp only [awpX1, hq, if_true] at hk
      obtain ⟨v, h1, h2⟩ := gdvX_of_gd (K := awpX1 E ops l K) hk
      have h3 : putS o.dst v ⟨t, h, n⟩ = ⟨(putS o.dst v ⟨t, h, n⟩).t, h, n⟩ := by cases o.dst <;> rfl
      rw [h3] at h2
      obtain ⟨vs, ts, g1, g2, g3⟩ := ih _ h2
      refine ⟨fun i => match i with | 0 => v | i + 1 => vs i, fun i => match i with | 0 => t | i + 1 => ts i, rfl, fun i o' hi => ?_, g3⟩
      cases i with
      | zero => simp at hi; subst hi; exact ⟨fun _ => ⟨h1, by simp only [Nat.zero_add]; rw [g1]⟩, fun h => (bool_tf hq h).elim⟩
      | succ i => exact g2 i o' (by simpa using hi)
    | false =>
      simp only [awpX1, hq, Bool.false_eq_true, if_false] at hk
      obtain ⟨vs, ts, g1, g2, g3⟩ := ih _ hk
      refine ⟨fun i => match i with | 0 => .undef | i + 1 => vs i, fun i => match i with | 0 => t | i + 1 => ts i, rfl, fun i o' hi => ?_, g3⟩
      cases i with
      | zero => simp at hi; subst hi; exact ⟨fun h => (bool_tf h hq).elim, fun _ => by simp only [Nat.zero_add]; rw [g1]⟩
      | succ i => exact g2 i o' (by simpa using hi)
theorem skipX (E : Env) (ops : Array Oper) {h0 : Hp} {Kb : Nat → Prop} {K : St → Prop} {σ : St} : ∀ (k p : Nat), (∀ j o, p ≤ j → j < p + k → ops[j]? = some o → quietX ops o = true) → p + k ≤ ops.size → awpX2 E ops h0 Kb p (ops.toList.drop p) K σ → awpX2 E ops h0 Kb (p + k) (ops.toList.drop (p + k)) K σ
  | 0, p, _, _, hk => hk
  | k + 1, p, hq, hs, hk => by
    have hlt : p < ops.size := by omega
    have hdrop : ops.toList.drop p = ops[p] :: ops.toList.drop (p + 1) := by
      rw [List.drop_eq_getElem_cons (by simpa using hlt)]
      simp
    have h1 := hq p ops[p] (Nat.le_refl _) (by omega) (Array.getElem?_eq_getElem hlt)
    rw [hdrop] at hk
    simp only [awpX2, h1, if_true] at hk
    have := skipX E ops k (p + 1) (fun j o h2 h3 => hq j o (by omega) (by omega)) (by omega) hk
    rwa [show p + (k + 1) = p + 1 + k by omega]
theorem put_t {dst : Option Tmp} {v : V} {t : Nat → V} {h : Hp} {n : Nat} (d : Nat) : (putS dst v ⟨t, h, n⟩).t d = if dst = some d then v else t d := by
  cases dst with
  | none => simp [putS]
  | some e =>
    simp only [putS]
    by_cases hd : d = e
    · subst hd; rw [upd_same, if_pos rfl]
    · rw [upd_ne _ _ _ _ hd, if_neg (fun he => hd (by cases he; rfl))]
theorem put_eq {dst : Option Tmp} {v : V} {t : Nat → V} {h : Hp} {n : Nat} : putS dst v ⟨t, h, n⟩ = ⟨(putS dst v ⟨t, h, n⟩).t, h, n⟩ := by cases dst <;> rfl
/-- Where a walk through the region stands: 't' is so far, 'tF' as if all quiet operations were done. -/
structure XAt (ops : Array Oper) (t0 vs : Nat → V) (h0 : Hp) (Kb : Nat → Prop) (listed : Array Bool) (t tF : Nat → V) (h : Hp) : Prop where
  a1 : ∀ (j : Nat) (o : Oper) (d : Nat), ops[j]? = some o → quietX ops o = true → listed.getD j true = false → o.dst = some d → t d = t0 d
  a2 : ∀ (d : Nat), (∀ (j : Nat) (o : Oper), ops[j]? = some o → quietX ops o = true → listed.getD j true = false → o.dst ≠ some d) → t d = tF d
  f1 : ∀ (j : Nat) (o : Oper) (d : Nat), ops[j]? = some o → quietX ops o = true → o.dst = some d → tF d = vs j
  f2 : ∀ (d : Nat), (∀ (j : Nat) (o : Oper), ops[j]? = some o → quietX ops o = true → o.dst ≠ some d) → (∀ (j : Nat) (o : Oper), ops[j]? = some o → quietX ops o = false → listed.getD j true = true → o.dst ≠ some d) → tF d = t0 d
  keep : (∀ (j : Nat) (o : Oper), ops[j]? = some o → quietX ops o = true → listed.getD j true = true) ∨ ∀ b, Kb b → h b = h0 b
theorem set_same {l : Array Bool} {i : Nat} (hi : i < l.size) (b : Bool) : (l.setIfInBounds i true).getD i b = true := by simp [hi]
section
variable {ps : Hp × Mu × World} {E : Env} {c : Cx}
theorem X_sound (hE : EnvOk E) (hc : c.P = E.P) (hΦ : FvOk c E.Φ) {ops : Array Oper} (hok : drawX ops = true) (hd : ∀ o ∈ ops.toList, dstOk E.nt o = true) {Q : Exit → Act → World → Prop} {K : St → Prop} (hQ : ∀ σ μ a w, K σ → Sim ps E c σ μ a w → Q .normal a w)
    {t0 vs : Nat → V} {h0 hZ : Hp} {Kb : Nat → Prop} {n0 : Nat} {ts : Nat → Nat → V} (hts0 : ts 0 = t0) (hfr : ∀ b B, hZ b = some B → Kb b ∧ h0 b = some B)
    (hvs : ∀ i o, ops[i]? = some o → (quietX ops o = true → gdvX E ops o (ts i) hZ (vs i) ∧ ts (i + 1) = (putS o.dst (vs i) ⟨ts i, hZ, n0⟩).t) ∧ (quietX ops o = false → ts (i + 1) = ts i)) :
    ∀ (u : Nat) (listed : Array Bool) (p : Nat) {t tF : Nat → V} {h : Hp} {n : Nat} {μ : Mu} {a : Act} {w : World}, ((List.range ops.size).countP fun i => !listed.getD i true) = u → listed.size = ops.size → p ≤ ops.size →
      (∀ j o, ops[j]? = some o → quietX ops o = false → (listed.getD j true = true ↔ j < p)) →
      (∀ (i : Nat) (o : Oper), listed.getD i false = true → ops[i]? = some o → ∀ e ∈ o.after, Region.binds .any e = true → listed.getD e.on false = true) →
      XAt ops t0 vs h0 Kb listed t tF h → awpX2 E ops h0 Kb p (ops.toList.drop p) K ⟨tF, h, n⟩ → Sim ps E c ⟨t, h, n⟩ μ a w → wpAny c.P .any ops Q u listed a w := by
  have hagree : ∀ i, i ≤ ops.size → (∀ j o d, j < i → ops[j]? = some o → quietX ops o = true → o.dst = some d → ts i d = vs j) ∧ ∀ d, (∀ j o, j < i → ops[j]? = some o → quietX ops o = true → o.dst ≠ some d) → ts i d = t0 d := by
    intro i
    induction i with
    | zero => intro _; exact ⟨fun j o d hj => absurd hj (Nat.not_lt_zero _), fun d _ => by rw [hts0]⟩
    | succ i ih =>
      intro hi
      obtain ⟨b1, b2⟩ := ih (by omega)
      have hio : ops[i]? = some (ops[i]'(by omega)) := Array.getElem?_eq_getElem (by omega)
      generalize (ops[i]'(by omega)) = oi at hio
      obtain ⟨g1, g2⟩ := hvs i _ hio
      cases hq : quietX ops oi with
      | true =>
        obtain ⟨_, g3⟩ := g1 hq
        refine ⟨fun j o d hj ho hqo hdd => ?_, fun d hdd => ?_⟩
        · rw [g3, put_t]
          by_cases hji : j = i
          · subst hji
            rw [hio] at ho
            cases ho
            rw [if_pos hdd]
          · have hne := (pair_qq ((drawX_at hok hio).2.2 j o ho) hq hqo hdd).2
            rw [if_neg (by rcases hne with h5 | h5; exact absurd h5 hji; exact h5)]
            exact b1 j o d (by omega) ho hqo hdd
        · rw [g3, put_t, if_neg (hdd i oi (by omega) hio hq)]
          exact b2 d fun j o hj ho hqo => hdd j o (by omega) ho hqo
      | false =>
        rw [g2 hq]
        refine ⟨fun j o d hj ho hqo hdd => ?_, fun d hdd => b2 d fun j o hj ho hqo => hdd j o (by omega) ho hqo⟩
        by_cases hji : j = i
        · subst hji
          rw [hio] at ho
          cases ho
          exact (bool_tf hqo hq).elim
        · exact b1 j o d (by omega) ho hqo hdd
  intro u
  induction u with
  | zero =>
    intro listed p t tF h n μ a w hu hls hp hiff hcl hX hK S
    have hall : ∀ j, j < ops.size → listed.getD j true = true := by
      intro j hj
      have := List.countP_eq_zero.1 hu j (by simpa using hj)
      simpa using this
    have hte : t = tF := by
      funext d
      exact hX.a2 d fun j o ho _ hl => (bool_tf (hall j (Array.getElem?_eq_some_iff.1 ho).1) hl).elim
    subst hte
    have hK2 := skipX E ops (ops.size - p) p (fun j o h1 h2 ho => by
      cases hq : quietX ops o with
      | true => rfl
      | false =>
        have := (hiff j o ho hq).1 (hall j (Array.getElem?_eq_some_iff.1 ho).1)
        omega) (by omega) hK
    have hnil : ops.toList.drop (p + (ops.size - p)) = [] := by simp; omega
    rw [hnil] at hK2
    refine ⟨?_, hQ _ μ a w hK2 S⟩
    rw [List.eq_nil_iff_forall_not_mem]
    intro i hi
    obtain ⟨h1, o, h2, _⟩ := mem_ready.1 hi
    exact bool_tf (hall i (Array.getElem?_eq_some_iff.1 h2).1) h1
  | succ u ih =>
    intro listed p t tF h n μ a w hu hls hp hiff hcl hX hK S
    obtain ⟨m, hm1, hm2, hm3⟩ : ∃ m, m < ops.size ∧ listed.getD m true = false ∧ ∀ j, j < m → listed.getD j true = true := by
      have hex : ∃ m, m < ops.size ∧ listed.getD m true = false := by
        have : 0 < (List.range ops.size).countP fun i => !listed.getD i true := by omega
        obtain ⟨m, h1, h2⟩ := List.countP_pos_iff.1 this
        exact ⟨m, by simpa using h1, by simpa using h2⟩
      have key : ∀ k, (∃ m, m < k ∧ m < ops.size ∧ listed.getD m true = false) → ∃ m, m < ops.size ∧ listed.getD m true = false ∧ ∀ j, j < m → listed.getD j true = true := by
        intro k
        induction k with
        | zero => rintro ⟨m, h, _⟩; omega
        | succ k ihk =>
          rintro ⟨m, h1, h2, h3⟩
          by_cases hb : ∃ m, m < k ∧ m < ops.size ∧ listed.getD m true = false
          · exact ihk hb
          · refine ⟨m, h2, h3, fun j hj => ?_⟩
            cases hq : listed.getD j true with
            | true => rfl
            | false => exact absurd ⟨j, by omega, by omega, hq⟩ hb
      obtain ⟨m, h1, h2⟩ := hex
      exact key (m + 1) ⟨m, by omega, h1, h2⟩
    have htf : ∀ j, j < ops.size → listed.getD j true = listed.getD j false := fun j hj => by
      have : j < listed.size := by omega
      simp [this]
    have hmo : ops[m]? = some (ops[m]'(by omega)) := Array.getElem?_eq_getElem (by omega)
    have hmr : m ∈ Region.ready .any ops listed := mem_ready.2 ⟨hm2, _, hmo, fun e he hb => by
      have h1 := (drawX_at hok hmo).1 e he hb
      rw [← htf _ (by omega)]
      exact hm3 _ h1⟩
    refine ⟨fun h0 => (by rw [h0] at hmr; cases hmr), fun i hi => ?_⟩
    obtain ⟨hiu, o, hio, hwait⟩ := mem_ready.1 hi
    have hilt : i < ops.size := (Array.getElem?_eq_some_iff.1 hio).1
    have hils : i < listed.size := by omega
    have hdo : ∀ d, o.dst = some d → d < E.nt := by
      intro d hd'
      have := hd o (by rw [Array.getElem?_eq_some_iff] at hio; obtain ⟨_, rfl⟩ := hio; simp)
      simp [dstOk, hd'] at this
      exact this
    obtain ⟨_, hef, hpair⟩ := drawX_at hok hio
    -- what i waits for is listed
    have hreach : ∀ j, j < ops.size → Reach ops i j → listed.getD j true = true := fun j hj hr => by
      rw [htf j hj]
      exact reach_listed hcl hr fun o' ho' => by rw [hio] at ho'; cases ho'; exact hwait
    have hreach2 : ∀ k ok, ops[k]? = some ok → listed.getD k true = true → Reach ops k i → False := fun k ok hk hl hr => by
      have hkl : k < ops.size := (Array.getElem?_eq_some_iff.1 hk).1
      rw [htf k hkl] at hl
      have := reach_listed hcl hr fun o' ho' => hcl k o' hl ho'
      rw [← htf i hilt] at this
      exact bool_tf this hiu
    have hcount : ((List.range ops.size).countP fun j => !(listed.setIfInBounds i true).getD j true) = u := by
      have := countP_flip (f := fun j => !listed.getD j true) (g := fun j => !(listed.setIfInBounds i true).getD j true) (i := i) (by simp only [hiu]; rfl) (by simp only [set_same hils]; rfl) (fun j hj => by simp only [getD_set_ne true (fun e => hj e.symm)]) ops.size hilt
      omega
    have hmono : ∀ k, listed.getD k false = true → (listed.setIfInBounds i true).getD k false = true := by
      intro k hk
      by_cases hki : k = i
      · subst hki; exact set_same hils _
      · rw [getD_set_ne false (fun e => hki e.symm)]; exact hk
    have hmonot : ∀ k, listed.getD k true = true → (listed.setIfInBounds i true).getD k true = true := by
      intro k hk
      by_cases hki : k = i
      · subst hki; exact set_same hils _
      · rw [getD_set_ne true (fun e => hki e.symm)]; exact hk
    have hun : ∀ k, (listed.setIfInBounds i true).getD k true = false → k ≠ i ∧ listed.getD k true = false := by
      intro k hk
      have hki : k ≠ i := fun e => by subst e; exact bool_tf (set_same hils _) hk
      exact ⟨hki, by rwa [getD_set_ne true (fun e => hki e.symm)] at hk⟩
    have hcl' : ∀ (j : Nat) (oj : Oper), (listed.setIfInBounds i true).getD j false = true → ops[j]? = some oj → ∀ e ∈ oj.after, Region.binds .any e = true → (listed.setIfInBounds i true).getD e.on false = true := by
      intro j oj hl hoj e he hb
      by_cases hji : j = i
      · subst hji
        rw [hoj] at hio
        cases hio
        exact hmono _ (hwait e he hb)
      · rw [getD_set_ne false (fun e => hji e.symm)] at hl
        exact hmono _ (hcl j oj hl hoj e he hb)
    cases hq : quietX ops o with
    | true =>
      have hlook : ∀ d ∈ o.looksAt ops, ts i d = t d := by
        intro d hdl
        obtain ⟨b1, b2⟩ := hagree i (by omega)
        by_cases hex : ∃ (j : Nat) (oj : Oper), ops[j]? = some oj ∧ quietX ops oj = true ∧ oj.dst = some d
        · obtain ⟨j, oj, hoj, hqj, hdd⟩ := hex
          obtain ⟨h1, h2⟩ := (pair_qq (hpair j oj hoj) hq hqj hdd).1 hdl
          have h3 := ready_waits hi hio h2
          have hjl : j < ops.size := by omega
          rw [← htf j hjl] at h3
          rw [b1 j oj d h1 hoj hqj hdd, hX.a2 d (fun j' oj' hoj' hqj' hl' hdd' => by
            rcases (pair_qq ((drawX_at hok hoj').2.2 j oj hoj) hqj' hqj hdd).2 with h5 | h5
            · subst h5; exact bool_tf h3 hl'
            · exact h5 hdd'), hX.f1 j oj d hoj hqj hdd]
        · rw [b2 d fun j oj _ hoj hqj hdd => hex ⟨j, oj, hoj, hqj, hdd⟩, hX.a2 d fun j oj hoj hqj _ hdd => hex ⟨j, oj, hoj, hqj, hdd⟩,
            hX.f2 d (fun j oj hoj hqj hdd => hex ⟨j, oj, hoj, hqj, hdd⟩) fun k ok hk hqk hl hdd => hreach2 k ok hk hl ((pair_qe (hpair k ok hk) hq hqk hdd).1 hdl)]
      have hkeep : ∀ b, Kb b → h b = h0 b := by
        rcases hX.keep with h1 | h1
        · exact (bool_tf (h1 i o hio hq) hiu).elim
        · exact h1
      have hle : HLe hZ h := fun b B hB => by
        obtain ⟨h1, h2⟩ := hfr b B hB
        rw [hkeep b h1]; exact h2
      obtain ⟨b, k1, k2, k3⟩ := gdvX_congr hlook ((hvs i o hio).1 hq).1
      have hX' : XAt ops t0 vs h0 Kb (listed.setIfInBounds i true) (putS o.dst (vs i) ⟨t, h, n⟩).t tF h := by
        refine ⟨fun j oj d hoj hqj hl hdd => ?_, fun d hdd => ?_, hX.f1, fun d h1 h2 => hX.f2 d h1 fun j oj hoj hqj hl => h2 j oj hoj hqj (hmonot j hl), .inr hkeep⟩
        · obtain ⟨hji, hl2⟩ := hun j hl
          rw [put_t, if_neg (by rcases (pair_qq (hpair j oj hoj) hq hqj hdd).2 with h5 | h5; exact absurd h5 hji; exact h5)]
          exact hX.a1 j oj d hoj hqj hl2 hdd
        · rw [put_t]
          by_cases hod : o.dst = some d
          · rw [if_pos hod, hX.f1 i o d hio hq hod]
          · rw [if_neg hod]
            refine hX.a2 d fun j oj hoj hqj hl => ?_
            by_cases hji : j = i
            · subst hji; rw [hio] at hoj; cases hoj; exact hod
            · exact hdd j oj hoj hqj (by rw [getD_set_ne true (fun e => hji e.symm)]; exact hl)
      have hiff' : ∀ (j : Nat) (oj : Oper), ops[j]? = some oj → quietX ops oj = false → ((listed.setIfInBounds i true).getD j true = true ↔ j < p) := by
        intro j oj hoj hqj
        have hji : j ≠ i := fun e => by subst e; rw [hio] at hoj; cases hoj; exact bool_tf hq hqj
        rw [getD_set_ne true (fun e => hji e.symm)]
        exact hiff j oj hoj hqj
      unfold wpOp
      rw [hio]
      simp only
      rcases gd_wanted ops (n := n) S.tm (gd_of_want k1) with ⟨h1, h2⟩ | ⟨h1, h2⟩
      · rw [if_pos h1]
        refine .inl (q_sound hE hc hΦ S.hs S.tm (qv_le hle (k2 h2).2 (k2 h2).1) ?_)
        intro x w' g2 g3 g4
        refine ih _ p (μ := μ) hcount (by simp [hls]) hp hiff' hcl' hX' hK ?_
        rw [← put_eq]
        exact S.put g2 g3 g4 hdo
      · rw [if_neg (by simp [h1])]
        refine ih _ p (μ := μ) hcount (by simp [hls]) hp hiff' hcl' hX' hK ?_
        rw [← put_eq, k3 h2]
        exact S.put S.hs (Ext.refl _ _ _ _) .undef hdo
    | false =>
      have hpi : p ≤ i := by
        rcases Nat.lt_or_ge i p with h1 | h1
        · exact (bool_tf ((hiff i o hio hq).2 h1) hiu).elim
        · exact h1
      have hbetween : ∀ (j : Nat) (oj : Oper), p ≤ j → j < i → ops[j]? = some oj → quietX ops oj = true := by
        intro j oj h1 h2 hoj
        cases hqj : quietX ops oj with
        | true => rfl
        | false =>
          have h3 := hreach j (by omega) (pair_ee (hpair j oj hoj) hq hqj h2)
          have := (hiff j oj hoj hqj).1 h3
          omega
      have hK2 := skipX E ops (i - p) p (fun j oj h1 h2 hoj => hbetween j oj h1 (by omega) hoj) (by omega) hK
      rw [show p + (i - p) = i by omega] at hK2
      have hdrop : ops.toList.drop i = o :: ops.toList.drop (i + 1) := by
        rw [List.drop_eq_getElem_cons (by simpa using hilt)]
        obtain ⟨_, h3⟩ := Array.getElem?_eq_some_iff.1 hio
        simp [h3]
      rw [hdrop] at hK2
      simp only [awpX2, hq, Bool.false_eq_true, if_false] at hK2
      have hlook : ∀ d ∈ o.looksAt ops, tF d = t d := by
        intro d hdl
        refine (hX.a2 d fun j oj hoj hqj hl hdd => ?_).symm
        exact bool_tf (hreach j (Array.getElem?_eq_some_iff.1 hoj).1 (pair_eq (hpair j oj hoj) hq hqj hdd hdl)) hl
      have heff : effOk o.op = true := by
        rcases hef with h1 | h1
        · exact (bool_tf h1 hq).elim
        · exact h1
      have hne : ∀ (j : Nat) (oj : Oper) (d : Nat), ops[j]? = some oj → quietX ops oj = true → oj.dst = some d → o.dst ≠ some d := by
        intro j oj d hoj hqj hdd hod
        exact (pair_qe ((drawX_at hok hoj).2.2 i o hio) hqj hq hod).2 hdd
      have hX' : ∀ (v : V) (h' : Hp) (n' : Nat), ((∀ (j : Nat) (oj : Oper), ops[j]? = some oj → quietX ops oj = true → (listed.setIfInBounds i true).getD j true = true) ∨ ∀ b, Kb b → h' b = h0 b) → XAt ops t0 vs h0 Kb (listed.setIfInBounds i true) (putS o.dst v ⟨t, h', n'⟩).t (putS o.dst v ⟨tF, h', n'⟩).t h' := by
        intro v h' n' hkp
        refine ⟨fun j oj d hoj hqj hl hdd => ?_, fun d hdd => ?_, fun j oj d hoj hqj hdd => ?_, fun d h1 h2 => ?_, hkp⟩
        · rw [put_t, if_neg (hne j oj d hoj hqj hdd)]
          exact hX.a1 j oj d hoj hqj (hun j hl).2 hdd
        · rw [put_t, put_t]
          by_cases hod : o.dst = some d
          · rw [if_pos hod, if_pos hod]
          · rw [if_neg hod, if_neg hod]
            refine hX.a2 d fun j oj hoj hqj hl => hdd j oj hoj hqj ?_
            have hji : j ≠ i := fun e => by subst e; rw [hio] at hoj; cases hoj; exact bool_tf hqj hq
            rw [getD_set_ne true (fun e => hji e.symm)]
            exact hl
        · rw [put_t, if_neg (hne j oj d hoj hqj hdd)]
          exact hX.f1 j oj d hoj hqj hdd
        · rw [put_t, if_neg (h2 i o hio hq (set_same hils _))]
          exact hX.f2 d h1 fun j oj hoj hqj hl => h2 j oj hoj hqj (hmonot j hl)
      have hiff' : ∀ (j : Nat) (oj : Oper), ops[j]? = some oj → quietX ops oj = false → ((listed.setIfInBounds i true).getD j true = true ↔ j < i + 1) := by
        intro j oj hoj hqj
        by_cases hji : j = i
        · subst hji; simp [hils]
        · rw [getD_set_ne true (fun e => hji e.symm), hiff j oj hoj hqj]
          refine ⟨fun h1 => by omega, fun h1 => ?_⟩
          rcases Nat.lt_or_ge j p with h2 | h2
          · exact h2
          · exact (bool_tf (hbetween j oj h2 (by omega) hoj) hqj).elim
      unfold wpOp
      rw [hio]
      simp only
      rcases gd_wanted ops (n := n) S.tm (gd_congr hlook hK2) with ⟨h1, h2⟩ | ⟨h1, h2⟩
      · rw [if_pos h1]
        refine .inl (op_sound hE hc hΦ S (aop_congr heff (ev_looks hlook) h2) ?_)
        rintro v h' n' μ' x w' ⟨g0, g1⟩ g2 g3 g4
        rw [put_eq] at g1
        refine ih _ (i + 1) (μ := μ') hcount (by simp [hls]) (by omega) hiff' hcl' (hX' v h' n' ?_) g1 ?_
        · rcases g0 with g0 | g0
          · exact .inl fun j oj hoj hqj => hmonot j (hreach j (Array.getElem?_eq_some_iff.1 hoj).1 (allQ_of g0 hoj hqj))
          · exact .inr g0
        · rw [← put_eq]
          exact S.put g2 g3 g4 hdo
      · rw [if_neg (by simp [h1])]
        rw [put_eq] at h2
        refine ih _ (i + 1) (μ := μ) hcount (by simp [hls]) (by omega) hiff' hcl' (hX' .undef h n ?_) h2 ?_
        · rcases hX.keep with g0 | g0
          · exact .inl fun j oj hoj hqj => hmonot j (g0 j oj hoj hqj)
          · exact .inr g0
        · rw [← put_eq]
          exact S.put S.hs (Ext.refl _ _ _ _) .undef hdo
theorem drawX_sound (hE : EnvOk E) (hc : c.P = E.P) (hΦ : FvOk c E.Φ) {ops : Array Oper} (hok : drawX ops = true) (hd : ∀ o ∈ ops.toList, dstOk E.nt o = true) {Q : Exit → Act → World → Prop} {K : St → Prop} (hQ : ∀ σ μ a w, K σ → Sim ps E c σ μ a w → Q .normal a w)
    {σ : St} {μ : Mu} {a : Act} {w : World} (hk : awpX E ops K σ) (S : Sim ps E c σ μ a w) : wpAny c.P .any ops Q ops.size (Array.replicate ops.size false) a w := by
  obtain ⟨Kb, hq, hfr, hk⟩ := hk
  obtain ⟨vs, ts, h1, h2, h3⟩ := headX E ops (h := hq) (n := σ.n) ops.toList σ.t hk
  have hun : ∀ j, j < ops.size → (Array.replicate ops.size false).getD j true = false := fun j hj => by simp [hj]
  have hcount : ((List.range ops.size).countP fun i => !(Array.replicate ops.size false).getD i true) = ops.size := by
    rw [List.countP_eq_length.2]
    · simp
    · intro i hi
      have : i < ops.size := List.mem_range.1 hi
      simp [this]
  have hag : ∀ i, i ≤ ops.size → (∀ j o d, j < i → ops[j]? = some o → quietX ops o = true → o.dst = some d → ts i d = vs j) ∧ ∀ d, (∀ j o, j < i → ops[j]? = some o → quietX ops o = true → o.dst ≠ some d) → ts i d = σ.t d := by
    intro i
    induction i with
    | zero => intro _; exact ⟨fun j o d hj => absurd hj (Nat.not_lt_zero _), fun d _ => by rw [h1]⟩
    | succ i ih =>
      intro hi
      obtain ⟨b1, b2⟩ := ih (by omega)
      have hio : ops[i]? = some (ops[i]'(by omega)) := Array.getElem?_eq_getElem (by omega)
      generalize (ops[i]'(by omega)) = oi at hio
      obtain ⟨g1, g2⟩ := h2 i oi (by simpa using hio)
      cases hq : quietX ops oi with
      | true =>
        obtain ⟨_, g3⟩ := g1 hq
        refine ⟨fun j o d hj ho hqo hdd => ?_, fun d hdd => ?_⟩
        · rw [g3, put_t]
          by_cases hji : j = i
          · subst hji
            rw [hio] at ho
            cases ho
            rw [if_pos hdd]
          · have hne := (pair_qq ((drawX_at hok hio).2.2 j o ho) hq hqo hdd).2
            rw [if_neg (by rcases hne with h5 | h5; exact absurd h5 hji; exact h5)]
            exact b1 j o d (by omega) ho hqo hdd
        · rw [g3, put_t, if_neg (hdd i oi (by omega) hio hq)]
          exact b2 d fun j o hj ho hqo => hdd j o (by omega) ho hqo
      | false =>
        rw [g2 hq]
        refine ⟨fun j o d hj ho hqo hdd => ?_, fun d hdd => b2 d fun j o hj ho hqo => hdd j o (by omega) ho hqo⟩
        by_cases hji : j = i
        · subst hji
          rw [hio] at ho
          cases ho
          exact (bool_tf hqo hq).elim
        · exact b1 j o d (by omega) ho hqo hdd
  obtain ⟨c1, c2⟩ := hag ops.size (Nat.le_refl _)
  refine X_sound hE hc hΦ hok hd hQ (t0 := σ.t) (vs := vs) (h0 := σ.h) (hZ := hq) (Kb := Kb) (n0 := σ.n) (ts := ts) h1 (fun b B hb => by
    obtain ⟨q1, q2⟩ := hfr b B hb
    rcases q1 with q1 | q1
    · exact ⟨q1, q2⟩
    · rw [S.hs.hfresh b q1] at q2; cases q2) (fun i o ho => h2 i o (by simpa using ho)) ops.size (Array.replicate ops.size false) 0 (t := σ.t) (tF := ts ops.toList.length) (h := σ.h) (n := σ.n) hcount (by simp) (Nat.zero_le _)
    (fun j o ho _ => ⟨fun hl => (bool_tf hl (hun j (Array.getElem?_eq_some_iff.1 ho).1)).elim, fun h => absurd h (Nat.not_lt_zero _)⟩)
    (fun j o hl ho => (by have : j < ops.size := (Array.getElem?_eq_some_iff.1 ho).1
                          simp [this] at hl)) ?_ (by simpa using h3) S
  have hlen : ops.toList.length = ops.size := by simp
  rw [hlen]
  refine ⟨fun _ _ _ _ _ _ _ => rfl, fun d hdd => (c2 d fun j o hj ho hqo => hdd j o ho hqo (hun j hj)).symm, fun j o d ho hqo hdd => c1 j o d (Array.getElem?_eq_some_iff.1 ho).1 ho hqo hdd, fun d h5 _ => c2 d fun j o _ ho hqo => h5 j o ho hqo, .inr fun _ _ => rfl⟩
end
end Go.Proofs.Ytahgddfnbjpfiaa.Am
