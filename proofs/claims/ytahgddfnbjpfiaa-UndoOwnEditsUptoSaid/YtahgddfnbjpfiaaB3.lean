/- Texts that the law's proof stands on: AmCtl, AmDraw, AmOrd, AmX, AmY. -/
import Derived.Test.YtahgddfnbjpfiaaB2
/- An abstract machine over values: operations, regions, control. -/
set_option linter.unusedVariables false
set_option linter.unusedSimpArgs false
namespace Go.Proofs.Ytahgddfnbjpfiaa.Am
open Go Go.RowKit

def toB (P : Program) (src dst : TypeId) : Bool := match P.underlying src, P.underlying dst with
  | some .string, some (.slice _) => true
  | _, _ => false
def afv (E : Env) (k : Nat) (args : List V) (σ : St) (K : V → St → Prop) : Prop :=
  match E.Φ k, allO (expoA σ.h) args with
  | some S, some ds => ∃ x, flat x = true ∧ S ds x ∧ K (.s x) σ
  | _, _ => False
def acl (E : Env) (cl : Call) (e : Operand → V) (op : Op) (σ : St) (K : V → St → Prop) : Prop :=
  match cl.callee with
  | .builtin .append => match cl.args.toList, cl.argTypes.toList with
    | [s, x], [T, U] => aappend E.P T U (e s) (e x) σ K ∨ aappendZ E.P T U (e s) (e x) σ K
    | _, _ => False
  | .builtin .copy => match cl.args.toList, cl.argTypes.toList with
    | [s, x], [T, U] => acopy E.P T U (e s) (e x) σ K
    | _, _ => False
  | .builtin .clear => match cl.args.toList, cl.argTypes.toList with
    | [s], [T] => aclear E.P T (e s) σ K
    | _, _ => False
  | .builtin _ => ∃ v, pval E.P E.plain σ.h e op = some v ∧ K v σ
  | .value f => match e f with
    | .fn g caps => (∃ T, E.Δ g = some T ∧ T E.Φ (cl.args.toList.map e ++ caps) σ K) ∨ acall E g (cl.args.toList.map e ++ caps) σ K
    | .fv k => afv E k (cl.args.toList.map e) σ K
    | _ => False
  | _ => False
def aop (E : Env) (op : Op) (σ : St) (K : V → St → Prop) : Prop :=
  match op with
  | .store T a x => astore E.P T (ev σ.t a) (ev σ.t x) σ K
  | .alloc T => aalloc E.P T σ K
  | .box T x => abox (ev σ.t x) σ K
  | .buildSlice T len parts => abuildSlice E.P (ev σ.t) T len parts.toList σ K
  | .makeSlice T l k => amakeSlice E.P T (ev σ.t l) (ev σ.t k) σ K
  | .convert src dst x => if toB E.P src dst then atoBytes E.P src dst (ev σ.t x) σ K else ∃ v, pval E.P E.plain σ.h (ev σ.t) (.convert src dst x) = some v ∧ K v σ
  | .call cl => acl E cl (ev σ.t) (.call cl) σ K
  | .binOp op T x (.const (.slice none q r)) p => anil E.P op T (ev σ.t x) σ K
  | op => ∃ v, pval E.P E.plain σ.h (ev σ.t) op = some v ∧ K v σ
def putS (dst : Option Tmp) (v : V) (σ : St) : St := match dst with
  | some d => ⟨upd σ.t d v, σ.h, σ.n⟩
  | none => σ
/-- Is the operation carried out? -/
def gd (ops : Array Oper) (o : Oper) (σ : St) (run skip : Prop) : Prop :=
  match o.guard with
  | none => run
  | some (j, want) => match (ops[j]?).bind (·.dst) with
    | some d => match σ.t d with
      | .s (.bool b) => (b = want → run) ∧ (b ≠ want → skip)
      | .undef => skip
      | _ => False
    | none => False
def awpOps (E : Env) (ops : Array Oper) : List Oper → (St → Prop) → St → Prop
  | [], K, σ => K σ
  | o :: rest, K, σ => gd ops o σ (aop E o.op σ fun v σ' => awpOps E ops rest K (putS o.dst v σ')) (awpOps E ops rest K (putS o.dst .undef σ))

structure Sim (ps : Hp × Mu × World) (E : Env) (c : Cx) (σ : St) (μ : Mu) (a : Act) (w : World) : Prop where
  hs : HS c σ.h σ.n μ w
  tm : ∀ i, R c σ.h μ w (σ.t i) (a.tmps.getD i Go.undef)
  nt : a.tmps.size = E.nt
  df : a.defers = []
  ex : Ext c ps.1 ps.2.1 ps.2.2 σ.h μ w

def dstOk (nt : Nat) (o : Oper) : Bool := match o.dst with
  | some d => decide (d < nt)
  | none => true

section
variable {ps : Hp × Mu × World} {E : Env} {c : Cx} {σ : St} {μ : Mu} {a : Act} {w : World}
theorem Sim.put (S : Sim ps E c σ μ a w) {h' : Hp} {n' : Nat} {μ' : Mu} {w' : World} (H : HS c h' n' μ' w') (X : Ext c σ.h μ w h' μ' w') {v : V} {x : Value} (r : R c h' μ' w' v x) {dst : Option Tmp} (hd : ∀ d, dst = some d → d < E.nt) :
    Sim ps E c (putS dst v ⟨σ.t, h', n'⟩) μ' (a.put dst x) w' := by
  cases dst with
  | none => exact ⟨H, fun i => X.R (S.tm i), S.nt, S.df, S.ex.trans X⟩
  | some d =>
    have hdn := hd d rfl
    refine ⟨H, fun i => ?_, by simp [Act.put, S.nt], S.df, S.ex.trans X⟩
    simp only [putS, Act.put]
    by_cases hid : i = d
    · subst hid
      rw [upd_same]
      have : (a.tmps.setIfInBounds i x).getD i Go.undef = x := by
        have : i < a.tmps.size := by rw [S.nt]; exact hdn
        simp [this]
      rw [this]
      exact r
    · rw [upd_ne _ _ _ _ hid]
      have : (a.tmps.setIfInBounds d x).getD i Go.undef = a.tmps.getD i Go.undef := by
        simp only [Array.getD_eq_getD_getElem?, Array.getElem?_setIfInBounds]
        rw [if_neg (by omega)]
      rw [this]
      exact X.R (S.tm i)

theorem run_value {P : Program} {s : Sem Value} {w w' : World} {y : Value} (h : s.run P w = .ok y w') : (do pure (.value (← s)) : Sem Next).run P w = .ok (.value y) w' := by
  simp only [Sem.run_bind, h, Result.andThen_ok, Sem.run_pure]

theorem run_enter {P : Program} {f : FuncId} (h : fnOk P f = true) (args : Array Value) : (callFunc f args).run P w = .ok (.enter f args) w := by
  unfold fnOk at h
  split at h
  · rename_i fn hfn
    simp only [Bool.and_eq_true, Bool.not_eq_true'] at h
    have hb : ¬ (fn.body = none) := by intro e; rw [e] at h; simp at h
    have hn : ¬ (fn.name = "runtime.NumGoroutine") := by simpa using h.1
    simp [callFunc, program, Sem.run, pure, hfn, hn, hb]
  · cases h
theorem run_callv' {P : Program} {o : Oper} {cl : Call} {f : Operand} {g : FuncId} {xs : Array Value} (ho : o.op = .call cl) (hcal : cl.callee = .value f) (hx : a.eval f = .func (.func g) #[] xs) :
    (execOp a.eval o).run P w = (callFunc g (cl.args.map a.eval ++ xs)).run P w := by
  simp [execOp, ho, resolve, hcal, hx, Deferred.ofValue, invoke]
theorem run_callv {P : Program} {o : Oper} {cl : Call} {f : Operand} {g : FuncId} {xs : Array Value} (ho : o.op = .call cl) (hcal : cl.callee = .value f) (hx : a.eval f = .func (.func g) #[] xs) (h : fnOk P g = true) :
    (execOp a.eval o).run P w = .ok (.enter g (cl.args.map a.eval ++ xs)) w := by
  simp [execOp, ho, resolve, hcal, hx, Deferred.ofValue, invoke, run_enter h]

/-- What an operation comes to. -/
theorem op_sound (hE : EnvOk E) (hc : c.P = E.P) (hΦ : FvOk c E.Φ) (S : Sim ps E c σ μ a w) {o : Oper} {K : V → St → Prop} (hk : aop E o.op σ K) {next : Act → World → Prop} {Q : Exit → Act → World → Prop}
    (hn : ∀ v h' n' μ' x w', K v ⟨σ.t, h', n'⟩ → HS c h' n' μ' w' → Ext c σ.h μ w h' μ' w' → R c h' μ' w' v x → next (a.put o.dst x) w') : o.wp c.P a w next Q := by
  have he : ∀ x, R c σ.h μ w (ev σ.t x) (a.eval x) := fun x => Rp.ev S.tm x
  have fin : (∃ v x h' n' μ' w', (execOp a.eval o).run c.P w = .ok (.value x) w' ∧ K v ⟨σ.t, h', n'⟩ ∧ HS c h' n' μ' w' ∧ Ext c σ.h μ w h' μ' w' ∧ R c h' μ' w' v x) → o.wp c.P a w next Q := by
    rintro ⟨v, x, h', n', μ', w', h1, h2, h3, h4, h5⟩
    unfold Oper.wp
    rw [h1]
    exact hn v h' n' μ' x w' h2 h3 h4 h5
  have pure_ : (∃ v, pval E.P E.plain σ.h (ev σ.t) o.op = some v ∧ K v σ) → o.wp c.P a w next Q := by
    rintro ⟨v, h1, h2⟩
    rw [← hc] at h1
    obtain ⟨x, h3, h4⟩ := pval_sound (by rw [hc]; exact hE.plain) S.hs he h1
    exact fin ⟨v, x, σ.h, σ.n, μ, w, h3, h2, S.hs, Ext.refl _ _ _ _, h4⟩
  have call_ : ∀ {g : FuncId} {args : List V} {vals : Array Value}, (execOp a.eval o).run c.P w = .ok (.enter g vals) w → vals.size = args.length → (∀ i, i < args.length → R c σ.h μ w (args.getD i .undef) (vals.getD i Go.undef)) → acall E g args σ K → o.wp c.P a w next Q := by
    intro g args vals h1 h2 h3 h4
    unfold Oper.wp
    rw [h1]
    refine (call_sound hE hc hΦ S.hs h2 h3 (t := σ.t) h4).mono ?_
    rintro e w' ⟨x, v, h', n', μ', rfl, g1, g2, g3, g4⟩
    exact hn v h' n' μ' x w' g1 g2 g3 g4
  unfold aop at hk
  split at hk
  · rename_i T p x ho
    rw [← hc] at hk
    obtain ⟨h', w', h1, h2, h3, h4⟩ := store_sound S.hs (t := σ.t) (he p) (he x) hk
    have hr : (execOp a.eval o).run c.P w = .ok .skip w' := by simp only [execOp, ho, Sem.run_bind, h1, Result.andThen_ok, Sem.run_pure]
    unfold Oper.wp
    rw [hr]
    exact hn .undef h' σ.n μ Go.undef w' h2 h3 h4 .undef
  · rename_i T ho
    rw [← hc] at hk
    obtain ⟨v, y, h', n', μ', w', h1, h2, h3, h4, h5⟩ := alloc_sound S.hs (t := σ.t) hk (.tuple #[])
    exact fin ⟨v, y, h', n', μ', w', by simp only [execOp, ho]; exact run_value h1, h2, h3, h4, h5⟩
  · rename_i T x ho
    obtain ⟨v, y, h', n', μ', w', h1, h2, h3, h4, h5⟩ := box_sound S.hs (T := T) (t := σ.t) (he x) hk
    exact fin ⟨v, y, h', n', μ', w', by simp only [execOp, ho]; exact run_value h1, h2, h3, h4, h5⟩
  · rename_i T len parts ho
    rw [← hc] at hk
    obtain ⟨v, y, h', n', μ', w', h1, h2, h3, h4, h5⟩ := buildSlice_sound S.hs (t := σ.t) he hk
    exact fin ⟨v, y, h', n', μ', w', by simp only [execOp, ho]; exact run_value h1, h2, h3, h4, h5⟩
  · rename_i T l k ho
    rw [← hc] at hk
    obtain ⟨v, y, h', n', μ', w', h1, h2, h3, h4, h5⟩ := makeSlice_sound S.hs (t := σ.t) (he l) (he k) hk
    exact fin ⟨v, y, h', n', μ', w', by simp only [execOp, ho]; exact run_value h1, h2, h3, h4, h5⟩
  · rename_i src dst x ho
    split at hk
    · rw [← hc] at hk
      obtain ⟨v, y, h', n', μ', w', h1, h2, h3, h4, h5⟩ := toBytes_sound S.hs (t := σ.t) (he x) hk
      exact fin ⟨v, y, h', n', μ', w', by simp only [execOp, ho]; exact run_value h1, h2, h3, h4, h5⟩
    · rw [← ho] at hk; exact pure_ hk
  · rename_i cl ho
    unfold acl at hk
    split at hk
    · rename_i hcal
      split at hk
      · rename_i s x T U ha hT
        rw [← hc] at hk
        obtain ⟨v, y, h', n', μ', w', h1, h2, h3, h4, h5⟩ : ∃ v y h' n' μ' w', (Builtin.append_ #[T, U] o.type #[a.eval s, a.eval x]).run c.P w = .ok y w' ∧ K v ⟨σ.t, h', n'⟩ ∧ HS c h' n' μ' w' ∧ Ext c σ.h μ w h' μ' w' ∧ R c h' μ' w' v y := by
          rcases hk with hk | hk
          · exact append_sound S.hs (ty := o.type) (t := σ.t) (he s) (he x) hk
          · exact appendZ_sound S.hs (ty := o.type) (t := σ.t) (he s) (he x) hk
        refine fin ⟨v, y, h', n', μ', w', ?_, h2, h3, h4, h5⟩
        have ha' : cl.args = #[s, x] := by simpa using congrArg List.toArray ha
        have hT' : cl.argTypes = #[T, U] := by simpa using congrArg List.toArray hT
        simp [execOp, ho, resolve, hcal, ha', hT', invoke, builtin, h1, Sem.run, pure]
      · exact hk.elim
    · rename_i hcal
      split at hk
      · rename_i s x T U ha hT
        rw [← hc] at hk
        obtain ⟨v, y, h', n', μ', w', h1, h2, h3, h4, h5⟩ := copy_sound S.hs (ty := o.type) (t := σ.t) (he s) (he x) hk
        refine fin ⟨v, y, h', n', μ', w', ?_, h2, h3, h4, h5⟩
        have ha' : cl.args = #[s, x] := by simpa using congrArg List.toArray ha
        have hT' : cl.argTypes = #[T, U] := by simpa using congrArg List.toArray hT
        simp [execOp, ho, resolve, hcal, ha', hT', invoke, builtin, h1, Sem.run, pure]
      · exact hk.elim
    · rename_i hcal
      split at hk
      · rename_i s T ha hT
        rw [← hc] at hk
        obtain ⟨v, y, h', n', μ', w', h1, h2, h3, h4, h5⟩ := clear_sound S.hs (ty := o.type) (t := σ.t) (he s) hk
        refine fin ⟨v, y, h', n', μ', w', ?_, h2, h3, h4, h5⟩
        have ha' : cl.args = #[s] := by simpa using congrArg List.toArray ha
        have hT' : cl.argTypes = #[T] := by simpa using congrArg List.toArray hT
        simp [execOp, ho, resolve, hcal, ha', hT', invoke, builtin, h1, Sem.run, pure]
      · exact hk.elim
    · rw [← ho] at hk; exact pure_ hk
    · rename_i f hcal
      have h1 := he f
      split at hk
      · rename_i g caps hf
        rw [hf] at h1
        obtain ⟨xs, hx, hl, hr⟩ := h1.fn_inv
        have hargs : ∀ i, i < (cl.args.toList.map (ev σ.t) ++ caps).length → R c σ.h μ w ((cl.args.toList.map (ev σ.t) ++ caps).getD i .undef) ((cl.args.map a.eval ++ xs).getD i Go.undef) := fun i hi => ?_
        · rcases hk with ⟨T, hT, hk⟩ | hk
          · have hs := hE.soundT g T hT c E.Φ σ.h σ.n μ w _ _ σ.t K hc hΦ S.hs (show (cl.args.map a.eval ++ xs).size = (cl.args.toList.map (ev σ.t) ++ caps).length by simp [hl]) hargs hk
            rw [← hc] at hs
            rcases hs with ⟨h2, h3⟩ | ⟨x, w', h2, v, h', n', μ', h3⟩
            · have hrun := run_callv (w := w) ho hcal hx h2
              unfold Oper.wp
              rw [hrun]
              refine h3.mono ?_
              rintro e w' ⟨x, rfl, v, h', n', μ', g1, g2, g3, g4⟩
              exact hn v h' n' μ' x w' g1 g2 g3 g4
            · exact fin ⟨v, x, h', n', μ', w', by rw [run_callv' ho hcal hx, h2], h3⟩
          · have hΓ : fnOk c.P g = true := by
              unfold acall at hk
              split at hk
              · rename_i F ds hF _; rw [hc]; exact hE.fn g F hF
              · exact hk.elim
            have hrun := run_callv (w := w) ho hcal hx hΓ
            exact call_ hrun (by simp [hl]) hargs hk
        by_cases hia : i < cl.args.size
        · have h2 : (cl.args.toList.map (ev σ.t) ++ caps).getD i .undef = ev σ.t cl.args[i] := by simp [List.getD_eq_getElem?_getD, List.getElem?_append_left, hia]
          have h3 : (cl.args.map a.eval ++ xs).getD i Go.undef = a.eval cl.args[i] := by
            simp [Array.getElem?_append_left, hia]
          rw [h2, h3]; exact he _
        · have h2 : (cl.args.toList.map (ev σ.t) ++ caps).getD i .undef = caps.getD (i - cl.args.size) .undef := by
            simp only [List.getD_eq_getElem?_getD]
            rw [List.getElem?_append_right (by simp; omega)]
            simp
          have h3 : (cl.args.map a.eval ++ xs).getD i Go.undef = xs.getD (i - cl.args.size) Go.undef := by
            simp only [Array.getD_eq_getD_getElem?]
            rw [Array.getElem?_append_right (by simp; omega)]
            simp
          rw [h2, h3]
          exact hr _ (by simp at hi; omega)
      · rename_i k hf
        rw [hf] at h1
        unfold afv at hk
        split at hk
        · rename_i Sp ds hSp hds
          obtain ⟨x, hxf, hSx, hK⟩ := hk
          obtain ⟨f', xs, g1, g2, g3⟩ := hΦ k Sp hSp
          have hxe : a.eval f = .func (.func f') #[] xs := by rw [← g1]; generalize a.eval f = y at h1; cases h1; rfl
          have hrun := run_callv (w := w) ho hcal hxe g2
          obtain ⟨e1, e2⟩ := allO_spec hds
          have hargs : ArgsR c.fvals w (okB c (frz σ.h fun _ => true) μ w) ds (cl.args.map a.eval) := by
            refine ⟨by simp [e1], fun i hi => ?_⟩
            have hia : i < cl.args.size := by simp at e1; omega
            have h2 : (cl.args.toList.map (ev σ.t))[i]? = some (ev σ.t cl.args[i]) := by simp [hia]
            have h3 : ds[i]? = some ds[i] := List.getElem?_eq_getElem hi
            have h4 : ds.getD i .undef = ds[i] := by simp [List.getD_eq_getElem?_getD, h3]
            have h5 : (cl.args.map a.eval).getD i Go.undef = a.eval cl.args[i] := by simp [hia]
            rw [h4, h5]
            exact expoA_sound S.hs (fun _ => true) (he _) (e2 i _ _ h2 h3) (fun _ _ => rfl)
          unfold Oper.wp
          rw [hrun]
          refine (g3 w S.hs.fr _ _ ds x _ (fun q hq => hq.2.1) hSx hargs).mono ?_
          rintro e w' ⟨rfl, hb⟩
          have H2 := S.hs.below hb
          exact hn (.s x) σ.h σ.n μ x w' hK H2.1 H2.2 (.s x hxf)
        · exact hk.elim
      · exact hk.elim
    · exact hk.elim
  · rename_i op T x q r p ho
    rw [← hc] at hk
    obtain ⟨b, h1, h2⟩ := nil_sound (t := σ.t) (h := σ.h) (n := σ.n) (he x) hk x (.const (.slice none q r)) q r
    refine fin ⟨.s (.bool b), .bool b, σ.h, σ.n, μ, w, ?_, h1, S.hs, Ext.refl _ _ _ _, .s _ rfl⟩
    simp only [execOp, ho]
    exact run_value h2
  · exact pure_ hk
end
end Go.Proofs.Ytahgddfnbjpfiaa.Am

/- An abstract machine over values: a region whose order is open. -/
set_option linter.unusedVariables false
set_option linter.unusedSimpArgs false
namespace Go.Proofs.Ytahgddfnbjpfiaa.Am
open Go Go.RowKit

/-- What a quiet operation comes to: it turns no block of one's own. -/
def qcall (E : Env) (g : FuncId) (args : List V) (h : Hp) (v : V) : Prop :=
  match E.Γ g, expArgs h 0 args with
  | some F, some ds => ∃ r, F (phi E h args) ds r ∧ ((noSl r = true ∧ v = r) ∨ (args.flatMap (touchA h) = [] ∧ (match r with | .own _ rows => v = .sl rows | r => v = r)))
  | _, _ => False
def qfv (E : Env) (k : Nat) (args : List V) (h : Hp) (v : V) : Prop :=
  match E.Φ k, allO (expoA h) args with
  | some S, some ds => ∃ x, flat x = true ∧ S ds x ∧ v = .s x
  | _, _ => False
def qcl (E : Env) (cl : Call) (e : Operand → V) (op : Op) (h : Hp) (v : V) : Prop :=
  match cl.callee with
  | .builtin .append => False
  | .builtin _ => pval E.P E.plain h e op = some v
  | .value f => match e f with
    | .fn g caps => qcall E g (cl.args.toList.map e ++ caps) h v
    | .fv k => qfv E k (cl.args.toList.map e) h v
    | _ => False
  | _ => False
def qv (E : Env) (op : Op) (e : Operand → V) (h : Hp) (v : V) : Prop :=
  match op with
  | .call cl => qcl E cl e (.call cl) h v
  | op => pval E.P E.plain h e op = some v
def eff : Op → Bool
  | .store .. | .alloc _ | .box .. | .buildSlice .. | .makeSlice .. => true
  | .call cl => match cl.callee with
    | .builtin .append | .builtin .copy => true
    | _ => false
  | _ => false
/-- Quiet: no memory is turned, and no variable that is read in the region is set. -/
def quiet (ops : Array Oper) (o : Oper) : Bool := !eff o.op && (match o.op, o.dst with
  | .assign x, some d => (ops.toList.all fun o' => !(o'.looksAt ops).contains d) && (ops.toList.all fun o' => !(eff o'.op && (match x, o'.dst with
    | .tmp q, some e => q == e
    | _, _ => false)))
  | _, _ => true)
/-- A region whose order is open: quiet operations in whatever order, then the rest in its own. -/
def awpD (E : Env) (ops : Array Oper) : List Oper → (St → Prop) → St → Prop
  | [], K, σ => K σ
  | o :: rest, K, σ => if quiet ops o then
      gd ops o σ (∃ v, qv E o.op (ev σ.t) σ.h v ∧ awpD E ops rest K (putS o.dst v σ)) (awpD E ops rest K (putS o.dst .undef σ))
    else awpOps E ops (o :: rest) K σ

section
variable {ps : Hp × Mu × World} {E : Env} {c : Cx} {σ : St} {μ : Mu} {a : Act} {w : World}
theorem q_sound (hE : EnvOk E) (hc : c.P = E.P) (hΦ : FvOk c E.Φ) {h : Hp} {n : Nat} (H : HS c h n μ w) {t : Nat → V} (ht : ∀ i, R c h μ w (t i) (a.tmps.getD i Go.undef)) {o : Oper} {v : V} (hk : qv E o.op (ev t) h v) {next : Act → World → Prop} {Q : Exit → Act → World → Prop}
    (hn : ∀ x w', HS c h n μ w' → Ext c h μ w h μ w' → R c h μ w' v x → next (a.put o.dst x) w') : o.wp c.P a w next Q := by
  have he : ∀ x, R c h μ w (ev t x) (a.eval x) := fun x => Rp.ev ht x
  have pure_ : pval E.P E.plain h (ev t) o.op = some v → o.wp c.P a w next Q := by
    intro h1
    rw [← hc] at h1
    obtain ⟨x, h3, h4⟩ := pval_sound (by rw [hc]; exact hE.plain) H he h1
    unfold Oper.wp
    rw [h3]
    exact hn x w H (Ext.refl _ _ _ _) h4
  unfold qv at hk
  split at hk
  · rename_i cl ho
    unfold qcl at hk
    split at hk
    · exact hk.elim
    · rw [← ho] at hk; exact pure_ hk
    · rename_i f hcal
      have h1 := he f
      split at hk
      · rename_i g caps hf
        rw [hf] at h1
        obtain ⟨xs, hx, hl, hr⟩ := h1.fn_inv
        unfold qcall at hk
        split at hk
        · rename_i F ds hF hds
          obtain ⟨r, hS, hv⟩ := hk
          have hΓ : fnOk c.P g = true := by rw [hc]; exact hE.fn g F hF
          have hrun := run_callv (w := w) ho hcal hx hΓ
          have hargs : ∀ i, i < (cl.args.toList.map (ev t) ++ caps).length → R c h μ w ((cl.args.toList.map (ev t) ++ caps).getD i .undef) ((cl.args.map a.eval ++ xs).getD i Go.undef) := by
            intro i hi
            by_cases hia : i < cl.args.size
            · have h2 : (cl.args.toList.map (ev t) ++ caps).getD i .undef = ev t cl.args[i] := by simp [List.getD_eq_getElem?_getD, List.getElem?_append_left, hia]
              have h3 : (cl.args.map a.eval ++ xs).getD i Go.undef = a.eval cl.args[i] := by
                simp [Array.getElem?_append_left, hia]
              rw [h2, h3]; exact he _
            · have h2 : (cl.args.toList.map (ev t) ++ caps).getD i .undef = caps.getD (i - cl.args.size) .undef := by
                simp only [List.getD_eq_getElem?_getD]
                rw [List.getElem?_append_right (by simp; omega)]
                simp
              have h3 : (cl.args.map a.eval ++ xs).getD i Go.undef = xs.getD (i - cl.args.size) Go.undef := by
                simp only [Array.getD_eq_getD_getElem?]
                rw [Array.getElem?_append_right (by simp; omega)]
                simp
              rw [h2, h3]
              exact hr _ (by simp at hi; omega)
          unfold Oper.wp
          rw [hrun]
          have hls : (cl.args.map a.eval ++ xs).size = (cl.args.toList.map (ev t) ++ caps).length := by simp [hl]
          generalize cl.args.toList.map (ev t) ++ caps = args at hS hds hv hargs hls
          refine (call_core hE hc hΦ H hls hargs hF hds hS).mono ?_
          rintro e w' ⟨x, rfl, hb, hR⟩
          have H2 := H.below hb
          rcases hv with ⟨hns, rfl⟩ | ⟨htouch, hv⟩
          · refine hn x w' H2.1 H2.2 ?_
            unfold Res at hR
            split at hR
            · simp [noSl] at hns
            · exact noSl_any (hR c.fvals) hns
          · have hall := res_ok (hi := inv_of hc H) H hb (E := E) args (cl.args.map a.eval ++ xs)
            have hfr : frzOf h args = h := by
              unfold frzOf
              rw [htouch]
              funext b
              simp [frz]
            rw [hfr] at hall
            unfold Res at hR
            split at hR
            · rename_i z rows
              subst hv
              refine hn x w' H2.1 H2.2 ?_
              rcases hR with ⟨rfl, A, rfl⟩ | ⟨k, base, cap, rfl, hcap, hk, hkl, hlen, hcell⟩
              · exact Rp.nil A 0
              · have hex : ∀ i, ∃ f : Nat → Value, ∀ j, i < rows.length → j < z → w'.cell? ⟨k, base + (i * z + j), none⟩ = some (f j) ∧ Dp w' (okB c h μ w') (cellAt rows i j) (f j) := by
                  intro i
                  have : ∀ j, ∃ y, i < rows.length → j < z → w'.cell? ⟨k, base + (i * z + j), none⟩ = some y ∧ Dp w' (okB c h μ w') (cellAt rows i j) y := by
                    intro j
                    by_cases hij : i < rows.length ∧ j < z
                    · obtain ⟨y, h1, _, h3⟩ := hcell i j (by omega) hij.2
                      exact ⟨y, fun _ _ => ⟨h1, (h3 hij.1).mono fun q hq => ⟨hall q hq.1, rfl⟩⟩⟩
                    · exact ⟨Go.undef, fun h1 h2 => absurd ⟨h1, h2⟩ hij⟩
                  exact Classical.axiomOfChoice this
                obtain ⟨g', hg⟩ := Classical.axiomOfChoice hex
                refine .sl rows _ cap z _ g' rfl hcap hlen (fun _ => ⟨_, rfl, hall k ⟨?_, hkl⟩, fun i j hi hj => by rw [add_plain]; exact (hg i j hi hj).1⟩) (fun i j hi hj => (hg i j hi hj).2)
                rcases hk with hk | hk
                · exact .inr (.inl hk)
                · exact hk.elim
            · rename_i hno
              have hvr : v = r := by
                split at hv
                · exact absurd rfl (hno _ _)
                · exact hv
              subst hvr
              exact hn x w' H2.1 H2.2 ((hR c.fvals).mono (fun q hq => ⟨hall q hq, rfl⟩) (fun _ _ h => by cases h))
        · exact hk.elim
      · rename_i k hf
        rw [hf] at h1
        unfold qfv at hk
        split at hk
        · rename_i Sp ds hSp hds
          obtain ⟨x, hxf, hSx, rfl⟩ := hk
          obtain ⟨f', xs, g1, g2, g3⟩ := hΦ k Sp hSp
          have hxe : a.eval f = .func (.func f') #[] xs := by rw [← g1]; generalize a.eval f = y at h1; cases h1; rfl
          have hrun := run_callv (w := w) ho hcal hxe g2
          obtain ⟨e1, e2⟩ := allO_spec hds
          have hargs : ArgsR c.fvals w (okB c (frz h fun _ => true) μ w) ds (cl.args.map a.eval) := by
            refine ⟨by simp [e1], fun i hi => ?_⟩
            have hia : i < cl.args.size := by simp at e1; omega
            have h2 : (cl.args.toList.map (ev t))[i]? = some (ev t cl.args[i]) := by simp [hia]
            have h3 : ds[i]? = some ds[i] := List.getElem?_eq_getElem hi
            have h4 : ds.getD i .undef = ds[i] := by simp [List.getD_eq_getElem?_getD, h3]
            have h5 : (cl.args.map a.eval).getD i Go.undef = a.eval cl.args[i] := by simp [hia]
            rw [h4, h5]
            exact expoA_sound H (fun _ => true) (he _) (e2 i _ _ h2 h3) (fun _ _ => rfl)
          unfold Oper.wp
          rw [hrun]
          refine (g3 w H.fr _ _ ds x _ (fun q hq => hq.2.1) hSx hargs).mono ?_
          rintro e w' ⟨rfl, hb⟩
          have H2 := H.below hb
          exact hn x w' H2.1 H2.2 (.s x hxf)
        · exact hk.elim
      · exact hk.elim
    · exact hk.elim
  · exact pure_ hk

/-- What is asked of one operation's guard, in the machine. -/
theorem gd_wanted (ops : Array Oper) {o : Oper} {t : Nat → V} {h : Hp} {n : Nat} (ht : ∀ i, R c h μ w (t i) (a.tmps.getD i Go.undef)) {run skip : Prop} (hk : gd ops o ⟨t, h, n⟩ run skip) :
    (Region.wanted o (yielded ops a.tmps) = true ∧ run) ∨ (Region.wanted o (yielded ops a.tmps) = false ∧ skip) := by
  unfold gd at hk
  unfold Region.wanted
  split at hk
  · rename_i hg; rw [hg]; exact .inl ⟨rfl, hk⟩
  · rename_i j want hg
    rw [hg]
    simp only
    split at hk
    · rename_i d hd
      simp only at hk
      have htd := ht d
      unfold yielded
      rw [hd]
      simp only [Option.bind_some]
      split at hk
      · rename_i b hb
        rw [hb] at htd
        have h1 := htd.s_eq.1
        have h2 : a.tmps[d]? = some (.bool b) := by
          by_cases hlt : d < a.tmps.size
          · simp [hlt] at h1 ⊢; exact h1
          · simp [Array.getElem?_eq_none (Nat.le_of_not_lt hlt)] at h1
            cases h1
        rw [h2]
        by_cases hbw : b = want
        · exact .inl ⟨by simp [hbw], hk.1 hbw⟩
        · exact .inr ⟨by simp [hbw], hk.2 hbw⟩
      · rename_i hb
        rw [hb] at htd
        have h1 : a.tmps.getD d Go.undef = Go.undef := by generalize a.tmps.getD d Go.undef = y at htd; cases htd; rfl
        refine .inr ⟨?_, hk⟩
        by_cases hlt : d < a.tmps.size
        · simp [hlt] at h1
          have h2 : a.tmps[d]? = some Go.undef := by simp [hlt, h1]
          rw [h2]; rfl
        · rw [Array.getElem?_eq_none (Nat.le_of_not_lt hlt)]; rfl
      · exact hk.elim
    · exact hk.elim

theorem ops_sound (hE : EnvOk E) (hc : c.P = E.P) (hΦ : FvOk c E.Φ) (ops : Array Oper) {Q : Exit → Act → World → Prop} {K : St → Prop} (hQ : ∀ σ μ a w, K σ → Sim ps E c σ μ a w → Q .normal a w) : ∀ (l : List Oper) {σ : St} {μ : Mu} {a : Act} {w : World},
    (∀ o ∈ l, dstOk E.nt o = true) → awpOps E ops l K σ → Sim ps E c σ μ a w → wpList c.P ops Q l a w := by
  intro l
  induction l with
  | nil => intro σ μ a w _ hk S; exact hQ σ μ a w hk S
  | cons o l ih =>
    intro σ μ a w hd hk S
    have hdo : ∀ d, o.dst = some d → d < E.nt := by
      intro d hd'
      have := hd o (by simp)
      simp [dstOk, hd'] at this
      exact this
    unfold awpOps at hk
    unfold wpList
    rcases gd_wanted ops (n := σ.n) S.tm hk with ⟨h1, h2⟩ | ⟨h1, h2⟩
    · rw [if_pos h1]
      refine .inl (op_sound hE hc hΦ S h2 ?_)
      intro v h' n' μ' x w' g1 g2 g3 g4
      exact ih (fun o ho => hd o (by simp [ho])) g1 (S.put g2 g3 g4 hdo)
    · rw [if_neg (by simp [h1])]
      exact ih (fun o ho => hd o (by simp [ho])) h2 (S.put S.hs (Ext.refl _ _ _ _) .undef hdo)
end
end Go.Proofs.Ytahgddfnbjpfiaa.Am

/- An abstract machine over values: a region whose order is open comes to the same in every order. -/
set_option linter.unusedVariables false
set_option linter.unusedSimpArgs false
namespace Go.Proofs.Ytahgddfnbjpfiaa.Am
open Go Go.RowKit

def waits (o : Oper) (j : Nat) : Bool := o.after.any fun e => Region.binds .any e && e.on == j
def quietN (ops : Array Oper) : Nat := (ops.toList.takeWhile fun o => quiet ops o).length
/-- What an operation waits for, through others too. -/
def msk (acc : List Nat) (l : List Edge) : Nat := match l with
  | [] => 0
  | e :: l => if Region.binds .any e then (2 ^ e.on ||| acc.getD e.on 0) ||| msk acc l else msk acc l
def masks : List Oper → List Nat → List Nat
  | [], acc => acc
  | o :: l, acc => masks l (acc ++ [msk acc o.after.toList])
inductive Reach (ops : Array Oper) : Nat → Nat → Prop
  | dir (i : Nat) (o : Oper) (e : Edge) (h : ops[i]? = some o) (he : e ∈ o.after) (hb : Region.binds .any e = true) : Reach ops i e.on
  | step (i j : Nat) (o : Oper) (e : Edge) (h : ops[i]? = some o) (he : e ∈ o.after) (hb : Region.binds .any e = true) (hr : Reach ops e.on j) : Reach ops i j
theorem msk_reach {ops : Array Oper} {acc : List Nat} {i : Nat} {o : Oper} (ho : ops[i]? = some o) (ha : ∀ k j, (acc.getD k 0).testBit j = true → Reach ops k j) : ∀ l : List Edge, (∀ e ∈ l, e ∈ o.after) → ∀ j, (msk acc l).testBit j = true → Reach ops i j
  | [], _, j, h => by simp [msk] at h
  | e :: l, hl, j, h => by
    unfold msk at h
    split at h
    · rename_i hb
      simp only [Nat.testBit_or, Bool.or_eq_true] at h
      rcases h with (h | h) | h
      · rw [Nat.testBit_two_pow] at h
        have : e.on = j := by simpa using h
        subst this
        exact .dir i o e ho (hl e (by simp)) hb
      · exact .step i j o e ho (hl e (by simp)) hb (ha _ _ h)
      · exact msk_reach ho ha l (fun e he => hl e (by simp [he])) j h
    · exact msk_reach ho ha l (fun e he => hl e (by simp [he])) j h
theorem masks_reach {ops : Array Oper} : ∀ (l : List Oper) (acc : List Nat), (∀ k o, l[k]? = some o → ops[acc.length + k]? = some o) → (∀ k j, (acc.getD k 0).testBit j = true → Reach ops k j) → ∀ k j, ((masks l acc).getD k 0).testBit j = true → Reach ops k j
  | [], acc, _, ha, k, j, h => ha k j h
  | o :: l, acc, hl, ha, k, j, h => by
    refine masks_reach l (acc ++ [msk acc o.after.toList]) (fun k' o' h' => ?_) (fun k' j' h' => ?_) k j h
    · have := hl (k' + 1) o' (by simpa using h')
      simpa [Nat.add_assoc, Nat.add_comm 1] using this
    · rcases Nat.lt_trichotomy k' acc.length with h1 | h1 | h1
      · rw [List.getD_eq_getElem?_getD, List.getElem?_append_left h1, ← List.getD_eq_getElem?_getD] at h'
        exact ha k' j' h'
      · subst h1
        have h2 : (acc ++ [msk acc o.after.toList]).getD acc.length 0 = msk acc o.after.toList := by simp [List.getD_eq_getElem?_getD]
        rw [h2] at h'
        have h3 := hl 0 o rfl
        exact msk_reach (by simpa using h3) ha _ (fun e he => by simpa using he) j' h'
      · rw [List.getD_eq_getElem?_getD, List.getElem?_eq_none (by simp; omega)] at h'
        simp at h'
def drawOk (ops : Array Oper) : Bool :=
  (List.range ops.size).all fun i => match ops[i]? with
    | none => false
    | some o => (o.after.all fun e => !Region.binds .any e || decide (e.on < i)) &&
      (if i < quietN ops then (List.range (quietN ops)).all fun j => match (ops[j]?).bind (·.dst) with
        | some d => (!(o.looksAt ops).contains d || (decide (j < i) && waits o j)) && (j == i || o.dst != some d)
        | none => true
      else (List.range i).all fun j => ((masks ops.toList []).getD i 0).testBit j)

theorem map_congr {e e' : Operand → V} {l : List Operand} (h : ∀ x ∈ l, e x = e' x) : l.map e = l.map e' := List.map_congr_left h
theorem pval_congr {P : Program} {plain : TypeId → Bool} {op : Op} {e e' : Operand → V} {h : Hp} {v : V} (he : ∀ x ∈ op.operands, e x = e' x) (hq : pval P plain h e op = some v) : pval P plain h e' op = some v := by
  cases op <;> simp only [pval] at hq ⊢ <;> try (cases hq; done)
  case move x => rw [← he x (by simp [Op.operands])]; exact hq
  case assign x => rw [← he x (by simp [Op.operands])]; exact hq
  case pick c a b => rw [← he c (by simp [Op.operands]), ← he a (by simp [Op.operands]), ← he b (by simp [Op.operands])]; exact hq
  case load T a => rw [← he a (by simp [Op.operands])]; exact hq
  case nilCheck x => rw [← he x (by simp [Op.operands])]; exact hq
  case binOp op T x y yT => rw [← he x (by simp [Op.operands]), ← he y (by simp [Op.operands])]; exact hq
  case unOp op T x => rw [← he x (by simp [Op.operands])]; exact hq
  case convert src dst x => rw [← he x (by simp [Op.operands])]; exact hq
  case slice T x lo hi mx =>
    have h1 : lo.map e = lo.map e' := by cases lo with | none => rfl | some y => simp [he y (by simp [Op.operands])]
    have h2 : hi.map e = hi.map e' := by cases hi with | none => rfl | some y => simp [he y (by simp [Op.operands])]
    have h3 : mx.map e = mx.map e' := by cases mx with | none => rfl | some y => simp [he y (by simp [Op.operands])]
    rw [← he x (by simp [Op.operands]), ← h1, ← h2, ← h3]; exact hq
  case field T x f => rw [← he x (by simp [Op.operands])]; exact hq
  case fieldAddr T x f => rw [← he x (by simp [Op.operands])]; exact hq
  case indexAddr T x i => rw [← he x (by simp [Op.operands]), ← he i (by simp [Op.operands])]; exact hq
  case index T x i => rw [← he x (by simp [Op.operands]), ← he i (by simp [Op.operands])]; exact hq
  case extract x i => rw [← he x (by simp [Op.operands])]; exact hq
  case makeFunc fn first caps =>
    have h1 : caps.toList.map e = caps.toList.map e' := map_congr fun x hx => he x (by simp [Op.operands]; exact .inr (by simpa using hx))
    rw [← h1]; exact hq
  case build T parts =>
    unfold abuild at hq ⊢
    have h1 : (parts.toList.map fun q => (q.1, e q.2)) = parts.toList.map fun q => (q.1, e' q.2) := List.map_congr_left fun q hq => by rw [he q.2 (by simp [Op.operands]; exact ⟨q.1, by simpa using hq⟩)]
    rw [← h1]; exact hq
  case call cl =>
    obtain ⟨callee, args, argTypes⟩ := cl
    have hmem : ∀ x ∈ args.toList, e x = e' x := fun x hx => he x (by simp [Op.operands, Call.operands]; exact .inr (by simpa using hx))
    have h1 : args.toList.map e = args.toList.map e' := map_congr hmem
    cases callee <;> simp only at hq ⊢ <;> try (cases hq; done)
    rename_i b
    generalize hal : args.toList = al at hq hmem h1
    generalize htl : argTypes.toList = tl at hq
    cases b <;> simp only at hq ⊢ <;> try (cases hq; done)
    case cap =>
      cases al with
      | nil => cases hq
      | cons x al => cases al with
        | nil =>
          have h2 := hmem x (by simp)
          cases tl with
          | nil => cases hq
          | cons T tl => cases tl with
            | nil => show acap P T (e' x) = some v; rw [← h2]; exact hq
            | cons U tl => cases hq
        | cons y al => cases hq
    case len =>
      cases al with
      | nil => cases hq
      | cons x al => cases al with
        | nil =>
          have h2 := hmem x (by simp)
          cases tl with
          | nil => cases hq
          | cons T tl => cases tl with
            | nil => show alen P T (e' x) = some v; rw [← h2]; exact hq
            | cons U tl => cases hq
        | cons y al => cases hq
    case max => rw [← h1]; exact hq
    case min => rw [← h1]; exact hq
/-- A quiet operation looks at its operands alone. -/
theorem qv_congr {E : Env} {op : Op} {e e' : Operand → V} {h : Hp} {v : V} (he : ∀ x ∈ op.operands, e x = e' x) (hq : qv E op e h v) : qv E op e' h v := by
  have hp : pval E.P E.plain h e op = some v → pval E.P E.plain h e' op = some v := fun hq => pval_congr he hq
  cases op <;> try exact hp hq
  case call cl =>
    obtain ⟨callee, args, argTypes⟩ := cl
    simp only [qv, qcl] at hq ⊢
    cases callee with
    | value f =>
      have h2 : e f = e' f := he f (by simp [Op.operands, Call.operands])
      have h1 : args.toList.map e = args.toList.map e' := map_congr fun x hx => he x (by simp [Op.operands, Call.operands]; exact .inr (by simpa using hx))
      simp only at hq ⊢
      rw [← h2, ← h1]
      exact hq
    | builtin b => cases b <;> first | exact hp hq | exact hq
    | invoke r m => exact hq

/-- What one operation of the quiet head yields, told by what it looks at. -/
def wantA (ops : Array Oper) (o : Oper) (t : Nat → V) (b : Bool) : Prop :=
  match o.guard with
  | none => b = true
  | some (j, want) => ∃ d, (ops[j]?).bind (·.dst) = some d ∧ ((∃ q, t d = .s (.bool q) ∧ b = (q == want)) ∨ (t d = .undef ∧ b = false))
def gdv (E : Env) (ops : Array Oper) (o : Oper) (t : Nat → V) (h : Hp) (v : V) : Prop :=
  ∃ b, wantA ops o t b ∧ (b = true → qv E o.op (ev t) h v) ∧ (b = false → v = .undef)
theorem gdv_congr {E : Env} {ops : Array Oper} {o : Oper} {t t' : Nat → V} {h : Hp} {v : V} (he : ∀ d ∈ o.looksAt ops, t d = t' d) (hg : gdv E ops o t h v) : gdv E ops o t' h v := by
  obtain ⟨b, h1, h2, h3⟩ := hg
  refine ⟨b, ?_, fun hb => qv_congr (fun x hx => ?_) (h2 hb), h3⟩
  · unfold wantA at h1 ⊢
    split at h1
    · exact h1
    · rename_i j want hg
      obtain ⟨d, hd, h4⟩ := h1
      refine ⟨d, hd, ?_⟩
      rw [← he d (by simp [Oper.looksAt, hg, hd])]
      exact h4
  · cases x with
    | tmp d => exact he d (by simp only [Oper.looksAt, List.mem_append, List.mem_filterMap]; exact .inl ⟨_, by simpa using hx, rfl⟩)
    | const v => rfl
    | global g => rfl
    | func f => rfl
theorem gdv_of_gd {E : Env} {ops : Array Oper} {o : Oper} {σ : St} {K : St → Prop} (hg : gd ops o σ (∃ v, qv E o.op (ev σ.t) σ.h v ∧ K (putS o.dst v σ)) (K (putS o.dst .undef σ))) : ∃ v, gdv E ops o σ.t σ.h v ∧ K (putS o.dst v σ) := by
  unfold gd at hg
  split at hg
  · rename_i hgu
    obtain ⟨v, h1, h2⟩ := hg
    exact ⟨v, ⟨true, by simp [wantA, hgu], fun _ => h1, (fun h => by cases h)⟩, h2⟩
  · rename_i j want hgu
    split at hg
    · rename_i d hd
      split at hg
      · rename_i q hq
        by_cases hqw : q = want
        · obtain ⟨v, h1, h2⟩ := hg.1 hqw
          exact ⟨v, ⟨true, (by simp only [wantA, hgu]; exact ⟨d, hd, .inl ⟨q, hq, by simp [hqw]⟩⟩), fun _ => h1, (fun h => by cases h)⟩, h2⟩
        · exact ⟨.undef, ⟨false, (by simp only [wantA, hgu]; exact ⟨d, hd, .inl ⟨q, hq, by simp [hqw]⟩⟩), (fun h => by cases h), fun _ => rfl⟩, hg.2 hqw⟩
      · rename_i hq
        exact ⟨.undef, ⟨false, (by simp only [wantA, hgu]; exact ⟨d, hd, .inr ⟨hq, trivial⟩⟩), (fun h => by cases h), fun _ => rfl⟩, hg⟩
      · exact hg.elim
    · exact hg.elim

/-- A state's variables agree with the values of the operations that are listed, and with what was before elsewhere. -/
def Agree (ops : Array Oper) (vs : Nat → V) (n : Nat) (L : Nat → Prop) (t0 t : Nat → V) : Prop :=
  (∀ i o d, i < n → L i → ops[i]? = some o → o.dst = some d → t d = vs i) ∧ ∀ d, (∀ i o, i < n → L i → ops[i]? = some o → o.dst ≠ some d) → t d = t0 d

theorem drawOk_at {ops : Array Oper} (h : drawOk ops = true) {i : Nat} {o : Oper} (hi : ops[i]? = some o) : (∀ e ∈ o.after, Region.binds .any e = true → e.on < i) ∧
    (i < quietN ops → ∀ j oj d, j < quietN ops → ops[j]? = some oj → oj.dst = some d → ((d ∈ o.looksAt ops → j < i ∧ waits o j = true) ∧ (j = i ∨ o.dst ≠ some d))) ∧ (quietN ops ≤ i → ∀ j, j < i → Reach ops i j) := by
  have hlt : i < ops.size := (Array.getElem?_eq_some_iff.1 hi).1
  unfold drawOk at h
  rw [List.all_eq_true] at h
  have h1 := h i (by simpa using hlt)
  rw [hi] at h1
  simp only [Bool.and_eq_true, Array.all_eq_true] at h1
  obtain ⟨h2, h3⟩ := h1
  refine ⟨fun e he hb => ?_, fun hin j oj d hj hoj hd => ?_, fun hin j hj => ?_⟩
  · obtain ⟨k, hk, rfl⟩ := Array.getElem_of_mem he
    have := h2 k hk
    simpa [hb] using this
  · rw [if_pos hin, List.all_eq_true] at h3
    have h4 := h3 j (by simpa using hj)
    simp only [hoj, Option.bind_some, hd, Bool.and_eq_true, Bool.or_eq_true, Bool.not_eq_true', decide_eq_true_eq] at h4
    refine ⟨fun hm => ?_, ?_⟩
    · rcases h4.1 with h5 | h5
      · rw [List.contains_iff_mem.2 hm] at h5; cases h5
      · exact h5
    · rcases h4.2 with h5 | h5
      · exact .inl (by simpa using h5)
      · exact .inr (by simpa using h5)
  · rw [if_neg (by omega), List.all_eq_true] at h3
    exact masks_reach ops.toList [] (fun k o hk => by simpa using hk) (fun k j h => by simp at h) i j (h3 j (by simpa using hj))

theorem ready_waits {ops : Array Oper} {listed : Array Bool} {i j : Nat} {o : Oper} (hr : i ∈ Region.ready .any ops listed) (ho : ops[i]? = some o) (hw : waits o j = true) : listed.getD j false = true := by
  obtain ⟨_, o', ho', h1⟩ := mem_ready.1 hr
  rw [ho] at ho'
  cases ho'
  unfold waits at hw
  rw [Array.any_eq_true] at hw
  obtain ⟨k, hk, h2⟩ := hw
  simp only [Bool.and_eq_true, beq_iff_eq] at h2
  rw [← h2.2]
  exact h1 _ (Array.getElem_mem hk) h2.1

theorem reach_lt {ops : Array Oper} (hok : drawOk ops = true) {i j : Nat} (hr : Reach ops i j) : j < i := by
  induction hr with
  | dir i o e h he hb => exact (drawOk_at hok h).1 e he hb
  | step i j o e h he hb _ ih => have := (drawOk_at hok h).1 e he hb; omega
theorem not_reach {ops : Array Oper} (hok : drawOk ops = true) {i k : Nat} {o : Oper} (hw : ∀ e ∈ o.after, Region.binds .any e = true → e.on < k) (ho : ops[i]? = some o) (hr : Reach ops i k) : False := by
  cases hr with
  | dir _ o' e h he hb => rw [ho] at h; cases h; have := hw e he hb; omega
  | step _ _ o' e h he hb hr => rw [ho] at h; cases h; have := hw e he hb; have := reach_lt hok hr; omega
/-- What is listed is closed. -/
theorem reach_listed {ops : Array Oper} {listed : Array Bool} (hcl : ∀ (i : Nat) (o : Oper), listed.getD i false = true → ops[i]? = some o → ∀ e ∈ o.after, Region.binds .any e = true → listed.getD e.on false = true) {i j : Nat} (hr : Reach ops i j) :
    (∀ o, ops[i]? = some o → ∀ e ∈ o.after, Region.binds .any e = true → listed.getD e.on false = true) → listed.getD j false = true := by
  induction hr with
  | dir i o e h he hb => intro hw; exact hw o h e he hb
  | step i j o e h he hb hr ih => intro hw; exact ih fun o' ho' => hcl _ o' (hw o h e he hb) ho'
section
variable {ps : Hp × Mu × World} {E : Env} {c : Cx}
/-- The tail of the region, in its own order. -/
theorem tail_sound (hE : EnvOk E) (hc : c.P = E.P) (hΦ : FvOk c E.Φ) {ops : Array Oper} (hok : drawOk ops = true) (hd : ∀ o ∈ ops.toList, dstOk E.nt o = true) {Q : Exit → Act → World → Prop} {K : St → Prop} (hQ : ∀ σ μ a w, K σ → Sim ps E c σ μ a w → Q .normal a w) :
    ∀ (m k : Nat) (listed : Array Bool) {σ : St} {μ : Mu} {a : Act} {w : World}, ops.size - k = m → k ≤ ops.size → quietN ops ≤ k → listed.size = ops.size → (∀ j, j < ops.size → (listed.getD j true = true ↔ j < k)) →
      awpOps E ops (ops.toList.drop k) K σ → Sim ps E c σ μ a w → wpAny c.P .any ops Q m listed a w := by
  intro m
  induction m with
  | zero =>
    intro k listed σ μ a w hm hk hq hls hl hK S
    have hke : k = ops.size := by omega
    have : ops.toList.drop k = [] := by simp [hke]
    rw [this] at hK
    refine ⟨?_, hQ σ μ a w hK S⟩
    rw [List.eq_nil_iff_forall_not_mem]
    intro i hi
    obtain ⟨h1, o, h2, _⟩ := mem_ready.1 hi
    have hlt : i < ops.size := (Array.getElem?_eq_some_iff.1 h2).1
    have := (hl i hlt).2 (by omega)
    rw [this] at h1
    cases h1
  | succ m ih =>
    intro k listed σ μ a w hm hk hq hls hl hK S
    have hlt : k < ops.size := by omega
    have hko : ops[k]? = some ops[k] := Array.getElem?_eq_getElem hlt
    have hkun : listed.getD k true = false := by
      cases hb : listed.getD k true with
      | false => rfl
      | true => have := (hl k hlt).1 hb; omega
    have hdrop : ops.toList.drop k = ops[k] :: ops.toList.drop (k + 1) := by
      rw [List.drop_eq_getElem_cons (by simpa using hlt)]
      simp
    have hlf : ∀ j, j < k → listed.getD j false = true := by
      intro j hj
      have := (hl j (by omega)).2 hj
      have hjs : j < listed.size := by omega
      simp [hjs] at this ⊢
      exact this
    have hkr : k ∈ Region.ready .any ops listed := mem_ready.2 ⟨hkun, ops[k], hko, fun e he hb => hlf _ ((drawOk_at hok hko).1 e he hb)⟩
    refine ⟨fun h0 => (by rw [h0] at hkr; cases hkr), fun i hi => ?_⟩
    have hik : i = k := by
      obtain ⟨h1, o, h2, _⟩ := mem_ready.1 hi
      have hilt : i < ops.size := (Array.getElem?_eq_some_iff.1 h2).1
      rcases Nat.lt_trichotomy i k with h3 | h3 | h3
      · have := (hl i hilt).2 h3; rw [this] at h1; cases h1
      · exact h3
      · exact (not_reach hok (fun e he hb => by
          obtain ⟨_, o', ho', h5⟩ := mem_ready.1 hi
          rw [h2] at ho'
          cases ho'
          have h6 := h5 e he hb
          rcases Nat.lt_or_ge e.on k with h7 | h7
          · exact h7
          · exfalso
            by_cases h8 : e.on < ops.size
            · have h9 : e.on < listed.size := by omega
              have := (hl e.on h8).1 (by simp [h9] at h6 ⊢; exact h6)
              omega
            · have : ¬ e.on < listed.size := by omega
              simp [this] at h6) h2 ((drawOk_at hok h2).2.2 (by omega) k h3)).elim
    subst hik
    rw [hdrop] at hK
    unfold awpOps at hK
    have hdo : ∀ d, ops[i].dst = some d → d < E.nt := by
      intro d hd'
      have := hd ops[i] (by simp)
      simp [dstOk, hd'] at this
      exact this
    have hl' : ∀ j, j < ops.size → ((listed.setIfInBounds i true).getD j true = true ↔ j < i + 1) := by
      intro j hj
      by_cases hji : j = i
      · subst hji
        have : j < listed.size := by omega
        simp [this]
      · rw [getD_set_ne true (fun e => hji e.symm), hl j hj]
        omega
    unfold wpOp
    rw [hko]
    simp only
    rcases gd_wanted ops (n := σ.n) S.tm hK with ⟨h1, h2⟩ | ⟨h1, h2⟩
    · rw [if_pos h1]
      refine .inl (op_sound hE hc hΦ S h2 ?_)
      intro v h' n' μ' x w' g1 g2 g3 g4
      exact ih (i + 1) _ (by omega) (by omega) (by omega) (by simp [hls]) hl' g1 (S.put g2 g3 g4 hdo)
    · rw [if_neg (by simp [h1])]
      exact ih (i + 1) _ (by omega) (by omega) (by omega) (by simp [hls]) hl' h2 (S.put S.hs (Ext.refl _ _ _ _) .undef hdo)

/-- The values that the quiet head comes to, in its listed order. -/
theorem head_vals (ops : Array Oper) {K : St → Prop} {h : Hp} {n : Nat} (tl : List Oper) : ∀ (l : List Oper) (t : Nat → V), (∀ o ∈ l, quiet ops o = true) → awpD E ops (l ++ tl) K ⟨t, h, n⟩ →
    ∃ (vs : Nat → V) (ts : Nat → Nat → V), ts 0 = t ∧ (∀ i o, l[i]? = some o → gdv E ops o (ts i) h (vs i) ∧ ts (i + 1) = (putS o.dst (vs i) ⟨ts i, h, n⟩).t) ∧ awpD E ops tl K ⟨ts l.length, h, n⟩ := by
  intro l
  induction l with
  | nil => intro t _ hk; exact ⟨fun _ => .undef, fun _ => t, rfl, fun i o h => by simp at h, hk⟩
  | cons o l ih =>
    intro t he hk
    have h0 := he o (by simp)
    simp only [List.cons_append, awpD, h0, if_true] at hk
    obtain ⟨v, h1, h2⟩ := gdv_of_gd (K := awpD E ops (l ++ tl) K) hk
    have h3 : putS o.dst v ⟨t, h, n⟩ = ⟨(putS o.dst v ⟨t, h, n⟩).t, h, n⟩ := by cases o.dst <;> rfl
    rw [h3] at h2
    obtain ⟨vs, ts, g1, g2, g3⟩ := ih _ (fun o ho => he o (by simp [ho])) h2
    refine ⟨fun i => match i with | 0 => v | i + 1 => vs i, fun i => match i with | 0 => t | i + 1 => ts i, rfl, fun i o' hi => ?_, g3⟩
    cases i with
    | zero => simp at hi; subst hi; exact ⟨h1, by simp only [Nat.zero_add]; rw [g1]⟩
    | succ i => exact g2 i o' (by simpa using hi)

theorem countP_flip {f g : Nat → Bool} {i : Nat} (hf : f i = true) (hg : g i = false) (hne : ∀ j, j ≠ i → g j = f j) : ∀ m, i < m → (List.range m).countP g + 1 = (List.range m).countP f
  | 0, h => absurd h (Nat.not_lt_zero _)
  | m + 1, h => by
    rw [List.range_succ, List.countP_append, List.countP_append]
    by_cases hm : i = m
    · subst hm
      have : (List.range i).countP g = (List.range i).countP f := List.countP_congr fun j hj => by
        rw [hne j (by have := List.mem_range.1 hj; omega)]
      simp [this, hf, hg]
    · have := countP_flip hf hg hne m (by omega)
      have h2 : [m].countP g = [m].countP f := by simp [hne m (fun e => hm e.symm)]
      omega
theorem gd_of_want {ops : Array Oper} {o : Oper} {t : Nat → V} {h : Hp} {n : Nat} {b : Bool} (hw : wantA ops o t b) : gd ops o ⟨t, h, n⟩ (b = true) (b = false) := by
  unfold wantA at hw
  unfold gd
  split at hw
  · rename_i hg; first | exact hw | (simp only [hg]; exact hw)
  · rename_i j want hg
    obtain ⟨d, hd, hw⟩ := hw
    try simp only [hg]
    try simp only [hd]
    rcases hw with ⟨q, hq, rfl⟩ | ⟨hq, rfl⟩
    · simp only [hq]
      exact ⟨fun e => by simp [e], fun e => by simpa using e⟩
    · simp only [hq]
/-- The head, in whatever order. -/
theorem head_sound (hE : EnvOk E) (hc : c.P = E.P) (hΦ : FvOk c E.Φ) {ops : Array Oper} (hok : drawOk ops = true) (hd : ∀ o ∈ ops.toList, dstOk E.nt o = true) {Q : Exit → Act → World → Prop} {K : St → Prop} (hQ : ∀ σ μ a w, K σ → Sim ps E c σ μ a w → Q .normal a w)
    {t0 : Nat → V} {h : Hp} {n : Nat} {μ : Mu} {vs : Nat → V} {ts : Nat → Nat → V} (hN : quietN ops ≤ ops.size) (hts0 : ts 0 = t0)
    (hvs : ∀ i o, i < quietN ops → ops[i]? = some o → gdv E ops o (ts i) h (vs i) ∧ ts (i + 1) = (putS o.dst (vs i) ⟨ts i, h, n⟩).t)
    (hK : awpOps E ops (ops.toList.drop (quietN ops)) K ⟨ts (quietN ops), h, n⟩) :
    ∀ (u : Nat) (listed : Array Bool) {a : Act} {w : World}, ((List.range (quietN ops)).countP fun i => !listed.getD i true) = u → listed.size = ops.size → (∀ j, quietN ops ≤ j → j < ops.size → listed.getD j true = false) →
      (∀ (i : Nat) (o : Oper), listed.getD i false = true → ops[i]? = some o → ∀ e ∈ o.after, Region.binds .any e = true → listed.getD e.on false = true) →
      (∃ t, Agree ops vs (quietN ops) (fun i => listed.getD i true = true) t0 t ∧ Sim ps E c ⟨t, h, n⟩ μ a w) → wpAny c.P .any ops Q (ops.size - quietN ops + u) listed a w := by
  -- the values in the listed order
  have hagree : ∀ i, i ≤ quietN ops → Agree ops vs (quietN ops) (fun j => j < i) t0 (ts i) := by
    intro i
    induction i with
    | zero => intro _; exact ⟨fun j o d hj hl => absurd hl (Nat.not_lt_zero _), fun d _ => by rw [hts0]⟩
    | succ i ih =>
      intro hi
      obtain ⟨a1, a2⟩ := ih (by omega)
      have hio : ops[i]? = some (ops[i]'(by omega)) := Array.getElem?_eq_getElem (by omega)
      obtain ⟨g1, g2⟩ := hvs i _ (by omega) hio
      refine ⟨fun j o d hj hl ho hdd => ?_, fun d hdd => ?_⟩
      · rw [g2]
        by_cases hji : j = i
        · subst hji
          rw [hio] at ho
          cases ho
          rw [hdd]
          exact upd_same _ _ _
        · have hne : (ops[i]'(by omega)).dst ≠ some d := by
            have := ((drawOk_at hok hio).2.1 (by omega) j o d hj ho hdd).2
            rcases this with h5 | h5
            · exact absurd h5 hji
            · exact h5
          cases hdi : (ops[i]'(by omega)).dst with
          | none => simp only [putS]; exact a1 j o d hj (by omega) ho hdd
          | some d' =>
            simp only [putS]
            rw [upd_ne _ _ _ _ (by rw [hdi] at hne; intro e; subst e; exact hne rfl)]
            exact a1 j o d hj (by omega) ho hdd
      · rw [g2]
        have hne : (ops[i]'(by omega)).dst ≠ some d := hdd i _ (by omega) (by omega) hio
        cases hdi : (ops[i]'(by omega)).dst with
        | none => simp only [putS]; exact a2 d fun j o hj hl => hdd j o hj (by omega)
        | some d' =>
          simp only [putS]
          rw [upd_ne _ _ _ _ (by rw [hdi] at hne; intro e; subst e; exact hne rfl)]
          exact a2 d fun j o hj hl => hdd j o hj (by omega)
  intro u
  induction u with
  | zero =>
    intro listed a w hu hls htl hcl hS
    obtain ⟨t, hA, S⟩ := hS
    have hall : ∀ j, j < quietN ops → listed.getD j true = true := by
      intro j hj
      have := List.countP_eq_zero.1 hu j (by simpa using hj)
      simpa using this
    have hte : t = ts (quietN ops) := by
      funext d
      obtain ⟨b1, b2⟩ := hagree (quietN ops) (Nat.le_refl _)
      by_cases hex : ∃ i o, i < quietN ops ∧ ops[i]? = some o ∧ o.dst = some d
      · obtain ⟨i, o, hi, ho, hdd⟩ := hex
        rw [hA.1 i o d hi (hall i hi) ho hdd, b1 i o d hi hi ho hdd]
      · rw [hA.2 d fun i o hi _ ho hdd => hex ⟨i, o, hi, ho, hdd⟩, b2 d fun i o hi _ ho hdd => hex ⟨i, o, hi, ho, hdd⟩]
    subst hte
    exact tail_sound hE hc hΦ hok hd hQ _ (quietN ops) listed rfl hN (Nat.le_refl _) hls (fun j hj => ⟨fun hl => (by
      rcases Nat.lt_or_ge j (quietN ops) with h1 | h1
      · exact h1
      · rw [htl j h1 hj] at hl; cases hl), fun hl => hall j hl⟩) hK S
  | succ u ih =>
    intro listed a w hu hls htl hcl hS
    obtain ⟨t, hA, S⟩ := hS
    -- there is one that isn't listed, the first of them is ready
    obtain ⟨m, hm1, hm2, hm3⟩ : ∃ m, m < quietN ops ∧ listed.getD m true = false ∧ ∀ j, j < m → listed.getD j true = true := by
      have hex : ∃ m, m < quietN ops ∧ listed.getD m true = false := by
        have : 0 < (List.range (quietN ops)).countP fun i => !listed.getD i true := by omega
        obtain ⟨m, h1, h2⟩ := List.countP_pos_iff.1 this
        exact ⟨m, by simpa using h1, by simpa using h2⟩
      have key : ∀ k, (∃ m, m < k ∧ m < quietN ops ∧ listed.getD m true = false) → ∃ m, m < quietN ops ∧ listed.getD m true = false ∧ ∀ j, j < m → listed.getD j true = true := by
        intro k
        induction k with
        | zero => rintro ⟨m, h, _⟩; omega
        | succ k ihk =>
          rintro ⟨m, h1, h2, h3⟩
          by_cases hb : ∃ m, m < k ∧ m < quietN ops ∧ listed.getD m true = false
          · exact ihk hb
          · refine ⟨m, h2, h3, fun j hj => ?_⟩
            cases hq : listed.getD j true with
            | true => rfl
            | false => exact absurd ⟨j, by omega, by omega, hq⟩ hb
      obtain ⟨m, h1, h2⟩ := hex
      exact key (m + 1) ⟨m, by omega, h1, h2⟩
    have hmo : ops[m]? = some (ops[m]'(by omega)) := Array.getElem?_eq_getElem (by omega)
    have hmr : m ∈ Region.ready .any ops listed := mem_ready.2 ⟨hm2, _, hmo, fun e he hb => by
      have h1 := (drawOk_at hok hmo).1 e he hb
      have h2 := hm3 _ h1
      have h3 : e.on < listed.size := by omega
      simp [h3] at h2 ⊢
      exact h2⟩
    refine ⟨fun h0 => (by rw [h0] at hmr; cases hmr), fun i hi => ?_⟩
    obtain ⟨hiu, o, hio, _⟩ := mem_ready.1 hi
    have hilt : i < ops.size := (Array.getElem?_eq_some_iff.1 hio).1
    have hiq : i < quietN ops := by
      rcases Nat.lt_or_ge i (quietN ops) with h1 | h1
      · exact h1
      · have h4 : listed.getD m false = true := reach_listed hcl ((drawOk_at hok hio).2.2 h1 m (by omega)) (fun o' ho' => by
          obtain ⟨_, o2, ho2, h5⟩ := mem_ready.1 hi
          rw [ho'] at ho2
          cases ho2
          exact h5)
        have hms : m < listed.size := by omega
        simp [hms] at h4 hm2
        rw [h4] at hm2
        cases hm2
    have hdo : ∀ d, o.dst = some d → d < E.nt := by
      intro d hd'
      have := hd o (by rw [Array.getElem?_eq_some_iff] at hio; obtain ⟨_, rfl⟩ := hio; simp)
      simp [dstOk, hd'] at this
      exact this
    -- it looks at what it looks at in the listed order
    have hlook : ∀ d ∈ o.looksAt ops, ts i d = t d := by
      intro d hdl
      obtain ⟨b1, b2⟩ := hagree i (by omega)
      by_cases hex : ∃ j oj, j < quietN ops ∧ ops[j]? = some oj ∧ oj.dst = some d
      · obtain ⟨j, oj, hj, hoj, hdd⟩ := hex
        obtain ⟨h1, h2⟩ := ((drawOk_at hok hio).2.1 hiq j oj d hj hoj hdd).1 hdl
        have h3 := ready_waits hi hio h2
        have hjs : j < listed.size := by omega
        rw [b1 j oj d hj h1 hoj hdd, hA.1 j oj d hj (by simp [hjs] at h3 ⊢; exact h3) hoj hdd]
      · rw [b2 d fun j oj hj _ hoj hdd => hex ⟨j, oj, hj, hoj, hdd⟩, hA.2 d fun j oj hj _ hoj hdd => hex ⟨j, oj, hj, hoj, hdd⟩]
    obtain ⟨b, k1, k2, k3⟩ := gdv_congr hlook (hvs i o hiq hio).1
    have hset : (listed.setIfInBounds i true).getD i true = true := by
      have : i < listed.size := by omega
      simp [this]
    have hcount : ((List.range (quietN ops)).countP fun j => !(listed.setIfInBounds i true).getD j true) = u := by
      have := countP_flip (f := fun j => !listed.getD j true) (g := fun j => !(listed.setIfInBounds i true).getD j true) (i := i) (by simp only [hiu]; rfl) (by simp only [hset]; rfl) (fun j hj => by simp only [getD_set_ne true (fun e => hj e.symm)]) (quietN ops) hiq
      omega
    have htl' : ∀ j, quietN ops ≤ j → j < ops.size → (listed.setIfInBounds i true).getD j true = false := fun j h1 h2 => by
      rw [getD_set_ne true (by omega)]; exact htl j h1 h2
    have hcl' : ∀ (j : Nat) (oj : Oper), (listed.setIfInBounds i true).getD j false = true → ops[j]? = some oj → ∀ e ∈ oj.after, Region.binds .any e = true → (listed.setIfInBounds i true).getD e.on false = true := by
      have hmono : ∀ k, listed.getD k false = true → (listed.setIfInBounds i true).getD k false = true := by
        intro k hk
        by_cases hki : k = i
        · subst hki
          have : k < listed.size := by omega
          simp [this]
        · rw [getD_set_ne false (fun e => hki e.symm)]; exact hk
      intro j oj hl hoj e he hb
      by_cases hji : j = i
      · subst hji
        obtain ⟨_, o2, ho2, h5⟩ := mem_ready.1 hi
        rw [hoj] at ho2
        cases ho2
        exact hmono _ (h5 e he hb)
      · rw [getD_set_ne false (fun e => hji e.symm)] at hl
        exact hmono _ (hcl j oj hl hoj e he hb)
    have hA' : Agree ops vs (quietN ops) (fun j => (listed.setIfInBounds i true).getD j true = true) t0 (putS o.dst (vs i) ⟨t, h, n⟩).t := by
      refine ⟨fun j oj d hj hl hoj hdd => ?_, fun d hdd => ?_⟩
      · have hl : (listed.setIfInBounds i true).getD j true = true := hl
        by_cases hji : j = i
        · subst hji
          rw [hio] at hoj
          cases hoj
          rw [hdd]
          exact upd_same _ _ _
        · have hne : o.dst ≠ some d := by
            rcases ((drawOk_at hok hio).2.1 hiq j oj d hj hoj hdd).2 with h5 | h5
            · exact absurd h5 hji
            · exact h5
          have hlj : listed.getD j true = true := by rw [getD_set_ne true (fun e => hji e.symm)] at hl; exact hl
          cases hdi : o.dst with
          | none => simp only [putS]; exact hA.1 j oj d hj hlj hoj hdd
          | some d' =>
            simp only [putS]
            rw [upd_ne _ _ _ _ (by rw [hdi] at hne; intro e; subst e; exact hne rfl)]
            exact hA.1 j oj d hj hlj hoj hdd
      · have hne : o.dst ≠ some d := hdd i o hiq hset hio
        have hold : ∀ j oj, j < quietN ops → listed.getD j true = true → ops[j]? = some oj → oj.dst ≠ some d := by
          intro j oj hj hl hoj
          by_cases hji : j = i
          · subst hji; rw [hiu] at hl; cases hl
          · exact hdd j oj hj (by show (listed.setIfInBounds i true).getD j true = true; rw [getD_set_ne true (fun e => hji e.symm)]; exact hl) hoj
        cases hdi : o.dst with
        | none => simp only [putS]; exact hA.2 d hold
        | some d' =>
          simp only [putS]
          rw [upd_ne _ _ _ _ (by rw [hdi] at hne; intro e; subst e; exact hne rfl)]
          exact hA.2 d hold
    have hput : putS o.dst (vs i) ⟨t, h, n⟩ = ⟨(putS o.dst (vs i) ⟨t, h, n⟩).t, h, n⟩ := by cases o.dst <;> rfl
    unfold wpOp
    rw [hio]
    simp only
    rw [Nat.add_succ, Nat.succ_eq_add_one] at *
    rcases gd_wanted ops (n := n) S.tm (gd_of_want k1) with ⟨h1, h2⟩ | ⟨h1, h2⟩
    · rw [if_pos h1]
      refine .inl (q_sound hE hc hΦ S.hs S.tm (k2 h2) ?_)
      intro x w' g2 g3 g4
      refine ih _ hcount (by simp [hls]) htl' hcl' ⟨_, hA', ?_⟩
      rw [← hput]
      exact S.put g2 g3 g4 hdo
    · rw [if_neg (by simp [h1])]
      refine ih _ hcount (by simp [hls]) htl' hcl' ⟨_, hA', ?_⟩
      rw [← hput, k3 h2]
      exact S.put S.hs (Ext.refl _ _ _ _) .undef hdo
end
end Go.Proofs.Ytahgddfnbjpfiaa.Am

/- An abstract machine over values: a region whose order is open, its quiet operations among the others. -/
set_option linter.unusedVariables false
set_option linter.unusedSimpArgs false
namespace Go.Proofs.Ytahgddfnbjpfiaa.Am
open Go Go.RowKit

theorem bool_tf {b : Bool} (h1 : b = true) (h2 : b = false) : False := by rw [h1] at h2; cases h2
/-- A heap that holds what another one holds. -/
def HLe (h h' : Hp) : Prop := ∀ b B, h b = some B → h' b = some B
section
variable {P : Program} {h h' : Hp} (hle : HLe h h')
include hle
theorem rowsOf_le {v : V} {r : List (List V)} (hq : rowsOf h v = some r) : rowsOf h' v = some r := by
  cases v with
  | loc b off len cap =>
    cases hb : h b with
    | none => simp only [rowsOf, hb] at hq; cases hq
    | some B => rw [← hq]; simp only [rowsOf, hb, hle _ _ hb]
  | _ => exact hq
theorem aload_le {T : TypeId} {p v : V} (hq : aload P h T p = some v) : aload P h' T p = some v := by
  cases p with
  | ptr b r k =>
    cases hb : h b with
    | none => unfold aload at hq; simp only [hb] at hq; split at hq <;> cases hq
    | some B => rw [← hq]; unfold aload; simp only [hb, hle _ _ hb]
  | _ => exact hq
theorem aindexAddr_le {T : TypeId} {p i v : V} (hq : aindexAddr P h T p i = some v) : aindexAddr P h' T p i = some v := by
  cases p with
  | loc b off len cap =>
    cases hb : h b with
    | none =>
      unfold aindexAddr at hq
      simp only [hb] at hq
      split at hq
      · cases hq
      · split at hq <;> cases hq
      · cases hq
    | some B => rw [← hq]; unfold aindexAddr; simp only [hb, hle _ _ hb]
  | _ => exact hq
theorem aslice_le {T : TypeId} {x v : V} {lo hi mx : Option V} (hq : aslice P h T x lo hi mx = some v) : aslice P h' T x lo hi mx = some v := by
  unfold aslice at hq ⊢
  generalize seqo P T = sq at hq ⊢
  cases x with
  | loc b off len cap =>
    cases hb : h b with
    | none =>
      cases sq <;> (try simp only [hb] at hq) <;> first | (cases hq; done) | (split at hq <;> cases hq)
    | some B => cases sq <;> (try simp only [hb] at hq) <;> (try simp only [hle _ _ hb]) <;> exact hq
  | s q => cases sq <;> cases mx <;> first | exact hq | (cases q <;> exact hq)
  | _ => cases sq <;> cases mx <;> exact hq
theorem aconv_le {src dst : TypeId} {x v : V} (hq : aconv P h src dst x = some v) : aconv P h' src dst x = some v := by
  unfold aconv at hq ⊢
  split at hq
  · exact hq
  · exact hq
  · split at hq
    · rename_i rows h1 h2
      simp only [h1, rowsOf_le hle h2]
      exact hq
    · cases hq
  · cases hq
theorem pval_le {plain : TypeId → Bool} {e : Operand → V} {op : Op} {v : V} (hq : pval P plain h e op = some v) : pval P plain h' e op = some v := by
  cases op with
  | load T a => exact aload_le hle hq
  | convert src dst x => exact aconv_le hle hq
  | slice T x lo hi mx => exact aslice_le hle hq
  | indexAddr T x i => exact aindexAddr_le hle hq
  | _ => exact hq
omit hle in
theorem allO_le {α β : Type} {f g : α → Option β} (hfg : ∀ a b, f a = some b → g a = some b) : ∀ {l : List α} {r : List β}, allO f l = some r → allO g l = some r
  | [], r, h => h
  | a :: l, r, h => by
    unfold allO at h ⊢
    split at h
    · rename_i b r' h1 h2
      rw [hfg _ _ h1, allO_le hfg h2]
      exact h
    · cases h
theorem expo_le : ∀ (d : Nat) {v r : V}, expo h d v = some r → expo h' d v = some r
  | 0, v, r, hq => by cases v <;> exact hq
  | d + 1, v, r, hq => by
    cases v with
    | loc b off len cap =>
      simp only [expo] at hq ⊢
      split at hq
      · rename_i rows hr
        rw [rowsOf_le hle hr]
        simp only [Option.map_eq_some_iff] at hq ⊢
        obtain ⟨a, h1, h2⟩ := hq
        exact ⟨a, allO_le (fun _ _ hh => allO_le (fun _ _ h3 => expo_le d h3) hh) h1, h2⟩
      · cases hq
    | _ => exact hq
theorem expoA_le {v r : V} (hq : expoA h v = some r) : expoA h' v = some r := by
  cases v with
  | agg cs =>
    simp only [expoA, Option.map_eq_some_iff] at hq ⊢
    obtain ⟨a, h1, h2⟩ := hq
    exact ⟨a, allO_le (fun _ _ hh => expo_le hle 2 hh) h1, h2⟩
  | ptr b r k =>
    simp only [expoA] at hq ⊢
    split at hq
    · rename_i B hB
      rw [hle _ _ hB]
      simp only
      split at hq
      · rename_i hlt
        rw [if_pos hlt]
        simp only [Option.map_eq_some_iff] at hq ⊢
        obtain ⟨a, h1, h2⟩ := hq
        exact ⟨a, allO_le (fun _ _ hh => expo_le hle 2 hh) h1, h2⟩
      · cases hq
    · cases hq
  | pc cs => exact hq
  | _ => simp only [expoA] at hq ⊢; exact expo_le hle 2 hq
theorem expArg_le {i : Nat} {v r : V} (hq : expArg h i v = some r) : expArg h' i v = some r := by
  cases v <;> simp only [expArg] at hq ⊢ <;> first | exact hq | exact expoA_le hle hq
theorem expArgs_le : ∀ {l : List V} {i : Nat} {r : List V}, expArgs h i l = some r → expArgs h' i l = some r
  | [], i, r, hq => hq
  | a :: l, i, r, hq => by
    unfold expArgs at hq ⊢
    split at hq
    · rename_i d r' h1 h2
      rw [expArg_le hle h1, expArgs_le h2]
      exact hq
    · cases hq
omit hle in
theorem touch_nil {v : V} (hq : touch h 2 v = []) : touch h' 2 v = [] := by
  cases v with
  | loc b off len cap => simp only [touch] at hq; cases hq
  | _ => rfl
omit hle in
theorem touchA_nil {v : V} (hq : touchA h v = []) : touchA h' v = [] := by
  cases v with
  | agg cs =>
    simp only [touchA, List.flatMap_eq_nil_iff] at hq ⊢
    exact fun x hx => touch_nil (hq x hx)
  | ptr b r k => simp only [touchA] at hq; cases hq
  | _ => simp only [touchA] at hq ⊢; exact touch_nil hq
end

def noFn : V → Bool
  | .fn _ _ => false
  | _ => true
def fnFree (op : Op) (e : Operand → V) : Bool := match op with
  | .call cl => (cl.args.toList.map e).all noFn && (match cl.callee with
    | .value f => match e f with
      | .fn _ caps => caps.all noFn
      | _ => true
    | _ => true)
  | _ => true
theorem fnFree_congr {op : Op} {e e' : Operand → V} (he : ∀ x ∈ op.operands, e x = e' x) (hq : fnFree op e = true) : fnFree op e' = true := by
  cases op <;> try exact hq
  case call cl =>
    obtain ⟨callee, args, argTypes⟩ := cl
    have h1 : args.toList.map e = args.toList.map e' := List.map_congr_left fun x hx => he x (by simp [Op.operands, Call.operands]; exact .inr (by simpa using hx))
    simp only [fnFree] at hq ⊢
    rw [← h1]
    cases callee with
    | value f =>
      have h2 : e f = e' f := he f (by simp [Op.operands, Call.operands])
      simp only at hq ⊢
      rw [← h2]
      exact hq
    | builtin b => exact hq
    | invoke r m => exact hq
theorem phi_le {E : Env} {h h' : Hp} {args : List V} (ha : args.all noFn = true) : phi E h args = phi E h' args := by
  funext i
  unfold phi
  split
  · rename_i g caps hk
    rw [List.all_eq_true] at ha
    have := ha _ (List.mem_of_getElem? hk)
    cases this
  · rfl
  · rfl
theorem qv_le {E : Env} {op : Op} {e : Operand → V} {h h' : Hp} {v : V} (hle : HLe h h') (hf : fnFree op e = true) (hq : qv E op e h v) : qv E op e h' v := by
  cases op <;> try exact pval_le hle hq
  case call cl =>
    obtain ⟨callee, args, argTypes⟩ := cl
    simp only [qv, qcl] at hq ⊢
    cases callee with
    | value f =>
      simp only [fnFree, Bool.and_eq_true] at hf hq ⊢
      split at hq
      · rename_i g caps hg
        rw [hg] at hf
        have hall : (args.toList.map e ++ caps).all noFn = true := by rw [List.all_append, hf.1]; exact hf.2
        unfold qcall at hq ⊢
        split at hq
        · rename_i F ds hF hds
          rw [hF, expArgs_le hle hds]
          obtain ⟨r, h1, h2⟩ := hq
          refine ⟨r, by rw [← phi_le (h := h) hall]; exact h1, ?_⟩
          rcases h2 with h2 | ⟨h2, h3⟩
          · exact .inl h2
          · refine .inr ⟨?_, h3⟩
            rw [List.flatMap_eq_nil_iff] at h2 ⊢
            exact fun x hx => touchA_nil (h2 x hx)
        · exact hq.elim
      · rename_i k hk
        unfold qfv at hq ⊢
        split at hq
        · rename_i S ds hS hds
          rw [hS, allO_le (fun _ _ hh => expoA_le hle hh) hds]
          exact hq
        · exact hq.elim
      · exact hq.elim
    | builtin b => cases b <;> first | exact pval_le hle hq | exact hq
    | invoke r m => exact hq

def qvX (E : Env) (op : Op) (e : Operand → V) (h : Hp) (v : V) : Prop := qv E op e h v ∧ fnFree op e = true
def gdvX (E : Env) (ops : Array Oper) (o : Oper) (t : Nat → V) (h : Hp) (v : V) : Prop :=
  ∃ b, wantA ops o t b ∧ (b = true → qvX E o.op (ev t) h v) ∧ (b = false → v = .undef)
theorem wantA_congr {ops : Array Oper} {o : Oper} {t t' : Nat → V} {b : Bool} (he : ∀ d ∈ o.looksAt ops, t d = t' d) (h1 : wantA ops o t b) : wantA ops o t' b := by
  unfold wantA at h1 ⊢
  split at h1
  · exact h1
  · rename_i j want hg
    obtain ⟨d, hd, h4⟩ := h1
    refine ⟨d, hd, ?_⟩
    rw [← he d (by simp [Oper.looksAt, hg, hd])]
    exact h4
theorem ev_looks {ops : Array Oper} {o : Oper} {t t' : Nat → V} (he : ∀ d ∈ o.looksAt ops, t d = t' d) : ∀ x ∈ o.op.operands, ev t x = ev t' x := by
  intro x hx
  cases x with
  | tmp d => exact he d (by simp only [Oper.looksAt, List.mem_append, List.mem_filterMap]; exact .inl ⟨_, by simpa using hx, rfl⟩)
  | const v => rfl
  | global g => rfl
  | func f => rfl
theorem gdvX_congr {E : Env} {ops : Array Oper} {o : Oper} {t t' : Nat → V} {h : Hp} {v : V} (he : ∀ d ∈ o.looksAt ops, t d = t' d) (hg : gdvX E ops o t h v) : gdvX E ops o t' h v := by
  obtain ⟨b, h1, h2, h3⟩ := hg
  exact ⟨b, wantA_congr he h1, fun hb => ⟨qv_congr (ev_looks he) (h2 hb).1, fnFree_congr (ev_looks he) (h2 hb).2⟩, h3⟩
theorem gdvX_of_gd {E : Env} {ops : Array Oper} {o : Oper} {σ : St} {K : St → Prop} (hg : gd ops o σ (∃ v, qvX E o.op (ev σ.t) σ.h v ∧ K (putS o.dst v σ)) (K (putS o.dst .undef σ))) : ∃ v, gdvX E ops o σ.t σ.h v ∧ K (putS o.dst v σ) := by
  unfold gd at hg
  split at hg
  · rename_i hgu
    obtain ⟨v, h1, h2⟩ := hg
    exact ⟨v, ⟨true, by simp [wantA, hgu], fun _ => h1, (fun h => by cases h)⟩, h2⟩
  · rename_i j want hgu
    split at hg
    · rename_i d hd
      split at hg
      · rename_i q hq
        by_cases hqw : q = want
        · obtain ⟨v, h1, h2⟩ := hg.1 hqw
          exact ⟨v, ⟨true, (by simp only [wantA, hgu]; exact ⟨d, hd, .inl ⟨q, hq, by simp [hqw]⟩⟩), fun _ => h1, (fun h => by cases h)⟩, h2⟩
        · exact ⟨.undef, ⟨false, (by simp only [wantA, hgu]; exact ⟨d, hd, .inl ⟨q, hq, by simp [hqw]⟩⟩), (fun h => by cases h), fun _ => rfl⟩, hg.2 hqw⟩
      · rename_i hq
        exact ⟨.undef, ⟨false, (by simp only [wantA, hgu]; exact ⟨d, hd, .inr ⟨hq, trivial⟩⟩), (fun h => by cases h), fun _ => rfl⟩, hg⟩
      · exact hg.elim
    · exact hg.elim
theorem gd_congr {ops : Array Oper} {o : Oper} {t t' : Nat → V} {h : Hp} {n : Nat} {r s : Prop} (he : ∀ d ∈ o.looksAt ops, t d = t' d) (hg : gd ops o ⟨t, h, n⟩ r s) : gd ops o ⟨t', h, n⟩ r s := by
  unfold gd at hg ⊢
  split at hg
  · exact hg
  · rename_i j want hgu
    split at hg
    · rename_i d hd
      simp only at hg ⊢
      rw [← he d (by simp [Oper.looksAt, hgu, hd])]
      exact hg
    · exact hg.elim
def effOk : Op → Bool
  | .assign _ | .convert .. | .binOp .. | .move _ => true
  | op => eff op
theorem aop_congr {E : Env} {op : Op} {t t' : Nat → V} {h : Hp} {n : Nat} {K : V → St → Prop} (hf : effOk op = true) (he : ∀ x ∈ op.operands, ev t x = ev t' x) (hk : aop E op ⟨t, h, n⟩ K) : aop E op ⟨t', h, n⟩ (fun v σ => K v ⟨t, σ.h, σ.n⟩) := by
  cases op <;> try (cases hf; done)
  case store T a x =>
    simp only [aop] at hk ⊢
    rw [← he a (by simp [Op.operands]), ← he x (by simp [Op.operands])]
    exact hk
  case assign x =>
    simp only [aop, pval] at hk ⊢
    rw [← he x (by simp [Op.operands])]
    exact hk
  case move x =>
    simp only [aop, pval] at hk ⊢
    rw [← he x (by simp [Op.operands])]
    exact hk
  case convert S T x =>
    simp only [aop, pval] at hk ⊢
    rw [← he x (by simp [Op.operands])]
    exact hk
  case binOp b T x y p =>
    have h1 : ev t x = ev t' x := he x (by simp [Op.operands])
    have h2 : ev t y = ev t' y := he y (by simp [Op.operands])
    have key : (∃ v, pval E.P E.plain h (ev t) (.binOp b T x y p) = some v ∧ K v ⟨t, h, n⟩) → ∃ v, pval E.P E.plain h (ev t') (.binOp b T x y p) = some v ∧ K v ⟨t, h, n⟩ := by
      rintro ⟨v, hv, hK⟩
      refine ⟨v, ?_, hK⟩
      simp only [pval] at hv ⊢
      rw [← h1, ← h2]
      exact hv
    cases y with
    | const v =>
      cases v with
      | slice A q r =>
        cases A with
        | none =>
          simp only [aop, anil] at hk ⊢
          rw [← h1]
          exact hk
        | some a => exact key hk
      | _ => exact key hk
    | _ => exact key hk
  case alloc T => exact hk
  case box T x =>
    simp only [aop] at hk ⊢
    rw [← he x (by simp [Op.operands])]
    exact hk
  case buildSlice T len parts =>
    simp only [aop, abuildSlice] at hk ⊢
    have h1 : (parts.toList.map fun q => (q.1, ev t q.2)) = parts.toList.map fun q => (q.1, ev t' q.2) := List.map_congr_left fun q hq => by rw [he q.2 (by simp [Op.operands]; exact ⟨q.1, by simpa using hq⟩)]
    rw [← h1]
    exact hk
  case makeSlice T l k =>
    simp only [aop] at hk ⊢
    rw [← he l (by simp [Op.operands]), ← he k (by simp [Op.operands])]
    exact hk
  case call cl =>
    obtain ⟨callee, args, argTypes⟩ := cl
    simp only [aop, acl] at hk ⊢
    have hmem : ∀ x ∈ args.toList, ev t x = ev t' x := fun x hx => he x (by simp [Op.operands, Call.operands]; exact .inr (by simpa using hx))
    cases callee with
    | value f => simp [effOk, eff] at hf
    | invoke r m => exact hk
    | builtin b =>
      generalize args.toList = al at hk hmem
      generalize argTypes.toList = tl at hk
      cases b <;> first | (simp [effOk, eff] at hf; done) | skip
      all_goals
        simp only at hk ⊢
        split at hk
        · rename_i s x T U
          try simp only
          rw [← hmem s (by simp), ← hmem x (by simp)]
          exact hk
        · exact hk.elim

/-- Quiet, and so is whatever it reads. -/
def quietF : Nat → Array Oper → Oper → Bool
  | 0, ops, o => quiet ops o
  | k + 1, ops, o => quiet ops o && ops.toList.all fun o' => (match o'.op, o'.dst with
    | .assign _, _ => true
    | _, some d => !(o.op.operands.any fun x => match x with
      | .tmp q => q == d
      | _ => false)
    | _, none => true) || quietF k ops o'
def quietX (ops : Array Oper) (o : Oper) : Bool := quietF 4 ops o
theorem quietX_quiet {ops : Array Oper} {o : Oper} (h : quietX ops o = true) : quiet ops o = true := by
  simp only [quietX, quietF, Bool.and_eq_true] at h
  exact h.1
/-- Quiet operations first, in their listed order. -/
def awpX1 (E : Env) (ops : Array Oper) : List Oper → (St → Prop) → St → Prop
  | [], K, σ => K σ
  | o :: rest, K, σ => if quietX ops o then gd ops o σ (∃ v, qvX E o.op (ev σ.t) σ.h v ∧ awpX1 E ops rest K (putS o.dst v σ)) (awpX1 E ops rest K (putS o.dst .undef σ)) else awpX1 E ops rest K σ
def reach (ops : Array Oper) (i j : Nat) : Bool := ((masks ops.toList []).getD i 0).testBit j
/-- Does an operation wait for all quiet ones? -/
def allQ (ops : Array Oper) (i : Nat) : Bool := (List.range ops.size).all fun j => match ops[j]? with
  | some o => !quietX ops o || reach ops i j
  | none => true
/-- The others, in theirs: one that doesn't wait for all quiet ones leaves the blocks alone that were there. -/
def awpX2 (E : Env) (ops : Array Oper) (h0 : Hp) (Kb : Nat → Prop) : Nat → List Oper → (St → Prop) → St → Prop
  | _, [], K, σ => K σ
  | i, o :: rest, K, σ => if quietX ops o then awpX2 E ops h0 Kb (i + 1) rest K σ
      else gd ops o σ (aop E o.op σ fun v σ' => (allQ ops i = true ∨ ∀ b, Kb b → σ'.h b = h0 b) ∧ awpX2 E ops h0 Kb (i + 1) rest K (putS o.dst v σ')) (awpX2 E ops h0 Kb (i + 1) rest K (putS o.dst .undef σ))
/-- 'Kb': the blocks that the quiet ones may read (all, unless a store to another block comes among them). -/
def awpX (E : Env) (ops : Array Oper) (K : St → Prop) (σ : St) : Prop := ∃ (Kb : Nat → Prop) (hq : Hp), (∀ b B, hq b = some B → (Kb b ∨ σ.n ≤ b) ∧ σ.h b = some B) ∧ awpX1 E ops ops.toList (fun σ1 => awpX2 E ops σ.h Kb 0 ops.toList K ⟨σ1.t, σ.h, σ.n⟩) ⟨σ.t, hq, σ.n⟩

def pairX (ops : Array Oper) (i : Nat) (oi : Oper) (j : Nat) (oj : Oper) : Bool :=
  match quietX ops oi, quietX ops oj with
  | true, true => match oj.dst with
    | some d => (!(oi.looksAt ops).contains d || (decide (j < i) && waits oi j)) && (j == i || oi.dst != some d)
    | none => true
  | true, false => match oj.dst with
    | some d => (!(oi.looksAt ops).contains d || reach ops j i) && oi.dst != some d
    | none => true
  | false, true => match oj.dst with
    | some d => !(oi.looksAt ops).contains d || reach ops i j
    | none => true
  | false, false => !decide (j < i) || reach ops i j
def drawX (ops : Array Oper) : Bool :=
  (List.range ops.size).all fun i => match ops[i]? with
    | none => false
    | some o => (o.after.all fun e => !Region.binds .any e || decide (e.on < i)) && (quietX ops o || effOk o.op) && (List.range ops.size).all fun j => match ops[j]? with
      | some oj => pairX ops i o j oj
      | none => true
theorem reach_of {ops : Array Oper} {i j : Nat} (h : reach ops i j = true) : Reach ops i j :=
  masks_reach ops.toList [] (fun k o hk => by simpa using hk) (fun k j h => by simp at h) i j h
theorem drawX_at {ops : Array Oper} (h : drawX ops = true) {i : Nat} {o : Oper} (hi : ops[i]? = some o) : (∀ e ∈ o.after, Region.binds .any e = true → e.on < i) ∧ (quietX ops o = true ∨ effOk o.op = true) ∧ ∀ j oj, ops[j]? = some oj → pairX ops i o j oj = true := by
  have hlt : i < ops.size := (Array.getElem?_eq_some_iff.1 hi).1
  unfold drawX at h
  rw [List.all_eq_true] at h
  have h1 := h i (by simpa using hlt)
  rw [hi] at h1
  simp only [Bool.and_eq_true, Bool.or_eq_true, Array.all_eq_true, List.all_eq_true] at h1
  obtain ⟨⟨h2, h3⟩, h4⟩ := h1
  refine ⟨fun e he hb => ?_, h3, fun j oj hj => ?_⟩
  · obtain ⟨k, hk, rfl⟩ := Array.getElem_of_mem he
    have := h2 k hk
    simpa [hb] using this
  · have := h4 j (by simpa using (Array.getElem?_eq_some_iff.1 hj).1)
    rwa [hj] at this
theorem pair_qq {ops : Array Oper} {i j : Nat} {oi oj : Oper} {d : Tmp} (h : pairX ops i oi j oj = true) (hi : quietX ops oi = true) (hj : quietX ops oj = true) (hd : oj.dst = some d) : (d ∈ oi.looksAt ops → j < i ∧ waits oi j = true) ∧ (j = i ∨ oi.dst ≠ some d) := by
  unfold pairX at h
  simp only [hi, hj, hd, Bool.and_eq_true, Bool.or_eq_true, Bool.not_eq_true', decide_eq_true_eq] at h
  refine ⟨fun hm => ?_, ?_⟩
  · rcases h.1 with h5 | h5
    · rw [List.contains_iff_mem.2 hm] at h5; cases h5
    · exact h5
  · rcases h.2 with h5 | h5
    · exact .inl (by simpa using h5)
    · exact .inr (by simpa using h5)
theorem pair_qe {ops : Array Oper} {i j : Nat} {oi oj : Oper} {d : Tmp} (h : pairX ops i oi j oj = true) (hi : quietX ops oi = true) (hj : quietX ops oj = false) (hd : oj.dst = some d) : (d ∈ oi.looksAt ops → Reach ops j i) ∧ oi.dst ≠ some d := by
  unfold pairX at h
  simp only [hi, hj, hd, Bool.and_eq_true, Bool.or_eq_true, Bool.not_eq_true'] at h
  refine ⟨fun hm => ?_, by simpa using h.2⟩
  rcases h.1 with h5 | h5
  · rw [List.contains_iff_mem.2 hm] at h5; cases h5
  · exact reach_of h5
theorem pair_eq {ops : Array Oper} {i j : Nat} {oi oj : Oper} {d : Tmp} (h : pairX ops i oi j oj = true) (hi : quietX ops oi = false) (hj : quietX ops oj = true) (hd : oj.dst = some d) (hm : d ∈ oi.looksAt ops) : Reach ops i j := by
  unfold pairX at h
  simp only [hi, hj, hd, Bool.or_eq_true, Bool.not_eq_true'] at h
  rcases h with h5 | h5
  · rw [List.contains_iff_mem.2 hm] at h5; cases h5
  · exact reach_of h5
theorem pair_ee {ops : Array Oper} {i j : Nat} {oi oj : Oper} (h : pairX ops i oi j oj = true) (hi : quietX ops oi = false) (hj : quietX ops oj = false) (hlt : j < i) : Reach ops i j := by
  unfold pairX at h
  simp only [hi, hj, Bool.or_eq_true, Bool.not_eq_true', decide_eq_false_iff_not] at h
  rcases h with h5 | h5
  · exact absurd hlt h5
  · exact reach_of h5
theorem allQ_of {ops : Array Oper} {i : Nat} (h : allQ ops i = true) {j : Nat} {o : Oper} (hj : ops[j]? = some o) (hq : quietX ops o = true) : Reach ops i j := by
  unfold allQ at h
  rw [List.all_eq_true] at h
  have := h j (by simpa using (Array.getElem?_eq_some_iff.1 hj).1)
  rw [hj] at this
  simp only [hq, Bool.not_true, Bool.false_or] at this
  exact reach_of this

/-- The values that the quiet operations come to, in their listed order. -/
theorem headX (E : Env) (ops : Array Oper) {K : St → Prop} {h : Hp} {n : Nat} : ∀ (l : List Oper) (t : Nat → V), awpX1 E ops l K ⟨t, h, n⟩ →
    ∃ (vs : Nat → V) (ts : Nat → Nat → V), ts 0 = t ∧ (∀ i o, l[i]? = some o → (quietX ops o = true → gdvX E ops o (ts i) h (vs i) ∧ ts (i + 1) = (putS o.dst (vs i) ⟨ts i, h, n⟩).t) ∧ (quietX ops o = false → ts (i + 1) = ts i)) ∧ K ⟨ts l.length, h, n⟩ := by
  intro l
  induction l with
  | nil => intro t hk; exact ⟨fun _ => .undef, fun _ => t, rfl, fun i o h => by simp at h, hk⟩
  | cons o l ih =>
    intro t hk
    cases hq : quietX ops o with
    | true =>
      simp only [awpX1, hq, if_true] at hk
      obtain ⟨v, h1, h2⟩ := gdvX_of_gd (K := awpX1 E ops l K) hk
      have h3 : putS o.dst v ⟨t, h, n⟩ = ⟨(putS o.dst v ⟨t, h, n⟩).t, h, n⟩ := by cases o.dst <;> rfl
      rw [h3] at h2
      obtain ⟨vs, ts, g1, g2, g3⟩ := ih _ h2
      refine ⟨fun i => match i with | 0 => v | i + 1 => vs i, fun i => match i with | 0 => t | i + 1 => ts i, rfl, fun i o' hi => ?_, g3⟩
      cases i with
      | zero => simp at hi; subst hi; exact ⟨fun _ => ⟨h1, by simp only [Nat.zero_add]; rw [g1]⟩, fun h => (bool_tf hq h).elim⟩
      | succ i => exact g2 i o' (by simpa using hi)
    | false =>
      simp only [awpX1, hq, Bool.false_eq_true, if_false] at hk
      obtain ⟨vs, ts, g1, g2, g3⟩ := ih _ hk
      refine ⟨fun i => match i with | 0 => .undef | i + 1 => vs i, fun i => match i with | 0 => t | i + 1 => ts i, rfl, fun i o' hi => ?_, g3⟩
      cases i with
      | zero => simp at hi; subst hi; exact ⟨fun h => (bool_tf h hq).elim, fun _ => by simp only [Nat.zero_add]; rw [g1]⟩
      | succ i => exact g2 i o' (by simpa using hi)
theorem skipX (E : Env) (ops : Array Oper) {h0 : Hp} {Kb : Nat → Prop} {K : St → Prop} {σ : St} : ∀ (k p : Nat), (∀ j o, p ≤ j → j < p + k → ops[j]? = some o → quietX ops o = true) → p + k ≤ ops.size → awpX2 E ops h0 Kb p (ops.toList.drop p) K σ → awpX2 E ops h0 Kb (p + k) (ops.toList.drop (p + k)) K σ
  | 0, p, _, _, hk => hk
  | k + 1, p, hq, hs, hk => by
    have hlt : p < ops.size := by omega
    have hdrop : ops.toList.drop p = ops[p] :: ops.toList.drop (p + 1) := by
      rw [List.drop_eq_getElem_cons (by simpa using hlt)]
      simp
    have h1 := hq p ops[p] (Nat.le_refl _) (by omega) (Array.getElem?_eq_getElem hlt)
    rw [hdrop] at hk
    simp only [awpX2, h1, if_true] at hk
    have := skipX E ops k (p + 1) (fun j o h2 h3 => hq j o (by omega) (by omega)) (by omega) hk
    rwa [show p + (k + 1) = p + 1 + k by omega]
theorem put_t {dst : Option Tmp} {v : V} {t : Nat → V} {h : Hp} {n : Nat} (d : Nat) : (putS dst v ⟨t, h, n⟩).t d = if dst = some d then v else t d := by
  cases dst with
  | none => simp [putS]
  | some e =>
    simp only [putS]
    by_cases hd : d = e
    · subst hd; rw [upd_same, if_pos rfl]
    · rw [upd_ne _ _ _ _ hd, if_neg (fun he => hd (by cases he; rfl))]
theorem put_eq {dst : Option Tmp} {v : V} {t : Nat → V} {h : Hp} {n : Nat} : putS dst v ⟨t, h, n⟩ = ⟨(putS dst v ⟨t, h, n⟩).t, h, n⟩ := by cases dst <;> rfl
/-- Where a walk through the region stands: 't' is so far, 'tF' as if all quiet operations were done. -/
structure XAt (ops : Array Oper) (t0 vs : Nat → V) (h0 : Hp) (Kb : Nat → Prop) (listed : Array Bool) (t tF : Nat → V) (h : Hp) : Prop where
  a1 : ∀ (j : Nat) (o : Oper) (d : Nat), ops[j]? = some o → quietX ops o = true → listed.getD j true = false → o.dst = some d → t d = t0 d
  a2 : ∀ (d : Nat), (∀ (j : Nat) (o : Oper), ops[j]? = some o → quietX ops o = true → listed.getD j true = false → o.dst ≠ some d) → t d = tF d
  f1 : ∀ (j : Nat) (o : Oper) (d : Nat), ops[j]? = some o → quietX ops o = true → o.dst = some d → tF d = vs j
  f2 : ∀ (d : Nat), (∀ (j : Nat) (o : Oper), ops[j]? = some o → quietX ops o = true → o.dst ≠ some d) → (∀ (j : Nat) (o : Oper), ops[j]? = some o → quietX ops o = false → listed.getD j true = true → o.dst ≠ some d) → tF d = t0 d
  keep : (∀ (j : Nat) (o : Oper), ops[j]? = some o → quietX ops o = true → listed.getD j true = true) ∨ ∀ b, Kb b → h b = h0 b
theorem set_same {l : Array Bool} {i : Nat} (hi : i < l.size) (b : Bool) : (l.setIfInBounds i true).getD i b = true := by simp [hi]
section
variable {ps : Hp × Mu × World} {E : Env} {c : Cx}
theorem X_sound (hE : EnvOk E) (hc : c.P = E.P) (hΦ : FvOk c E.Φ) {ops : Array Oper} (hok : drawX ops = true) (hd : ∀ o ∈ ops.toList, dstOk E.nt o = true) {Q : Exit → Act → World → Prop} {K : St → Prop} (hQ : ∀ σ μ a w, K σ → Sim ps E c σ μ a w → Q .normal a w)
    {t0 vs : Nat → V} {h0 hZ : Hp} {Kb : Nat → Prop} {n0 : Nat} {ts : Nat → Nat → V} (hts0 : ts 0 = t0) (hfr : ∀ b B, hZ b = some B → Kb b ∧ h0 b = some B)
    (hvs : ∀ i o, ops[i]? = some o → (quietX ops o = true → gdvX E ops o (ts i) hZ (vs i) ∧ ts (i + 1) = (putS o.dst (vs i) ⟨ts i, hZ, n0⟩).t) ∧ (quietX ops o = false → ts (i + 1) = ts i)) :
    ∀ (u : Nat) (listed : Array Bool) (p : Nat) {t tF : Nat → V} {h : Hp} {n : Nat} {μ : Mu} {a : Act} {w : World}, ((List.range ops.size).countP fun i => !listed.getD i true) = u → listed.size = ops.size → p ≤ ops.size →
      (∀ j o, ops[j]? = some o → quietX ops o = false → (listed.getD j true = true ↔ j < p)) →
      (∀ (i : Nat) (o : Oper), listed.getD i false = true → ops[i]? = some o → ∀ e ∈ o.after, Region.binds .any e = true → listed.getD e.on false = true) →
      XAt ops t0 vs h0 Kb listed t tF h → awpX2 E ops h0 Kb p (ops.toList.drop p) K ⟨tF, h, n⟩ → Sim ps E c ⟨t, h, n⟩ μ a w → wpAny c.P .any ops Q u listed a w := by
  have hagree : ∀ i, i ≤ ops.size → (∀ j o d, j < i → ops[j]? = some o → quietX ops o = true → o.dst = some d → ts i d = vs j) ∧ ∀ d, (∀ j o, j < i → ops[j]? = some o → quietX ops o = true → o.dst ≠ some d) → ts i d = t0 d := by
    intro i
    induction i with
    | zero => intro _; exact ⟨fun j o d hj => absurd hj (Nat.not_lt_zero _), fun d _ => by rw [hts0]⟩
    | succ i ih =>
      intro hi
      obtain ⟨b1, b2⟩ := ih (by omega)
      have hio : ops[i]? = some (ops[i]'(by omega)) := Array.getElem?_eq_getElem (by omega)
      generalize (ops[i]'(by omega)) = oi at hio
      obtain ⟨g1, g2⟩ := hvs i _ hio
      cases hq : quietX ops oi with
      | true =>
        obtain ⟨_, g3⟩ := g1 hq
        refine ⟨fun j o d hj ho hqo hdd => ?_, fun d hdd => ?_⟩
        · rw [g3, put_t]
          by_cases hji : j = i
          · subst hji
            rw [hio] at ho
            cases ho
            rw [if_pos hdd]
          · have hne := (pair_qq ((drawX_at hok hio).2.2 j o ho) hq hqo hdd).2
            rw [if_neg (by rcases hne with h5 | h5; exact absurd h5 hji; exact h5)]
            exact b1 j o d (by omega) ho hqo hdd
        · rw [g3, put_t, if_neg (hdd i oi (by omega) hio hq)]
          exact b2 d fun j o hj ho hqo => hdd j o (by omega) ho hqo
      | false =>
        rw [g2 hq]
        refine ⟨fun j o d hj ho hqo hdd => ?_, fun d hdd => b2 d fun j o hj ho hqo => hdd j o (by omega) ho hqo⟩
        by_cases hji : j = i
        · subst hji
          rw [hio] at ho
          cases ho
          exact (bool_tf hqo hq).elim
        · exact b1 j o d (by omega) ho hqo hdd
  intro u
  induction u with
  | zero =>
    intro listed p t tF h n μ a w hu hls hp hiff hcl hX hK S
    have hall : ∀ j, j < ops.size → listed.getD j true = true := by
      intro j hj
      have := List.countP_eq_zero.1 hu j (by simpa using hj)
      simpa using this
    have hte : t = tF := by
      funext d
      exact hX.a2 d fun j o ho _ hl => (bool_tf (hall j (Array.getElem?_eq_some_iff.1 ho).1) hl).elim
    subst hte
    have hK2 := skipX E ops (ops.size - p) p (fun j o h1 h2 ho => by
      cases hq : quietX ops o with
      | true => rfl
      | false =>
        have := (hiff j o ho hq).1 (hall j (Array.getElem?_eq_some_iff.1 ho).1)
        omega) (by omega) hK
    have hnil : ops.toList.drop (p + (ops.size - p)) = [] := by simp; omega
    rw [hnil] at hK2
    refine ⟨?_, hQ _ μ a w hK2 S⟩
    rw [List.eq_nil_iff_forall_not_mem]
    intro i hi
    obtain ⟨h1, o, h2, _⟩ := mem_ready.1 hi
    exact bool_tf (hall i (Array.getElem?_eq_some_iff.1 h2).1) h1
  | succ u ih =>
    intro listed p t tF h n μ a w hu hls hp hiff hcl hX hK S
    obtain ⟨m, hm1, hm2, hm3⟩ : ∃ m, m < ops.size ∧ listed.getD m true = false ∧ ∀ j, j < m → listed.getD j true = true := by
      have hex : ∃ m, m < ops.size ∧ listed.getD m true = false := by
        have : 0 < (List.range ops.size).countP fun i => !listed.getD i true := by omega
        obtain ⟨m, h1, h2⟩ := List.countP_pos_iff.1 this
        exact ⟨m, by simpa using h1, by simpa using h2⟩
      have key : ∀ k, (∃ m, m < k ∧ m < ops.size ∧ listed.getD m true = false) → ∃ m, m < ops.size ∧ listed.getD m true = false ∧ ∀ j, j < m → listed.getD j true = true := by
        intro k
        induction k with
        | zero => rintro ⟨m, h, _⟩; omega
        | succ k ihk =>
          rintro ⟨m, h1, h2, h3⟩
          by_cases hb : ∃ m, m < k ∧ m < ops.size ∧ listed.getD m true = false
          · exact ihk hb
          · refine ⟨m, h2, h3, fun j hj => ?_⟩
            cases hq : listed.getD j true with
            | true => rfl
            | false => exact absurd ⟨j, by omega, by omega, hq⟩ hb
      obtain ⟨m, h1, h2⟩ := hex
      exact key (m + 1) ⟨m, by omega, h1, h2⟩
    have htf : ∀ j, j < ops.size → listed.getD j true = listed.getD j false := fun j hj => by
      have : j < listed.size := by omega
      simp [this]
    have hmo : ops[m]? = some (ops[m]'(by omega)) := Array.getElem?_eq_getElem (by omega)
    have hmr : m ∈ Region.ready .any ops listed := mem_ready.2 ⟨hm2, _, hmo, fun e he hb => by
      have h1 := (drawX_at hok hmo).1 e he hb
      rw [← htf _ (by omega)]
      exact hm3 _ h1⟩
    refine ⟨fun h0 => (by rw [h0] at hmr; cases hmr), fun i hi => ?_⟩
    obtain ⟨hiu, o, hio, hwait⟩ := mem_ready.1 hi
    have hilt : i < ops.size := (Array.getElem?_eq_some_iff.1 hio).1
    have hils : i < listed.size := by omega
    have hdo : ∀ d, o.dst = some d → d < E.nt := by
      intro d hd'
      have := hd o (by rw [Array.getElem?_eq_some_iff] at hio; obtain ⟨_, rfl⟩ := hio; simp)
      simp [dstOk, hd'] at this
      exact this
    obtain ⟨_, hef, hpair⟩ := drawX_at hok hio
    -- what i waits for is listed
    have hreach : ∀ j, j < ops.size → Reach ops i j → listed.getD j true = true := fun j hj hr => by
      rw [htf j hj]
      exact reach_listed hcl hr fun o' ho' => by rw [hio] at ho'; cases ho'; exact hwait
    have hreach2 : ∀ k ok, ops[k]? = some ok → listed.getD k true = true → Reach ops k i → False := fun k ok hk hl hr => by
      have hkl : k < ops.size := (Array.getElem?_eq_some_iff.1 hk).1
      rw [htf k hkl] at hl
      have := reach_listed hcl hr fun o' ho' => hcl k o' hl ho'
      rw [← htf i hilt] at this
      exact bool_tf this hiu
    have hcount : ((List.range ops.size).countP fun j => !(listed.setIfInBounds i true).getD j true) = u := by
      have := countP_flip (f := fun j => !listed.getD j true) (g := fun j => !(listed.setIfInBounds i true).getD j true) (i := i) (by simp only [hiu]; rfl) (by simp only [set_same hils]; rfl) (fun j hj => by simp only [getD_set_ne true (fun e => hj e.symm)]) ops.size hilt
      omega
    have hmono : ∀ k, listed.getD k false = true → (listed.setIfInBounds i true).getD k false = true := by
      intro k hk
      by_cases hki : k = i
      · subst hki; exact set_same hils _
      · rw [getD_set_ne false (fun e => hki e.symm)]; exact hk
    have hmonot : ∀ k, listed.getD k true = true → (listed.setIfInBounds i true).getD k true = true := by
      intro k hk
      by_cases hki : k = i
      · subst hki; exact set_same hils _
      · rw [getD_set_ne true (fun e => hki e.symm)]; exact hk
    have hun : ∀ k, (listed.setIfInBounds i true).getD k true = false → k ≠ i ∧ listed.getD k true = false := by
      intro k hk
      have hki : k ≠ i := fun e => by subst e; exact bool_tf (set_same hils _) hk
      exact ⟨hki, by rwa [getD_set_ne true (fun e => hki e.symm)] at hk⟩
    have hcl' : ∀ (j : Nat) (oj : Oper), (listed.setIfInBounds i true).getD j false = true → ops[j]? = some oj → ∀ e ∈ oj.after, Region.binds .any e = true → (listed.setIfInBounds i true).getD e.on false = true := by
      intro j oj hl hoj e he hb
      by_cases hji : j = i
      · subst hji
        rw [hoj] at hio
        cases hio
        exact hmono _ (hwait e he hb)
      · rw [getD_set_ne false (fun e => hji e.symm)] at hl
        exact hmono _ (hcl j oj hl hoj e he hb)
    cases hq : quietX ops o with
    | true =>
      have hlook : ∀ d ∈ o.looksAt ops, ts i d = t d := by
        intro d hdl
        obtain ⟨b1, b2⟩ := hagree i (by omega)
        by_cases hex : ∃ (j : Nat) (oj : Oper), ops[j]? = some oj ∧ quietX ops oj = true ∧ oj.dst = some d
        · obtain ⟨j, oj, hoj, hqj, hdd⟩ := hex
          obtain ⟨h1, h2⟩ := (pair_qq (hpair j oj hoj) hq hqj hdd).1 hdl
          have h3 := ready_waits hi hio h2
          have hjl : j < ops.size := by omega
          rw [← htf j hjl] at h3
          rw [b1 j oj d h1 hoj hqj hdd, hX.a2 d (fun j' oj' hoj' hqj' hl' hdd' => by
            rcases (pair_qq ((drawX_at hok hoj').2.2 j oj hoj) hqj' hqj hdd).2 with h5 | h5
            · subst h5; exact bool_tf h3 hl'
            · exact h5 hdd'), hX.f1 j oj d hoj hqj hdd]
        · rw [b2 d fun j oj _ hoj hqj hdd => hex ⟨j, oj, hoj, hqj, hdd⟩, hX.a2 d fun j oj hoj hqj _ hdd => hex ⟨j, oj, hoj, hqj, hdd⟩,
            hX.f2 d (fun j oj hoj hqj hdd => hex ⟨j, oj, hoj, hqj, hdd⟩) fun k ok hk hqk hl hdd => hreach2 k ok hk hl ((pair_qe (hpair k ok hk) hq hqk hdd).1 hdl)]
      have hkeep : ∀ b, Kb b → h b = h0 b := by
        rcases hX.keep with h1 | h1
        · exact (bool_tf (h1 i o hio hq) hiu).elim
        · exact h1
      have hle : HLe hZ h := fun b B hB => by
        obtain ⟨h1, h2⟩ := hfr b B hB
        rw [hkeep b h1]; exact h2
      obtain ⟨b, k1, k2, k3⟩ := gdvX_congr hlook ((hvs i o hio).1 hq).1
      have hX' : XAt ops t0 vs h0 Kb (listed.setIfInBounds i true) (putS o.dst (vs i) ⟨t, h, n⟩).t tF h := by
        refine ⟨fun j oj d hoj hqj hl hdd => ?_, fun d hdd => ?_, hX.f1, fun d h1 h2 => hX.f2 d h1 fun j oj hoj hqj hl => h2 j oj hoj hqj (hmonot j hl), .inr hkeep⟩
        · obtain ⟨hji, hl2⟩ := hun j hl
          rw [put_t, if_neg (by rcases (pair_qq (hpair j oj hoj) hq hqj hdd).2 with h5 | h5; exact absurd h5 hji; exact h5)]
          exact hX.a1 j oj d hoj hqj hl2 hdd
        · rw [put_t]
          by_cases hod : o.dst = some d
          · rw [if_pos hod, hX.f1 i o d hio hq hod]
          · rw [if_neg hod]
            refine hX.a2 d fun j oj hoj hqj hl => ?_
            by_cases hji : j = i
            · subst hji; rw [hio] at hoj; cases hoj; exact hod
            · exact hdd j oj hoj hqj (by rw [getD_set_ne true (fun e => hji e.symm)]; exact hl)
      have hiff' : ∀ (j : Nat) (oj : Oper), ops[j]? = some oj → quietX ops oj = false → ((listed.setIfInBounds i true).getD j true = true ↔ j < p) := by
        intro j oj hoj hqj
        have hji : j ≠ i := fun e => by subst e; rw [hio] at hoj; cases hoj; exact bool_tf hq hqj
        rw [getD_set_ne true (fun e => hji e.symm)]
        exact hiff j oj hoj hqj
      unfold wpOp
      rw [hio]
      simp only
      rcases gd_wanted ops (n := n) S.tm (gd_of_want k1) with ⟨h1, h2⟩ | ⟨h1, h2⟩
      · rw [if_pos h1]
        refine .inl (q_sound hE hc hΦ S.hs S.tm (qv_le hle (k2 h2).2 (k2 h2).1) ?_)
        intro x w' g2 g3 g4
        refine ih _ p (μ := μ) hcount (by simp [hls]) hp hiff' hcl' hX' hK ?_
        rw [← put_eq]
        exact S.put g2 g3 g4 hdo
      · rw [if_neg (by simp [h1])]
        refine ih _ p (μ := μ) hcount (by simp [hls]) hp hiff' hcl' hX' hK ?_
        rw [← put_eq, k3 h2]
        exact S.put S.hs (Ext.refl _ _ _ _) .undef hdo
    | false =>
      have hpi : p ≤ i := by
        rcases Nat.lt_or_ge i p with h1 | h1
        · exact (bool_tf ((hiff i o hio hq).2 h1) hiu).elim
        · exact h1
      have hbetween : ∀ (j : Nat) (oj : Oper), p ≤ j → j < i → ops[j]? = some oj → quietX ops oj = true := by
        intro j oj h1 h2 hoj
        cases hqj : quietX ops oj with
        | true => rfl
        | false =>
          have h3 := hreach j (by omega) (pair_ee (hpair j oj hoj) hq hqj h2)
          have := (hiff j oj hoj hqj).1 h3
          omega
      have hK2 := skipX E ops (i - p) p (fun j oj h1 h2 hoj => hbetween j oj h1 (by omega) hoj) (by omega) hK
      rw [show p + (i - p) = i by omega] at hK2
      have hdrop : ops.toList.drop i = o :: ops.toList.drop (i + 1) := by
        rw [List.drop_eq_getElem_cons (by simpa using hilt)]
        obtain ⟨_, h3⟩ := Array.getElem?_eq_some_iff.1 hio
        simp [h3]
      rw [hdrop] at hK2
      simp only [awpX2, hq, Bool.false_eq_true, if_false] at hK2
      have hlook : ∀ d ∈ o.looksAt ops, tF d = t d := by
        intro d hdl
        refine (hX.a2 d fun j oj hoj hqj hl hdd => ?_).symm
        exact bool_tf (hreach j (Array.getElem?_eq_some_iff.1 hoj).1 (pair_eq (hpair j oj hoj) hq hqj hdd hdl)) hl
      have heff : effOk o.op = true := by
        rcases hef with h1 | h1
        · exact (bool_tf h1 hq).elim
        · exact h1
      have hne : ∀ (j : Nat) (oj : Oper) (d : Nat), ops[j]? = some oj → quietX ops oj = true → oj.dst = some d → o.dst ≠ some d := by
        intro j oj d hoj hqj hdd hod
        exact (pair_qe ((drawX_at hok hoj).2.2 i o hio) hqj hq hod).2 hdd
      have hX' : ∀ (v : V) (h' : Hp) (n' : Nat), ((∀ (j : Nat) (oj : Oper), ops[j]? = some oj → quietX ops oj = true → (listed.setIfInBounds i true).getD j true = true) ∨ ∀ b, Kb b → h' b = h0 b) → XAt ops t0 vs h0 Kb (listed.setIfInBounds i true) (putS o.dst v ⟨t, h', n'⟩).t (putS o.dst v ⟨tF, h', n'⟩).t h' := by
        intro v h' n' hkp
        refine ⟨fun j oj d hoj hqj hl hdd => ?_, fun d hdd => ?_, fun j oj d hoj hqj hdd => ?_, fun d h1 h2 => ?_, hkp⟩
        · rw [put_t, if_neg (hne j oj d hoj hqj hdd)]
          exact hX.a1 j oj d hoj hqj (hun j hl).2 hdd
        · rw [put_t, put_t]
          by_cases hod : o.dst = some d
          · rw [if_pos hod, if_pos hod]
          · rw [if_neg hod, if_neg hod]
            refine hX.a2 d fun j oj hoj hqj hl => hdd j oj hoj hqj ?_
            have hji : j ≠ i := fun e => by subst e; rw [hio] at hoj; cases hoj; exact bool_tf hqj hq
            rw [getD_set_ne true (fun e => hji e.symm)]
            exact hl
        · rw [put_t, if_neg (hne j oj d hoj hqj hdd)]
          exact hX.f1 j oj d hoj hqj hdd
        · rw [put_t, if_neg (h2 i o hio hq (set_same hils _))]
          exact hX.f2 d h1 fun j oj hoj hqj hl => h2 j oj hoj hqj (hmonot j hl)
      have hiff' : ∀ (j : Nat) (oj : Oper), ops[j]? = some oj → quietX ops oj = false → ((listed.setIfInBounds i true).getD j true = true ↔ j < i + 1) := by
        intro j oj hoj hqj
        by_cases hji : j = i
        · subst hji; simp [hils]
        · rw [getD_set_ne true (fun e => hji e.symm), hiff j oj hoj hqj]
          refine ⟨fun h1 => by omega, fun h1 => ?_⟩
          rcases Nat.lt_or_ge j p with h2 | h2
          · exact h2
          · exact (bool_tf (hbetween j oj h2 (by omega) hoj) hqj).elim
      unfold wpOp
      rw [hio]
      simp only
      rcases gd_wanted ops (n := n) S.tm (gd_congr hlook hK2) with ⟨h1, h2⟩ | ⟨h1, h2⟩
      · rw [if_pos h1]
        refine .inl (op_sound hE hc hΦ S (aop_congr heff (ev_looks hlook) h2) ?_)
        rintro v h' n' μ' x w' ⟨g0, g1⟩ g2 g3 g4
        rw [put_eq] at g1
        refine ih _ (i + 1) (μ := μ') hcount (by simp [hls]) (by omega) hiff' hcl' (hX' v h' n' ?_) g1 ?_
        · rcases g0 with g0 | g0
          · exact .inl fun j oj hoj hqj => hmonot j (hreach j (Array.getElem?_eq_some_iff.1 hoj).1 (allQ_of g0 hoj hqj))
          · exact .inr g0
        · rw [← put_eq]
          exact S.put g2 g3 g4 hdo
      · rw [if_neg (by simp [h1])]
        rw [put_eq] at h2
        refine ih _ (i + 1) (μ := μ) hcount (by simp [hls]) (by omega) hiff' hcl' (hX' .undef h n ?_) h2 ?_
        · rcases hX.keep with g0 | g0
          · exact .inl fun j oj hoj hqj => hmonot j (g0 j oj hoj hqj)
          · exact .inr g0
        · rw [← put_eq]
          exact S.put S.hs (Ext.refl _ _ _ _) .undef hdo
theorem drawX_sound (hE : EnvOk E) (hc : c.P = E.P) (hΦ : FvOk c E.Φ) {ops : Array Oper} (hok : drawX ops = true) (hd : ∀ o ∈ ops.toList, dstOk E.nt o = true) {Q : Exit → Act → World → Prop} {K : St → Prop} (hQ : ∀ σ μ a w, K σ → Sim ps E c σ μ a w → Q .normal a w)
    {σ : St} {μ : Mu} {a : Act} {w : World} (hk : awpX E ops K σ) (S : Sim ps E c σ μ a w) : wpAny c.P .any ops Q ops.size (Array.replicate ops.size false) a w := by
  obtain ⟨Kb, hq, hfr, hk⟩ := hk
  obtain ⟨vs, ts, h1, h2, h3⟩ := headX E ops (h := hq) (n := σ.n) ops.toList σ.t hk
  have hun : ∀ j, j < ops.size → (Array.replicate ops.size false).getD j true = false := fun j hj => by simp [hj]
  have hcount : ((List.range ops.size).countP fun i => !(Array.replicate ops.size false).getD i true) = ops.size := by
    rw [List.countP_eq_length.2]
    · simp
    · intro i hi
      have : i < ops.size := List.mem_range.1 hi
      simp [this]
  have hag : ∀ i, i ≤ ops.size → (∀ j o d, j < i → ops[j]? = some o → quietX ops o = true → o.dst = some d → ts i d = vs j) ∧ ∀ d, (∀ j o, j < i → ops[j]? = some o → quietX ops o = true → o.dst ≠ some d) → ts i d = σ.t d := by
    intro i
    induction i with
    | zero => intro _; exact ⟨fun j o d hj => absurd hj (Nat.not_lt_zero _), fun d _ => by rw [h1]⟩
    | succ i ih =>
      intro hi
      obtain ⟨b1, b2⟩ := ih (by omega)
      have hio : ops[i]? = some (ops[i]'(by omega)) := Array.getElem?_eq_getElem (by omega)
      generalize (ops[i]'(by omega)) = oi at hio
      obtain ⟨g1, g2⟩ := h2 i oi (by simpa using hio)
      cases hq : quietX ops oi with
      | true =>
        obtain ⟨_, g3⟩ := g1 hq
        refine ⟨fun j o d hj ho hqo hdd => ?_, fun d hdd => ?_⟩
        · rw [g3, put_t]
          by_cases hji : j = i
          · subst hji
            rw [hio] at ho
            cases ho
            rw [if_pos hdd]
          · have hne := (pair_qq ((drawX_at hok hio).2.2 j o ho) hq hqo hdd).2
            rw [if_neg (by rcases hne with h5 | h5; exact absurd h5 hji; exact h5)]
            exact b1 j o d (by omega) ho hqo hdd
        · rw [g3, put_t, if_neg (hdd i oi (by omega) hio hq)]
          exact b2 d fun j o hj ho hqo => hdd j o (by omega) ho hqo
      | false =>
        rw [g2 hq]
        refine ⟨fun j o d hj ho hqo hdd => ?_, fun d hdd => b2 d fun j o hj ho hqo => hdd j o (by omega) ho hqo⟩
        by_cases hji : j = i
        · subst hji
          rw [hio] at ho
          cases ho
          exact (bool_tf hqo hq).elim
        · exact b1 j o d (by omega) ho hqo hdd
  obtain ⟨c1, c2⟩ := hag ops.size (Nat.le_refl _)
  refine X_sound hE hc hΦ hok hd hQ (t0 := σ.t) (vs := vs) (h0 := σ.h) (hZ := hq) (Kb := Kb) (n0 := σ.n) (ts := ts) h1 (fun b B hb => by
    obtain ⟨q1, q2⟩ := hfr b B hb
    rcases q1 with q1 | q1
    · exact ⟨q1, q2⟩
    · rw [S.hs.hfresh b q1] at q2; cases q2) (fun i o ho => h2 i o (by simpa using ho)) ops.size (Array.replicate ops.size false) 0 (t := σ.t) (tF := ts ops.toList.length) (h := σ.h) (n := σ.n) hcount (by simp) (Nat.zero_le _)
    (fun j o ho _ => ⟨fun hl => (bool_tf hl (hun j (Array.getElem?_eq_some_iff.1 ho).1)).elim, fun h => absurd h (Nat.not_lt_zero _)⟩)
    (fun j o hl ho => (by have : j < ops.size := (Array.getElem?_eq_some_iff.1 ho).1
                          simp [this] at hl)) ?_ (by simpa using h3) S
  have hlen : ops.toList.length = ops.size := by simp
  rw [hlen]
  refine ⟨fun _ _ _ _ _ _ _ => rfl, fun d hdd => (c2 d fun j o hj ho hqo => hdd j o ho hqo (hun j hj)).symm, fun j o d ho hqo hdd => c1 j o d (Array.getElem?_eq_some_iff.1 ho).1 ho hqo hdd, fun d h5 _ => c2 d fun j o _ ho hqo => h5 j o ho hqo, .inr fun _ _ => rfl⟩
end
end Go.Proofs.Ytahgddfnbjpfiaa.Am

/- An abstract machine over values: a region whose order is open, all of it quiet, its new slices among that (they are data from their making on). -/
set_option linter.unusedVariables false
set_option linter.unusedSimpArgs false
namespace Go.Proofs.Ytahgddfnbjpfiaa.Am
open Go Go.RowKit

def isFlat : V → Bool
  | .s v => flat v
  | _ => false
/-- A new slice that is only read from its making on. -/
def qbs (P : Program) (e : Operand → V) (T : TypeId) (len : Nat) (parts : List (Nat × Operand)) (v : V) : Prop :=
  match seqo P T with
  | .slice el z _ => match zro P el with
    | some zv => match afill (fun i => some (i * z, z)) (repCells (cellsZ zv) len) (parts.map fun q => (q.1, e q.2)) with
      | some cs => (len * z ≤ 16777216 ∧ 0 < z ∧ (cellsZ zv).length = z) ∧ (parts.all fun q => isFlat (e q.2)) = true ∧ cs.all isFlat = true ∧ v = .sl (chunks z len cs)
      | none => False
    | none => False
  | _ => False
theorem Rp.any_of {fv : Nat → Value} {w w' : World} {ok ok' : Nat → Prop} {μ μ' : Mu} {v : V} {x : Value} (hf : isFlat v = true) (h : Rp fv w ok μ v x) : Rp fv w' ok' μ' v x := by
  cases h with
  | s _ h => exact .s _ h
  | _ => cases hf
theorem Rp.flat_dp {fv : Nat → Value} {w w' : World} {ok ok' : Nat → Prop} {μ : Mu} {v : V} {x : Value} (hf : isFlat v = true) (h : Rp fv w ok μ v x) : Dp w' ok' v x := by
  cases h with
  | s _ h => exact .s _ h
  | _ => cases hf
theorem qbs_sound {c : Cx} {h : Hp} {n : Nat} {μ : Mu} {w : World} (H : HS c h n μ w) {T : TypeId} {len : Nat} {parts : Array (Nat × Operand)} {e : Operand → V} {ρ : Operand → Value} {v : V} (he : ∀ x, R c h μ w (e x) (ρ x)) (hv : qbs c.P e T len parts.toList v) :
    ∃ y w', (Instr.buildSlice T len (parts.map fun q => (q.1, ρ q.2))).run c.P w = .ok y w' ∧ Below w.heap.size w w' ∧ R c h μ w' v y := by
  let c' : Cx := ⟨c.P, w, okB c h μ w, fun _ => False, c.fvals, inv_of (E := ⟨c.P, fun _ => false, fun _ => none, fun _ => none, fun _ => none, 0⟩) rfl H⟩
  have H' : HS c' (fun _ => none) 0 (fun _ => none) w := ⟨Fr.refl _ _, fun _ _ => rfl, fun _ _ => rfl, fun b B hb => (nomatch hb), fun b b' B B' k base size base' size' hb => (nomatch hb)⟩
  let e' : Operand → V := fun x => if isFlat (e x) then e x else .any
  have he' : ∀ x, R c' (fun _ => none) (fun _ => none) w (e' x) (ρ x) := by
    intro x
    show Rp _ _ _ _ (if isFlat (e x) then e x else .any) (ρ x)
    split
    · rename_i hx; exact Rp.any_of hx (he x)
    · exact .any _
  unfold qbs at hv
  split at hv
  · rename_i el z b8 hs
    split at hv
    · rename_i zv hzv
      split at hv
      · rename_i cs hcs
        obtain ⟨⟨h1, h2, h3⟩, h4, h5, rfl⟩ := hv
        have hpp : (parts.toList.map fun q => (q.1, e' q.2)) = parts.toList.map fun q => (q.1, e q.2) := List.map_congr_left fun q hq => by
          have := List.all_eq_true.1 h4 q hq
          show (q.1, if isFlat (e q.2) then e q.2 else V.any) = _
          rw [if_pos this]
        have hk : abuildSlice c'.P e' T len parts.toList ⟨fun _ => .undef, fun _ => none, 0⟩ (fun v σ => v = .loc 0 0 len len ∧ σ.h = upd (fun _ => none) 0 (some ⟨z, chunks z len cs, true⟩)) := by
          unfold abuildSlice
          rw [show c'.P = c.P from rfl, hs]
          simp only [hzv, hpp, hcs]
          refine ⟨h1, h2, h3, ?_, ?_⟩ <;> first | rfl | trivial
        obtain ⟨v, y, h', n', μ', w', g1, ⟨rfl, g2⟩, g3, g4, g5⟩ := buildSlice_sound H' (t := fun _ => .undef) he' hk
        simp only at g2
        subst g2
        refine ⟨y, w', g1, g3.fr.below, ?_⟩
        have hlen : (chunks z len cs).length = len := by simp [chunks]
        obtain ⟨_, hl⟩ := g5.loc_inv
        have hrow : ∀ r ∈ chunks z len cs, r.length = z := by
          intro r hr
          have hb := g3.blk 0 ⟨z, chunks z len cs, true⟩ (by rw [upd_same])
          rcases hb with ⟨_, hb⟩ | ⟨k, base, _, _, _, hb, _⟩
          · simp only at hb; rw [hb] at hr; cases hr
          · exact hb r hr
        rcases hl with ⟨k, base, size, hm, rfl⟩ | ⟨rfl, _, A, t, _, rfl⟩
        · rcases g3.blk 0 ⟨z, chunks z len cs, true⟩ (by rw [upd_same]) with ⟨hb, _⟩ | ⟨k2, base2, hm2, hk2, _, _, hcell⟩
          · rw [hm] at hb; cases hb
          · rw [hm] at hm2
            cases hm2
            simp only at hcell hm
            have hwk : w.heap.size ≤ k := by
              rcases (g3.wr_block ⟨0, _, base, z, by rw [upd_same], rfl, hm⟩).1 with q | q
              · exact q
              · exact q.elim
            have hex : ∀ i j, ∃ x : Value, i < len → j < z → w'.cell? ⟨k, base + (i * z + j), none⟩ = some x ∧ Dp w' (okB c h μ w') (cellAt (chunks z len cs) i j) x := by
              intro i j
              by_cases hij : i < len ∧ j < z
              · obtain ⟨x, q1, _, q3⟩ := hcell i j (by rw [hlen]; exact hij.1) hij.2
                refine ⟨x, fun _ _ => ⟨q1, Rp.flat_dp ?_ q3⟩⟩
                have hfl : ∀ r ∈ chunks z len cs, ∀ q ∈ r, isFlat q = true := by
                  intro r hr q hq
                  unfold chunks at hr
                  simp only [List.mem_map] at hr
                  obtain ⟨_, _, rfl⟩ := hr
                  exact List.all_eq_true.1 h5 q (List.mem_of_mem_drop (List.mem_of_mem_take hq))
                have hi : i < (chunks z len cs).length := by rw [hlen]; exact hij.1
                have e1 : (chunks z len cs).getD i [] = (chunks z len cs)[i] := by simp [List.getD_eq_getElem?_getD, hi]
                have hr : (chunks z len cs)[i] ∈ chunks z len cs := List.getElem_mem hi
                have hj : j < ((chunks z len cs)[i]).length := by rw [hrow _ hr]; exact hij.2
                have e2 : cellAt (chunks z len cs) i j = ((chunks z len cs)[i])[j] := by unfold cellAt; rw [e1]; simp [List.getD_eq_getElem?_getD, hj]
                rw [e2]
                exact hfl _ hr _ (List.getElem_mem hj)
              · exact ⟨Go.undef, fun q1 q2 => absurd ⟨q1, q2⟩ hij⟩
            obtain ⟨g, hg⟩ := Classical.axiomOfChoice fun i => Classical.axiomOfChoice (hex i)
            refine .sl _ _ _ z _ g hlen (Nat.le_refl _) hrow (fun _ => ⟨_, rfl, ⟨.inr (.inl (Nat.le_trans H.fr.size hwk)), hk2, fun hl => ?_⟩, fun i j hi hj => ?_⟩) (fun i j hi hj => (hg i j hi hj).2)
            · have := (H.wr_block hl).2
              simp only at this
              omega
            · rw [add_plain, Nat.zero_mul, Nat.add_zero]
              exact (hg i j hi hj).1
        · have : chunks z 0 cs = [] := rfl
          rw [this]
          exact Rp.nil A 0
      · exact hv.elim
    · exact hv.elim
  · exact hv.elim

def qvY (E : Env) (op : Op) (e : Operand → V) (h : Hp) (v : V) : Prop :=
  match op with
  | .buildSlice T len parts => qbs E.P e T len parts.toList v
  | op => qv E op e h v
def quietY (ops : Array Oper) (o : Oper) : Bool := match o.op with
  | .buildSlice .. => true
  | _ => quiet ops o
def awpY (E : Env) (ops : Array Oper) : List Oper → (St → Prop) → St → Prop
  | [], K, σ => K σ
  | o :: rest, K, σ => gd ops o σ (∃ v, qvY E o.op (ev σ.t) σ.h v ∧ awpY E ops rest K (putS o.dst v σ)) (awpY E ops rest K (putS o.dst .undef σ))
def drawY (ops : Array Oper) : Bool :=
  (List.range ops.size).all fun i => match ops[i]? with
    | none => false
    | some o => (o.after.all fun e => !Region.binds .any e || decide (e.on < i)) && (List.range ops.size).all fun j => match (ops[j]?).bind (·.dst) with
      | some d => (!(o.looksAt ops).contains d || (decide (j < i) && reach ops i j)) && (j == i || o.dst != some d)
      | none => true
theorem drawY_at {ops : Array Oper} (h : drawY ops = true) {i : Nat} {o : Oper} (hi : ops[i]? = some o) : (∀ e ∈ o.after, Region.binds .any e = true → e.on < i) ∧ ∀ j oj d, ops[j]? = some oj → oj.dst = some d → (d ∈ o.looksAt ops → j < i ∧ Reach ops i j) ∧ (j = i ∨ o.dst ≠ some d) := by
  have hlt : i < ops.size := (Array.getElem?_eq_some_iff.1 hi).1
  unfold drawY at h
  rw [List.all_eq_true] at h
  have h1 := h i (by simpa using hlt)
  rw [hi] at h1
  simp only [Bool.and_eq_true, Array.all_eq_true, List.all_eq_true] at h1
  obtain ⟨h2, h4⟩ := h1
  refine ⟨fun e he hb => ?_, fun j oj d hj hd => ?_⟩
  · obtain ⟨k, hk, rfl⟩ := Array.getElem_of_mem he
    have := h2 k hk
    simpa [hb] using this
  · have h5 := h4 j (by simpa using (Array.getElem?_eq_some_iff.1 hj).1)
    simp only [hj, Option.bind_some, hd, Bool.and_eq_true, Bool.or_eq_true, Bool.not_eq_true', decide_eq_true_eq] at h5
    refine ⟨fun hm => ?_, ?_⟩
    · rcases h5.1 with h6 | h6
      · rw [List.contains_iff_mem.2 hm] at h6; cases h6
      · exact ⟨h6.1, reach_of h6.2⟩
    · rcases h5.2 with h6 | h6
      · exact .inl (by simpa using h6)
      · exact .inr (by simpa using h6)
theorem qvY_congr {E : Env} {op : Op} {e e' : Operand → V} {h : Hp} {v : V} (he : ∀ x ∈ op.operands, e x = e' x) (hq : qvY E op e h v) : qvY E op e' h v := by
  cases op <;> try exact qv_congr he hq
  case buildSlice T len parts =>
    have hm : ∀ q ∈ parts.toList, e q.2 = e' q.2 := fun q hq => he q.2 (by simp [Op.operands]; exact ⟨q.1, by simpa using hq⟩)
    simp only [qvY, qbs] at hq ⊢
    have h1 : (parts.toList.map fun q => (q.1, e q.2)) = parts.toList.map fun q => (q.1, e' q.2) := List.map_congr_left fun q hq => by rw [hm q hq]
    have h2 : (parts.toList.all fun q => isFlat (e q.2)) = true → (parts.toList.all fun q => isFlat (e' q.2)) = true := by
      intro h
      rw [List.all_eq_true] at h ⊢
      intro q hq
      rw [← hm q hq]
      exact h q hq
    rw [← h1]
    split at hq
    · split at hq
      · split at hq
        · exact ⟨hq.1, h2 hq.2.1, hq.2.2⟩
        · exact hq
      · exact hq
    · exact hq
def gdvY (E : Env) (ops : Array Oper) (o : Oper) (t : Nat → V) (h : Hp) (v : V) : Prop :=
  ∃ b, wantA ops o t b ∧ (b = true → qvY E o.op (ev t) h v) ∧ (b = false → v = .undef)
theorem gdvY_congr {E : Env} {ops : Array Oper} {o : Oper} {t t' : Nat → V} {h : Hp} {v : V} (he : ∀ d ∈ o.looksAt ops, t d = t' d) (hg : gdvY E ops o t h v) : gdvY E ops o t' h v := by
  obtain ⟨b, h1, h2, h3⟩ := hg
  exact ⟨b, wantA_congr he h1, fun hb => qvY_congr (ev_looks he) (h2 hb), h3⟩
theorem gdvY_of_gd {E : Env} {ops : Array Oper} {o : Oper} {σ : St} {K : St → Prop} (hg : gd ops o σ (∃ v, qvY E o.op (ev σ.t) σ.h v ∧ K (putS o.dst v σ)) (K (putS o.dst .undef σ))) : ∃ v, gdvY E ops o σ.t σ.h v ∧ K (putS o.dst v σ) := by
  unfold gd at hg
  split at hg
  · rename_i hgu
    obtain ⟨v, h1, h2⟩ := hg
    exact ⟨v, ⟨true, by simp [wantA, hgu], fun _ => h1, (fun h => by cases h)⟩, h2⟩
  · rename_i j want hgu
    split at hg
    · rename_i d hd
      split at hg
      · rename_i q hq
        by_cases hqw : q = want
        · obtain ⟨v, h1, h2⟩ := hg.1 hqw
          exact ⟨v, ⟨true, (by simp only [wantA, hgu]; exact ⟨d, hd, .inl ⟨q, hq, by simp [hqw]⟩⟩), fun _ => h1, (fun h => by cases h)⟩, h2⟩
        · exact ⟨.undef, ⟨false, (by simp only [wantA, hgu]; exact ⟨d, hd, .inl ⟨q, hq, by simp [hqw]⟩⟩), (fun h => by cases h), fun _ => rfl⟩, hg.2 hqw⟩
      · rename_i hq
        exact ⟨.undef, ⟨false, (by simp only [wantA, hgu]; exact ⟨d, hd, .inr ⟨hq, trivial⟩⟩), (fun h => by cases h), fun _ => rfl⟩, hg⟩
      · exact hg.elim
    · exact hg.elim
theorem headY (E : Env) (ops : Array Oper) {K : St → Prop} {h : Hp} {n : Nat} : ∀ (l : List Oper) (t : Nat → V), awpY E ops l K ⟨t, h, n⟩ →
    ∃ (vs : Nat → V) (ts : Nat → Nat → V), ts 0 = t ∧ (∀ i o, l[i]? = some o → gdvY E ops o (ts i) h (vs i) ∧ ts (i + 1) = (putS o.dst (vs i) ⟨ts i, h, n⟩).t) ∧ K ⟨ts l.length, h, n⟩ := by
  intro l
  induction l with
  | nil => intro t hk; exact ⟨fun _ => .undef, fun _ => t, rfl, fun i o h => by simp at h, hk⟩
  | cons o l ih =>
    intro t hk
    simp only [awpY] at hk
    obtain ⟨v, h1, h2⟩ := gdvY_of_gd (K := awpY E ops l K) hk
    rw [put_eq] at h2
    obtain ⟨vs, ts, g1, g2, g3⟩ := ih _ h2
    refine ⟨fun i => match i with | 0 => v | i + 1 => vs i, fun i => match i with | 0 => t | i + 1 => ts i, rfl, fun i o' hi => ?_, g3⟩
    cases i with
    | zero => simp at hi; subst hi; exact ⟨h1, by simp only [Nat.zero_add]; rw [g1]⟩
    | succ i => exact g2 i o' (by simpa using hi)
section
variable {ps : Hp × Mu × World} {E : Env} {c : Cx}
theorem qY_sound (hE : EnvOk E) (hc : c.P = E.P) (hΦ : FvOk c E.Φ) {h : Hp} {n : Nat} {μ : Mu} {w : World} {a : Act} (H : HS c h n μ w) {t : Nat → V} (ht : ∀ i, R c h μ w (t i) (a.tmps.getD i Go.undef)) {o : Oper} {v : V} (hk : qvY E o.op (ev t) h v) {next : Act → World → Prop} {Q : Exit → Act → World → Prop}
    (hn : ∀ x w', HS c h n μ w' → Ext c h μ w h μ w' → R c h μ w' v x → next (a.put o.dst x) w') : o.wp c.P a w next Q := by
  unfold qvY at hk
  split at hk
  · rename_i T len parts ho
    rw [← hc] at hk
    obtain ⟨y, w', h1, h2, h3⟩ := qbs_sound H (fun x => Rp.ev ht x) hk
    have H2 := H.below h2
    unfold Oper.wp
    rw [show (execOp a.eval o).run c.P w = .ok (.value y) w' by simp only [execOp, ho]; exact run_value h1]
    exact hn y w' H2.1 H2.2 h3
  · exact q_sound hE hc hΦ H ht hk hn
theorem Y_sound (hE : EnvOk E) (hc : c.P = E.P) (hΦ : FvOk c E.Φ) {ops : Array Oper} (hok : drawY ops = true) (hd : ∀ o ∈ ops.toList, dstOk E.nt o = true) {Q : Exit → Act → World → Prop} {K : St → Prop} (hQ : ∀ σ μ a w, K σ → Sim ps E c σ μ a w → Q .normal a w)
    {t0 vs : Nat → V} {h : Hp} {n : Nat} {ts : Nat → Nat → V} (hts0 : ts 0 = t0) (hvs : ∀ i o, ops[i]? = some o → gdvY E ops o (ts i) h (vs i) ∧ ts (i + 1) = (putS o.dst (vs i) ⟨ts i, h, n⟩).t) (hK : K ⟨ts ops.size, h, n⟩) :
    ∀ (u : Nat) (listed : Array Bool) {t : Nat → V} {μ : Mu} {a : Act} {w : World}, ((List.range ops.size).countP fun i => !listed.getD i true) = u → listed.size = ops.size →
      (∀ (i : Nat) (o : Oper), listed.getD i false = true → ops[i]? = some o → ∀ e ∈ o.after, Region.binds .any e = true → listed.getD e.on false = true) →
      (∀ j o d, ops[j]? = some o → o.dst = some d → t d = if listed.getD j true = true then vs j else t0 d) → (∀ d, (∀ (j : Nat) (o : Oper), ops[j]? = some o → o.dst ≠ some d) → t d = t0 d) →
      Sim ps E c ⟨t, h, n⟩ μ a w → wpAny c.P .any ops Q u listed a w := by
  have hagree : ∀ i, i ≤ ops.size → (∀ j o d, j < i → ops[j]? = some o → o.dst = some d → ts i d = vs j) ∧ ∀ d, (∀ j o, j < i → ops[j]? = some o → o.dst ≠ some d) → ts i d = t0 d := by
    intro i
    induction i with
    | zero => intro _; exact ⟨fun j o d hj => absurd hj (Nat.not_lt_zero _), fun d _ => by rw [hts0]⟩
    | succ i ih =>
      intro hi
      obtain ⟨b1, b2⟩ := ih (by omega)
      have hio : ops[i]? = some (ops[i]'(by omega)) := Array.getElem?_eq_getElem (by omega)
      generalize (ops[i]'(by omega)) = oi at hio
      obtain ⟨_, g3⟩ := hvs i _ hio
      refine ⟨fun j o d hj ho hdd => ?_, fun d hdd => ?_⟩
      · rw [g3, put_t]
        by_cases hji : j = i
        · subst hji
          rw [hio] at ho
          cases ho
          rw [if_pos hdd]
        · have hne := ((drawY_at hok hio).2 j o d ho hdd).2
          rw [if_neg (by rcases hne with h5 | h5; exact absurd h5 hji; exact h5)]
          exact b1 j o d (by omega) ho hdd
      · rw [g3, put_t, if_neg (hdd i oi (by omega) hio)]
        exact b2 d fun j o hj ho => hdd j o (by omega) ho
  intro u
  induction u with
  | zero =>
    intro listed t μ a w hu hls hcl hA hB S
    have hall : ∀ j, j < ops.size → listed.getD j true = true := by
      intro j hj
      have := List.countP_eq_zero.1 hu j (by simpa using hj)
      simpa using this
    have hte : t = ts ops.size := by
      funext d
      obtain ⟨b1, b2⟩ := hagree ops.size (Nat.le_refl _)
      by_cases hex : ∃ (j : Nat) (oj : Oper), ops[j]? = some oj ∧ oj.dst = some d
      · obtain ⟨j, oj, hoj, hdd⟩ := hex
        have hjl := (Array.getElem?_eq_some_iff.1 hoj).1
        rw [hA j oj d hoj hdd, if_pos (hall j hjl), b1 j oj d hjl hoj hdd]
      · rw [hB d fun j oj hoj hdd => hex ⟨j, oj, hoj, hdd⟩, b2 d fun j oj _ hoj hdd => hex ⟨j, oj, hoj, hdd⟩]
    subst hte
    refine ⟨?_, hQ _ μ a w hK S⟩
    rw [List.eq_nil_iff_forall_not_mem]
    intro i hi
    obtain ⟨h1, o, h2, _⟩ := mem_ready.1 hi
    exact bool_tf (hall i (Array.getElem?_eq_some_iff.1 h2).1) h1
  | succ u ih =>
    intro listed t μ a w hu hls hcl hA hB S
    have htf : ∀ j, j < ops.size → listed.getD j true = listed.getD j false := fun j hj => by
      have : j < listed.size := by omega
      simp [this]
    obtain ⟨m, hm1, hm2, hm3⟩ : ∃ m, m < ops.size ∧ listed.getD m true = false ∧ ∀ j, j < m → listed.getD j true = true := by
      have hex : ∃ m, m < ops.size ∧ listed.getD m true = false := by
        have : 0 < (List.range ops.size).countP fun i => !listed.getD i true := by omega
        obtain ⟨m, h1, h2⟩ := List.countP_pos_iff.1 this
        exact ⟨m, by simpa using h1, by simpa using h2⟩
      have key : ∀ k, (∃ m, m < k ∧ m < ops.size ∧ listed.getD m true = false) → ∃ m, m < ops.size ∧ listed.getD m true = false ∧ ∀ j, j < m → listed.getD j true = true := by
        intro k
        induction k with
        | zero => rintro ⟨m, h, _⟩; omega
        | succ k ihk =>
          rintro ⟨m, h1, h2, h3⟩
          by_cases hb : ∃ m, m < k ∧ m < ops.size ∧ listed.getD m true = false
          · exact ihk hb
          · refine ⟨m, h2, h3, fun j hj => ?_⟩
            cases hq : listed.getD j true with
            | true => rfl
            | false => exact absurd ⟨j, by omega, by omega, hq⟩ hb
      obtain ⟨m, h1, h2⟩ := hex
      exact key (m + 1) ⟨m, by omega, h1, h2⟩
    have hmo : ops[m]? = some (ops[m]'(by omega)) := Array.getElem?_eq_getElem (by omega)
    have hmr : m ∈ Region.ready .any ops listed := mem_ready.2 ⟨hm2, _, hmo, fun e he hb => by
      have h1 := (drawY_at hok hmo).1 e he hb
      rw [← htf _ (by omega)]
      exact hm3 _ h1⟩
    refine ⟨fun h0 => (by rw [h0] at hmr; cases hmr), fun i hi => ?_⟩
    obtain ⟨hiu, o, hio, hwait⟩ := mem_ready.1 hi
    have hilt : i < ops.size := (Array.getElem?_eq_some_iff.1 hio).1
    have hils : i < listed.size := by omega
    have hdo : ∀ d, o.dst = some d → d < E.nt := by
      intro d hd'
      have := hd o (by rw [Array.getElem?_eq_some_iff] at hio; obtain ⟨_, rfl⟩ := hio; simp)
      simp [dstOk, hd'] at this
      exact this
    obtain ⟨_, hpair⟩ := drawY_at hok hio
    have hreach : ∀ j, j < ops.size → Reach ops i j → listed.getD j true = true := fun j hj hr => by
      rw [htf j hj]
      exact reach_listed hcl hr fun o' ho' => by rw [hio] at ho'; cases ho'; exact hwait
    have hcount : ((List.range ops.size).countP fun j => !(listed.setIfInBounds i true).getD j true) = u := by
      have := countP_flip (f := fun j => !listed.getD j true) (g := fun j => !(listed.setIfInBounds i true).getD j true) (i := i) (by simp only [hiu]; rfl) (by simp only [set_same hils]; rfl) (fun j hj => by simp only [getD_set_ne true (fun e => hj e.symm)]) ops.size hilt
      omega
    have hmono : ∀ k, listed.getD k false = true → (listed.setIfInBounds i true).getD k false = true := by
      intro k hk
      by_cases hki : k = i
      · subst hki; exact set_same hils _
      · rw [getD_set_ne false (fun e => hki e.symm)]; exact hk
    have hcl' : ∀ (j : Nat) (oj : Oper), (listed.setIfInBounds i true).getD j false = true → ops[j]? = some oj → ∀ e ∈ oj.after, Region.binds .any e = true → (listed.setIfInBounds i true).getD e.on false = true := by
      intro j oj hl hoj e he hb
      by_cases hji : j = i
      · subst hji
        rw [hoj] at hio
        cases hio
        exact hmono _ (hwait e he hb)
      · rw [getD_set_ne false (fun e => hji e.symm)] at hl
        exact hmono _ (hcl j oj hl hoj e he hb)
    have hlook : ∀ d ∈ o.looksAt ops, ts i d = t d := by
      intro d hdl
      obtain ⟨b1, b2⟩ := hagree i (by omega)
      by_cases hex : ∃ (j : Nat) (oj : Oper), ops[j]? = some oj ∧ oj.dst = some d
      · obtain ⟨j, oj, hoj, hdd⟩ := hex
        obtain ⟨h1, h2⟩ := (hpair j oj d hoj hdd).1 hdl
        have hjl : j < ops.size := by omega
        rw [b1 j oj d h1 hoj hdd, hA j oj d hoj hdd, if_pos (hreach j hjl h2)]
      · rw [b2 d fun j oj _ hoj hdd => hex ⟨j, oj, hoj, hdd⟩, hB d fun j oj hoj hdd => hex ⟨j, oj, hoj, hdd⟩]
    obtain ⟨b, k1, k2, k3⟩ := gdvY_congr hlook (hvs i o hio).1
    have hA' : ∀ j oj d, ops[j]? = some oj → oj.dst = some d → (putS o.dst (vs i) ⟨t, h, n⟩).t d = if (listed.setIfInBounds i true).getD j true = true then vs j else t0 d := by
      intro j oj d hoj hdd
      rw [put_t]
      by_cases hji : j = i
      · subst hji
        rw [hio] at hoj
        cases hoj
        rw [if_pos hdd, if_pos (set_same hils _)]
      · rw [if_neg (by rcases (hpair j oj d hoj hdd).2 with h5 | h5; exact absurd h5 hji; exact h5), getD_set_ne true (fun e => hji e.symm)]
        exact hA j oj d hoj hdd
    have hB' : ∀ d, (∀ (j : Nat) (o : Oper), ops[j]? = some o → o.dst ≠ some d) → (putS o.dst (vs i) ⟨t, h, n⟩).t d = t0 d := by
      intro d hdd
      rw [put_t, if_neg (hdd i o hio)]
      exact hB d hdd
    unfold wpOp
    rw [hio]
    simp only
    rcases gd_wanted ops (n := n) S.tm (gd_of_want k1) with ⟨h1, h2⟩ | ⟨h1, h2⟩
    · rw [if_pos h1]
      refine .inl (qY_sound hE hc hΦ S.hs S.tm (k2 h2) ?_)
      intro x w' g2 g3 g4
      refine ih _ (μ := μ) hcount (by simp [hls]) hcl' hA' hB' ?_
      rw [← put_eq]
      exact S.put g2 g3 g4 hdo
    · rw [if_neg (by simp [h1])]
      refine ih _ (μ := μ) hcount (by simp [hls]) hcl' hA' hB' ?_
      rw [← put_eq, k3 h2]
      exact S.put S.hs (Ext.refl _ _ _ _) .undef hdo
theorem drawY_sound (hE : EnvOk E) (hc : c.P = E.P) (hΦ : FvOk c E.Φ) {ops : Array Oper} (hok : drawY ops = true) (hd : ∀ o ∈ ops.toList, dstOk E.nt o = true) {Q : Exit → Act → World → Prop} {K : St → Prop} (hQ : ∀ σ μ a w, K σ → Sim ps E c σ μ a w → Q .normal a w)
    {σ : St} {μ : Mu} {a : Act} {w : World} (hk : awpY E ops ops.toList K σ) (S : Sim ps E c σ μ a w) : wpAny c.P .any ops Q ops.size (Array.replicate ops.size false) a w := by
  obtain ⟨vs, ts, h1, h2, h3⟩ := headY E ops (h := σ.h) (n := σ.n) ops.toList σ.t hk
  have hcount : ((List.range ops.size).countP fun i => !(Array.replicate ops.size false).getD i true) = ops.size := by
    rw [List.countP_eq_length.2]
    · simp
    · intro i hi
      have : i < ops.size := List.mem_range.1 hi
      simp [this]
  refine Y_sound hE hc hΦ hok hd hQ (t0 := σ.t) (vs := vs) (h := σ.h) (n := σ.n) (ts := ts) h1 (fun i o ho => h2 i o (by simpa using ho)) (by simpa using h3) ops.size (Array.replicate ops.size false) (t := σ.t) hcount (by simp) ?_ ?_ (fun _ _ => rfl) S
  · intro j o hl ho
    have : j < ops.size := (Array.getElem?_eq_some_iff.1 ho).1
    simp [this] at hl
  · intro j o d ho hdd
    have : j < ops.size := (Array.getElem?_eq_some_iff.1 ho).1
    rw [if_neg (by simp [this])]
end
end Go.Proofs.Ytahgddfnbjpfiaa.Am
