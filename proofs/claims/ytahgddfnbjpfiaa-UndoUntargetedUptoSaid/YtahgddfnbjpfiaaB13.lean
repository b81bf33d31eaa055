/- Texts that the law's proof stands on: AmEv. -/
import Derived.Test.YtahgddfnbjpfiaaB12
/- An abstract machine over values: steps, one lemma each. -/
set_option linter.unusedVariables false
set_option linter.unusedSimpArgs false
namespace Go.Proofs.Ytahgddfnbjpfiaa.Am
open Go Go.RowKit

def isPure : Op → Bool
  | .store .. | .alloc _ | .box .. | .buildSlice .. | .makeSlice .. => false
  | .convert .. => false
  | .binOp _ _ _ (.const (.slice none _ _)) _ => false
  | .call cl => match cl.callee with
    | .builtin .append => false
    | .builtin .copy => false
    | .builtin .clear => false
    | .builtin _ => true
    | _ => false
  | _ => true

theorem isPure_call {cl : Call} (h : isPure (.call cl) = true) : ∃ b, cl.callee = .builtin b ∧ b ≠ .append ∧ b ≠ .copy ∧ b ≠ .clear := by
  simp only [isPure] at h
  split at h
  · cases h
  · cases h
  · cases h
  · rename_i b hb hb2 hb3 hc; exact ⟨b, hc, fun e => by subst e; exact hb rfl, fun e => by subst e; exact hb2 rfl, fun e => by subst e; exact hb3 rfl⟩
  · cases h
/-- The same, with heads that the unifier cannot unfold. -/
structure W (E : Env) (c : Code) (Q : Exit → St → Prop) (σ : St) : Prop where
  out : awp E c Q σ
structure WQ (Q : Exit → St → Prop) (e : Exit) (σ : St) : Prop where
  out : Q e σ
structure WO (E : Env) (ops : Array Oper) (l : List Oper) (Q : Exit → St → Prop) (σ : St) : Prop where
  out : awpOps E ops l (Q .normal) σ
structure WD (E : Env) (ops : Array Oper) (l : List Oper) (Q : Exit → St → Prop) (σ : St) : Prop where
  out : awpD E ops l (Q .normal) σ
structure WA (E : Env) (op : Op) (σ : St) (K : V → St → Prop) : Prop where
  out : aop E op σ K
structure WP (E : Env) (ops : Array Oper) (l : List Oper) (Q : Exit → St → Prop) (d : Option Tmp) (v : V) (σ : St) : Prop where
  out : awpOps E ops l (Q .normal) (putS d v σ)
theorem W_eq (E : Env) (c : Code) (Q : Exit → St → Prop) : W E c Q = awp E c Q := funext fun σ => propext ⟨fun h => h.out, fun h => ⟨h⟩⟩
section
variable {E : Env} {Q : Exit → St → Prop} {K : St → Prop} {σ : St} {t : Nat → V} {h : Hp} {n : Nat} {ops : Array Oper} {o : Oper} {rest : List Oper} {x y : Code} {v : V} {d : Nat}
theorem x_seq (k : W E x (thenQ (W E y Q) Q) σ) : W E (.seq x y) Q σ := ⟨⟨awp E y Q, by have := k.out; rw [W_eq] at this; exact this, fun σ h => ⟨σ, .refl σ, h⟩⟩⟩
/-- What holds between two pieces of code, told once for all ways to it. -/
theorem x_cut (I : St → Prop) (h1 : W E x (thenQ I Q) σ) (h2 : ∀ t h n, I ⟨t, h, n⟩ → W E y Q ⟨t, h, n⟩) : W E (.seq x y) Q σ := ⟨⟨I, h1.out, fun σ hσ => ⟨σ, .refl σ, (h2 σ.t σ.h σ.n hσ).out⟩⟩⟩
/-- .. and a row of one's own is taken as data from there on. -/
theorem x_cutF (k : Nat) (I : St → Prop) (h1 : W E x (thenQ I Q) σ) (h2 : ∀ t h n, I ⟨t, h, n⟩ → ∃ v, expoA h (t k) = some v ∧ ∀ h' : Hp, (∀ b, (touchA h (t k)).contains b = false → h' b = h b) → W E y Q ⟨upd t k v, h', n⟩) : W E (.seq x y) Q σ := by
  refine ⟨⟨I, h1.out, fun σ hσ => ?_⟩⟩
  obtain ⟨v, hv, hk⟩ := h2 σ.t σ.h σ.n hσ
  exact ⟨_, .data k v hv (.refl _), (hk _ fun b hb => by unfold frz; simp only [hb, Bool.false_eq_true, if_false]).out⟩
theorem x_skip (k : WQ Q .normal σ) : W E .skip Q σ := ⟨k.out⟩
theorem x_exit {i : Nat} (k : WQ Q (.exit i) σ) : W E (.exit i) Q σ := ⟨k.out⟩
theorem x_ret (k : WQ Q .ret σ) : W E .ret Q σ := ⟨k.out⟩
theorem x_block {i : Nat} (k : W E x (blockQ i Q) σ) : W E (.block i x) Q σ := ⟨k.out⟩
theorem x_reg {i : Nat} {l : List Oper} (e : ops = List.toArray l) (k : WO E ops l Q σ) : W E (.region i ops false) Q σ := ⟨by subst e; exact k.out⟩
theorem x_regD {i : Nat} {l : List Oper} (e : ops = List.toArray l) (ho : drawOk ops = true) (k : WD E ops l Q σ) : W E (.region i ops true) Q σ := ⟨by
  subst e
  simp only [awp, if_true, ho]
  exact k.out⟩
theorem x_nil (k : WQ Q .normal σ) : WO E ops [] Q σ := ⟨k.out⟩
theorem x_nilD (k : WQ Q .normal σ) : WD E ops [] Q σ := ⟨k.out⟩
theorem x_thenN (k : K σ) : WQ (thenQ K Q) .normal σ := ⟨k⟩
theorem x_thenE {i : Nat} (k : WQ Q (.exit i) σ) : WQ (thenQ K Q) (.exit i) σ := ⟨k.out⟩
theorem x_thenR (k : WQ Q .ret σ) : WQ (thenQ K Q) .ret σ := ⟨k.out⟩
theorem x_blkN {i : Nat} (k : WQ Q .normal σ) : WQ (blockQ i Q) .normal σ := ⟨k.out⟩
theorem x_blkR {i : Nat} (k : WQ Q .ret σ) : WQ (blockQ i Q) .ret σ := ⟨k.out⟩
theorem x_blkE {i : Nat} (k : WQ Q .normal σ) : WQ (blockQ i Q) (.exit i) σ := ⟨by simpa [blockQ] using k.out⟩
theorem x_blkF {i j : Nat} (e : (j == i) = false) (k : WQ Q (.exit j) σ) : WQ (blockQ i Q) (.exit j) σ := by
  have : j ≠ i := by simpa using e
  exact ⟨by simpa [blockQ, this] using k.out⟩
theorem x_cond {b : Operand} {c : Bool} (e : ev t b = .s (.bool c)) (k1 : c = true → W E x Q ⟨t, h, n⟩) (k2 : c = false → W E y Q ⟨t, h, n⟩) : W E (.cond b x y) Q ⟨t, h, n⟩ := by
  refine ⟨?_⟩
  unfold awp; simp only [e]; exact ⟨fun e => (k1 e).out, fun e => (k2 e).out⟩
theorem x_isC {b : Operand} (k : W E (.cond b x y) Q ⟨t, h, n⟩) : W E (.cond b x y) Q ⟨t, h, n⟩ := k
theorem x_condT {b : Operand} (e : ev t b = .s (.bool true)) (k1 : W E x Q ⟨t, h, n⟩) : W E (.cond b x y) Q ⟨t, h, n⟩ := x_cond e (fun _ => k1) (fun e => by cases e)
theorem x_condF {b : Operand} (e : ev t b = .s (.bool false)) (k1 : W E y Q ⟨t, h, n⟩) : W E (.cond b x y) Q ⟨t, h, n⟩ := x_cond e (fun e => by cases e) (fun _ => k1)
theorem x_condP {b : Operand} {p : Prop} {_ : Decidable p} (e : ev t b = .s (.bool (decide p))) (k1 : p → W E x Q ⟨t, h, n⟩) (k2 : ¬ p → W E y Q ⟨t, h, n⟩) : W E (.cond b x y) Q ⟨t, h, n⟩ :=
  x_cond e (fun e => k1 (by simpa using e)) (fun e => k2 (by simpa using e))
theorem x_loop (I : St → Prop) (m : St → Nat) (h0 : I σ) (hs : ∀ t h n, I ⟨t, h, n⟩ → W E x (thenQ (fun σ' => I σ' ∧ m σ' < m ⟨t, h, n⟩) Q) ⟨t, h, n⟩) : W E (.loop x) Q σ := ⟨⟨I, m, σ, .refl _, h0, fun σ hσ => (hs σ.t σ.h σ.n hσ).out⟩⟩
theorem x_loopG {h' : Hp} (k z : Nat) (I : St → Prop) (m : St → Nat) (hk : t k = .cap0) (h0 : I ⟨upd t k (.loc n 0 0 0), upd h' n (some ⟨z, [], true⟩), n + 1⟩) (hs : ∀ t h n, I ⟨t, h, n⟩ → W E x (thenQ (fun σ' => I σ' ∧ m σ' < m ⟨t, h, n⟩) Q) ⟨t, h, n⟩) : W E (.loop x) Q ⟨t, h', n⟩ :=
  ⟨⟨I, m, _, .step k z hk (.refl _), h0, fun σ hσ => (hs σ.t σ.h σ.n hσ).out⟩⟩
theorem x_loopG2 {h' : Hp} (k z k2 z2 : Nat) (I : St → Prop) (m : St → Nat) (hk : t k = .cap0) (hne : k ≠ k2) (h2 : t k2 = .cap0) (h0 : I ⟨upd (upd t k (.loc n 0 0 0)) k2 (.loc (n + 1) 0 0 0), upd (upd h' n (some ⟨z, [], true⟩)) (n + 1) (some ⟨z2, [], true⟩), n + 1 + 1⟩) (hs : ∀ t h n, I ⟨t, h, n⟩ → W E x (thenQ (fun σ' => I σ' ∧ m σ' < m ⟨t, h, n⟩) Q) ⟨t, h, n⟩) : W E (.loop x) Q ⟨t, h', n⟩ :=
  ⟨⟨I, m, _, .step k z hk (.step k2 z2 (by simp only []; rw [upd_ne _ _ _ _ (Ne.symm hne)]; exact h2) (.refl _)), h0, fun σ hσ => (hs σ.t σ.h σ.n hσ).out⟩⟩
theorem aop_pure {op : Op} (hp : isPure op = true) {K : V → St → Prop} (hv : pval E.P E.plain h (ev t) op = some v) (k : K v ⟨t, h, n⟩) : aop E op ⟨t, h, n⟩ K := by
  unfold aop
  split <;> first | exact ⟨_, hv, k⟩ | (simp [isPure] at hp; done) | skip
  rename_i cl
  obtain ⟨b, h1, h2, h3, h4⟩ := isPure_call hp
  unfold acl
  rw [h1]
  cases b <;> first | exact (h2 rfl).elim | exact (h3 rfl).elim | exact (h4 rfl).elim | exact ⟨_, hv, k⟩
theorem x_ops (k : WO E ops (o :: rest) Q ⟨t, h, n⟩) : WO E ops (o :: rest) Q ⟨t, h, n⟩ := k
theorem x_opsD (k : WD E ops (o :: rest) Q ⟨t, h, n⟩) : WD E ops (o :: rest) Q ⟨t, h, n⟩ := k
theorem x_op (hg : o.guard = none) (hd : o.dst = some d) (hp : isPure o.op = true) (hv : pval E.P E.plain h (ev t) o.op = some v) (k : WO E ops rest Q ⟨upd t d v, h, n⟩) : WO E ops (o :: rest) Q ⟨t, h, n⟩ := by
  refine ⟨?_⟩
  unfold awpOps gd
  simp only [hg]
  exact aop_pure hp hv (by simpa [putS, hd] using k.out)
/-- An operation that turns memory. -/
theorem x_eff (hg : o.guard = none) (k : WA E o.op ⟨t, h, n⟩ fun v σ' => WP E ops rest Q o.dst v σ') : WO E ops (o :: rest) Q ⟨t, h, n⟩ := by
  have e : (fun v σ' => WP E ops rest Q o.dst v σ') = fun v σ' => awpOps E ops rest (Q .normal) (putS o.dst v σ') := funext fun v => funext fun σ' => propext ⟨fun h => h.out, fun h => ⟨h⟩⟩
  refine ⟨?_⟩
  unfold awpOps gd
  simp only [hg]
  have := k.out
  rwa [e] at this
theorem x_putS (k : WO E ops rest Q ⟨upd t d v, h, n⟩) : WP E ops rest Q (some d) v ⟨t, h, n⟩ := ⟨k.out⟩
theorem x_putN (k : WO E ops rest Q σ) : WP E ops rest Q none v σ := ⟨k.out⟩
/-- A guarded operation. -/
theorem x_gd {j e : Nat} {want b : Bool} (hg : o.guard = some (j, want)) (hj : (ops[j]?).bind (·.dst) = some e) (hb : t e = .s (.bool b)) (k1 : b = want → WA E o.op ⟨t, h, n⟩ fun v σ' => WP E ops rest Q o.dst v σ') (k2 : b = (!want) → WP E ops rest Q o.dst .undef ⟨t, h, n⟩) : WO E ops (o :: rest) Q ⟨t, h, n⟩ := by
  have e : (fun v σ' => WP E ops rest Q o.dst v σ') = fun v σ' => awpOps E ops rest (Q .normal) (putS o.dst v σ') := funext fun v => funext fun σ' => propext ⟨fun h => h.out, fun h => ⟨h⟩⟩
  refine ⟨?_⟩
  unfold awpOps gd
  simp only [hg, hj, hb]
  exact ⟨fun e1 => by have := (k1 e1).out; rwa [e] at this, fun e => (k2 (by cases b <;> cases want <;> simp_all)).out⟩
theorem x_gdU {j e : Nat} {want : Bool} (hg : o.guard = some (j, want)) (hj : (ops[j]?).bind (·.dst) = some e) (hb : t e = .undef) (k2 : WP E ops rest Q o.dst .undef ⟨t, h, n⟩) : WO E ops (o :: rest) Q ⟨t, h, n⟩ := by
  refine ⟨?_⟩
  unfold awpOps gd
  simp only [hg, hj, hb]
  exact k2.out
theorem wa_pure {op : Op} (hp : isPure op = true) {K : V → St → Prop} (hv : pval E.P E.plain h (ev t) op = some v) (k : K v ⟨t, h, n⟩) : WA E op ⟨t, h, n⟩ K := ⟨aop_pure hp hv k⟩
/-- Open order: a quiet operation. -/
theorem x_opD (hf : quiet ops o = true) (hg : o.guard = none) (hd : o.dst = some d) (hv : qv E o.op (ev t) h v) (k : WD E ops rest Q ⟨upd t d v, h, n⟩) : WD E ops (o :: rest) Q ⟨t, h, n⟩ := by
  refine ⟨?_⟩
  unfold awpD gd
  simp only [hf, hg, if_true]
  exact ⟨v, hv, by simpa [putS, hd] using k.out⟩
theorem x_gdD {j e : Nat} {want b : Bool} (hf : quiet ops o = true) (hg : o.guard = some (j, want)) (hd : o.dst = some d) (hj : (ops[j]?).bind (·.dst) = some e) (hb : t e = .s (.bool b)) (k1 : b = want → ∃ v, qv E o.op (ev t) h v ∧ WD E ops rest Q ⟨upd t d v, h, n⟩) (k2 : b = (!want) → WD E ops rest Q ⟨upd t d .undef, h, n⟩) : WD E ops (o :: rest) Q ⟨t, h, n⟩ := by
  refine ⟨?_⟩
  unfold awpD gd
  simp only [hf, hg, hj, hb, if_true]
  exact ⟨fun e1 => by obtain ⟨v, h1, h2⟩ := k1 e1; exact ⟨v, h1, by simpa [putS, hd] using h2.out⟩, fun e => by have := (k2 (by cases b <;> cases want <;> simp_all)).out; simpa [putS, hd] using this⟩
theorem x_gdDU {j e : Nat} {want : Bool} (hf : quiet ops o = true) (hg : o.guard = some (j, want)) (hd : o.dst = some d) (hj : (ops[j]?).bind (·.dst) = some e) (hb : t e = .undef) (k2 : WD E ops rest Q ⟨upd t d .undef, h, n⟩) : WD E ops (o :: rest) Q ⟨t, h, n⟩ := by
  refine ⟨?_⟩
  unfold awpD gd
  simp only [hf, hg, hj, hb, if_true]
  have := k2.out; simpa [putS, hd] using this
theorem qv_pure {op : Op} (hp : isPure op = true) (hv : pval E.P E.plain h (ev t) op = some v) : qv E op (ev t) h v := by
  unfold qv
  split
  · rename_i cl
    obtain ⟨b, h1, h2, h3, h4⟩ := isPure_call hp
    unfold qcl
    rw [h1]
    cases b <;> first | exact (h2 rfl).elim | exact (h3 rfl).elim | exact (h4 rfl).elim | exact hv
  · exact hv
theorem x_effD (hf : quiet ops o = false) (k : WO E ops (o :: rest) Q σ) : WD E ops (o :: rest) Q σ := by
  refine ⟨?_⟩
  unfold awpD
  simp only [hf, Bool.false_eq_true, if_false]
  exact k.out
/-- A call by its contract. -/
theorem wa_call {cl : Call} {g : FuncId} {caps args ds : List V} {r : V} {F : Fspec} {f : Operand} {K : V → St → Prop} (hf : cl.callee = .value f) (hv : ev t f = .fn g caps) (hΓ : E.Γ g = some F) (ha : cl.args.toList.map (ev t) ++ caps = args) (he : expArgs h 0 args = some ds) (hF : F (phi E h args) ds r) (k : aret args r ⟨t, h, n⟩ K) :
    WA E (.call cl) ⟨t, h, n⟩ K := by
  refine ⟨?_⟩
  unfold aop acl
  simp only [hf, hv]
  right
  unfold acall
  simp only [hΓ, ha, he]
  exact ⟨r, hF, k⟩
theorem frzOf_none {args : List V} (ht : args.flatMap (touchA h) = []) : frzOf h args = h := by
  unfold frzOf
  rw [ht]
  funext b
  simp [frz]
theorem x_callN {cl : Call} {g : FuncId} {caps args ds : List V} {r : V} {F : Fspec} {f : Operand} (hg : o.guard = none) (ho : o.op = .call cl) (hd : o.dst = some d) (hf : cl.callee = .value f) (hv : ev t f = .fn g caps) (hΓ : E.Γ g = some F) (ha : cl.args.toList.map (ev t) ++ caps = args) (he : expArgs h 0 args = some ds) (hF : F (phi E h args) ds r) (hr : noSl r = true) (k : WO E ops rest Q ⟨upd t d r, h, n⟩) : WO E ops (o :: rest) Q ⟨t, h, n⟩ := by
  refine x_eff hg ?_
  rw [ho]
  refine wa_call hf hv hΓ ha he hF ?_
  have hk : WP E ops rest Q o.dst r ⟨t, h, n⟩ := by rw [hd]; exact x_putS k
  unfold aret
  cases r <;> first | (simp only [noSl, Bool.false_eq_true] at hr; done) | (simp only [hr, if_true]; exact hk) | exact hk
theorem x_callS {cl : Call} {g : FuncId} {caps args ds : List V} {r : V} {F : Fspec} {f : Operand} (hg : o.guard = none) (ho : o.op = .call cl) (hd : o.dst = some d) (hf : cl.callee = .value f) (hv : ev t f = .fn g caps) (hΓ : E.Γ g = some F) (ha : cl.args.toList.map (ev t) ++ caps = args) (he : expArgs h 0 args = some ds) (hF : F (phi E h args) ds r) (hr : ∀ z rows, r ≠ .own z rows) (ht : args.flatMap (touchA h) = []) (k : WO E ops rest Q ⟨upd t d r, h, n⟩) : WO E ops (o :: rest) Q ⟨t, h, n⟩ := by
  refine x_eff hg ?_
  rw [ho]
  refine wa_call hf hv hΓ ha he hF ?_
  have hk : WP E ops rest Q o.dst r ⟨t, h, n⟩ := by rw [hd]; exact x_putS k
  unfold aret
  split
  · exact (hr _ _ rfl).elim
  · simp only [frzOf_none ht, ite_self]; exact hk
theorem x_callO {cl : Call} {g : FuncId} {caps args ds : List V} {z : Nat} {rows : List (List V)} {F : Fspec} {f : Operand} (hg : o.guard = none) (ho : o.op = .call cl) (hd : o.dst = some d) (hf : cl.callee = .value f) (hv : ev t f = .fn g caps) (hΓ : E.Γ g = some F) (ha : cl.args.toList.map (ev t) ++ caps = args) (he : expArgs h 0 args = some ds) (hF : F (phi E h args) ds (.own z rows)) (ht : args.flatMap (touchA h) = [])
    (k : ∀ cap, rows.length ≤ cap → WO E ops rest Q ⟨upd t d (.loc n 0 rows.length cap), upd h n (some ⟨z, rows ++ spare z (cap - rows.length), true⟩), n + 1⟩) : WO E ops (o :: rest) Q ⟨t, h, n⟩ := by
  refine x_eff hg ?_
  rw [ho]
  refine wa_call hf hv hΓ ha he hF ?_
  unfold aret
  intro cap hc
  simp only [frzOf_none ht]
  rw [hd]
  exact x_putS (k cap hc)
/-- A call in place. -/
theorem x_callI {cl : Call} {g : FuncId} {caps args : List V} {T : Pt} {f : Operand} (hg : o.guard = none) (ho : o.op = .call cl) (hd : o.dst = some d) (hf : cl.callee = .value f) (hv : ev t f = .fn g caps) (hΔ : E.Δ g = some T) (ha : cl.args.toList.map (ev t) ++ caps = args) (k : T E.Φ args ⟨fun _ => .undef, h, n⟩ fun v σ' => WP E ops rest Q (some d) v ⟨t, σ'.h, σ'.n⟩) : WO E ops (o :: rest) Q ⟨t, h, n⟩ := by
  refine x_eff hg ?_
  rw [ho, hd]
  refine ⟨?_⟩
  unfold aop acl
  simp only [hf, hv]
  left
  exact ⟨T, hΔ, by rw [ha]; exact k⟩
/-- A function value that was handed in. -/
theorem x_callV {cl : Call} {i : Nat} {args ds : List V} {S : List V → Value → Prop} {x : Value} {f : Operand} (hg : o.guard = none) (ho : o.op = .call cl) (hd : o.dst = some d) (hf : cl.callee = .value f) (hv : ev t f = .fv i) (hS : E.Φ i = some S) (ha : cl.args.toList.map (ev t) = args) (he : allO (expoA h) args = some ds) (hx : flat x = true) (hF : S ds x) (k : WO E ops rest Q ⟨upd t d (.s x), h, n⟩) : WO E ops (o :: rest) Q ⟨t, h, n⟩ := by
  refine x_eff hg ?_
  rw [ho, hd]
  refine ⟨?_⟩
  unfold aop acl
  simp only [hf, hv]
  unfold afv
  simp only [hS, ha, he]
  exact ⟨x, hx, hF, x_putS k⟩
/-- append to nothing, and to a row of one's own. -/
theorem x_append0 {cl : Call} {s x : Operand} {T U : TypeId} {e z b8 : Nat} {nr : List (List V)} (hg : o.guard = none) (ho : o.op = .call cl) (hd : o.dst = some d) (hf : cl.callee = .builtin .append) (ha : cl.args = #[s, x]) (hT : cl.argTypes = #[T, U]) (hq : seqo E.P T = .slice e z b8) (hz : 0 < z ∧ 0 < b8) (hzk : zok E.P e z = true) (hs : ev t s = .cap0) (hx : srcRows E.P h U (ev t x) = some nr) (hok : okRows z nr) (hb : nr.length * b8 ≤ 140737488355328)
    (k : ∀ cap, nr.length ≤ cap → WO E ops rest Q ⟨upd t d (.loc n 0 nr.length cap), upd h n (some ⟨z, nr ++ spare z (cap - nr.length), true⟩), n + 1⟩) : WO E ops (o :: rest) Q ⟨t, h, n⟩ := by
  refine x_eff hg ?_
  rw [ho, hd]
  refine ⟨?_⟩
  unfold aop acl
  simp only [hf, ha, hT]
  unfold aappend
  simp only [hq, hs]
  exact .inl ⟨hz.1, hz.2, hzk, nr, hx, hok, hb, fun cap hc => x_putS (k cap hc)⟩
theorem x_append {cl : Call} {s x : Operand} {T U : TypeId} {e z b8 b len cap : Nat} {B : Blk} {nr : List (List V)} (hg : o.guard = none) (ho : o.op = .call cl) (hd : o.dst = some d) (hf : cl.callee = .builtin .append) (ha : cl.args = #[s, x]) (hT : cl.argTypes = #[T, U]) (hq : seqo E.P T = .slice e z b8) (hz : 0 < z ∧ 0 < b8) (hzk : zok E.P e z = true) (hs : ev t s = .loc b 0 len cap) (hx : srcRows E.P h U (ev t x) = some nr) (hok : okRows z nr)
    (hB : h b = some B) (hw : B.wr = true) (hBz : B.size = z) (hl : len ≤ cap) (hc : cap ≤ B.rows.length) (hb : (len + nr.length) * b8 ≤ 140737488355328)
    (k : ∀ cap', len + nr.length ≤ cap' → WO E ops rest Q ⟨upd t d (.loc n 0 (len + nr.length) cap'), upd (upd h b none) n (some ⟨z, B.rows.take len ++ nr ++ spare z (cap' - (len + nr.length)), true⟩), n + 1⟩) : WO E ops (o :: rest) Q ⟨t, h, n⟩ := by
  refine x_eff hg ?_
  rw [ho, hd]
  refine ⟨?_⟩
  unfold aop acl
  simp only [hf, ha, hT]
  unfold aappend
  simp only [hq, hs]
  exact .inl ⟨hz.1, hz.2, hzk, nr, hx, hok, B, hB, hw, hBz, hl, hc, hb, .inl fun cap hc => x_putS (k cap hc)⟩
/-- append, where the row's own places are told apart from its room. -/
theorem x_appendO {cl : Call} {s x : Operand} {T U : TypeId} {e z b8 b len cap : Nat} {rows sp : List (List V)} {nr : List (List V)} (hg : o.guard = none) (ho : o.op = .call cl) (hd : o.dst = some d) (hf : cl.callee = .builtin .append) (ha : cl.args = #[s, x]) (hT : cl.argTypes = #[T, U]) (hq : seqo E.P T = .slice e z b8) (hz : 0 < z ∧ 0 < b8) (hzk : zok E.P e z = true) (hs : ev t s = .loc b 0 len cap)
    (hB : h b = some ⟨z, rows ++ sp, true⟩) (hl : rows.length = len) (hc : len ≤ cap) (hc2 : cap ≤ len + sp.length) (hx : srcRows E.P h U (ev t x) = some nr) (hok : okRows z nr) (hb : (len + nr.length) * b8 ≤ 140737488355328)
    (k : ∀ cap', len + nr.length ≤ cap' → WO E ops rest Q ⟨upd t d (.loc n 0 (len + nr.length) cap'), upd (upd h b none) n (some ⟨z, (rows ++ nr) ++ spare z (cap' - (len + nr.length)), true⟩), n + 1⟩) : WO E ops (o :: rest) Q ⟨t, h, n⟩ := by
  refine x_append hg ho hd hf ha hT hq hz hzk hs hx hok hB rfl rfl hc (by simp [hl]; exact hc2) hb fun cap' hcap => ?_
  have : (rows ++ sp).take len = rows := by rw [← hl]; simp
  rw [this]
  exact k cap' hcap
/-- append to a part of a row that has no room: the row itself stays. -/
theorem x_appendN {cl : Call} {s x : Operand} {T U : TypeId} {e z b8 b len cap : Nat} {B : Blk} {nr : List (List V)} (hg : o.guard = none) (ho : o.op = .call cl) (hd : o.dst = some d) (hf : cl.callee = .builtin .append) (ha : cl.args = #[s, x]) (hT : cl.argTypes = #[T, U]) (hq : seqo E.P T = .slice e z b8) (hz : 0 < z ∧ 0 < b8) (hzk : zok E.P e z = true) (hs : ev t s = .loc b 0 len cap)
    (hB : h b = some B) (hw : B.wr = true) (hBz : B.size = z) (hl : len ≤ cap) (hc : cap ≤ B.rows.length) (hx : srcRows E.P h U (ev t x) = some nr) (hok : okRows z nr) (hb : (len + nr.length) * b8 ≤ 140737488355328) (hlt : cap < len + nr.length)
    (k : ∀ cap', len + nr.length ≤ cap' → WO E ops rest Q ⟨upd t d (.loc n 0 (len + nr.length) cap'), upd h n (some ⟨z, B.rows.take len ++ nr ++ spare z (cap' - (len + nr.length)), true⟩), n + 1⟩) : WO E ops (o :: rest) Q ⟨t, h, n⟩ := by
  refine x_eff hg ?_
  rw [ho, hd]
  refine ⟨?_⟩
  unfold aop acl
  simp only [hf, ha, hT]
  unfold aappend
  simp only [hq, hs]
  exact .inl ⟨hz.1, hz.2, hzk, nr, hx, hok, B, hB, hw, hBz, hl, hc, hb, .inr ⟨hlt, fun cap hc => x_putS (k cap hc)⟩⟩
/-- append of a made row to a part of a row that has no room. -/
theorem x_appendZ {cl : Call} {s x : Operand} {T U : TypeId} {e z b8 b len cap m : Nat} {B : Blk} (hg : o.guard = none) (ho : o.op = .call cl) (hd : o.dst = some d) (hf : cl.callee = .builtin .append) (ha : cl.args = #[s, x]) (hT : cl.argTypes = #[T, U]) (hU : isIntT E.P U = true) (hq : seqo E.P T = .slice e z b8) (hz : 0 < z ∧ 0 < b8) (hzk : zok E.P e z = true) (hs : ev t s = .loc b 0 len cap)
    (hm : asN (ev t x) = some m) (hB : h b = some B) (hw : B.wr = true) (hBz : B.size = z) (hl : len ≤ cap) (hc : cap ≤ B.rows.length) (hb : (len + m) * b8 ≤ 140737488355328) (hlt : cap < len + m)
    (k : ∀ cap', len + m ≤ cap' → WO E ops rest Q ⟨upd t d (.loc n 0 (len + m) cap'), upd h n (some ⟨z, B.rows.take len ++ spare z m ++ spare z (cap' - (len + m)), true⟩), n + 1⟩) : WO E ops (o :: rest) Q ⟨t, h, n⟩ := by
  refine x_eff hg ?_
  rw [ho, hd]
  refine ⟨?_⟩
  unfold aop acl
  simp only [hf, ha, hT]
  right
  unfold aappendZ
  simp only [hq, hs, hm]
  exact ⟨hU, hz.1, hz.2, hzk, B, hB, hw, hBz, hl, hc, hb, hlt, fun cap hc => x_putS (k cap hc)⟩
theorem x_copy {cl : Call} {s x : Operand} {T U : TypeId} {e z b8 b off len cap : Nat} {B : Blk} {nr : List (List V)} (hg : o.guard = none) (ho : o.op = .call cl) (hd : o.dst = some d) (hf : cl.callee = .builtin .copy) (ha : cl.args = #[s, x]) (hT : cl.argTypes = #[T, U]) (hq : seqo E.P T = .slice e z b8) (hz : 0 < z) (hs : ev t s = .loc b off len cap) (hx : rowsOf h (ev t x) = some nr)
    (hok : okRows z (nr.take (min nr.length len))) (hB : h b = some B) (hw : B.wr = true) (hBz : B.size = z) (hl : off + len ≤ B.rows.length)
    (k : WO E ops rest Q ⟨upd t d (.s (.int .i64 ((min nr.length len : Nat) : Int))), upd h b (some { B with rows := B.rows.take off ++ nr.take (min nr.length len) ++ B.rows.drop (off + min nr.length len) }), n⟩) : WO E ops (o :: rest) Q ⟨t, h, n⟩ := by
  refine x_eff hg ?_
  rw [ho, hd]
  refine ⟨?_⟩
  unfold aop acl
  simp only [hf, ha, hT]
  unfold acopy
  simp only [hq, hs]
  exact ⟨hz, nr, hx, hok, B, hB, hw, hBz, hl, x_putS k⟩
theorem x_clear {cl : Call} {s : Operand} {T : TypeId} {e z b8 b off len cap : Nat} {B : Blk} {zv : Value} (hg : o.guard = none) (ho : o.op = .call cl) (hd : o.dst = some d) (hf : cl.callee = .builtin .clear) (ha : cl.args = #[s]) (hT : cl.argTypes = #[T]) (hq : seqo E.P T = .slice e z b8) (hz : 0 < z) (hs : ev t s = .loc b off len cap) (hzv : zro E.P e = some zv) (hzs : zv.cells.size = z) (hz1 : (zv.cells.toList.all fun u => u.oneCell') = true)
    (hB : h b = some B) (hw : B.wr = true) (hBz : B.size = z) (hl : off + len ≤ B.rows.length)
    (k : WO E ops rest Q ⟨upd t d (.tup []), upd h b (some { B with rows := B.rows.take off ++ spare z len ++ B.rows.drop (off + len) }), n⟩) : WO E ops (o :: rest) Q ⟨t, h, n⟩ := by
  refine x_eff hg ?_
  rw [ho, hd]
  refine ⟨?_⟩
  unfold aop acl
  simp only [hf, ha, hT]
  unfold aclear
  simp only [hq, hs]
  exact ⟨hz, zv, hzv, hzs, hz1, B, hB, hw, hBz, hl, x_putS k⟩
theorem x_clearN {cl : Call} {s : Operand} {T : TypeId} {e z b8 b off len cap : Nat} {B : Blk} {zv : Value} (hg : o.guard = none) (ho : o.op = .call cl) (hd : o.dst = none) (hf : cl.callee = .builtin .clear) (ha : cl.args = #[s]) (hT : cl.argTypes = #[T]) (hq : seqo E.P T = .slice e z b8) (hz : 0 < z) (hs : ev t s = .loc b off len cap) (hzv : zro E.P e = some zv) (hzs : zv.cells.size = z) (hz1 : (zv.cells.toList.all fun u => u.oneCell') = true)
    (hB : h b = some B) (hw : B.wr = true) (hBz : B.size = z) (hl : off + len ≤ B.rows.length)
    (k : WO E ops rest Q ⟨t, upd h b (some { B with rows := B.rows.take off ++ spare z len ++ B.rows.drop (off + len) }), n⟩) : WO E ops (o :: rest) Q ⟨t, h, n⟩ := by
  refine x_eff hg ?_
  rw [ho, hd]
  refine ⟨?_⟩
  unfold aop acl
  simp only [hf, ha, hT]
  unfold aclear
  simp only [hq, hs]
  exact ⟨hz, zv, hzv, hzs, hz1, B, hB, hw, hBz, hl, x_putN k⟩
theorem EnvOk.add {P : Program} {plain : TypeId → Bool} {Γ : FuncId → Option Fspec} {Δ : FuncId → Option Pt} {Φ : FvSpec} {nt : Nat} (hE : EnvOk ⟨P, plain, Γ, Δ, Φ, nt⟩) {f : FuncId} {F : Fspec} (hs : Sound P f F) (hf : fnOk P f = true) : EnvOk ⟨P, plain, upd Γ f (some F), Δ, Φ, nt⟩ := by
  refine ⟨hE.plain, fun g G hg => ?_, fun g G hg => ?_, hE.mixed, hE.soundT⟩ <;> by_cases e : g = f
  · subst e; simp only [upd_same, Option.some.injEq] at hg; subst hg; exact hs
  · simp only [upd_ne _ _ _ _ e] at hg; exact hE.sound g G hg
  · subst e; exact hf
  · simp only [upd_ne _ _ _ _ e] at hg; exact hE.fn g G hg
theorem EnvOk.addT {P : Program} {plain : TypeId → Bool} {Γ : FuncId → Option Fspec} {Δ : FuncId → Option Pt} {Φ : FvSpec} {nt : Nat} (hE : EnvOk ⟨P, plain, Γ, Δ, Φ, nt⟩) {f : FuncId} {T : Pt} (hs : SoundT P f T) : EnvOk ⟨P, plain, Γ, upd Δ f (some T), Φ, nt⟩ := by
  refine ⟨hE.plain, hE.sound, hE.fn, hE.mixed, fun g G hg => ?_⟩
  by_cases e : g = f
  · subst e; simp only [upd_same, Option.some.injEq] at hg; subst hg; exact hs
  · simp only [upd_ne _ _ _ _ e] at hg; exact hE.soundT g G hg
/-- Guards whose answer is known. -/
theorem x_gT {j e : Nat} {want : Bool} (hg : o.guard = some (j, want)) (hj : (ops[j]?).bind (·.dst) = some e) (hb : t e = .s (.bool want)) (k : WO E ops ({ o with guard := none } :: rest) Q ⟨t, h, n⟩) : WO E ops (o :: rest) Q ⟨t, h, n⟩ := by
  have := k.out
  refine ⟨?_⟩
  unfold awpOps gd at this ⊢
  simp only [hg, hj, hb] at this ⊢
  exact ⟨fun _ => this, fun e => (e rfl).elim⟩
theorem x_gF {j e : Nat} {want : Bool} (hg : o.guard = some (j, want)) (hj : (ops[j]?).bind (·.dst) = some e) (hd : o.dst = some d) (hb : t e = .s (.bool !want)) (k : WO E ops rest Q ⟨upd t d .undef, h, n⟩) : WO E ops (o :: rest) Q ⟨t, h, n⟩ := by
  refine x_gd hg hj hb (fun e => by cases want <;> cases e) (fun _ => ?_)
  rw [hd]; exact x_putS k
theorem x_gU {j e : Nat} {want : Bool} (hg : o.guard = some (j, want)) (hj : (ops[j]?).bind (·.dst) = some e) (hd : o.dst = some d) (hb : t e = .undef) (k : WO E ops rest Q ⟨upd t d .undef, h, n⟩) : WO E ops (o :: rest) Q ⟨t, h, n⟩ := by
  refine x_gdU hg hj hb ?_
  rw [hd]; exact x_putS k
theorem x_gTD {j e : Nat} {want : Bool} (hf : quiet ops o = true) (hg : o.guard = some (j, want)) (hj : (ops[j]?).bind (·.dst) = some e) (hb : t e = .s (.bool want)) (k : WD E ops ({ o with guard := none } :: rest) Q ⟨t, h, n⟩) : WD E ops (o :: rest) Q ⟨t, h, n⟩ := by
  have := k.out
  have hf' : quiet ops { o with guard := none } = true := hf
  refine ⟨?_⟩
  unfold awpD gd at this ⊢
  simp only [hf, hf', hg, hj, hb, if_true] at this ⊢
  exact ⟨fun _ => this, fun e => (e rfl).elim⟩
theorem x_gFD {j e : Nat} {want : Bool} (hf : quiet ops o = true) (hg : o.guard = some (j, want)) (hj : (ops[j]?).bind (·.dst) = some e) (hd : o.dst = some d) (hb : t e = .s (.bool !want)) (k : WD E ops rest Q ⟨upd t d .undef, h, n⟩) : WD E ops (o :: rest) Q ⟨t, h, n⟩ :=
  x_gdD hf hg hd hj hb (fun e => by cases want <;> cases e) (fun _ => k)
theorem x_gUD {j e : Nat} {want : Bool} (hf : quiet ops o = true) (hg : o.guard = some (j, want)) (hj : (ops[j]?).bind (·.dst) = some e) (hd : o.dst = some d) (hb : t e = .undef) (k : WD E ops rest Q ⟨upd t d .undef, h, n⟩) : WD E ops (o :: rest) Q ⟨t, h, n⟩ :=
  x_gdDU hf hg hd hj hb k
theorem x_gTt {j e : Nat} {b : Bool} (hg : o.guard = some (j, true)) (hj : (ops[j]?).bind (·.dst) = some e) (hb : t e = .s (.bool b)) (hb2 : b = true) (k : WO E ops ({ o with guard := none } :: rest) Q ⟨t, h, n⟩) : WO E ops (o :: rest) Q ⟨t, h, n⟩ := x_gT hg hj (by rw [hb, hb2]) k
theorem x_gFt {j e : Nat} {b : Bool} (hg : o.guard = some (j, true)) (hj : (ops[j]?).bind (·.dst) = some e) (hd : o.dst = some d) (hb : t e = .s (.bool b)) (hb2 : b = false) (k : WO E ops rest Q ⟨upd t d .undef, h, n⟩) : WO E ops (o :: rest) Q ⟨t, h, n⟩ := x_gF hg hj hd (by rw [hb, hb2]; rfl) k
theorem x_gTf {j e : Nat} {b : Bool} (hg : o.guard = some (j, false)) (hj : (ops[j]?).bind (·.dst) = some e) (hb : t e = .s (.bool b)) (hb2 : b = false) (k : WO E ops ({ o with guard := none } :: rest) Q ⟨t, h, n⟩) : WO E ops (o :: rest) Q ⟨t, h, n⟩ := x_gT hg hj (by rw [hb, hb2]) k
theorem x_gFf {j e : Nat} {b : Bool} (hg : o.guard = some (j, false)) (hj : (ops[j]?).bind (·.dst) = some e) (hd : o.dst = some d) (hb : t e = .s (.bool b)) (hb2 : b = true) (k : WO E ops rest Q ⟨upd t d .undef, h, n⟩) : WO E ops (o :: rest) Q ⟨t, h, n⟩ := x_gF hg hj hd (by rw [hb, hb2]; rfl) k
theorem x_gU' {j e : Nat} {want : Bool} {v : V} (hg : o.guard = some (j, want)) (hj : (ops[j]?).bind (·.dst) = some e) (hd : o.dst = some d) (hb : t e = v) (hb2 : v = .undef) (k : WO E ops rest Q ⟨upd t d .undef, h, n⟩) : WO E ops (o :: rest) Q ⟨t, h, n⟩ := x_gU hg hj hd (by rw [hb, hb2]) k
theorem x_gTDt {j e : Nat} {b : Bool} (hf : quiet ops o = true) (hg : o.guard = some (j, true)) (hj : (ops[j]?).bind (·.dst) = some e) (hb : t e = .s (.bool b)) (hb2 : b = true) (k : WD E ops ({ o with guard := none } :: rest) Q ⟨t, h, n⟩) : WD E ops (o :: rest) Q ⟨t, h, n⟩ := x_gTD hf hg hj (by rw [hb, hb2]) k
theorem x_gFDt {j e : Nat} {b : Bool} (hf : quiet ops o = true) (hg : o.guard = some (j, true)) (hj : (ops[j]?).bind (·.dst) = some e) (hd : o.dst = some d) (hb : t e = .s (.bool b)) (hb2 : b = false) (k : WD E ops rest Q ⟨upd t d .undef, h, n⟩) : WD E ops (o :: rest) Q ⟨t, h, n⟩ := x_gFD hf hg hj hd (by rw [hb, hb2]; rfl) k
theorem x_gTDf {j e : Nat} {b : Bool} (hf : quiet ops o = true) (hg : o.guard = some (j, false)) (hj : (ops[j]?).bind (·.dst) = some e) (hb : t e = .s (.bool b)) (hb2 : b = false) (k : WD E ops ({ o with guard := none } :: rest) Q ⟨t, h, n⟩) : WD E ops (o :: rest) Q ⟨t, h, n⟩ := x_gTD hf hg hj (by rw [hb, hb2]) k
theorem x_gFDf {j e : Nat} {b : Bool} (hf : quiet ops o = true) (hg : o.guard = some (j, false)) (hj : (ops[j]?).bind (·.dst) = some e) (hd : o.dst = some d) (hb : t e = .s (.bool b)) (hb2 : b = true) (k : WD E ops rest Q ⟨upd t d .undef, h, n⟩) : WD E ops (o :: rest) Q ⟨t, h, n⟩ := x_gFD hf hg hj hd (by rw [hb, hb2]; rfl) k
theorem x_gUD' {j e : Nat} {want : Bool} {v : V} (hf : quiet ops o = true) (hg : o.guard = some (j, want)) (hj : (ops[j]?).bind (·.dst) = some e) (hd : o.dst = some d) (hb : t e = v) (hb2 : v = .undef) (k : WD E ops rest Q ⟨upd t d .undef, h, n⟩) : WD E ops (o :: rest) Q ⟨t, h, n⟩ := x_gUD hf hg hj hd (by rw [hb, hb2]) k
theorem x_condT' {b : Operand} {c : Bool} (e : ev t b = .s (.bool c)) (ec : c = true) (k1 : W E x Q ⟨t, h, n⟩) : W E (.cond b x y) Q ⟨t, h, n⟩ := x_condT (by rw [e, ec]) k1
theorem x_condF' {b : Operand} {c : Bool} (e : ev t b = .s (.bool c)) (ec : c = false) (k1 : W E y Q ⟨t, h, n⟩) : W E (.cond b x y) Q ⟨t, h, n⟩ := x_condF (by rw [e, ec]) k1
theorem x_isGt {j : Nat} (hg : o.guard = some (j, true)) (k : WO E ops (o :: rest) Q ⟨t, h, n⟩) : WO E ops (o :: rest) Q ⟨t, h, n⟩ := k
theorem x_isGf {j : Nat} (hg : o.guard = some (j, false)) (k : WO E ops (o :: rest) Q ⟨t, h, n⟩) : WO E ops (o :: rest) Q ⟨t, h, n⟩ := k
theorem x_isGtD {j : Nat} (hg : o.guard = some (j, true)) (k : WD E ops (o :: rest) Q ⟨t, h, n⟩) : WD E ops (o :: rest) Q ⟨t, h, n⟩ := k
theorem x_isGfD {j : Nat} (hg : o.guard = some (j, false)) (k : WD E ops (o :: rest) Q ⟨t, h, n⟩) : WD E ops (o :: rest) Q ⟨t, h, n⟩ := k
theorem x_isBox {T : TypeId} {x : Operand} (hg : o.op = .box T x) (k : WO E ops (o :: rest) Q ⟨t, h, n⟩) : WO E ops (o :: rest) Q ⟨t, h, n⟩ := k
theorem x_isAlloc {T : TypeId} (hg : o.op = .alloc T) (k : WO E ops (o :: rest) Q ⟨t, h, n⟩) : WO E ops (o :: rest) Q ⟨t, h, n⟩ := k
theorem x_isStore {T : TypeId} {a x : Operand} (hg : o.op = .store T a x) (k : WO E ops (o :: rest) Q ⟨t, h, n⟩) : WO E ops (o :: rest) Q ⟨t, h, n⟩ := k
theorem x_isBs {T : TypeId} {l : Nat} {ps : Array (Nat × Operand)} (hg : o.op = .buildSlice T l ps) (k : WO E ops (o :: rest) Q ⟨t, h, n⟩) : WO E ops (o :: rest) Q ⟨t, h, n⟩ := k
theorem x_isConv {T U : TypeId} {x : Operand} (hg : o.op = .convert T U x) (k : WO E ops (o :: rest) Q ⟨t, h, n⟩) : WO E ops (o :: rest) Q ⟨t, h, n⟩ := k
theorem x_conv {T U : TypeId} {x : Operand} (ho : o.op = .convert T U x) (hg : o.guard = none) (hd : o.dst = some d) {b : Bool} (hB : toB E.P T U = b) (hb : b = false) (hv : pval E.P E.plain h (ev t) (.convert T U x) = some v) (k : WO E ops rest Q ⟨upd t d v, h, n⟩) : WO E ops (o :: rest) Q ⟨t, h, n⟩ := by
  subst hb
  refine x_eff hg ⟨?_⟩
  rw [ho, hd]
  unfold aop
  simp only [hB, Bool.false_eq_true, if_false]
  exact ⟨v, hv, x_putS k⟩
theorem x_isConvD {T U : TypeId} {x : Operand} (hg : o.op = .convert T U x) (k : WD E ops (o :: rest) Q ⟨t, h, n⟩) : WD E ops (o :: rest) Q ⟨t, h, n⟩ := k
theorem x_convD {T U : TypeId} {x : Operand} (ho : o.op = .convert T U x) (hg : o.guard = none) (hd : o.dst = some d) (hv : pval E.P E.plain h (ev t) (.convert T U x) = some v) (k : WD E ops rest Q ⟨upd t d v, h, n⟩) : WD E ops (o :: rest) Q ⟨t, h, n⟩ :=
  x_opD (by simp [quiet, ho, eff]) hg hd (by rw [ho]; exact hv) k
/-- A guard whose answer isn't known: both ways. -/
theorem x_gB {j e : Nat} {want b : Bool} (hg : o.guard = some (j, want)) (hj : (ops[j]?).bind (·.dst) = some e) (hb : t e = .s (.bool b)) (k1 : b = true → WO E ops (o :: rest) Q ⟨t, h, n⟩) (k2 : b = false → WO E ops (o :: rest) Q ⟨t, h, n⟩) : WO E ops (o :: rest) Q ⟨t, h, n⟩ := by
  cases b
  · exact k2 rfl
  · exact k1 rfl
theorem x_gBD {j e : Nat} {want b : Bool} (hg : o.guard = some (j, want)) (hj : (ops[j]?).bind (·.dst) = some e) (hb : t e = .s (.bool b)) (k1 : b = true → WD E ops (o :: rest) Q ⟨t, h, n⟩) (k2 : b = false → WD E ops (o :: rest) Q ⟨t, h, n⟩) : WD E ops (o :: rest) Q ⟨t, h, n⟩ := by
  cases b
  · exact k2 rfl
  · exact k1 rfl
theorem x_gP {j e : Nat} {want : Bool} {p : Prop} {_ : Decidable p} (hg : o.guard = some (j, want)) (hj : (ops[j]?).bind (·.dst) = some e) (hb : t e = .s (.bool (decide p))) (k1 : p → WO E ops (o :: rest) Q ⟨t, h, n⟩) (k2 : ¬ p → WO E ops (o :: rest) Q ⟨t, h, n⟩) : WO E ops (o :: rest) Q ⟨t, h, n⟩ :=
  x_gB hg hj hb (fun e => k1 (by simpa using e)) (fun e => k2 (by simpa using e))
theorem x_gPD {j e : Nat} {want : Bool} {p : Prop} {_ : Decidable p} (hg : o.guard = some (j, want)) (hj : (ops[j]?).bind (·.dst) = some e) (hb : t e = .s (.bool (decide p))) (k1 : p → WD E ops (o :: rest) Q ⟨t, h, n⟩) (k2 : ¬ p → WD E ops (o :: rest) Q ⟨t, h, n⟩) : WD E ops (o :: rest) Q ⟨t, h, n⟩ :=
  x_gBD hg hj hb (fun e => k1 (by simpa using e)) (fun e => k2 (by simpa using e))
/-- Branches on '==' and '!=' of numbers: what omega can use, beside the Bool. -/
theorem x_condI {b : Operand} {p q : Int} (e : ev t b = .s (.bool (p == q))) (k1 : (p == q) = true → p ≤ q ∧ q ≤ p → W E x Q ⟨t, h, n⟩) (k2 : (p == q) = false → p < q ∨ q < p → W E y Q ⟨t, h, n⟩) : W E (.cond b x y) Q ⟨t, h, n⟩ :=
  x_cond e (fun e => k1 e (by have : p = q := by simpa using e
                              omega)) (fun e => k2 e (by have : p ≠ q := by simpa using e
                                                         omega))
theorem x_condJ {b : Operand} {p q : Int} (e : ev t b = .s (.bool (p != q))) (k1 : (p == q) = false → p < q ∨ q < p → W E x Q ⟨t, h, n⟩) (k2 : (p == q) = true → p ≤ q ∧ q ≤ p → W E y Q ⟨t, h, n⟩) : W E (.cond b x y) Q ⟨t, h, n⟩ :=
  x_cond e (fun e => k1 (by simpa using e) (by have : p ≠ q := by simpa using e
                                               omega)) (fun e => k2 (by simpa using e) (by have : p = q := by simpa using e
                                                                                           omega))
theorem x_condN {b : Operand} {c : Bool} (e : ev t b = .s (.bool !c)) (k1 : c = false → W E x Q ⟨t, h, n⟩) (k2 : c = true → W E y Q ⟨t, h, n⟩) : W E (.cond b x y) Q ⟨t, h, n⟩ :=
  x_cond e (fun e => k1 (by simpa using e)) (fun e => k2 (by simpa using e))
theorem x_condNP {b : Operand} {p : Prop} {_ : Decidable p} (e : ev t b = .s (.bool !(decide p))) (k1 : ¬ p → W E x Q ⟨t, h, n⟩) (k2 : p → W E y Q ⟨t, h, n⟩) : W E (.cond b x y) Q ⟨t, h, n⟩ :=
  x_cond e (fun e => k1 (by simpa using e)) (fun e => k2 (by simpa using e))
theorem ko_gI {G : Prop} {p q : Int} {b : Bool} (e : b = (p == q)) (k1 : (p == q) = true → p ≤ q ∧ q ≤ p → G) (k2 : (p == q) = false → p < q ∨ q < p → G) : G := by
  cases h : (p == q)
  · exact k2 h (by have : p ≠ q := by simpa using h
                   omega)
  · exact k1 h (by have : p = q := by simpa using h
                   omega)
theorem x_gI {j e : Nat} {want : Bool} {p q : Int} (hg : o.guard = some (j, want)) (hj : (ops[j]?).bind (·.dst) = some e) (hb : t e = .s (.bool (p == q))) (k1 : (p == q) = true → p ≤ q ∧ q ≤ p → WO E ops (o :: rest) Q ⟨t, h, n⟩) (k2 : (p == q) = false → p < q ∨ q < p → WO E ops (o :: rest) Q ⟨t, h, n⟩) : WO E ops (o :: rest) Q ⟨t, h, n⟩ := ko_gI rfl k1 k2
theorem x_gJ {j e : Nat} {want : Bool} {p q : Int} (hg : o.guard = some (j, want)) (hj : (ops[j]?).bind (·.dst) = some e) (hb : t e = .s (.bool (p != q))) (k1 : (p == q) = true → p ≤ q ∧ q ≤ p → WO E ops (o :: rest) Q ⟨t, h, n⟩) (k2 : (p == q) = false → p < q ∨ q < p → WO E ops (o :: rest) Q ⟨t, h, n⟩) : WO E ops (o :: rest) Q ⟨t, h, n⟩ := ko_gI rfl k1 k2
theorem x_gN {j e : Nat} {want : Bool} {c : Bool} (hg : o.guard = some (j, want)) (hj : (ops[j]?).bind (·.dst) = some e) (hb : t e = .s (.bool !c)) (k1 : c = true → WO E ops (o :: rest) Q ⟨t, h, n⟩) (k2 : c = false → WO E ops (o :: rest) Q ⟨t, h, n⟩) : WO E ops (o :: rest) Q ⟨t, h, n⟩ := by
  cases c
  · exact k2 rfl
  · exact k1 rfl
theorem x_gNP {j e : Nat} {want : Bool} {p : Prop} {_ : Decidable p} (hg : o.guard = some (j, want)) (hj : (ops[j]?).bind (·.dst) = some e) (hb : t e = .s (.bool !(decide p))) (k1 : p → WO E ops (o :: rest) Q ⟨t, h, n⟩) (k2 : ¬ p → WO E ops (o :: rest) Q ⟨t, h, n⟩) : WO E ops (o :: rest) Q ⟨t, h, n⟩ := by
  by_cases hp : p
  · exact k1 hp
  · exact k2 hp
theorem x_gID {j e : Nat} {want : Bool} {p q : Int} (hg : o.guard = some (j, want)) (hj : (ops[j]?).bind (·.dst) = some e) (hb : t e = .s (.bool (p == q))) (k1 : (p == q) = true → p ≤ q ∧ q ≤ p → WD E ops (o :: rest) Q ⟨t, h, n⟩) (k2 : (p == q) = false → p < q ∨ q < p → WD E ops (o :: rest) Q ⟨t, h, n⟩) : WD E ops (o :: rest) Q ⟨t, h, n⟩ := ko_gI rfl k1 k2
theorem x_gJD {j e : Nat} {want : Bool} {p q : Int} (hg : o.guard = some (j, want)) (hj : (ops[j]?).bind (·.dst) = some e) (hb : t e = .s (.bool (p != q))) (k1 : (p == q) = true → p ≤ q ∧ q ≤ p → WD E ops (o :: rest) Q ⟨t, h, n⟩) (k2 : (p == q) = false → p < q ∨ q < p → WD E ops (o :: rest) Q ⟨t, h, n⟩) : WD E ops (o :: rest) Q ⟨t, h, n⟩ := ko_gI rfl k1 k2
theorem x_gND {j e : Nat} {want : Bool} {c : Bool} (hg : o.guard = some (j, want)) (hj : (ops[j]?).bind (·.dst) = some e) (hb : t e = .s (.bool !c)) (k1 : c = true → WD E ops (o :: rest) Q ⟨t, h, n⟩) (k2 : c = false → WD E ops (o :: rest) Q ⟨t, h, n⟩) : WD E ops (o :: rest) Q ⟨t, h, n⟩ := by
  cases c
  · exact k2 rfl
  · exact k1 rfl
theorem x_gNPD {j e : Nat} {want : Bool} {p : Prop} {_ : Decidable p} (hg : o.guard = some (j, want)) (hj : (ops[j]?).bind (·.dst) = some e) (hb : t e = .s (.bool !(decide p))) (k1 : p → WD E ops (o :: rest) Q ⟨t, h, n⟩) (k2 : ¬ p → WD E ops (o :: rest) Q ⟨t, h, n⟩) : WD E ops (o :: rest) Q ⟨t, h, n⟩ := by
  by_cases hp : p
  · exact k1 hp
  · exact k2 hp
/-- Memory. -/
theorem x_box {T : TypeId} {x : Operand} {cs : List V} (ho : o.op = .box T x) (hg : o.guard = none) (hd : o.dst = some d) (hx : cellsV (ev t x) = some cs) (k : WO E ops rest Q ⟨upd t d (.ptr n 0 0), upd h n (some ⟨cs.length, [cs], true⟩), n + 1⟩) : WO E ops (o :: rest) Q ⟨t, h, n⟩ := by
  refine x_eff hg ⟨?_⟩
  rw [ho, hd]
  unfold aop abox
  simp only [hx]
  exact x_putS k
theorem x_alloc {T : TypeId} {z : Value} {cs : List V} (ho : o.op = .alloc T) (hg : o.guard = none) (hd : o.dst = some d) (hx : zro E.P T = some z) (hc : cellsZ z = cs) (k : WO E ops rest Q ⟨upd t d (.ptr n 0 0), upd h n (some ⟨cs.length, [cs], true⟩), n + 1⟩) : WO E ops (o :: rest) Q ⟨t, h, n⟩ := by
  subst hc
  refine x_eff hg ⟨?_⟩
  rw [ho, hd]
  unfold aop aalloc
  simp only [hx]
  exact x_putS k
theorem x_store {T : TypeId} {a x : Operand} {b r c z : Nat} {cs : List V} {B : Blk} (ho : o.op = .store T a x) (hg : o.guard = none) (hd : o.dst = none) (ha : ev t a = .ptr b r c) (hx : cellsV (ev t x) = some cs) (hz : szo E.P T = some z) (hB : h b = some B) (hw : B.wr = true) (hl : cs.length = z) (hce : ∀ q ∈ cs, cellish q = true) (hr : r < B.rows.length) (hc : c + z ≤ B.size)
    {B' : Blk} (hB' : (⟨B.size, B.rows.set r (setAt (B.rows.getD r []) c cs), B.wr⟩ : Blk) = B') (k : WO E ops rest Q ⟨t, upd h b (some B'), n⟩) : WO E ops (o :: rest) Q ⟨t, h, n⟩ := by
  subst hB'
  refine x_eff hg ⟨?_⟩
  rw [ho, hd]
  unfold aop astore
  simp only [ha, hx, hz]
  exact ⟨B, hB, hw, hl, hce, hr, hc, x_putN k⟩
theorem x_bslice {T el z b8 : TypeId} {len : Nat} {parts : Array (Nat × Operand)} {zv : Value} {cs : List V} {rows : List (List V)} (ho : o.op = .buildSlice T len parts) (hg : o.guard = none) (hd : o.dst = some d) (hq : seqo E.P T = .slice el z b8) (hzv : zro E.P el = some zv)
    (hf : afill (fun i => some (i * z, z)) (repCells (cellsZ zv) len) (parts.toList.map fun q => (q.1, ev t q.2)) = some cs) (hs : len * z ≤ 16777216 ∧ 0 < z ∧ (cellsZ zv).length = z) (hr : chunks z len cs = rows) (k : WO E ops rest Q ⟨upd t d (.loc n 0 len len), upd h n (some ⟨z, rows, true⟩), n + 1⟩) : WO E ops (o :: rest) Q ⟨t, h, n⟩ := by
  subst hr
  refine x_eff hg ⟨?_⟩
  rw [ho, hd]
  unfold aop abuildSlice
  simp only [hq, hzv, hf]
  exact ⟨hs.1, hs.2.1, hs.2.2, x_putS k⟩
theorem x_mslice {T el z b8 : TypeId} {l c : Operand} {m m' : Nat} {zv : Value} (ho : o.op = .makeSlice T l c) (hg : o.guard = none) (hd : o.dst = some d) (hq : seqo E.P T = .slice el z b8) (hzv : zro E.P el = some zv) (hl : asN (ev t l) = some m) (hc : asN (ev t c) = some m') (hs : m ≤ m' ∧ m' * b8 ≤ 281474976710656 ∧ m' ≤ 281474976710656 ∧ (cellsZ zv).length = z)
    (k : WO E ops rest Q ⟨upd t d (.loc n 0 m m'), upd h n (some ⟨z, List.replicate m' (cellsZ zv), true⟩), n + 1⟩) : WO E ops (o :: rest) Q ⟨t, h, n⟩ := by
  refine x_eff hg ⟨?_⟩
  rw [ho, hd]
  unfold aop amakeSlice
  simp only [hq, hzv, hl, hc]
  exact ⟨hs.1, hs.2.1, hs.2.2.1, hs.2.2.2, x_putS k⟩
theorem x_nilEq {T p : TypeId} {x : Operand} {q r m : Nat} (ho : o.op = .binOp .eql T x (.const (.slice none q r)) p) (hg : o.guard = none) (hd : o.dst = some d) (hT : isSliceT E.P T = true) (hm : slLen (ev t x) = some m) (k : ∀ b : Bool, (0 < m → b = false) → WO E ops rest Q ⟨upd t d (.s (.bool b)), h, n⟩) : WO E ops (o :: rest) Q ⟨t, h, n⟩ := by
  refine x_eff hg ⟨?_⟩
  rw [ho, hd]
  unfold aop
  exact ⟨hT, m, hm, fun b hb => x_putS (k b hb)⟩
/-- A quiet call. -/
theorem x_callD {cl : Call} {g : FuncId} {caps args ds : List V} {r : V} {F : Fspec} {f : Operand} (hf : quiet ops o = true) (hg : o.guard = none) (ho : o.op = .call cl) (hd : o.dst = some d) (hcl : cl.callee = .value f) (hv : ev t f = .fn g caps) (hΓ : E.Γ g = some F) (ha : cl.args.toList.map (ev t) ++ caps = args) (he : expArgs h 0 args = some ds) (hF : F (phi E h args) ds r) (hr : noSl r = true) (k : WD E ops rest Q ⟨upd t d r, h, n⟩) : WD E ops (o :: rest) Q ⟨t, h, n⟩ := by
  refine x_opD hf hg hd ?_ k
  rw [ho]
  unfold qv qcl
  simp only [hcl, hv]
  unfold qcall
  simp only [hΓ, ha, he]
  exact ⟨r, hF, .inl ⟨hr, rfl⟩⟩
theorem x_callVD {cl : Call} {i : Nat} {args ds : List V} {S : List V → Value → Prop} {x : Value} {f : Operand} (hf : quiet ops o = true) (hg : o.guard = none) (ho : o.op = .call cl) (hd : o.dst = some d) (hcl : cl.callee = .value f) (hv : ev t f = .fv i) (hS : E.Φ i = some S) (ha : cl.args.toList.map (ev t) = args) (he : allO (expoA h) args = some ds) (hx : flat x = true) (hF : S ds x) (k : WD E ops rest Q ⟨upd t d (.s x), h, n⟩) : WD E ops (o :: rest) Q ⟨t, h, n⟩ := by
  refine x_opD hf hg hd ?_ k
  rw [ho]
  unfold qv qcl
  simp only [hcl, hv]
  unfold qfv
  simp only [hS, ha, he]
  exact ⟨x, hx, hF, rfl⟩
theorem x_done {rs : List ResultVar} {r : V} (k : Ret E rs r σ) : WQ (retQ E rs r) .ret σ := ⟨k⟩
theorem x_doneN {rs : List ResultVar} {r : V} (k : Ret E rs r σ) : WQ (retQ E rs r) .normal σ := ⟨k⟩
theorem x_inl {rs : List ResultVar} {v : V} {K : V → St → Prop} {σ : St} {t0 : Nat → V} (ho : outV E rs σ = some v) (k : K v ⟨t0, σ.h, σ.n⟩) : WQ (inlQ E rs t0 K) .ret σ := ⟨v, ho, k⟩
theorem x_inlN {rs : List ResultVar} {v : V} {K : V → St → Prop} {σ : St} {t0 : Nat → V} (ho : outV E rs σ = some v) (k : K v ⟨t0, σ.h, σ.n⟩) : WQ (inlQ E rs t0 K) .normal σ := ⟨v, ho, k⟩
/-- Plain data is handed out as it is. -/
theorem x_out {rs : List ResultVar} {r : V} {σ : St} (ho : outV E rs σ = some r) (hr : ∀ z rows, r ≠ .own z rows) (ht : ∀ vs, r ≠ .tup vs) (he : expoA σ.h r = some r) : Ret E rs r σ := ⟨r, ho, by
  unfold handed
  split
  · exact (hr _ _ rfl).elim
  · exact (ht _ rfl).elim
  · exact he⟩
theorem x_outV {rs : List ResultVar} {r v : V} {σ : St} (ho : outV E rs σ = some v) (hr : ∀ z rows, r ≠ .own z rows) (ht : ∀ vs, r ≠ .tup vs) (he : expoA σ.h v = some r) : Ret E rs r σ := ⟨v, ho, by
  unfold handed
  split
  · exact (hr _ _ rfl).elim
  · exact (ht _ rfl).elim
  · exact he⟩
theorem touch_deep (h : Hp) (d : Nat) {v : V} (hv : deepc v = true) : touch h d v = [] := by cases d <;> cases v <;> simp_all [deepc, touch]
/-- A row of one's own is handed out. -/
theorem x_outO {rs : List ResultVar} {σ : St} {b len cap z : Nat} {rows sp : List (List V)} (ho : outV E rs σ = some (.loc b 0 len cap)) (hh : σ.h b = some ⟨z, rows ++ sp, true⟩) (hl : rows.length = len) (hc : len ≤ cap ∧ cap ≤ len + sp.length) (hd : ∀ r ∈ rows, ∀ q ∈ r, deepc q = true) : Ret E rs (.own z rows) σ := by
  have ht : (rows ++ sp).take len = rows := by rw [← hl]; simp
  refine ⟨_, ho, .inr ⟨b, len, cap, _, rfl, hh, rfl, rfl, hc.1, by simp [hl]; omega, hl, ?_, ?_⟩⟩
  · simp only [ht]; exact allO_rows _ _ hd
  · simp only [ht]
    have : rows.flatMap (fun q => q.flatMap (touch σ.h 2)) = [] := by
      rw [List.flatMap_eq_nil_iff]
      intro r hr
      rw [List.flatMap_eq_nil_iff]
      intro q hq
      exact touch_deep _ _ (hd r hr q hq)
    rw [this]
    simp
/-- Nothing is handed out as a row of one's own. -/
theorem x_outO0 {rs : List ResultVar} {σ : St} {z : Nat} (ho : outV E rs σ = some .cap0) : Ret E rs (.own z []) σ := ⟨_, ho, .inl ⟨rfl, rfl⟩⟩
/-- A row of one's own is handed out as data. -/
theorem x_outL {rs : List ResultVar} {σ : St} {b len cap z : Nat} {rows sp : List (List V)} (ho : outV E rs σ = some (.loc b 0 len cap)) (hh : σ.h b = some ⟨z, rows ++ sp, true⟩) (hl : rows.length = len) (hd : ∀ r ∈ rows, ∀ q ∈ r, deepc q = true) : Ret E rs (.sl rows) σ := by
  refine x_outV ho (by simp) (by simp) ?_
  show expo σ.h 2 (.loc b 0 len cap) = _
  have hr : rowsOf σ.h (.loc b 0 len cap) = some rows := by
    have ht : (rows ++ sp).take len = rows := by rw [← hl]; simp
    simp [rowsOf, hh, ht]
    omega
  show (match rowsOf σ.h (.loc b 0 len cap) with
    | some rows => (allO (allO (expo σ.h 1)) rows).map V.sl
    | none => none) = _
  rw [hr]
  simp only
  rw [allO_rows _ _ hd]
  rfl
theorem x_outT {rs : List ResultVar} {r vs : List V} {σ : St} (ho : outV E rs σ = some (.tup vs)) (he : allO (expoA σ.h) vs = some r) : Ret E rs (.tup r) σ := ⟨.tup vs, ho, vs, rfl, he⟩
end
section
variable (h : Hp)
theorem expo_s (d : Nat) (v : Value) : expo h d (.s v) = some (.s v) := by cases d <;> rfl
theorem expo_sl (d : Nat) (r : List (List V)) : expo h d (.sl r) = some (.sl r) := by cases d <;> rfl
theorem expo_cap0 (d : Nat) : expo h d .cap0 = some (.sl []) := by cases d <;> rfl
theorem expo_loc (d b off len cap : Nat) : expo h (d + 1) (.loc b off len cap) = match rowsOf h (.loc b off len cap) with
    | some rows => (allO (allO (expo h d)) rows).map .sl
    | none => none := rfl
theorem expoA_agg (cs : List V) : expoA h (.agg cs) = (allO (expo h 2) cs).map .agg := rfl
theorem expoA_s (v : Value) : expoA h (.s v) = some (.s v) := rfl
theorem expoA_sl (r : List (List V)) : expoA h (.sl r) = some (.sl r) := rfl
theorem expoA_cap0 : expoA h .cap0 = some (.sl []) := rfl
theorem expoA_pc (r : List V) : expoA h (.pc r) = some (.pc r) := rfl
theorem expoA_loc (b off len cap : Nat) : expoA h (.loc b off len cap) = expo h 2 (.loc b off len cap) := rfl
theorem expoA_ptr (b r k : Nat) : expoA h (.ptr b r k) = match h b with
    | some B => if r < B.rows.length ∧ k < B.size then (allO (expo h 2) ((B.rows.getD r []).drop k)).map .pc else none
    | none => none := rfl
theorem expArg_agg (i : Nat) (cs : List V) : expArg h i (.agg cs) = expoA h (.agg cs) := rfl
theorem expArg_s (i : Nat) (v : Value) : expArg h i (.s v) = some (.s v) := rfl
theorem expArg_sl (i : Nat) (r : List (List V)) : expArg h i (.sl r) = some (.sl r) := rfl
theorem expArg_cap0 (i : Nat) : expArg h i .cap0 = some (.sl []) := rfl
theorem expArg_pc (i : Nat) (r : List V) : expArg h i (.pc r) = some (.pc r) := rfl
theorem expArg_loc (i b off len cap : Nat) : expArg h i (.loc b off len cap) = expoA h (.loc b off len cap) := rfl
theorem expArg_ptr (i b r k : Nat) : expArg h i (.ptr b r k) = expoA h (.ptr b r k) := rfl
theorem expArg_fn (i g : Nat) (cs : List V) : expArg h i (.fn g cs) = some (.fv i) := rfl
theorem expArg_fv (i g : Nat) : expArg h i (.fv g) = some (.fv i) := rfl
end
theorem upd_at {α : Type} (f : Nat → α) (k : Nat) (v : α) (j : Nat) : upd f k v j = if j = k then v else f j := rfl
theorem ev_tmp (t : Nat → V) (i : Nat) : ev t (.tmp i) = t i := rfl
theorem ev_func (t : Nat → V) (f : FuncId) : ev t (.func f) = .fn f [] := rfl
theorem ev_const (t : Nat → V) (v : Value) : ev t (.const v) = ofVal v := rfl
theorem ofVal_int (k : IntKind) (n : Int) : ofVal (.int k n) = .s (.int k n) := rfl
theorem ofVal_str (s : ByteArray) : ofVal (.string s) = .s (.string s) := rfl
theorem ofVal_bool (b : Bool) : ofVal (.bool b) = .s (.bool b) := rfl
theorem ofVal_nil (q r : Nat) (h : q = 0 ∧ r = 0) : ofVal (.slice none q r) = .cap0 := by obtain ⟨rfl, rfl⟩ := h; rfl
theorem wrap_id (x : Int) (h : -9223372036854775808 ≤ x ∧ x < 9223372036854775808) : IntKind.i64.wrap x = x := by
  unfold IntKind.wrap
  simp only [IntKind.bits, IntKind.signed]
  simp only [Nat.reduceSub, Int.reducePow, Bool.true_and]
  split <;> rename_i h1 <;> simp at h1 <;> omega
theorem asN_nat (k : IntKind) (i : Nat) : asN (.s (.int k (i : Int))) = some i := by simp [asN]
theorem asN_pos (k : IntKind) (x : Int) (h : 0 ≤ x) : asN (.s (.int k x)) = some x.toNat := by simp [asN, h]
theorem getD_map {α : Type} (f : α → List V) (l : List α) (i : Nat) (h : i < l.length) : (l.map f).getD i [] = f l[i] := by simp [List.getD_eq_getElem?_getD, h]
theorem rows_map {α : Type} (f : α → List V) (l : List α) (z : Nat) (h : ∀ a, (f a).length = z) : (∀ r ∈ l.map f, r.length = z) = True := by
  simp only [eq_iff_iff, iff_true]
  intro r hr
  obtain ⟨a, _, rfl⟩ := List.mem_map.1 hr
  exact h a
theorem wrapU_id (x : Int) (h : 0 ≤ x ∧ x < 18446744073709551616) : IntKind.u64.wrap x = x := by
  unfold IntKind.wrap
  simp only [IntKind.bits, IntKind.signed]
  simp
  omega
theorem wrapB_id (x : Int) (h : 0 ≤ x ∧ x < 256) : IntKind.u8.wrap x = x := by
  unfold IntKind.wrap
  simp only [IntKind.bits, IntKind.signed]
  simp
  omega
theorem ashift_shr1 (a : Int) (h : 0 ≤ a) : ashift .shr .u64 a 1 = some (.s (.int .u64 (a / 2))) := by
  unfold ashift
  simp only [show ¬ ((1 : Int) < 0) by omega, if_false]
  rw [show (2 : Int) ^ min (1 : Int).toNat IntKind.u64.bits = 2 by rfl, Int.fdiv_eq_ediv_of_nonneg _ (by omega)]
theorem half_cast (i j : Nat) : ((i : Int) + (j : Int)) / 2 = (((i + j) / 2 : Nat) : Int) := by omega
theorem rg0 : List.range 0 = [] := rfl
theorem rg1 : List.range 1 = [0] := rfl
theorem rg2 : List.range 2 = [0, 1] := rfl
theorem rg3 : List.range 3 = [0, 1, 2] := rfl
theorem rg4 : List.range 4 = [0, 1, 2, 3] := rfl
theorem rg5 : List.range 5 = [0, 1, 2, 3, 4] := rfl
theorem rg6 : List.range 6 = [0, 1, 2, 3, 4, 5] := rfl
theorem okRows_map {α : Type} (f : α → List V) (l : List α) (z : Nat) (h : ∀ a, (f a).length = z ∧ ∀ q ∈ f a, cellish q = true) : okRows z (l.map f) := by
  intro r hr
  obtain ⟨a, _, rfl⟩ := List.mem_map.1 hr
  exact h a
theorem deep_map {α : Type} (f : α → List V) (l : List α) (h : ∀ a, ∀ q ∈ f a, deepc q = true) : ∀ r ∈ l.map f, ∀ q ∈ r, deepc q = true := by
  intro r hr
  obtain ⟨a, _, rfl⟩ := List.mem_map.1 hr
  exact h a
theorem spare_len (z m : Nat) : (spare z m).length = m := spare_length z m
/-- A number, for a measure. -/
def ix : V → Nat
  | .s (.int _ n) => n.toNat
  | _ => 0
theorem ix_nat (k : IntKind) (i : Nat) : ix (.s (.int k (i : Int))) = i := by simp [ix]
theorem ix_succ (k : IntKind) (i : Nat) : ix (.s (.int k ((i : Int) + 1))) = i + 1 := by simp only [ix]; omega
theorem cast_succ (i : Nat) : ((i : Int) + 1) = ((i + 1 : Nat) : Int) := by omega
end Go.Proofs.Ytahgddfnbjpfiaa.Am
