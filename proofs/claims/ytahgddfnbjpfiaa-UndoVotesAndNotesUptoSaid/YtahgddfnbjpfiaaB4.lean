/- Texts that the law's proof stands on: AmFun, Ty, AmEv, AmEv2. -/
import Derived.Test.YtahgddfnbjpfiaaB3
import Derived.Test.YtahgddfnbjpfiaaProg
/- An abstract machine over values: code, loops, functions. -/
set_option linter.unusedVariables false
set_option linter.unusedSimpArgs false
namespace Go.Proofs.Ytahgddfnbjpfiaa.Am
open Go Go.RowKit

def codeOk (nt : Nat) : Code → Bool
  | .region _ ops draw => ops.toList.all (dstOk nt)
  | .seq x y => codeOk nt x && codeOk nt y
  | .cond _ x y => codeOk nt x && codeOk nt y
  | .block _ x => codeOk nt x
  | .loop x => codeOk nt x
  | .skip | .exit _ | .ret => true
  | _ => false
def thenQ (K : St → Prop) (Q : Exit → St → Prop) : Exit → St → Prop
  | .normal, σ => K σ
  | e, σ => Q e σ
def blockQ (id : Nat) (Q : Exit → St → Prop) : Exit → St → Prop
  | .exit id', σ => if id' = id then Q .normal σ else Q (.exit id') σ
  | e, σ => Q e σ
/-- Without a step: an empty slice is taken as an empty row of one's own. -/
inductive Gh : St → St → Prop
  | refl (σ : St) : Gh σ σ
  | step {σ σ2 : St} (k z : Nat) (h : σ.t k = .cap0) (g : Gh ⟨upd σ.t k (.loc σ.n 0 0 0), upd σ.h σ.n (some ⟨z, [], true⟩), σ.n + 1⟩ σ2) : Gh σ σ2
  | data {σ σ2 : St} (k : Nat) (v : V) (h : expoA σ.h (σ.t k) = some v) (g : Gh ⟨upd σ.t k v, frz σ.h (fun b => (touchA σ.h (σ.t k)).contains b), σ.n⟩ σ2) : Gh σ σ2
def awp (E : Env) : Code → (Exit → St → Prop) → St → Prop
  | .skip, Q, σ => Q .normal σ
  | .region _ ops draw, Q, σ => if draw then (if drawOk ops then awpD E ops ops.toList (Q .normal) σ else (drawX ops = true ∧ awpX E ops (Q .normal) σ) ∨ (drawY ops = true ∧ awpY E ops ops.toList (Q .normal) σ)) else awpOps E ops ops.toList (Q .normal) σ
  | .seq x y, Q, σ => ∃ I : St → Prop, awp E x (thenQ I Q) σ ∧ ∀ σ, I σ → ∃ σ1, Gh σ σ1 ∧ awp E y Q σ1
  | .cond b x y, Q, σ => match ev σ.t b with
    | .s (.bool t) => (t = true → awp E x Q σ) ∧ (t = false → awp E y Q σ)
    | _ => False
  | .block id x, Q, σ => awp E x (blockQ id Q) σ
  | .loop x, Q, σ => ∃ (I : St → Prop) (m : St → Nat) (σ1 : St), Gh σ σ1 ∧ I σ1 ∧ ∀ σ, I σ → awp E x (thenQ (fun σ' => I σ' ∧ m σ' < m σ) Q) σ
  | .exit id, Q, σ => Q (.exit id) σ
  | .ret, Q, σ => Q .ret σ
  | _, _, _ => False

section
variable {ps : Hp × Mu × World} {E : Env} {c : Cx}
theorem drop_takeWhile {α : Type} (p : α → Bool) : ∀ l : List α, l.drop (l.takeWhile p).length = l.dropWhile p
  | [] => rfl
  | a :: l => by
    simp only [List.takeWhile_cons, List.dropWhile_cons]
    split
    · simpa using drop_takeWhile p l
    · rfl
theorem dropWhile_head {α : Type} (p : α → Bool) : ∀ (l : List α) {a : α} {r : List α}, l.dropWhile p = a :: r → p a = false
  | [], a, r, h => by cases h
  | b :: l, a, r, h => by
    rw [List.dropWhile_cons] at h
    split at h
    · exact dropWhile_head p l h
    · rename_i hb; cases h; simpa using hb
theorem draw_sound (hE : EnvOk E) (hc : c.P = E.P) (hΦ : FvOk c E.Φ) {ops : Array Oper} (hok : drawOk ops = true) (hd : ∀ o ∈ ops.toList, dstOk E.nt o = true) {Q : Exit → Act → World → Prop} {K : St → Prop} (hQ : ∀ σ μ a w, K σ → Sim ps E c σ μ a w → Q .normal a w)
    {σ : St} {μ : Mu} {a : Act} {w : World} (hk : awpD E ops ops.toList K σ) (S : Sim ps E c σ μ a w) : wpAny c.P .any ops Q ops.size (Array.replicate ops.size false) a w := by
  have hsplit : ops.toList = ops.toList.takeWhile (fun o => quiet ops o) ++ ops.toList.dropWhile (fun o => quiet ops o) := (List.takeWhile_append_dropWhile).symm
  have hq : ∀ o ∈ ops.toList.takeWhile (fun o => quiet ops o), quiet ops o = true := fun o ho => by
    have := List.all_takeWhile (p := fun o : Oper => quiet ops o) (l := ops.toList)
    rw [List.all_eq_true] at this
    simpa using this o ho
  have hN : quietN ops ≤ ops.size := by
    have := (List.takeWhile_prefix (l := ops.toList) (fun o : Oper => quiet ops o)).length_le
    simpa [quietN] using this
  have hk' := hk
  rw [hsplit] at hk'
  obtain ⟨vs, ts, h1, h2, h3⟩ := head_vals ops (ops.toList.dropWhile (fun o => quiet ops o)) (ops.toList.takeWhile (fun o => quiet ops o)) σ.t hq hk'
  have htl : awpOps E ops (ops.toList.drop (quietN ops)) K ⟨ts (quietN ops), σ.h, σ.n⟩ := by
    unfold quietN
    rw [drop_takeWhile]
    cases hdw : ops.toList.dropWhile (fun o => quiet ops o) with
    | nil => rw [hdw] at h3; exact h3
    | cons o rest =>
      rw [hdw] at h3
      have heff : quiet ops o = false := by
        simpa using dropWhile_head _ _ hdw
      simpa only [awpD, heff, Bool.false_eq_true, if_false] using h3
  have hcount : ((List.range (quietN ops)).countP fun i => !(Array.replicate ops.size false).getD i true) = quietN ops := by
    rw [List.countP_eq_length.2]
    · simp
    · intro i hi
      have : i < ops.size := by have := List.mem_range.1 hi; omega
      simp [this]
  have := head_sound hE hc hΦ hok hd hQ (t0 := σ.t) (h := σ.h) (n := σ.n) (μ := μ) (vs := vs) (ts := ts) hN h1 (fun i o hi ho => h2 i o (by
      have h4 : (ops.toList.takeWhile (fun o => quiet ops o))[i]? = ops.toList[i]? := by
        have h5 : ops.toList[i]? = (ops.toList.takeWhile (fun o => quiet ops o) ++ ops.toList.dropWhile (fun o => quiet ops o))[i]? := congrArg (fun l => l[i]?) hsplit
        rw [h5, List.getElem?_append_left (by simpa [quietN] using hi)]
      rw [h4]; simpa using ho)) htl (quietN ops) (Array.replicate ops.size false) (a := a) (w := w) hcount (by simp) (fun j _ hj => by simp [hj]) (fun j o hj => by
      by_cases h : j < ops.size <;> simp [h] at hj)
    ⟨σ.t, ⟨fun i o d hi hl => (by have : i < ops.size := by omega
                                  simp [this] at hl), fun d _ => rfl⟩, S⟩
  rwa [show ops.size - quietN ops + quietN ops = ops.size by omega] at this

theorem gh_sim {σ σ1 : St} (g : Gh σ σ1) : ∀ {μ : Mu} {a : Act} {w : World}, Sim ps E c σ μ a w → ∃ μ1, Sim ps E c σ1 μ1 a w := by
  induction g with
  | refl σ => exact fun S => ⟨_, S⟩
  | step k z h g ih =>
    intro μ a w S
    rename_i σ σ2
    have H := S.hs.virt z
    refine ih (μ := upd μ σ.n (some .virt)) ⟨H.1, fun i => ?_, S.nt, S.df, S.ex.trans H.2⟩
    by_cases hi : i = k
    · subst hi
      show R c _ _ w (upd σ.t i (V.loc σ.n 0 0 0) i) _
      rw [upd_same]
      have h1 := S.tm i
      rw [h] at h1
      obtain ⟨A, hA⟩ := h1.cap0_inv
      rw [hA]
      exact .loc0 _ _ _ _ (upd_same _ _ _)
    · show R c _ _ w (upd σ.t k (V.loc σ.n 0 0 0) i) _
      rw [upd_ne _ _ _ _ hi]
      exact H.2.R (S.tm i)
  | data k v h g ih =>
    intro μ a w S
    rename_i σ σ2
    have H := S.hs.freezeP (fun b => (touchA σ.h (σ.t k)).contains b)
    refine ih (μ := μ) ⟨H.1, fun i => ?_, S.nt, S.df, S.ex.trans H.2⟩
    by_cases hi : i = k
    · subst hi
      show R c _ _ w (upd σ.t i v i) _
      rw [upd_same]
      exact (expoA_sound S.hs (fun b => (touchA σ.h (σ.t i)).contains b) (fv := c.fvals) (S.tm i) h (fun b hb => by simpa using hb)).mono (fun q hq => ⟨hq, rfl⟩) (fun _ _ h => by cases h)
    · show R c _ _ w (upd σ.t k v i) _
      rw [upd_ne _ _ _ _ hi]
      exact H.2.R (S.tm i)
theorem awp_sound (hE : EnvOk E) (hc : c.P = E.P) (hΦ : FvOk c E.Φ) : ∀ (x : Code) {Q : Exit → St → Prop} {Q' : Exit → Act → World → Prop} {σ : St} {μ : Mu} {a : Act} {w : World}, codeOk E.nt x = true → awp E x Q σ → Sim ps E c σ μ a w →
    (∀ e σ μ a w, Q e σ → Sim ps E c σ μ a w → Q' e a w) → x.wp c.P Q' a w := by
  intro x
  induction x with
  | skip => intro Q Q' σ μ a w _ hk S hQ; exact wp_skip (hQ _ _ _ _ _ hk S)
  | region id ops draw =>
    intro Q Q' σ μ a w hok hk S hQ
    simp only [codeOk, List.all_eq_true] at hok
    simp only [awp] at hk
    cases draw with
    | false =>
      simp only [Bool.false_eq_true, if_false] at hk
      exact wp_region_list (ops_sound hE hc hΦ ops (fun σ μ a w => hQ _ σ μ a w) _ (fun o ho => hok o ho) hk S)
    | true =>
      simp only [if_true] at hk
      refine wp_region_any (by rw [hc]; exact hE.mixed) ?_
      have hb : Below w.heap.size w { w with drawn := w.drawn + 1 } := (Below.refl _ w).drew
      have H2 := S.hs.below hb
      cases hdr : drawOk ops with
      | true =>
        simp only [hdr, if_true] at hk
        exact draw_sound hE hc hΦ hdr (fun o ho => hok o ho) (fun σ μ a w => hQ _ σ μ a w) hk ⟨H2.1, fun i => H2.2.R (S.tm i), S.nt, S.df, S.ex.trans H2.2⟩
      | false =>
        simp only [hdr, Bool.false_eq_true, if_false] at hk
        rcases hk with ⟨hdx, hk⟩ | ⟨hdx, hk⟩
        · exact drawX_sound hE hc hΦ hdx (fun o ho => hok o ho) (fun σ μ a w => hQ _ σ μ a w) hk ⟨H2.1, fun i => H2.2.R (S.tm i), S.nt, S.df, S.ex.trans H2.2⟩
        · exact drawY_sound hE hc hΦ hdx (fun o ho => hok o ho) (fun σ μ a w => hQ _ σ μ a w) hk ⟨H2.1, fun i => H2.2.R (S.tm i), S.nt, S.df, S.ex.trans H2.2⟩
  | seq x y ihx ihy =>
    intro Q Q' σ μ a w hok hk S hQ
    simp only [codeOk, Bool.and_eq_true] at hok
    simp only [awp] at hk
    obtain ⟨I, hx, hy⟩ := hk
    refine wp_seq (ihx hok.1 hx S ?_)
    intro e σ μ a w hq S
    cases e with
    | normal =>
      obtain ⟨σ1, hg, hy⟩ := hy _ hq
      obtain ⟨μ1, S⟩ := gh_sim hg S
      exact ihy hok.2 hy S hQ
    | _ => exact hQ _ _ _ _ _ hq S
  | cond b x y ihx ihy =>
    intro Q Q' σ μ a w hok hk S hQ
    simp only [codeOk, Bool.and_eq_true] at hok
    simp only [awp] at hk
    have hb : R c σ.h μ w (ev σ.t b) (a.eval b) := Rp.ev S.tm b
    split at hk
    · rename_i t ht
      rw [ht] at hb
      exact wp_cond_split hb.s_eq.1 (fun h => ihx hok.1 (hk.1 h) S hQ) (fun h => ihy hok.2 (hk.2 h) S hQ)
    · exact hk.elim
  | block id x ih =>
    intro Q Q' σ μ a w hok hk S hQ
    simp only [codeOk] at hok
    simp only [awp] at hk
    refine wp_block (ih hok hk S ?_)
    intro e σ μ a w hq S
    cases e with
    | exit id' =>
      simp only [blockQ, Exit.inBlock] at hq ⊢
      split
      · rename_i h; rw [if_pos h] at hq; exact hQ _ _ _ _ _ hq S
      · rename_i h; rw [if_neg h] at hq; exact hQ _ _ _ _ _ hq S
    | _ => exact hQ _ _ _ _ _ hq S
  | loop x ih =>
    intro Q Q' σ μ a w hok hk S hQ
    simp only [codeOk] at hok
    simp only [awp] at hk
    obtain ⟨I, m, σ1, hg, hI, hk⟩ := hk
    obtain ⟨μ1, S⟩ := gh_sim hg S
    have key : ∀ (n : Nat) {σ : St} {μ : Mu} {a : Act} {w : World}, I σ → m σ < n → Sim ps E c σ μ a w → Code.rounds c.P x Q' n a w := by
      intro n
      induction n with
      | zero => intro σ μ a w _ h; exact absurd h (Nat.not_lt_zero _)
      | succ n ihn =>
        intro σ μ a w hI hm S
        rw [rounds_succ]
        refine ih hok (hk σ hI) S ?_
        intro e σ' μ' a' w' hq S'
        cases e with
        | normal => exact ihn hq.1 (by have := hq.2; omega) S'
        | _ => exact hQ _ _ _ _ _ hq S'
    exact wp_loop_rounds (m σ1 + 1) (key _ hI (Nat.lt_succ_self _) S)
  | exit id => intro Q Q' σ μ a w _ hk S hQ; exact wp_exit (hQ _ _ _ _ _ hk S)
  | ret => intro Q Q' σ μ a w _ hk S hQ; exact wp_ret (hQ _ _ _ _ _ hk S)
  | _ => intro Q Q' σ μ a w hok; simp [codeOk] at hok

/-- What a function hands back. -/
def resV (E : Env) (σ : St) : ResultVar → Option V
  | .tmp t => some (σ.t t)
  | .cell p T => aload E.P σ.h T (σ.t p)
def oneOf : List V → V
  | [v] => v
  | vs => .tup vs
def outV (E : Env) (rs : List ResultVar) (σ : St) : Option V := (allO (resV E σ) rs).map oneOf
def handed (h : Hp) (r v : V) : Prop :=
  match r with
  | .own z rows => (v = .cap0 ∧ rows = []) ∨ ∃ b len cap B, v = .loc b 0 len cap ∧ h b = some B ∧ B.wr = true ∧ B.size = z ∧ len ≤ cap ∧ cap ≤ B.rows.length ∧ rows.length = len ∧ allO (allO (expo h 2)) (B.rows.take len) = some rows ∧
      b ∉ (B.rows.take len).flatMap fun q => q.flatMap (touch h 2)
  | .tup rs => ∃ vs, v = .tup vs ∧ allO (expoA h) vs = some rs
  | r => expoA h v = some r
def Ret (E : Env) (rs : List ResultVar) (r : V) (σ : St) : Prop := ∃ v, outV E rs σ = some v ∧ handed σ.h r v
def retQ (E : Env) (rs : List ResultVar) (r : V) : Exit → St → Prop
  | .normal, σ => Ret E rs r σ
  | .ret, σ => Ret E rs r σ
  | _, _ => False
def st0 (ds : List V) : St := ⟨fun i => ds.getD i .undef, fun _ => none, 0⟩

end
section
variable {ps : Hp × Mu × World} {E : Env} {c : Cx} {σ : St} {μ : Mu} {a : Act} {w : World}
theorem run_resultsM {P : Program} {f : ResultVar → Sem Value} : ∀ (l : List ResultVar) (ys : List Value), l.length = ys.length → (∀ (i : Nat) (r : ResultVar) (y : Value), l[i]? = some r → ys[i]? = some y → (f r).run P w = .ok y w) → (l.mapM f).run P w = .ok ys w
  | [], ys, h, _ => by
    cases ys with
    | nil => simp [Sem.run, pure]
    | cons y ys => simp at h
  | r :: l, ys, h, hf => by
    cases ys with
    | nil => simp at h
    | cons y ys =>
      have h1 := hf 0 r y rfl rfl
      have h2 := run_resultsM (P := P) (f := f) l ys (by simpa using h) (fun i r y h3 h4 => hf (i + 1) r y (by simpa using h3) (by simpa using h4))
      simp [List.mapM_cons, h1, h2]
theorem results_sound (S : Sim ps E c σ μ a w) (hc : c.P = E.P) {fn : Func} {v : V} (hv : outV E fn.results.toList σ = some v) : ∃ x, (results fn a.tmps).run c.P w = .ok x w ∧ R c σ.h μ w v x := by
  unfold outV at hv
  simp only [Option.map_eq_some_iff] at hv
  obtain ⟨vs, hvs, rfl⟩ := hv
  obtain ⟨e1, e2⟩ := allO_spec hvs
  let f : ResultVar → Sem Value := fun r => match r with
    | .tmp t => pure (a.tmps.getD t Go.undef)
    | .cell p T => do loadVar T (← asAddr (a.tmps.getD p Go.undef))
  have hone : ∀ i : Nat, ∃ y : Value, ∀ (r : ResultVar) (v : V), fn.results.toList[i]? = some r → vs[i]? = some v → (f r).run c.P w = .ok y w ∧ R c σ.h μ w v y := by
    intro i
    by_cases hi : i < fn.results.toList.length
    · have h1 : fn.results.toList[i]? = some fn.results.toList[i] := List.getElem?_eq_getElem hi
      have h2 : vs[i]? = some (vs[i]'(by omega)) := List.getElem?_eq_getElem (by omega)
      have h3 := e2 i _ _ h1 h2
      generalize fn.results.toList[i] = r at h1 h3
      generalize vs[i]'(by omega) = v at h2 h3
      cases r with
      | tmp t =>
        simp only [resV, Option.some.injEq] at h3
        refine ⟨a.tmps.getD t Go.undef, fun r' v' g1 g2 => ?_⟩
        rw [h1] at g1; cases g1
        rw [h2] at g2; cases g2
        exact ⟨rfl, by rw [← h3]; exact S.tm t⟩
      | cell p T =>
        simp only [resV] at h3
        rw [← hc] at h3
        obtain ⟨y, g1, g2⟩ := load_sound S.hs (S.tm p) h3
        refine ⟨y, fun r' v' g3 g4 => ?_⟩
        rw [h1] at g3; cases g3
        rw [h2] at g4; cases g4
        refine ⟨?_, g2⟩
        simp only [f]
        have hp := S.tm p
        unfold aload at h3
        split at h3
        · split at h3
          · rename_i cs hcs
            rw [hcs] at hp
            obtain ⟨ad, g, hx, _⟩ := hp.pc_inv
            rw [hx] at g1 ⊢
            simpa [Instr.loadAt, Instr.sureAddr, asAddr, Sem.run, pure] using g1
          · rename_i b r k hcs
            rw [hcs] at hp
            obtain ⟨q, base, size, _, hx⟩ := hp.ptr_inv
            rw [hx] at g1 ⊢
            simpa [Instr.loadAt, Instr.sureAddr, asAddr, Sem.run, pure] using g1
          · rename_i q hcs
            rw [hcs] at hp
            have hx : a.tmps.getD p Go.undef = .pointer (some ⟨q, 0, none⟩) := by generalize a.tmps.getD p Go.undef = y at hp; cases hp; rfl
            rw [hx] at g1 ⊢
            simpa [Instr.loadAt, Instr.sureAddr, asAddr, Sem.run, pure] using g1
          · cases h3
        · cases h3
    · exact ⟨Go.undef, fun r v g1 => by rw [List.getElem?_eq_none (by omega)] at g1; cases g1⟩
  obtain ⟨y, hy⟩ := Classical.axiomOfChoice hone
  have hys : ∀ (i : Nat), i < vs.length → ((List.range vs.length).map y)[i]? = some (y i) := fun i hi => by simp [hi]
  have hrun := run_resultsM (P := c.P) (w := w) (f := f) fn.results.toList ((List.range vs.length).map y) (by simp [e1]) (fun i r z h1 h2 => by
    have hi : i < vs.length := by rw [e1]; exact (List.getElem?_eq_some_iff.1 h1).1
    rw [hys i hi] at h2; cases h2
    exact (hy i r (vs[i]) h1 (List.getElem?_eq_getElem hi)).1)
  have hR : ∀ (i : Nat) (hi : i < vs.length), R c σ.h μ w (vs[i]) (y i) := fun i hi => (hy i (fn.results.toList[i]'(by omega)) vs[i] (List.getElem?_eq_getElem (by omega)) (List.getElem?_eq_getElem hi)).2
  have hm : (fn.results.mapM f).run c.P w = .ok ((List.range vs.length).map y).toArray w := by
    rw [Array.mapM_eq_mapM_toList]
    simp [hrun]
  have hres : results fn a.tmps = (do let vs ← fn.results.mapM f; pure (if h : vs.size = 1 then vs[0] else .tuple vs)) := rfl
  rw [hres]
  simp only [Sem.run_bind, hm, Result.andThen_ok, Sem.run_pure]
  by_cases h1 : vs.length = 1
  · obtain ⟨v0, rfl⟩ : ∃ v0, vs = [v0] := by
      cases vs with
      | nil => simp at h1
      | cons v0 l => cases l with
        | nil => exact ⟨v0, rfl⟩
        | cons v1 l => simp at h1
    refine ⟨y 0, ?_, hR 0 (by simp)⟩
    simp
  · refine ⟨.tuple ((List.range vs.length).map y).toArray, ?_, ?_⟩
    · rw [dif_neg (by simpa using h1)]
    · have hoo : oneOf vs = .tup vs := by
        unfold oneOf
        split
        · simp at h1
        · rfl
      rw [hoo]
      refine .tup vs _ (by simp) fun i hi => ?_
      have g1 : vs.getD i .undef = vs[i] := by simp [List.getD_eq_getElem?_getD, hi]
      rw [g1]
      simpa [hi] using hR i hi

/-- What is handed back is what the contract says. -/
theorem handed_sound {h : Hp} {n : Nat} (H : HS c h n μ w) {r v : V} {x : Value} (hx : R c h μ w v x) (hh : handed h r v) : Res c w r x := by
  unfold handed at hh
  unfold Res
  have hall : ∀ p q, okB c (frz h p) μ w q → AllB c w q := fun p q hq => ⟨hq.1, hq.2.1⟩
  split at hh
  · rename_i z rows
    rcases hh with ⟨rfl, rfl⟩ | ⟨b, len, cap, B, rfl, hB, hwr, hBz, hlc, hcl, hrl, hex, hnb⟩
    · obtain ⟨A, rfl⟩ := hx.cap0_inv
      exact .inl ⟨rfl, A, rfl⟩
    · obtain ⟨_, ⟨q, base, size, hmu, rfl⟩ | ⟨h0, h00, A, t, hmu, rfl⟩⟩ := hx.loc_inv
      · right
        have hblk := H.blk b B hB
        rcases hblk with ⟨g1, _⟩ | ⟨k, base', g1, g2, g3, g4, g5⟩
        · rw [hmu] at g1; cases g1
        · rw [hmu] at g1
          cases g1
          obtain ⟨e1, e2⟩ := allO_spec hex
          have hlt : (B.rows.take len).length = len := by simp; omega
          have hrow : ∀ i, i < len → ∃ r r', (B.rows.take len)[i]? = some r ∧ rows[i]? = some r' ∧ allO (expo h 2) r = some r' := by
            intro i hi
            have h1 : (B.rows.take len)[i]? = some ((B.rows.take len)[i]'(by omega)) := List.getElem?_eq_getElem (by omega)
            have h2 : rows[i]? = some (rows[i]'(by omega)) := List.getElem?_eq_getElem (by omega)
            exact ⟨_, _, h1, h2, e2 i _ _ h1 h2⟩
          refine ⟨q, base, cap, by simp [hrl], by omega, g3.2 hwr, g2, fun r' hr' => ?_, fun i j hi hj => ?_⟩
          · obtain ⟨i, hi, rfl⟩ := List.getElem_of_mem hr'
            obtain ⟨r0, r1, f1, f2, f3⟩ := hrow i (by omega)
            rw [List.getElem?_eq_getElem hi] at f2
            cases f2
            rw [(allO_spec f3).1, ← hBz]
            exact g4 r0 (List.mem_of_mem_take (List.mem_of_getElem? f1))
          · subst hBz
            obtain ⟨y, y1, y2, y3⟩ := g5 i j (by omega) hj
            refine ⟨y, y1, y2, fun hir => ?_⟩
            obtain ⟨r0, r1, f1, f2, f3⟩ := hrow i (by omega)
            obtain ⟨e3, e4⟩ := allO_spec f3
            have hr0 := g4 r0 (List.mem_of_mem_take (List.mem_of_getElem? f1))
            have h5 : r0[j]? = some (r0[j]'(by omega)) := List.getElem?_eq_getElem (by omega)
            have h6 : r1[j]? = some (r1[j]'(by omega)) := List.getElem?_eq_getElem (by omega)
            have h9 : cellAt B.rows i j = r0[j]'(by omega) := by
              rw [← cellAt_take B.rows len i j (by omega)]
              simp [cellAt, List.getD_eq_getElem?_getD, f1, h5]
            have h10 : cellAt rows i j = r1[j]'(by omega) := by simp [cellAt, List.getD_eq_getElem?_getD, f2, h6]
            rw [h9] at y3
            rw [h10]
            have hd := expo_sound H (fun b' => decide (b' ≠ b)) 2 y3 (e4 j _ _ h5 h6) (fun b2 hb2 => by
              simp only [ne_eq, decide_eq_true_eq]
              rintro rfl
              exact hnb (by simp only [List.mem_flatMap]; exact ⟨r0, List.mem_of_getElem? f1, _, List.mem_of_getElem? h5, hb2⟩))
            refine hd.mono fun k hk => ⟨⟨hall _ _ hk, ?_⟩, rfl⟩
            rintro rfl
            exact hk.2.2 ⟨b, B, base, B.size, by simp [frz, hB], hwr, hmu⟩
      · left
        subst h0
        exact ⟨List.eq_nil_of_length_eq_zero hrl, A, rfl⟩
  · rename_i rs
    obtain ⟨vs, rfl, hvs⟩ := hh
    intro fv
    obtain ⟨xs, rfl, hl, hr⟩ := hx.tup_inv
    obtain ⟨e1, e2⟩ := allO_spec hvs
    refine .tup _ _ (by omega) fun i hi => ?_
    have h1 : vs[i]? = some (vs[i]'(by omega)) := List.getElem?_eq_getElem (by omega)
    have h2 : rs[i]? = some rs[i] := List.getElem?_eq_getElem hi
    have h3 := hr i (by omega)
    have h4 : vs.getD i .undef = vs[i]'(by omega) := by simp [List.getD_eq_getElem?_getD, h1]
    have h5 : rs.getD i .undef = rs[i] := by simp [List.getD_eq_getElem?_getD, h2]
    rw [h4] at h3
    rw [h5]
    exact (expoA_sound H (fun _ => true) (fv := fv) h3 (e2 i _ _ h1 h2) (fun _ _ => rfl)).mono (fun q hq => ⟨hall _ _ hq, rfl⟩) (fun _ _ h => h)
  · rename_i n1 n2
    split
    · exact absurd rfl (n1 _ _)
    · intro fv
      exact (expoA_sound H (fun _ => true) (fv := fv) hx hh (fun _ _ => rfl)).mono (fun q hq => ⟨hall _ _ hq, rfl⟩) (fun _ _ h => h)
end

/-- A function is right if its code, run over values, hands back what the contract says. -/
theorem sound_of_awp {P : Program} {plain : TypeId → Bool} {Γ : FuncId → Option Fspec} {Δ : FuncId → Option Pt} (hE : EnvOk ⟨P, plain, Γ, Δ, fun _ => none, 0⟩) {f : FuncId} {fn : Func} {code : Code} {F : Fspec} (hf : P.funcs[f]? = some fn) (hb : fn.body = some code) (hok : codeOk fn.ntmps code = true)
    (h : ∀ Φ ds r, F Φ ds r → ds.length ≤ fn.ntmps ∧ awp ⟨P, plain, Γ, Δ, Φ, fn.ntmps⟩ code (retQ ⟨P, plain, Γ, Δ, Φ, fn.ntmps⟩ fn.results.toList r) (st0 ds)) : Sound P f F := by
  intro c Φ ds r vals hc hok0 hX hΦ hF hargs
  obtain ⟨hlen, hk⟩ := h Φ ds r hF
  have hE' : EnvOk ⟨P, plain, Γ, Δ, Φ, fn.ntmps⟩ := ⟨hE.plain, hE.sound, hE.fn, hE.mixed, hE.soundT⟩
  rw [← hc] at hf
  have hnt : vals.size = ds.length := hargs.1
  have H0 : HS c (fun _ => none) 0 (fun _ => none) c.w0 := ⟨Fr.refl _ _, fun _ _ => rfl, fun _ _ => rfl, fun b B h => (by cases h), fun b b' B B' k base size base' size' h => (by cases h)⟩
  have hokB : ∀ q, c.ok0 q → okB c (fun _ => none) (fun _ => none) c.w0 q := fun q hq => ⟨.inl hq, hok0 q hq, fun ⟨b, B, _, _, h, _⟩ => by cases h⟩
  have S0 : Sim ((fun _ => none), (fun _ => none), c.w0) ⟨P, plain, Γ, Δ, Φ, fn.ntmps⟩ c (st0 ds) (fun _ => none) { tmps := vals ++ Array.replicate (fn.ntmps - vals.size) Go.undef, defers := [] } c.w0 := by
    refine ⟨H0, fun i => ?_, by simp; omega, rfl, Ext.refl _ _ _ _⟩
    by_cases hi : i < ds.length
    · have h1 := hargs.2 i hi
      have h2 : (vals ++ Array.replicate (fn.ntmps - vals.size) Go.undef).getD i Go.undef = vals.getD i Go.undef := by
        have : i < vals.size := by omega
        simp [Array.getElem?_append_left this]
      rw [h2]
      exact h1.mono (fun q hq => ⟨hokB q hq, rfl⟩) (fun _ _ h => h)
    · have h1 : (st0 ds).t i = .undef := by simp [st0, List.getD_eq_getElem?_getD, List.getElem?_eq_none (Nat.le_of_not_lt hi)]
      have h2 : (vals ++ Array.replicate (fn.ntmps - vals.size) Go.undef).getD i Go.undef = Go.undef := by
        simp only [Array.getD_eq_getD_getElem?]
        rw [Array.getElem?_append_right (by omega)]
        rw [Array.getElem?_replicate]
        split <;> rfl
      rw [h1, h2]
      exact .undef
  have hbel : ∀ {w' : World}, Fr c.w0 w' c.X → Below c.w0.heap.size c.w0 w' := fun hf => ⟨hf.os, hf.tape, hf.output, hf.size, fun k hk => hf.block k hk (hX k)⟩
  have key : ∀ (σ : St) (μ : Mu) (a : Act) (w : World), Ret ⟨P, plain, Γ, Δ, Φ, fn.ntmps⟩ fn.results.toList r σ → Sim ((fun _ => none), (fun _ => none), c.w0) ⟨P, plain, Γ, Δ, Φ, fn.ntmps⟩ c σ μ a w →
      a.defers = [] ∧ ∃ v, (results fn a.tmps).run c.P w = .ok v w ∧ ∃ x, (Ending.returned v : Ending) = .returned x ∧ Below c.w0.heap.size c.w0 w ∧ Res c w r x := by
    rintro σ μ a w ⟨v, hv, hh⟩ S
    obtain ⟨x, h1, h2⟩ := results_sound S hc hv
    exact ⟨S.df, x, h1, x, rfl, hbel S.hs.fr, handed_sound S.hs h2 hh⟩
  have hw := awp_sound hE' hc hΦ code (Q' := bodyPost c.P fn (fun e w' => ∃ x, e = .returned x ∧ Below c.w0.heap.size c.w0 w' ∧ Res c w' r x)) hok hk S0 (fun e σ μ a w hq S => by
    cases e with
    | normal => exact key σ μ a w hq S
    | ret => exact key σ μ a w hq S
    | _ => exact hq.elim)
  have := calls_of_wp hf hb hw
  rwa [hc] at this

/-- The same code, run on what it is handed. -/
def inlQ (E : Env) (rs : List ResultVar) (t : Nat → V) (K : V → St → Prop) : Exit → St → Prop
  | .normal, σ => ∃ v, outV E rs σ = some v ∧ K v ⟨t, σ.h, σ.n⟩
  | .ret, σ => ∃ v, outV E rs σ = some v ∧ K v ⟨t, σ.h, σ.n⟩
  | _, _ => False
def inl (P : Program) (plain : TypeId → Bool) (Γ : FuncId → Option Fspec) (Δ : FuncId → Option Pt) (fn : Func) (code : Code) : Pt := fun Φ args σ K =>
  args.length ≤ fn.ntmps ∧ awp ⟨P, plain, Γ, Δ, Φ, fn.ntmps⟩ code (inlQ ⟨P, plain, Γ, Δ, Φ, fn.ntmps⟩ fn.results.toList σ.t K) ⟨fun i => args.getD i .undef, σ.h, σ.n⟩
theorem inl_sound {P : Program} {plain : TypeId → Bool} {Γ : FuncId → Option Fspec} {Δ : FuncId → Option Pt} (hE : EnvOk ⟨P, plain, Γ, Δ, fun _ => none, 0⟩) {f : FuncId} {fn : Func} {code : Code} {T : Pt} (hf : P.funcs[f]? = some fn) (hb : fn.body = some code) (hok : codeOk fn.ntmps code = true) (hfn : fnOk P f = true)
    (hT : ∀ Φ args t h n K, T Φ args ⟨t, h, n⟩ K → inl P plain Γ Δ fn code Φ args ⟨t, h, n⟩ K) : SoundT P f T := by
  intro c Φ h n μ w args vals t K hc hΦ H hl ha hk
  obtain ⟨hlen, hk⟩ := hT _ _ _ _ _ _ hk
  have hE' : EnvOk ⟨P, plain, Γ, Δ, Φ, fn.ntmps⟩ := ⟨hE.plain, hE.sound, hE.fn, hE.mixed, hE.soundT⟩
  rw [← hc] at hf
  have S0 : Sim (h, μ, w) ⟨P, plain, Γ, Δ, Φ, fn.ntmps⟩ c ⟨fun i => args.getD i .undef, h, n⟩ μ { tmps := vals ++ Array.replicate (fn.ntmps - vals.size) Go.undef, defers := [] } w := by
    refine ⟨H, fun i => ?_, by simp; omega, rfl, Ext.refl _ _ _ _⟩
    by_cases hi : i < args.length
    · have h1 := ha i hi
      have h2 : (vals ++ Array.replicate (fn.ntmps - vals.size) Go.undef).getD i Go.undef = vals.getD i Go.undef := by
        have : i < vals.size := by omega
        simp [Array.getElem?_append_left this]
      simp only
      rw [h2]
      exact h1
    · have h1 : args.getD i .undef = .undef := by simp [List.getD_eq_getElem?_getD, List.getElem?_eq_none (Nat.le_of_not_lt hi)]
      have h2 : (vals ++ Array.replicate (fn.ntmps - vals.size) Go.undef).getD i Go.undef = Go.undef := by
        simp only [Array.getD_eq_getD_getElem?]
        rw [Array.getElem?_append_right (by omega)]
        rw [Array.getElem?_replicate]
        split <;> rfl
      simp only
      rw [h1, h2]
      exact .undef
  have key : ∀ (σ : St) (μ' : Mu) (a : Act) (w' : World), (∃ v, outV ⟨P, plain, Γ, Δ, Φ, fn.ntmps⟩ fn.results.toList σ = some v ∧ K v ⟨t, σ.h, σ.n⟩) → Sim (h, μ, w) ⟨P, plain, Γ, Δ, Φ, fn.ntmps⟩ c σ μ' a w' →
      a.defers = [] ∧ ∃ v, (results fn a.tmps).run c.P w' = .ok v w' ∧ ∃ x, (Ending.returned v : Ending) = .returned x ∧ ∃ v h' n' μ', K v ⟨t, h', n'⟩ ∧ HS c h' n' μ' w' ∧ Ext c h μ w h' μ' w' ∧ R c h' μ' w' v x := by
    rintro σ μ' a w' ⟨v, hv, hK⟩ S
    obtain ⟨x, h1, h2⟩ := results_sound S hc hv
    exact ⟨S.df, x, h1, x, rfl, v, σ.h, σ.n, μ', hK, S.hs, S.ex, h2⟩
  have hw := awp_sound hE' hc hΦ code (Q' := bodyPost c.P fn (fun e w' => ∃ x, e = .returned x ∧ ∃ v h' n' μ', K v ⟨t, h', n'⟩ ∧ HS c h' n' μ' w' ∧ Ext c h μ w h' μ' w' ∧ R c h' μ' w' v x)) hok hk S0 (fun e σ μ a w hq S => by
    cases e with
    | normal => exact key σ μ a w hq S
    | ret => exact key σ μ a w hq S
    | _ => exact hq.elim)
  have := calls_of_wp hf hb hw
  rw [hc] at this
  exact .inl ⟨hfn, this⟩
end Go.Proofs.Ytahgddfnbjpfiaa.Am

/- Facts on the types of the program, asked of the kernel. -/
set_option maxRecDepth 100000
namespace Go.Proofs.Ytahgddfnbjpfiaa
open Go Go.RowKit Am
theorem sz2 : szo Try.prog 2 = some 1 := by kernel_rfl
theorem ag2 : aggo Try.prog 2 = some false := by kernel_rfl
theorem zr2 : zro Try.prog 2 = some (.int .i64 0) := by kernel_rfl
theorem zok2 : zok Try.prog 2 1 = true := by kernel_rfl
theorem ii2 : isIntT Try.prog 2 = true := by kernel_rfl
theorem sz3 : szo Try.prog 3 = some 1 := by kernel_rfl
theorem ag3 : aggo Try.prog 3 = some false := by kernel_rfl
theorem zr3 : zro Try.prog 3 = some (.int .i64 0) := by kernel_rfl
theorem zok3 : zok Try.prog 3 1 = true := by kernel_rfl
theorem ii3 : isIntT Try.prog 3 = true := by kernel_rfl
theorem sz4 : szo Try.prog 4 = some 1 := by kernel_rfl
theorem ag4 : aggo Try.prog 4 = some false := by kernel_rfl
theorem zr4 : zro Try.prog 4 = some (.bool false) := by kernel_rfl
theorem zok4 : zok Try.prog 4 1 = true := by kernel_rfl
theorem bt4 : isBoolT Try.prog 4 = true := by kernel_rfl
theorem sz5 : szo Try.prog 5 = some 1 := by kernel_rfl
theorem ag5 : aggo Try.prog 5 = some false := by kernel_rfl
theorem zr5 : zro Try.prog 5 = some (.int .u8 0) := by kernel_rfl
theorem zok5 : zok Try.prog 5 1 = true := by kernel_rfl
theorem ii5 : isIntT Try.prog 5 = true := by kernel_rfl
theorem sz7 : szo Try.prog 7 = some 4 := by kernel_rfl
theorem ag7 : aggo Try.prog 7 = some true := by kernel_rfl
theorem zr7 : zro Try.prog 7 = some (.agg #[(.int .i64 0), (.int .i64 0), (.bool false), (.int .u8 0)]) := by kernel_rfl
theorem zok7 : zok Try.prog 7 4 = true := by kernel_rfl
theorem fl7_0 : fldo Try.prog 7 0 = some (0, 1, false) := by kernel_rfl
theorem fl7_1 : fldo Try.prog 7 1 = some (1, 1, false) := by kernel_rfl
theorem fl7_2 : fldo Try.prog 7 2 = some (2, 1, false) := by kernel_rfl
theorem fl7_3 : fldo Try.prog 7 3 = some (3, 1, false) := by kernel_rfl
theorem pl7 : plc Try.prog 7 = .fields [(0, 1), (1, 1), (2, 1), (3, 1)] := by kernel_rfl
theorem sz9 : szo Try.prog 9 = some 1 := by kernel_rfl
theorem ag9 : aggo Try.prog 9 = some false := by kernel_rfl
theorem zr9 : zro Try.prog 9 = some (.string ⟨#[]⟩) := by kernel_rfl
theorem zok9 : zok Try.prog 9 1 = true := by kernel_rfl
theorem sq9 : seqo Try.prog 9 = .str := by kernel_rfl
theorem sz12 : szo Try.prog 12 = some 1 := by kernel_rfl
theorem ag12 : aggo Try.prog 12 = some false := by kernel_rfl
theorem zr12 : zro Try.prog 12 = some (.int .u64 0) := by kernel_rfl
theorem zok12 : zok Try.prog 12 1 = true := by kernel_rfl
theorem ii12 : isIntT Try.prog 12 = true := by kernel_rfl
theorem sz13 : szo Try.prog 13 = some 2 := by kernel_rfl
theorem ag13 : aggo Try.prog 13 = some true := by kernel_rfl
theorem zr13 : zro Try.prog 13 = some (.agg #[(.string ⟨#[]⟩), (.int .u64 0)]) := by kernel_rfl
theorem zok13 : zok Try.prog 13 2 = true := by kernel_rfl
theorem fl13_0 : fldo Try.prog 13 0 = some (0, 1, false) := by kernel_rfl
theorem fl13_1 : fldo Try.prog 13 1 = some (1, 1, false) := by kernel_rfl
theorem pl13 : plc Try.prog 13 = .fields [(0, 1), (1, 1)] := by kernel_rfl
theorem sz21 : szo Try.prog 21 = some 1 := by kernel_rfl
theorem ag21 : aggo Try.prog 21 = some false := by kernel_rfl
theorem zr21 : zro Try.prog 21 = some (.int .i32 0) := by kernel_rfl
theorem zok21 : zok Try.prog 21 1 = true := by kernel_rfl
theorem ii21 : isIntT Try.prog 21 = true := by kernel_rfl
theorem sz22 : szo Try.prog 22 = some 1 := by kernel_rfl
theorem ag22 : aggo Try.prog 22 = some false := by kernel_rfl
theorem zr22 : zro Try.prog 22 = some (.slice none 0 0) := by kernel_rfl
theorem zok22 : zok Try.prog 22 1 = true := by kernel_rfl
theorem ist22 : isSliceT Try.prog 22 = true := by kernel_rfl
theorem sq22 : seqo Try.prog 22 = .slice 34 18 232 := by kernel_rfl
theorem sz25 : szo Try.prog 25 = some 1 := by kernel_rfl
theorem ag25 : aggo Try.prog 25 = some false := by kernel_rfl
theorem zr25 : zro Try.prog 25 = some (.slice none 0 0) := by kernel_rfl
theorem zok25 : zok Try.prog 25 1 = true := by kernel_rfl
theorem ist25 : isSliceT Try.prog 25 = true := by kernel_rfl
theorem sq25 : seqo Try.prog 25 = .slice 4 1 1 := by kernel_rfl
theorem sz28 : szo Try.prog 28 = some 2 := by kernel_rfl
theorem ag28 : aggo Try.prog 28 = some true := by kernel_rfl
theorem zr28 : zro Try.prog 28 = some (.agg #[(.string ⟨#[]⟩), (.int .i64 0)]) := by kernel_rfl
theorem zok28 : zok Try.prog 28 2 = true := by kernel_rfl
theorem fl28_0 : fldo Try.prog 28 0 = some (0, 1, false) := by kernel_rfl
theorem fl28_1 : fldo Try.prog 28 1 = some (1, 1, false) := by kernel_rfl
theorem pl28 : plc Try.prog 28 = .fields [(0, 1), (1, 1)] := by kernel_rfl
theorem sz29 : szo Try.prog 29 = some 2 := by kernel_rfl
theorem ag29 : aggo Try.prog 29 = some true := by kernel_rfl
theorem zr29 : zro Try.prog 29 = some (.agg #[(.string ⟨#[]⟩), (.int .i64 0)]) := by kernel_rfl
theorem zok29 : zok Try.prog 29 2 = true := by kernel_rfl
theorem fl29_0 : fldo Try.prog 29 0 = some (0, 1, false) := by kernel_rfl
theorem fl29_1 : fldo Try.prog 29 1 = some (1, 1, false) := by kernel_rfl
theorem pl29 : plc Try.prog 29 = .fields [(0, 1), (1, 1)] := by kernel_rfl
theorem sz30 : szo Try.prog 30 = some 1 := by kernel_rfl
theorem ag30 : aggo Try.prog 30 = some false := by kernel_rfl
theorem zr30 : zro Try.prog 30 = some (.slice none 0 0) := by kernel_rfl
theorem zok30 : zok Try.prog 30 1 = true := by kernel_rfl
theorem ist30 : isSliceT Try.prog 30 = true := by kernel_rfl
theorem sq30 : seqo Try.prog 30 = .slice 29 2 24 := by kernel_rfl
theorem sz31 : szo Try.prog 31 = some 3 := by kernel_rfl
theorem ag31 : aggo Try.prog 31 = some true := by kernel_rfl
theorem zr31 : zro Try.prog 31 = some (.agg #[(.bool false), (.string ⟨#[]⟩), (.string ⟨#[]⟩)]) := by kernel_rfl
theorem zok31 : zok Try.prog 31 3 = true := by kernel_rfl
theorem fl31_0 : fldo Try.prog 31 0 = some (0, 1, false) := by kernel_rfl
theorem fl31_1 : fldo Try.prog 31 1 = some (1, 1, false) := by kernel_rfl
theorem fl31_2 : fldo Try.prog 31 2 = some (2, 1, false) := by kernel_rfl
theorem pl31 : plc Try.prog 31 = .fields [(0, 1), (1, 1), (2, 1)] := by kernel_rfl
theorem sz32 : szo Try.prog 32 = some 3 := by kernel_rfl
theorem ag32 : aggo Try.prog 32 = some true := by kernel_rfl
theorem zr32 : zro Try.prog 32 = some (.agg #[(.bool false), (.string ⟨#[]⟩), (.string ⟨#[]⟩)]) := by kernel_rfl
theorem zok32 : zok Try.prog 32 3 = true := by kernel_rfl
theorem fl32_0 : fldo Try.prog 32 0 = some (0, 1, false) := by kernel_rfl
theorem fl32_1 : fldo Try.prog 32 1 = some (1, 1, false) := by kernel_rfl
theorem fl32_2 : fldo Try.prog 32 2 = some (2, 1, false) := by kernel_rfl
theorem pl32 : plc Try.prog 32 = .fields [(0, 1), (1, 1), (2, 1)] := by kernel_rfl
theorem sz33 : szo Try.prog 33 = some 18 := by kernel_rfl
theorem ag33 : aggo Try.prog 33 = some true := by kernel_rfl
theorem zr33 : zro Try.prog 33 = some (.agg #[(.string ⟨#[]⟩), (.int .i64 0), (.int .i64 0), (.int .i64 0), (.slice none 0 0), (.int .i64 0), (.string ⟨#[]⟩), (.int .i64 0), (.string ⟨#[]⟩), (.int .i64 0), (.bool false), (.string ⟨#[]⟩), (.string ⟨#[]⟩), (.string ⟨#[]⟩), (.string ⟨#[]⟩), (.string ⟨#[]⟩), (.int .i64 0), (.string ⟨#[]⟩)]) := by kernel_rfl
theorem zok33 : zok Try.prog 33 18 = true := by kernel_rfl
theorem fl33_0 : fldo Try.prog 33 0 = some (0, 2, true) := by kernel_rfl
theorem fl33_1 : fldo Try.prog 33 1 = some (2, 1, false) := by kernel_rfl
theorem fl33_2 : fldo Try.prog 33 2 = some (3, 1, false) := by kernel_rfl
theorem fl33_3 : fldo Try.prog 33 3 = some (4, 1, false) := by kernel_rfl
theorem fl33_4 : fldo Try.prog 33 4 = some (5, 1, false) := by kernel_rfl
theorem fl33_5 : fldo Try.prog 33 5 = some (6, 2, true) := by kernel_rfl
theorem fl33_6 : fldo Try.prog 33 6 = some (8, 2, true) := by kernel_rfl
theorem fl33_7 : fldo Try.prog 33 7 = some (10, 3, true) := by kernel_rfl
theorem fl33_8 : fldo Try.prog 33 8 = some (13, 1, false) := by kernel_rfl
theorem fl33_9 : fldo Try.prog 33 9 = some (14, 1, false) := by kernel_rfl
theorem fl33_10 : fldo Try.prog 33 10 = some (15, 2, true) := by kernel_rfl
theorem fl33_11 : fldo Try.prog 33 11 = some (17, 1, false) := by kernel_rfl
theorem pl33 : plc Try.prog 33 = .fields [(0, 2), (2, 1), (3, 1), (4, 1), (5, 1), (6, 2), (8, 2), (10, 3), (13, 1), (14, 1), (15, 2), (17, 1)] := by kernel_rfl
theorem sz34 : szo Try.prog 34 = some 18 := by kernel_rfl
theorem ag34 : aggo Try.prog 34 = some true := by kernel_rfl
theorem zr34 : zro Try.prog 34 = some (.agg #[(.string ⟨#[]⟩), (.int .i64 0), (.int .i64 0), (.int .i64 0), (.slice none 0 0), (.int .i64 0), (.string ⟨#[]⟩), (.int .i64 0), (.string ⟨#[]⟩), (.int .i64 0), (.bool false), (.string ⟨#[]⟩), (.string ⟨#[]⟩), (.string ⟨#[]⟩), (.string ⟨#[]⟩), (.string ⟨#[]⟩), (.int .i64 0), (.string ⟨#[]⟩)]) := by kernel_rfl
theorem zok34 : zok Try.prog 34 18 = true := by kernel_rfl
theorem fl34_0 : fldo Try.prog 34 0 = some (0, 2, true) := by kernel_rfl
theorem fl34_1 : fldo Try.prog 34 1 = some (2, 1, false) := by kernel_rfl
theorem fl34_2 : fldo Try.prog 34 2 = some (3, 1, false) := by kernel_rfl
theorem fl34_3 : fldo Try.prog 34 3 = some (4, 1, false) := by kernel_rfl
theorem fl34_4 : fldo Try.prog 34 4 = some (5, 1, false) := by kernel_rfl
theorem fl34_5 : fldo Try.prog 34 5 = some (6, 2, true) := by kernel_rfl
theorem fl34_6 : fldo Try.prog 34 6 = some (8, 2, true) := by kernel_rfl
theorem fl34_7 : fldo Try.prog 34 7 = some (10, 3, true) := by kernel_rfl
theorem fl34_8 : fldo Try.prog 34 8 = some (13, 1, false) := by kernel_rfl
theorem fl34_9 : fldo Try.prog 34 9 = some (14, 1, false) := by kernel_rfl
theorem fl34_10 : fldo Try.prog 34 10 = some (15, 2, true) := by kernel_rfl
theorem fl34_11 : fldo Try.prog 34 11 = some (17, 1, false) := by kernel_rfl
theorem pl34 : plc Try.prog 34 = .fields [(0, 2), (2, 1), (3, 1), (4, 1), (5, 1), (6, 2), (8, 2), (10, 3), (13, 1), (14, 1), (15, 2), (17, 1)] := by kernel_rfl
theorem sz39 : szo Try.prog 39 = some 1 := by kernel_rfl
theorem ag39 : aggo Try.prog 39 = some false := by kernel_rfl
theorem zr39 : zro Try.prog 39 = some (.int .i64 0) := by kernel_rfl
theorem zok39 : zok Try.prog 39 1 = true := by kernel_rfl
theorem ii39 : isIntT Try.prog 39 = true := by kernel_rfl
theorem sz66 : szo Try.prog 66 = some 1 := by kernel_rfl
theorem ag66 : aggo Try.prog 66 = some false := by kernel_rfl
theorem zr66 : zro Try.prog 66 = some (.slice none 0 0) := by kernel_rfl
theorem zok66 : zok Try.prog 66 1 = true := by kernel_rfl
theorem ist66 : isSliceT Try.prog 66 = true := by kernel_rfl
theorem sq66 : seqo Try.prog 66 = .slice 9 1 16 := by kernel_rfl
theorem sz74 : szo Try.prog 74 = some 2 := by kernel_rfl
theorem ag74 : aggo Try.prog 74 = some true := by kernel_rfl
theorem zr74 : zro Try.prog 74 = some (.agg #[(.bool false), (.string ⟨#[]⟩)]) := by kernel_rfl
theorem zok74 : zok Try.prog 74 2 = true := by kernel_rfl
theorem fl74_0 : fldo Try.prog 74 0 = some (0, 1, false) := by kernel_rfl
theorem fl74_1 : fldo Try.prog 74 1 = some (1, 1, false) := by kernel_rfl
theorem pl74 : plc Try.prog 74 = .fields [(0, 1), (1, 1)] := by kernel_rfl
theorem sz75 : szo Try.prog 75 = some 2 := by kernel_rfl
theorem ag75 : aggo Try.prog 75 = some true := by kernel_rfl
theorem zr75 : zro Try.prog 75 = some (.agg #[(.bool false), (.string ⟨#[]⟩)]) := by kernel_rfl
theorem zok75 : zok Try.prog 75 2 = true := by kernel_rfl
theorem fl75_0 : fldo Try.prog 75 0 = some (0, 1, false) := by kernel_rfl
theorem fl75_1 : fldo Try.prog 75 1 = some (1, 1, false) := by kernel_rfl
theorem pl75 : plc Try.prog 75 = .fields [(0, 1), (1, 1)] := by kernel_rfl
theorem sz77 : szo Try.prog 77 = some 1 := by kernel_rfl
theorem ag77 : aggo Try.prog 77 = some false := by kernel_rfl
theorem zr77 : zro Try.prog 77 = some (.int .u64 0) := by kernel_rfl
theorem zok77 : zok Try.prog 77 1 = true := by kernel_rfl
theorem ii77 : isIntT Try.prog 77 = true := by kernel_rfl
theorem sz80 : szo Try.prog 80 = some 1 := by kernel_rfl
theorem ag80 : aggo Try.prog 80 = some false := by kernel_rfl
theorem zr80 : zro Try.prog 80 = some (.slice none 0 0) := by kernel_rfl
theorem zok80 : zok Try.prog 80 1 = true := by kernel_rfl
theorem ist80 : isSliceT Try.prog 80 = true := by kernel_rfl
theorem sq80 : seqo Try.prog 80 = .slice 75 2 24 := by kernel_rfl
theorem sz92 : szo Try.prog 92 = some 1 := by kernel_rfl
theorem ag92 : aggo Try.prog 92 = some false := by kernel_rfl
theorem zr92 : zro Try.prog 92 = some (.slice none 0 0) := by kernel_rfl
theorem zok92 : zok Try.prog 92 1 = true := by kernel_rfl
theorem ist92 : isSliceT Try.prog 92 = true := by kernel_rfl
theorem sq92 : seqo Try.prog 92 = .slice 5 1 1 := by kernel_rfl
theorem sz97 : szo Try.prog 97 = some 1 := by kernel_rfl
theorem ag97 : aggo Try.prog 97 = some false := by kernel_rfl
theorem zr97 : zro Try.prog 97 = some (.int .u64 0) := by kernel_rfl
theorem zok97 : zok Try.prog 97 1 = true := by kernel_rfl
theorem ii97 : isIntT Try.prog 97 = true := by kernel_rfl
theorem sz99 : szo Try.prog 99 = some 1 := by kernel_rfl
theorem ag99 : aggo Try.prog 99 = some false := by kernel_rfl
theorem zr99 : zro Try.prog 99 = some (.slice none 0 0) := by kernel_rfl
theorem zok99 : zok Try.prog 99 1 = true := by kernel_rfl
theorem ist99 : isSliceT Try.prog 99 = true := by kernel_rfl
theorem sq99 : seqo Try.prog 99 = .slice 3 1 8 := by kernel_rfl
theorem sz103 : szo Try.prog 103 = some 0 := by kernel_rfl
theorem ag103 : aggo Try.prog 103 = some true := by kernel_rfl
theorem zr103 : zro Try.prog 103 = some (.agg #[]) := by kernel_rfl
theorem zok103 : zok Try.prog 103 0 = true := by kernel_rfl
theorem sz104 : szo Try.prog 104 = some 0 := by kernel_rfl
theorem ag104 : aggo Try.prog 104 = some true := by kernel_rfl
theorem zr104 : zro Try.prog 104 = some (.agg #[]) := by kernel_rfl
theorem zok104 : zok Try.prog 104 0 = true := by kernel_rfl
theorem fl104_0 : fldo Try.prog 104 0 = some (0, 0, true) := by kernel_rfl
theorem pl104 : plc Try.prog 104 = .fields [(0, 0)] := by kernel_rfl
theorem sz107 : szo Try.prog 107 = some 1 := by kernel_rfl
theorem ag107 : aggo Try.prog 107 = some false := by kernel_rfl
theorem zr107 : zro Try.prog 107 = some (.int .u32 0) := by kernel_rfl
theorem zok107 : zok Try.prog 107 1 = true := by kernel_rfl
theorem ii107 : isIntT Try.prog 107 = true := by kernel_rfl
/-  -/
end Go.Proofs.Ytahgddfnbjpfiaa

/- An abstract machine over values: steps, one lemma each. -/
set_option linter.unusedVariables false
set_option linter.unusedSimpArgs false
namespace Go.Proofs.Ytahgddfnbjpfiaa.Am
open Go Go.RowKit

def isPure : Op → Bool
  | .store .. | .alloc _ | .box .. | .buildSlice .. | .makeSlice .. => false
  | .convert .. => false
  | .binOp _ _ _ (.const (.slice none _ _)) _ => false
  | .call cl => match cl.callee with
    | .builtin .append => false
    | .builtin .copy => false
    | .builtin .clear => false
    | .builtin _ => true
    | _ => false
  | _ => true

theorem isPure_call {cl : Call} (h : isPure (.call cl) = true) : ∃ b, cl.callee = .builtin b ∧ b ≠ .append ∧ b ≠ .copy ∧ b ≠ .clear := by
  simp only [isPure] at h
  split at h
  · cases h
  · cases h
  · cases h
  · rename_i b hb hb2 hb3 hc; exact ⟨b, hc, fun e => by subst e; exact hb rfl, fun e => by subst e; exact hb2 rfl, fun e => by subst e; exact hb3 rfl⟩
  · cases h
/-- The same, with heads that the unifier cannot unfold. -/
structure W (E : Env) (c : Code) (Q : Exit → St → Prop) (σ : St) : Prop where
  out : awp E c Q σ
structure WQ (Q : Exit → St → Prop) (e : Exit) (σ : St) : Prop where
  out : Q e σ
structure WO (E : Env) (ops : Array Oper) (l : List Oper) (Q : Exit → St → Prop) (σ : St) : Prop where
  out : awpOps E ops l (Q .normal) σ
structure WD (E : Env) (ops : Array Oper) (l : List Oper) (Q : Exit → St → Prop) (σ : St) : Prop where
  out : awpD E ops l (Q .normal) σ
structure WA (E : Env) (op : Op) (σ : St) (K : V → St → Prop) : Prop where
  out : aop E op σ K
structure WP (E : Env) (ops : Array Oper) (l : List Oper) (Q : Exit → St → Prop) (d : Option Tmp) (v : V) (σ : St) : Prop where
  out : awpOps E ops l (Q .normal) (putS d v σ)
theorem W_eq (E : Env) (c : Code) (Q : Exit → St → Prop) : W E c Q = awp E c Q := funext fun σ => propext ⟨fun h => h.out, fun h => ⟨h⟩⟩
section
variable {E : Env} {Q : Exit → St → Prop} {K : St → Prop} {σ : St} {t : Nat → V} {h : Hp} {n : Nat} {ops : Array Oper} {o : Oper} {rest : List Oper} {x y : Code} {v : V} {d : Nat}
theorem x_seq (k : W E x (thenQ (W E y Q) Q) σ) : W E (.seq x y) Q σ := ⟨⟨awp E y Q, by have := k.out; rw [W_eq] at this; exact this, fun σ h => ⟨σ, .refl σ, h⟩⟩⟩
/-- What holds between two pieces of code, told once for all ways to it. -/
theorem x_cut (I : St → Prop) (h1 : W E x (thenQ I Q) σ) (h2 : ∀ t h n, I ⟨t, h, n⟩ → W E y Q ⟨t, h, n⟩) : W E (.seq x y) Q σ := ⟨⟨I, h1.out, fun σ hσ => ⟨σ, .refl σ, (h2 σ.t σ.h σ.n hσ).out⟩⟩⟩
/-- .. and a row of one's own is taken as data from there on. -/
theorem x_cutF (k : Nat) (I : St → Prop) (h1 : W E x (thenQ I Q) σ) (h2 : ∀ t h n, I ⟨t, h, n⟩ → ∃ v, expoA h (t k) = some v ∧ ∀ h' : Hp, (∀ b, (touchA h (t k)).contains b = false → h' b = h b) → W E y Q ⟨upd t k v, h', n⟩) : W E (.seq x y) Q σ := by
  refine ⟨⟨I, h1.out, fun σ hσ => ?_⟩⟩
  obtain ⟨v, hv, hk⟩ := h2 σ.t σ.h σ.n hσ
  exact ⟨_, .data k v hv (.refl _), (hk _ fun b hb => by unfold frz; simp only [hb, Bool.false_eq_true, if_false]).out⟩
theorem x_skip (k : WQ Q .normal σ) : W E .skip Q σ := ⟨k.out⟩
theorem x_exit {i : Nat} (k : WQ Q (.exit i) σ) : W E (.exit i) Q σ := ⟨k.out⟩
theorem x_ret (k : WQ Q .ret σ) : W E .ret Q σ := ⟨k.out⟩
theorem x_block {i : Nat} (k : W E x (blockQ i Q) σ) : W E (.block i x) Q σ := ⟨k.out⟩
theorem x_reg {i : Nat} {l : List Oper} (e : ops = List.toArray l) (k : WO E ops l Q σ) : W E (.region i ops false) Q σ := ⟨by subst e; exact k.out⟩
theorem x_regD {i : Nat} {l : List Oper} (e : ops = List.toArray l) (ho : drawOk ops = true) (k : WD E ops l Q σ) : W E (.region i ops true) Q σ := ⟨by
  subst e
  simp only [awp, if_true, ho]
  exact k.out⟩
theorem x_nil (k : WQ Q .normal σ) : WO E ops [] Q σ := ⟨k.out⟩
theorem x_nilD (k : WQ Q .normal σ) : WD E ops [] Q σ := ⟨k.out⟩
theorem x_thenN (k : K σ) : WQ (thenQ K Q) .normal σ := ⟨k⟩
theorem x_thenE {i : Nat} (k : WQ Q (.exit i) σ) : WQ (thenQ K Q) (.exit i) σ := ⟨k.out⟩
theorem x_thenR (k : WQ Q .ret σ) : WQ (thenQ K Q) .ret σ := ⟨k.out⟩
theorem x_blkN {i : Nat} (k : WQ Q .normal σ) : WQ (blockQ i Q) .normal σ := ⟨k.out⟩
theorem x_blkR {i : Nat} (k : WQ Q .ret σ) : WQ (blockQ i Q) .ret σ := ⟨k.out⟩
theorem x_blkE {i : Nat} (k : WQ Q .normal σ) : WQ (blockQ i Q) (.exit i) σ := ⟨by simpa [blockQ] using k.out⟩
theorem x_blkF {i j : Nat} (e : (j == i) = false) (k : WQ Q (.exit j) σ) : WQ (blockQ i Q) (.exit j) σ := by
  have : j ≠ i := by simpa using e
  exact ⟨by simpa [blockQ, this] using k.out⟩
theorem x_cond {b : Operand} {c : Bool} (e : ev t b = .s (.bool c)) (k1 : c = true → W E x Q ⟨t, h, n⟩) (k2 : c = false → W E y Q ⟨t, h, n⟩) : W E (.cond b x y) Q ⟨t, h, n⟩ := by
  refine ⟨?_⟩
  unfold awp; simp only [e]; exact ⟨fun e => (k1 e).out, fun e => (k2 e).out⟩
theorem x_isC {b : Operand} (k : W E (.cond b x y) Q ⟨t, h, n⟩) : W E (.cond b x y) Q ⟨t, h, n⟩ := k
theorem x_condT {b : Operand} (e : ev t b = .s (.bool true)) (k1 : W E x Q ⟨t, h, n⟩) : W E (.cond b x y) Q ⟨t, h, n⟩ := x_cond e (fun _ => k1) (fun e => by cases e)
theorem x_condF {b : Operand} (e : ev t b = .s (.bool false)) (k1 : W E y Q ⟨t, h, n⟩) : W E (.cond b x y) Q ⟨t, h, n⟩ := x_cond e (fun e => by cases e) (fun _ => k1)
theorem x_condP {b : Operand} {p : Prop} {_ : Decidable p} (e : ev t b = .s (.bool (decide p))) (k1 : p → W E x Q ⟨t, h, n⟩) (k2 : ¬ p → W E y Q ⟨t, h, n⟩) : W E (.cond b x y) Q ⟨t, h, n⟩ :=
  x_cond e (fun e => k1 (by simpa using e)) (fun e => k2 (by simpa using e))
theorem x_loop (I : St → Prop) (m : St → Nat) (h0 : I σ) (hs : ∀ t h n, I ⟨t, h, n⟩ → W E x (thenQ (fun σ' => I σ' ∧ m σ' < m ⟨t, h, n⟩) Q) ⟨t, h, n⟩) : W E (.loop x) Q σ := ⟨⟨I, m, σ, .refl _, h0, fun σ hσ => (hs σ.t σ.h σ.n hσ).out⟩⟩
theorem x_loopG {h' : Hp} (k z : Nat) (I : St → Prop) (m : St → Nat) (hk : t k = .cap0) (h0 : I ⟨upd t k (.loc n 0 0 0), upd h' n (some ⟨z, [], true⟩), n + 1⟩) (hs : ∀ t h n, I ⟨t, h, n⟩ → W E x (thenQ (fun σ' => I σ' ∧ m σ' < m ⟨t, h, n⟩) Q) ⟨t, h, n⟩) : W E (.loop x) Q ⟨t, h', n⟩ :=
  ⟨⟨I, m, _, .step k z hk (.refl _), h0, fun σ hσ => (hs σ.t σ.h σ.n hσ).out⟩⟩
theorem x_loopG2 {h' : Hp} (k z k2 z2 : Nat) (I : St → Prop) (m : St → Nat) (hk : t k = .cap0) (hne : k ≠ k2) (h2 : t k2 = .cap0) (h0 : I ⟨upd (upd t k (.loc n 0 0 0)) k2 (.loc (n + 1) 0 0 0), upd (upd h' n (some ⟨z, [], true⟩)) (n + 1) (some ⟨z2, [], true⟩), n + 1 + 1⟩) (hs : ∀ t h n, I ⟨t, h, n⟩ → W E x (thenQ (fun σ' => I σ' ∧ m σ' < m ⟨t, h, n⟩) Q) ⟨t, h, n⟩) : W E (.loop x) Q ⟨t, h', n⟩ :=
  ⟨⟨I, m, _, .step k z hk (.step k2 z2 (by simp only []; rw [upd_ne _ _ _ _ (Ne.symm hne)]; exact h2) (.refl _)), h0, fun σ hσ => (hs σ.t σ.h σ.n hσ).out⟩⟩
theorem aop_pure {op : Op} (hp : isPure op = true) {K : V → St → Prop} (hv : pval E.P E.plain h (ev t) op = some v) (k : K v ⟨t, h, n⟩) : aop E op ⟨t, h, n⟩ K := by
  unfold aop
  split <;> first | exact ⟨_, hv, k⟩ | (simp [isPure] at hp; done) | skip
  rename_i cl
  obtain ⟨b, h1, h2, h3, h4⟩ := isPure_call hp
  unfold acl
  rw [h1]
  cases b <;> first | exact (h2 rfl).elim | exact (h3 rfl).elim | exact (h4 rfl).elim | exact ⟨_, hv, k⟩
theorem x_ops (k : WO E ops (o :: rest) Q ⟨t, h, n⟩) : WO E ops (o :: rest) Q ⟨t, h, n⟩ := k
theorem x_opsD (k : WD E ops (o :: rest) Q ⟨t, h, n⟩) : WD E ops (o :: rest) Q ⟨t, h, n⟩ := k
theorem x_op (hg : o.guard = none) (hd : o.dst = some d) (hp : isPure o.op = true) (hv : pval E.P E.plain h (ev t) o.op = some v) (k : WO E ops rest Q ⟨upd t d v, h, n⟩) : WO E ops (o :: rest) Q ⟨t, h, n⟩ := by
  refine ⟨?_⟩
  unfold awpOps gd
  simp only [hg]
  exact aop_pure hp hv (by simpa [putS, hd] using k.out)
/-- An operation that turns memory. -/
theorem x_eff (hg : o.guard = none) (k : WA E o.op ⟨t, h, n⟩ fun v σ' => WP E ops rest Q o.dst v σ') : WO E ops (o :: rest) Q ⟨t, h, n⟩ := by
  have e : (fun v σ' => WP E ops rest Q o.dst v σ') = fun v σ' => awpOps E ops rest (Q .normal) (putS o.dst v σ') := funext fun v => funext fun σ' => propext ⟨fun h => h.out, fun h => ⟨h⟩⟩
  refine ⟨?_⟩
  unfold awpOps gd
  simp only [hg]
  have := k.out
  rwa [e] at this
theorem x_putS (k : WO E ops rest Q ⟨upd t d v, h, n⟩) : WP E ops rest Q (some d) v ⟨t, h, n⟩ := ⟨k.out⟩
theorem x_putN (k : WO E ops rest Q σ) : WP E ops rest Q none v σ := ⟨k.out⟩
/-- A guarded operation. -/
theorem x_gd {j e : Nat} {want b : Bool} (hg : o.guard = some (j, want)) (hj : (ops[j]?).bind (·.dst) = some e) (hb : t e = .s (.bool b)) (k1 : b = want → WA E o.op ⟨t, h, n⟩ fun v σ' => WP E ops rest Q o.dst v σ') (k2 : b = (!want) → WP E ops rest Q o.dst .undef ⟨t, h, n⟩) : WO E ops (o :: rest) Q ⟨t, h, n⟩ := by
  have e : (fun v σ' => WP E ops rest Q o.dst v σ') = fun v σ' => awpOps E ops rest (Q .normal) (putS o.dst v σ') := funext fun v => funext fun σ' => propext ⟨fun h => h.out, fun h => ⟨h⟩⟩
  refine ⟨?_⟩
  unfold awpOps gd
  simp only [hg, hj, hb]
  exact ⟨fun e1 => by have := (k1 e1).out; rwa [e] at this, fun e => (k2 (by cases b <;> cases want <;> simp_all)).out⟩
theorem x_gdU {j e : Nat} {want : Bool} (hg : o.guard = some (j, want)) (hj : (ops[j]?).bind (·.dst) = some e) (hb : t e = .undef) (k2 : WP E ops rest Q o.dst .undef ⟨t, h, n⟩) : WO E ops (o :: rest) Q ⟨t, h, n⟩ := by
  refine ⟨?_⟩
  unfold awpOps gd
  simp only [hg, hj, hb]
  exact k2.out
theorem wa_pure {op : Op} (hp : isPure op = true) {K : V → St → Prop} (hv : pval E.P E.plain h (ev t) op = some v) (k : K v ⟨t, h, n⟩) : WA E op ⟨t, h, n⟩ K := ⟨aop_pure hp hv k⟩
/-- Open order: a quiet operation. -/
theorem x_opD (hf : quiet ops o = true) (hg : o.guard = none) (hd : o.dst = some d) (hv : qv E o.op (ev t) h v) (k : WD E ops rest Q ⟨upd t d v, h, n⟩) : WD E ops (o :: rest) Q ⟨t, h, n⟩ := by
  refine ⟨?_⟩
  unfold awpD gd
  simp only [hf, hg, if_true]
  exact ⟨v, hv, by simpa [putS, hd] using k.out⟩
theorem x_gdD {j e : Nat} {want b : Bool} (hf : quiet ops o = true) (hg : o.guard = some (j, want)) (hd : o.dst = some d) (hj : (ops[j]?).bind (·.dst) = some e) (hb : t e = .s (.bool b)) (k1 : b = want → ∃ v, qv E o.op (ev t) h v ∧ WD E ops rest Q ⟨upd t d v, h, n⟩) (k2 : b = (!want) → WD E ops rest Q ⟨upd t d .undef, h, n⟩) : WD E ops (o :: rest) Q ⟨t, h, n⟩ := by
  refine ⟨?_⟩
  unfold awpD gd
  simp only [hf, hg, hj, hb, if_true]
  exact ⟨fun e1 => by obtain ⟨v, h1, h2⟩ := k1 e1; exact ⟨v, h1, by simpa [putS, hd] using h2.out⟩, fun e => by have := (k2 (by cases b <;> cases want <;> simp_all)).out; simpa [putS, hd] using this⟩
theorem x_gdDU {j e : Nat} {want : Bool} (hf : quiet ops o = true) (hg : o.guard = some (j, want)) (hd : o.dst = some d) (hj : (ops[j]?).bind (·.dst) = some e) (hb : t e = .undef) (k2 : WD E ops rest Q ⟨upd t d .undef, h, n⟩) : WD E ops (o :: rest) Q ⟨t, h, n⟩ := by
  refine ⟨?_⟩
  unfold awpD gd
  simp only [hf, hg, hj, hb, if_true]
  have := k2.out; simpa [putS, hd] using this
theorem qv_pure {op : Op} (hp : isPure op = true) (hv : pval E.P E.plain h (ev t) op = some v) : qv E op (ev t) h v := by
  unfold qv
  split
  · rename_i cl
    obtain ⟨b, h1, h2, h3, h4⟩ := isPure_call hp
    unfold qcl
    rw [h1]
    cases b <;> first | exact (h2 rfl).elim | exact (h3 rfl).elim | exact (h4 rfl).elim | exact hv
  · exact hv
theorem x_effD (hf : quiet ops o = false) (k : WO E ops (o :: rest) Q σ) : WD E ops (o :: rest) Q σ := by
  refine ⟨?_⟩
  unfold awpD
  simp only [hf, Bool.false_eq_true, if_false]
  exact k.out
/-- A call by its contract. -/
theorem wa_call {cl : Call} {g : FuncId} {caps args ds : List V} {r : V} {F : Fspec} {f : Operand} {K : V → St → Prop} (hf : cl.callee = .value f) (hv : ev t f = .fn g caps) (hΓ : E.Γ g = some F) (ha : cl.args.toList.map (ev t) ++ caps = args) (he : expArgs h 0 args = some ds) (hF : F (phi E h args) ds r) (k : aret args r ⟨t, h, n⟩ K) :
    WA E (.call cl) ⟨t, h, n⟩ K := by
  refine ⟨?_⟩
  unfold aop acl
  simp only [hf, hv]
  right
  unfold acall
  simp only [hΓ, ha, he]
  exact ⟨r, hF, k⟩
theorem frzOf_none {args : List V} (ht : args.flatMap (touchA h) = []) : frzOf h args = h := by
  unfold frzOf
  rw [ht]
  funext b
  simp [frz]
theorem x_callN {cl : Call} {g : FuncId} {caps args ds : List V} {r : V} {F : Fspec} {f : Operand} (hg : o.guard = none) (ho : o.op = .call cl) (hd : o.dst = some d) (hf : cl.callee = .value f) (hv : ev t f = .fn g caps) (hΓ : E.Γ g = some F) (ha : cl.args.toList.map (ev t) ++ caps = args) (he : expArgs h 0 args = some ds) (hF : F (phi E h args) ds r) (hr : noSl r = true) (k : WO E ops rest Q ⟨upd t d r, h, n⟩) : WO E ops (o :: rest) Q ⟨t, h, n⟩ := by
  refine x_eff hg ?_
  rw [ho]
  refine wa_call hf hv hΓ ha he hF ?_
  have hk : WP E ops rest Q o.dst r ⟨t, h, n⟩ := by rw [hd]; exact x_putS k
  unfold aret
  cases r <;> first | (simp only [noSl, Bool.false_eq_true] at hr; done) | (simp only [hr, if_true]; exact hk) | exact hk
theorem x_callS {cl : Call} {g : FuncId} {caps args ds : List V} {r : V} {F : Fspec} {f : Operand} (hg : o.guard = none) (ho : o.op = .call cl) (hd : o.dst = some d) (hf : cl.callee = .value f) (hv : ev t f = .fn g caps) (hΓ : E.Γ g = some F) (ha : cl.args.toList.map (ev t) ++ caps = args) (he : expArgs h 0 args = some ds) (hF : F (phi E h args) ds r) (hr : ∀ z rows, r ≠ .own z rows) (ht : args.flatMap (touchA h) = []) (k : WO E ops rest Q ⟨upd t d r, h, n⟩) : WO E ops (o :: rest) Q ⟨t, h, n⟩ := by
  refine x_eff hg ?_
  rw [ho]
  refine wa_call hf hv hΓ ha he hF ?_
  have hk : WP E ops rest Q o.dst r ⟨t, h, n⟩ := by rw [hd]; exact x_putS k
  unfold aret
  split
  · exact (hr _ _ rfl).elim
  · simp only [frzOf_none ht, ite_self]; exact hk
theorem x_callO {cl : Call} {g : FuncId} {caps args ds : List V} {z : Nat} {rows : List (List V)} {F : Fspec} {f : Operand} (hg : o.guard = none) (ho : o.op = .call cl) (hd : o.dst = some d) (hf : cl.callee = .value f) (hv : ev t f = .fn g caps) (hΓ : E.Γ g = some F) (ha : cl.args.toList.map (ev t) ++ caps = args) (he : expArgs h 0 args = some ds) (hF : F (phi E h args) ds (.own z rows)) (ht : args.flatMap (touchA h) = [])
    (k : ∀ cap, rows.length ≤ cap → WO E ops rest Q ⟨upd t d (.loc n 0 rows.length cap), upd h n (some ⟨z, rows ++ spare z (cap - rows.length), true⟩), n + 1⟩) : WO E ops (o :: rest) Q ⟨t, h, n⟩ := by
  refine x_eff hg ?_
  rw [ho]
  refine wa_call hf hv hΓ ha he hF ?_
  unfold aret
  intro cap hc
  simp only [frzOf_none ht]
  rw [hd]
  exact x_putS (k cap hc)
/-- A call in place. -/
theorem x_callI {cl : Call} {g : FuncId} {caps args : List V} {T : Pt} {f : Operand} (hg : o.guard = none) (ho : o.op = .call cl) (hd : o.dst = some d) (hf : cl.callee = .value f) (hv : ev t f = .fn g caps) (hΔ : E.Δ g = some T) (ha : cl.args.toList.map (ev t) ++ caps = args) (k : T E.Φ args ⟨t, h, n⟩ fun v σ' => WP E ops rest Q (some d) v σ') : WO E ops (o :: rest) Q ⟨t, h, n⟩ := by
  refine x_eff hg ?_
  rw [ho, hd]
  refine ⟨?_⟩
  unfold aop acl
  simp only [hf, hv]
  left
  exact ⟨T, hΔ, by rw [ha]; exact k⟩
/-- A function value that was handed in. -/
theorem x_callV {cl : Call} {i : Nat} {args ds : List V} {S : List V → Value → Prop} {x : Value} {f : Operand} (hg : o.guard = none) (ho : o.op = .call cl) (hd : o.dst = some d) (hf : cl.callee = .value f) (hv : ev t f = .fv i) (hS : E.Φ i = some S) (ha : cl.args.toList.map (ev t) = args) (he : allO (expoA h) args = some ds) (hx : flat x = true) (hF : S ds x) (k : WO E ops rest Q ⟨upd t d (.s x), h, n⟩) : WO E ops (o :: rest) Q ⟨t, h, n⟩ := by
  refine x_eff hg ?_
  rw [ho, hd]
  refine ⟨?_⟩
  unfold aop acl
  simp only [hf, hv]
  unfold afv
  simp only [hS, ha, he]
  exact ⟨x, hx, hF, x_putS k⟩
/-- append to nothing, and to a row of one's own. -/
theorem x_append0 {cl : Call} {s x : Operand} {T U : TypeId} {e z b8 : Nat} {nr : List (List V)} (hg : o.guard = none) (ho : o.op = .call cl) (hd : o.dst = some d) (hf : cl.callee = .builtin .append) (ha : cl.args = #[s, x]) (hT : cl.argTypes = #[T, U]) (hq : seqo E.P T = .slice e z b8) (hz : 0 < z ∧ 0 < b8) (hzk : zok E.P e z = true) (hs : ev t s = .cap0) (hx : srcRows E.P h U (ev t x) = some nr) (hok : okRows z nr) (hb : nr.length * b8 ≤ 140737488355328)
    (k : ∀ cap, nr.length ≤ cap → WO E ops rest Q ⟨upd t d (.loc n 0 nr.length cap), upd h n (some ⟨z, nr ++ spare z (cap - nr.length), true⟩), n + 1⟩) : WO E ops (o :: rest) Q ⟨t, h, n⟩ := by
  refine x_eff hg ?_
  rw [ho, hd]
  refine ⟨?_⟩
  unfold aop acl
  simp only [hf, ha, hT]
  unfold aappend
  simp only [hq, hs]
  exact .inl ⟨hz.1, hz.2, hzk, nr, hx, hok, hb, fun cap hc => x_putS (k cap hc)⟩
theorem x_append {cl : Call} {s x : Operand} {T U : TypeId} {e z b8 b len cap : Nat} {B : Blk} {nr : List (List V)} (hg : o.guard = none) (ho : o.op = .call cl) (hd : o.dst = some d) (hf : cl.callee = .builtin .append) (ha : cl.args = #[s, x]) (hT : cl.argTypes = #[T, U]) (hq : seqo E.P T = .slice e z b8) (hz : 0 < z ∧ 0 < b8) (hzk : zok E.P e z = true) (hs : ev t s = .loc b 0 len cap) (hx : srcRows E.P h U (ev t x) = some nr) (hok : okRows z nr)
    (hB : h b = some B) (hw : B.wr = true) (hBz : B.size = z) (hl : len ≤ cap) (hc : cap ≤ B.rows.length) (hb : (len + nr.length) * b8 ≤ 140737488355328)
    (k : ∀ cap', len + nr.length ≤ cap' → WO E ops rest Q ⟨upd t d (.loc n 0 (len + nr.length) cap'), upd (upd h b none) n (some ⟨z, B.rows.take len ++ nr ++ spare z (cap' - (len + nr.length)), true⟩), n + 1⟩) : WO E ops (o :: rest) Q ⟨t, h, n⟩ := by
  refine x_eff hg ?_
  rw [ho, hd]
  refine ⟨?_⟩
  unfold aop acl
  simp only [hf, ha, hT]
  unfold aappend
  simp only [hq, hs]
  exact .inl ⟨hz.1, hz.2, hzk, nr, hx, hok, B, hB, hw, hBz, hl, hc, hb, .inl fun cap hc => x_putS (k cap hc)⟩
/-- append, where the row's own places are told apart from its room. -/
theorem x_appendO {cl : Call} {s x : Operand} {T U : TypeId} {e z b8 b len cap : Nat} {rows sp : List (List V)} {nr : List (List V)} (hg : o.guard = none) (ho : o.op = .call cl) (hd : o.dst = some d) (hf : cl.callee = .builtin .append) (ha : cl.args = #[s, x]) (hT : cl.argTypes = #[T, U]) (hq : seqo E.P T = .slice e z b8) (hz : 0 < z ∧ 0 < b8) (hzk : zok E.P e z = true) (hs : ev t s = .loc b 0 len cap)
    (hB : h b = some ⟨z, rows ++ sp, true⟩) (hl : rows.length = len) (hc : len ≤ cap) (hc2 : cap ≤ len + sp.length) (hx : srcRows E.P h U (ev t x) = some nr) (hok : okRows z nr) (hb : (len + nr.length) * b8 ≤ 140737488355328)
    (k : ∀ cap', len + nr.length ≤ cap' → WO E ops rest Q ⟨upd t d (.loc n 0 (len + nr.length) cap'), upd (upd h b none) n (some ⟨z, (rows ++ nr) ++ spare z (cap' - (len + nr.length)), true⟩), n + 1⟩) : WO E ops (o :: rest) Q ⟨t, h, n⟩ := by
  refine x_append hg ho hd hf ha hT hq hz hzk hs hx hok hB rfl rfl hc (by simp [hl]; exact hc2) hb fun cap' hcap => ?_
  have : (rows ++ sp).take len = rows := by rw [← hl]; simp
  rw [this]
  exact k cap' hcap
/-- append to a part of a row that has no room: the row itself stays. -/
theorem x_appendN {cl : Call} {s x : Operand} {T U : TypeId} {e z b8 b len cap : Nat} {B : Blk} {nr : List (List V)} (hg : o.guard = none) (ho : o.op = .call cl) (hd : o.dst = some d) (hf : cl.callee = .builtin .append) (ha : cl.args = #[s, x]) (hT : cl.argTypes = #[T, U]) (hq : seqo E.P T = .slice e z b8) (hz : 0 < z ∧ 0 < b8) (hzk : zok E.P e z = true) (hs : ev t s = .loc b 0 len cap)
    (hB : h b = some B) (hw : B.wr = true) (hBz : B.size = z) (hl : len ≤ cap) (hc : cap ≤ B.rows.length) (hx : srcRows E.P h U (ev t x) = some nr) (hok : okRows z nr) (hb : (len + nr.length) * b8 ≤ 140737488355328) (hlt : cap < len + nr.length)
    (k : ∀ cap', len + nr.length ≤ cap' → WO E ops rest Q ⟨upd t d (.loc n 0 (len + nr.length) cap'), upd h n (some ⟨z, B.rows.take len ++ nr ++ spare z (cap' - (len + nr.length)), true⟩), n + 1⟩) : WO E ops (o :: rest) Q ⟨t, h, n⟩ := by
  refine x_eff hg ?_
  rw [ho, hd]
  refine ⟨?_⟩
  unfold aop acl
  simp only [hf, ha, hT]
  unfold aappend
  simp only [hq, hs]
  exact .inl ⟨hz.1, hz.2, hzk, nr, hx, hok, B, hB, hw, hBz, hl, hc, hb, .inr ⟨hlt, fun cap hc => x_putS (k cap hc)⟩⟩
/-- append of a made row to a part of a row that has no room. -/
theorem x_appendZ {cl : Call} {s x : Operand} {T U : TypeId} {e z b8 b len cap m : Nat} {B : Blk} (hg : o.guard = none) (ho : o.op = .call cl) (hd : o.dst = some d) (hf : cl.callee = .builtin .append) (ha : cl.args = #[s, x]) (hT : cl.argTypes = #[T, U]) (hU : isIntT E.P U = true) (hq : seqo E.P T = .slice e z b8) (hz : 0 < z ∧ 0 < b8) (hzk : zok E.P e z = true) (hs : ev t s = .loc b 0 len cap)
    (hm : asN (ev t x) = some m) (hB : h b = some B) (hw : B.wr = true) (hBz : B.size = z) (hl : len ≤ cap) (hc : cap ≤ B.rows.length) (hb : (len + m) * b8 ≤ 140737488355328) (hlt : cap < len + m)
    (k : ∀ cap', len + m ≤ cap' → WO E ops rest Q ⟨upd t d (.loc n 0 (len + m) cap'), upd h n (some ⟨z, B.rows.take len ++ spare z m ++ spare z (cap' - (len + m)), true⟩), n + 1⟩) : WO E ops (o :: rest) Q ⟨t, h, n⟩ := by
  refine x_eff hg ?_
  rw [ho, hd]
  refine ⟨?_⟩
  unfold aop acl
  simp only [hf, ha, hT]
  right
  unfold aappendZ
  simp only [hq, hs, hm]
  exact ⟨hU, hz.1, hz.2, hzk, B, hB, hw, hBz, hl, hc, hb, hlt, fun cap hc => x_putS (k cap hc)⟩
theorem x_copy {cl : Call} {s x : Operand} {T U : TypeId} {e z b8 b off len cap : Nat} {B : Blk} {nr : List (List V)} (hg : o.guard = none) (ho : o.op = .call cl) (hd : o.dst = some d) (hf : cl.callee = .builtin .copy) (ha : cl.args = #[s, x]) (hT : cl.argTypes = #[T, U]) (hq : seqo E.P T = .slice e z b8) (hz : 0 < z) (hs : ev t s = .loc b off len cap) (hx : rowsOf h (ev t x) = some nr)
    (hok : okRows z (nr.take (min nr.length len))) (hB : h b = some B) (hw : B.wr = true) (hBz : B.size = z) (hl : off + len ≤ B.rows.length)
    (k : WO E ops rest Q ⟨upd t d (.s (.int .i64 ((min nr.length len : Nat) : Int))), upd h b (some { B with rows := B.rows.take off ++ nr.take (min nr.length len) ++ B.rows.drop (off + min nr.length len) }), n⟩) : WO E ops (o :: rest) Q ⟨t, h, n⟩ := by
  refine x_eff hg ?_
  rw [ho, hd]
  refine ⟨?_⟩
  unfold aop acl
  simp only [hf, ha, hT]
  unfold acopy
  simp only [hq, hs]
  exact ⟨hz, nr, hx, hok, B, hB, hw, hBz, hl, x_putS k⟩
theorem x_clear {cl : Call} {s : Operand} {T : TypeId} {e z b8 b off len cap : Nat} {B : Blk} {zv : Value} (hg : o.guard = none) (ho : o.op = .call cl) (hd : o.dst = some d) (hf : cl.callee = .builtin .clear) (ha : cl.args = #[s]) (hT : cl.argTypes = #[T]) (hq : seqo E.P T = .slice e z b8) (hz : 0 < z) (hs : ev t s = .loc b off len cap) (hzv : zro E.P e = some zv) (hzs : zv.cells.size = z) (hz1 : (zv.cells.toList.all fun u => u.oneCell') = true)
    (hB : h b = some B) (hw : B.wr = true) (hBz : B.size = z) (hl : off + len ≤ B.rows.length)
    (k : WO E ops rest Q ⟨upd t d (.tup []), upd h b (some { B with rows := B.rows.take off ++ spare z len ++ B.rows.drop (off + len) }), n⟩) : WO E ops (o :: rest) Q ⟨t, h, n⟩ := by
  refine x_eff hg ?_
  rw [ho, hd]
  refine ⟨?_⟩
  unfold aop acl
  simp only [hf, ha, hT]
  unfold aclear
  simp only [hq, hs]
  exact ⟨hz, zv, hzv, hzs, hz1, B, hB, hw, hBz, hl, x_putS k⟩
theorem x_clearN {cl : Call} {s : Operand} {T : TypeId} {e z b8 b off len cap : Nat} {B : Blk} {zv : Value} (hg : o.guard = none) (ho : o.op = .call cl) (hd : o.dst = none) (hf : cl.callee = .builtin .clear) (ha : cl.args = #[s]) (hT : cl.argTypes = #[T]) (hq : seqo E.P T = .slice e z b8) (hz : 0 < z) (hs : ev t s = .loc b off len cap) (hzv : zro E.P e = some zv) (hzs : zv.cells.size = z) (hz1 : (zv.cells.toList.all fun u => u.oneCell') = true)
    (hB : h b = some B) (hw : B.wr = true) (hBz : B.size = z) (hl : off + len ≤ B.rows.length)
    (k : WO E ops rest Q ⟨t, upd h b (some { B with rows := B.rows.take off ++ spare z len ++ B.rows.drop (off + len) }), n⟩) : WO E ops (o :: rest) Q ⟨t, h, n⟩ := by
  refine x_eff hg ?_
  rw [ho, hd]
  refine ⟨?_⟩
  unfold aop acl
  simp only [hf, ha, hT]
  unfold aclear
  simp only [hq, hs]
  exact ⟨hz, zv, hzv, hzs, hz1, B, hB, hw, hBz, hl, x_putN k⟩
theorem EnvOk.add {P : Program} {plain : TypeId → Bool} {Γ : FuncId → Option Fspec} {Δ : FuncId → Option Pt} {Φ : FvSpec} {nt : Nat} (hE : EnvOk ⟨P, plain, Γ, Δ, Φ, nt⟩) {f : FuncId} {F : Fspec} (hs : Sound P f F) (hf : fnOk P f = true) : EnvOk ⟨P, plain, upd Γ f (some F), Δ, Φ, nt⟩ := by
  refine ⟨hE.plain, fun g G hg => ?_, fun g G hg => ?_, hE.mixed, hE.soundT⟩ <;> by_cases e : g = f
  · subst e; simp only [upd_same, Option.some.injEq] at hg; subst hg; exact hs
  · simp only [upd_ne _ _ _ _ e] at hg; exact hE.sound g G hg
  · subst e; exact hf
  · simp only [upd_ne _ _ _ _ e] at hg; exact hE.fn g G hg
theorem EnvOk.addT {P : Program} {plain : TypeId → Bool} {Γ : FuncId → Option Fspec} {Δ : FuncId → Option Pt} {Φ : FvSpec} {nt : Nat} (hE : EnvOk ⟨P, plain, Γ, Δ, Φ, nt⟩) {f : FuncId} {T : Pt} (hs : SoundT P f T) : EnvOk ⟨P, plain, Γ, upd Δ f (some T), Φ, nt⟩ := by
  refine ⟨hE.plain, hE.sound, hE.fn, hE.mixed, fun g G hg => ?_⟩
  by_cases e : g = f
  · subst e; simp only [upd_same, Option.some.injEq] at hg; subst hg; exact hs
  · simp only [upd_ne _ _ _ _ e] at hg; exact hE.soundT g G hg
/-- Guards whose answer is known. -/
theorem x_gT {j e : Nat} {want : Bool} (hg : o.guard = some (j, want)) (hj : (ops[j]?).bind (·.dst) = some e) (hb : t e = .s (.bool want)) (k : WO E ops ({ o with guard := none } :: rest) Q ⟨t, h, n⟩) : WO E ops (o :: rest) Q ⟨t, h, n⟩ := by
  have := k.out
  refine ⟨?_⟩
  unfold awpOps gd at this ⊢
  simp only [hg, hj, hb] at this ⊢
  exact ⟨fun _ => this, fun e => (e rfl).elim⟩
theorem x_gF {j e : Nat} {want : Bool} (hg : o.guard = some (j, want)) (hj : (ops[j]?).bind (·.dst) = some e) (hd : o.dst = some d) (hb : t e = .s (.bool !want)) (k : WO E ops rest Q ⟨upd t d .undef, h, n⟩) : WO E ops (o :: rest) Q ⟨t, h, n⟩ := by
  refine x_gd hg hj hb (fun e => by cases want <;> cases e) (fun _ => ?_)
  rw [hd]; exact x_putS k
theorem x_gU {j e : Nat} {want : Bool} (hg : o.guard = some (j, want)) (hj : (ops[j]?).bind (·.dst) = some e) (hd : o.dst = some d) (hb : t e = .undef) (k : WO E ops rest Q ⟨upd t d .undef, h, n⟩) : WO E ops (o :: rest) Q ⟨t, h, n⟩ := by
  refine x_gdU hg hj hb ?_
  rw [hd]; exact x_putS k
theorem x_gTD {j e : Nat} {want : Bool} (hf : quiet ops o = true) (hg : o.guard = some (j, want)) (hj : (ops[j]?).bind (·.dst) = some e) (hb : t e = .s (.bool want)) (k : WD E ops ({ o with guard := none } :: rest) Q ⟨t, h, n⟩) : WD E ops (o :: rest) Q ⟨t, h, n⟩ := by
  have := k.out
  have hf' : quiet ops { o with guard := none } = true := hf
  refine ⟨?_⟩
  unfold awpD gd at this ⊢
  simp only [hf, hf', hg, hj, hb, if_true] at this ⊢
  exact ⟨fun _ => this, fun e => (e rfl).elim⟩
theorem x_gFD {j e : Nat} {want : Bool} (hf : quiet ops o = true) (hg : o.guard = some (j, want)) (hj : (ops[j]?).bind (·.dst) = some e) (hd : o.dst = some d) (hb : t e = .s (.bool !want)) (k : WD E ops rest Q ⟨upd t d .undef, h, n⟩) : WD E ops (o :: rest) Q ⟨t, h, n⟩ :=
  x_gdD hf hg hd hj hb (fun e => by cases want <;> cases e) (fun _ => k)
theorem x_gUD {j e : Nat} {want : Bool} (hf : quiet ops o = true) (hg : o.guard = some (j, want)) (hj : (ops[j]?).bind (·.dst) = some e) (hd : o.dst = some d) (hb : t e = .undef) (k : WD E ops rest Q ⟨upd t d .undef, h, n⟩) : WD E ops (o :: rest) Q ⟨t, h, n⟩ :=
  x_gdDU hf hg hd hj hb k
theorem x_gTt {j e : Nat} {b : Bool} (hg : o.guard = some (j, true)) (hj : (ops[j]?).bind (·.dst) = some e) (hb : t e = .s (.bool b)) (hb2 : b = true) (k : WO E ops ({ o with guard := none } :: rest) Q ⟨t, h, n⟩) : WO E ops (o :: rest) Q ⟨t, h, n⟩ := x_gT hg hj (by rw [hb, hb2]) k
theorem x_gFt {j e : Nat} {b : Bool} (hg : o.guard = some (j, true)) (hj : (ops[j]?).bind (·.dst) = some e) (hd : o.dst = some d) (hb : t e = .s (.bool b)) (hb2 : b = false) (k : WO E ops rest Q ⟨upd t d .undef, h, n⟩) : WO E ops (o :: rest) Q ⟨t, h, n⟩ := x_gF hg hj hd (by rw [hb, hb2]; rfl) k
theorem x_gTf {j e : Nat} {b : Bool} (hg : o.guard = some (j, false)) (hj : (ops[j]?).bind (·.dst) = some e) (hb : t e = .s (.bool b)) (hb2 : b = false) (k : WO E ops ({ o with guard := none } :: rest) Q ⟨t, h, n⟩) : WO E ops (o :: rest) Q ⟨t, h, n⟩ := x_gT hg hj (by rw [hb, hb2]) k
theorem x_gFf {j e : Nat} {b : Bool} (hg : o.guard = some (j, false)) (hj : (ops[j]?).bind (·.dst) = some e) (hd : o.dst = some d) (hb : t e = .s (.bool b)) (hb2 : b = true) (k : WO E ops rest Q ⟨upd t d .undef, h, n⟩) : WO E ops (o :: rest) Q ⟨t, h, n⟩ := x_gF hg hj hd (by rw [hb, hb2]; rfl) k
theorem x_gU' {j e : Nat} {want : Bool} {v : V} (hg : o.guard = some (j, want)) (hj : (ops[j]?).bind (·.dst) = some e) (hd : o.dst = some d) (hb : t e = v) (hb2 : v = .undef) (k : WO E ops rest Q ⟨upd t d .undef, h, n⟩) : WO E ops (o :: rest) Q ⟨t, h, n⟩ := x_gU hg hj hd (by rw [hb, hb2]) k
theorem x_gTDt {j e : Nat} {b : Bool} (hf : quiet ops o = true) (hg : o.guard = some (j, true)) (hj : (ops[j]?).bind (·.dst) = some e) (hb : t e = .s (.bool b)) (hb2 : b = true) (k : WD E ops ({ o with guard := none } :: rest) Q ⟨t, h, n⟩) : WD E ops (o :: rest) Q ⟨t, h, n⟩ := x_gTD hf hg hj (by rw [hb, hb2]) k
theorem x_gFDt {j e : Nat} {b : Bool} (hf : quiet ops o = true) (hg : o.guard = some (j, true)) (hj : (ops[j]?).bind (·.dst) = some e) (hd : o.dst = some d) (hb : t e = .s (.bool b)) (hb2 : b = false) (k : WD E ops rest Q ⟨upd t d .undef, h, n⟩) : WD E ops (o :: rest) Q ⟨t, h, n⟩ := x_gFD hf hg hj hd (by rw [hb, hb2]; rfl) k
theorem x_gTDf {j e : Nat} {b : Bool} (hf : quiet ops o = true) (hg : o.guard = some (j, false)) (hj : (ops[j]?).bind (·.dst) = some e) (hb : t e = .s (.bool b)) (hb2 : b = false) (k : WD E ops ({ o with guard := none } :: rest) Q ⟨t, h, n⟩) : WD E ops (o :: rest) Q ⟨t, h, n⟩ := x_gTD hf hg hj (by rw [hb, hb2]) k
theorem x_gFDf {j e : Nat} {b : Bool} (hf : quiet ops o = true) (hg : o.guard = some (j, false)) (hj : (ops[j]?).bind (·.dst) = some e) (hd : o.dst = some d) (hb : t e = .s (.bool b)) (hb2 : b = true) (k : WD E ops rest Q ⟨upd t d .undef, h, n⟩) : WD E ops (o :: rest) Q ⟨t, h, n⟩ := x_gFD hf hg hj hd (by rw [hb, hb2]; rfl) k
theorem x_gUD' {j e : Nat} {want : Bool} {v : V} (hf : quiet ops o = true) (hg : o.guard = some (j, want)) (hj : (ops[j]?).bind (·.dst) = some e) (hd : o.dst = some d) (hb : t e = v) (hb2 : v = .undef) (k : WD E ops rest Q ⟨upd t d .undef, h, n⟩) : WD E ops (o :: rest) Q ⟨t, h, n⟩ := x_gUD hf hg hj hd (by rw [hb, hb2]) k
theorem x_condT' {b : Operand} {c : Bool} (e : ev t b = .s (.bool c)) (ec : c = true) (k1 : W E x Q ⟨t, h, n⟩) : W E (.cond b x y) Q ⟨t, h, n⟩ := x_condT (by rw [e, ec]) k1
theorem x_condF' {b : Operand} {c : Bool} (e : ev t b = .s (.bool c)) (ec : c = false) (k1 : W E y Q ⟨t, h, n⟩) : W E (.cond b x y) Q ⟨t, h, n⟩ := x_condF (by rw [e, ec]) k1
theorem x_isGt {j : Nat} (hg : o.guard = some (j, true)) (k : WO E ops (o :: rest) Q ⟨t, h, n⟩) : WO E ops (o :: rest) Q ⟨t, h, n⟩ := k
theorem x_isGf {j : Nat} (hg : o.guard = some (j, false)) (k : WO E ops (o :: rest) Q ⟨t, h, n⟩) : WO E ops (o :: rest) Q ⟨t, h, n⟩ := k
theorem x_isGtD {j : Nat} (hg : o.guard = some (j, true)) (k : WD E ops (o :: rest) Q ⟨t, h, n⟩) : WD E ops (o :: rest) Q ⟨t, h, n⟩ := k
theorem x_isGfD {j : Nat} (hg : o.guard = some (j, false)) (k : WD E ops (o :: rest) Q ⟨t, h, n⟩) : WD E ops (o :: rest) Q ⟨t, h, n⟩ := k
theorem x_isBox {T : TypeId} {x : Operand} (hg : o.op = .box T x) (k : WO E ops (o :: rest) Q ⟨t, h, n⟩) : WO E ops (o :: rest) Q ⟨t, h, n⟩ := k
theorem x_isAlloc {T : TypeId} (hg : o.op = .alloc T) (k : WO E ops (o :: rest) Q ⟨t, h, n⟩) : WO E ops (o :: rest) Q ⟨t, h, n⟩ := k
theorem x_isStore {T : TypeId} {a x : Operand} (hg : o.op = .store T a x) (k : WO E ops (o :: rest) Q ⟨t, h, n⟩) : WO E ops (o :: rest) Q ⟨t, h, n⟩ := k
theorem x_isBs {T : TypeId} {l : Nat} {ps : Array (Nat × Operand)} (hg : o.op = .buildSlice T l ps) (k : WO E ops (o :: rest) Q ⟨t, h, n⟩) : WO E ops (o :: rest) Q ⟨t, h, n⟩ := k
theorem x_isConv {T U : TypeId} {x : Operand} (hg : o.op = .convert T U x) (k : WO E ops (o :: rest) Q ⟨t, h, n⟩) : WO E ops (o :: rest) Q ⟨t, h, n⟩ := k
theorem x_conv {T U : TypeId} {x : Operand} (ho : o.op = .convert T U x) (hg : o.guard = none) (hd : o.dst = some d) {b : Bool} (hB : toB E.P T U = b) (hb : b = false) (hv : pval E.P E.plain h (ev t) (.convert T U x) = some v) (k : WO E ops rest Q ⟨upd t d v, h, n⟩) : WO E ops (o :: rest) Q ⟨t, h, n⟩ := by
  subst hb
  refine x_eff hg ⟨?_⟩
  rw [ho, hd]
  unfold aop
  simp only [hB, Bool.false_eq_true, if_false]
  exact ⟨v, hv, x_putS k⟩
theorem x_isConvD {T U : TypeId} {x : Operand} (hg : o.op = .convert T U x) (k : WD E ops (o :: rest) Q ⟨t, h, n⟩) : WD E ops (o :: rest) Q ⟨t, h, n⟩ := k
theorem x_convD {T U : TypeId} {x : Operand} (ho : o.op = .convert T U x) (hg : o.guard = none) (hd : o.dst = some d) (hv : pval E.P E.plain h (ev t) (.convert T U x) = some v) (k : WD E ops rest Q ⟨upd t d v, h, n⟩) : WD E ops (o :: rest) Q ⟨t, h, n⟩ :=
  x_opD (by simp [quiet, ho, eff]) hg hd (by rw [ho]; exact hv) k
/-- A guard whose answer isn't known: both ways. -/
theorem x_gB {j e : Nat} {want b : Bool} (hg : o.guard = some (j, want)) (hj : (ops[j]?).bind (·.dst) = some e) (hb : t e = .s (.bool b)) (k1 : b = true → WO E ops (o :: rest) Q ⟨t, h, n⟩) (k2 : b = false → WO E ops (o :: rest) Q ⟨t, h, n⟩) : WO E ops (o :: rest) Q ⟨t, h, n⟩ := by
  cases b
  · exact k2 rfl
  · exact k1 rfl
theorem x_gBD {j e : Nat} {want b : Bool} (hg : o.guard = some (j, want)) (hj : (ops[j]?).bind (·.dst) = some e) (hb : t e = .s (.bool b)) (k1 : b = true → WD E ops (o :: rest) Q ⟨t, h, n⟩) (k2 : b = false → WD E ops (o :: rest) Q ⟨t, h, n⟩) : WD E ops (o :: rest) Q ⟨t, h, n⟩ := by
  cases b
  · exact k2 rfl
  · exact k1 rfl
theorem x_gP {j e : Nat} {want : Bool} {p : Prop} {_ : Decidable p} (hg : o.guard = some (j, want)) (hj : (ops[j]?).bind (·.dst) = some e) (hb : t e = .s (.bool (decide p))) (k1 : p → WO E ops (o :: rest) Q ⟨t, h, n⟩) (k2 : ¬ p → WO E ops (o :: rest) Q ⟨t, h, n⟩) : WO E ops (o :: rest) Q ⟨t, h, n⟩ :=
  x_gB hg hj hb (fun e => k1 (by simpa using e)) (fun e => k2 (by simpa using e))
theorem x_gPD {j e : Nat} {want : Bool} {p : Prop} {_ : Decidable p} (hg : o.guard = some (j, want)) (hj : (ops[j]?).bind (·.dst) = some e) (hb : t e = .s (.bool (decide p))) (k1 : p → WD E ops (o :: rest) Q ⟨t, h, n⟩) (k2 : ¬ p → WD E ops (o :: rest) Q ⟨t, h, n⟩) : WD E ops (o :: rest) Q ⟨t, h, n⟩ :=
  x_gBD hg hj hb (fun e => k1 (by simpa using e)) (fun e => k2 (by simpa using e))
/-- Branches on '==' and '!=' of numbers: what omega can use, beside the Bool. -/
theorem x_condI {b : Operand} {p q : Int} (e : ev t b = .s (.bool (p == q))) (k1 : (p == q) = true → p ≤ q ∧ q ≤ p → W E x Q ⟨t, h, n⟩) (k2 : (p == q) = false → p < q ∨ q < p → W E y Q ⟨t, h, n⟩) : W E (.cond b x y) Q ⟨t, h, n⟩ :=
  x_cond e (fun e => k1 e (by have : p = q := by simpa using e
                              omega)) (fun e => k2 e (by have : p ≠ q := by simpa using e
                                                         omega))
theorem x_condJ {b : Operand} {p q : Int} (e : ev t b = .s (.bool (p != q))) (k1 : (p == q) = false → p < q ∨ q < p → W E x Q ⟨t, h, n⟩) (k2 : (p == q) = true → p ≤ q ∧ q ≤ p → W E y Q ⟨t, h, n⟩) : W E (.cond b x y) Q ⟨t, h, n⟩ :=
  x_cond e (fun e => k1 (by simpa using e) (by have : p ≠ q := by simpa using e
                                               omega)) (fun e => k2 (by simpa using e) (by have : p = q := by simpa using e
                                                                                           omega))
theorem x_condN {b : Operand} {c : Bool} (e : ev t b = .s (.bool !c)) (k1 : c = false → W E x Q ⟨t, h, n⟩) (k2 : c = true → W E y Q ⟨t, h, n⟩) : W E (.cond b x y) Q ⟨t, h, n⟩ :=
  x_cond e (fun e => k1 (by simpa using e)) (fun e => k2 (by simpa using e))
theorem x_condNP {b : Operand} {p : Prop} {_ : Decidable p} (e : ev t b = .s (.bool !(decide p))) (k1 : ¬ p → W E x Q ⟨t, h, n⟩) (k2 : p → W E y Q ⟨t, h, n⟩) : W E (.cond b x y) Q ⟨t, h, n⟩ :=
  x_cond e (fun e => k1 (by simpa using e)) (fun e => k2 (by simpa using e))
theorem ko_gI {G : Prop} {p q : Int} {b : Bool} (e : b = (p == q)) (k1 : (p == q) = true → p ≤ q ∧ q ≤ p → G) (k2 : (p == q) = false → p < q ∨ q < p → G) : G := by
  cases h : (p == q)
  · exact k2 h (by have : p ≠ q := by simpa using h
                   omega)
  · exact k1 h (by have : p = q := by simpa using h
                   omega)
theorem x_gI {j e : Nat} {want : Bool} {p q : Int} (hg : o.guard = some (j, want)) (hj : (ops[j]?).bind (·.dst) = some e) (hb : t e = .s (.bool (p == q))) (k1 : (p == q) = true → p ≤ q ∧ q ≤ p → WO E ops (o :: rest) Q ⟨t, h, n⟩) (k2 : (p == q) = false → p < q ∨ q < p → WO E ops (o :: rest) Q ⟨t, h, n⟩) : WO E ops (o :: rest) Q ⟨t, h, n⟩ := ko_gI rfl k1 k2
theorem x_gJ {j e : Nat} {want : Bool} {p q : Int} (hg : o.guard = some (j, want)) (hj : (ops[j]?).bind (·.dst) = some e) (hb : t e = .s (.bool (p != q))) (k1 : (p == q) = true → p ≤ q ∧ q ≤ p → WO E ops (o :: rest) Q ⟨t, h, n⟩) (k2 : (p == q) = false → p < q ∨ q < p → WO E ops (o :: rest) Q ⟨t, h, n⟩) : WO E ops (o :: rest) Q ⟨t, h, n⟩ := ko_gI rfl k1 k2
theorem x_gN {j e : Nat} {want : Bool} {c : Bool} (hg : o.guard = some (j, want)) (hj : (ops[j]?).bind (·.dst) = some e) (hb : t e = .s (.bool !c)) (k1 : c = true → WO E ops (o :: rest) Q ⟨t, h, n⟩) (k2 : c = false → WO E ops (o :: rest) Q ⟨t, h, n⟩) : WO E ops (o :: rest) Q ⟨t, h, n⟩ := by
  cases c
  · exact k2 rfl
  · exact k1 rfl
theorem x_gNP {j e : Nat} {want : Bool} {p : Prop} {_ : Decidable p} (hg : o.guard = some (j, want)) (hj : (ops[j]?).bind (·.dst) = some e) (hb : t e = .s (.bool !(decide p))) (k1 : p → WO E ops (o :: rest) Q ⟨t, h, n⟩) (k2 : ¬ p → WO E ops (o :: rest) Q ⟨t, h, n⟩) : WO E ops (o :: rest) Q ⟨t, h, n⟩ := by
  by_cases hp : p
  · exact k1 hp
  · exact k2 hp
theorem x_gID {j e : Nat} {want : Bool} {p q : Int} (hg : o.guard = some (j, want)) (hj : (ops[j]?).bind (·.dst) = some e) (hb : t e = .s (.bool (p == q))) (k1 : (p == q) = true → p ≤ q ∧ q ≤ p → WD E ops (o :: rest) Q ⟨t, h, n⟩) (k2 : (p == q) = false → p < q ∨ q < p → WD E ops (o :: rest) Q ⟨t, h, n⟩) : WD E ops (o :: rest) Q ⟨t, h, n⟩ := ko_gI rfl k1 k2
theorem x_gJD {j e : Nat} {want : Bool} {p q : Int} (hg : o.guard = some (j, want)) (hj : (ops[j]?).bind (·.dst) = some e) (hb : t e = .s (.bool (p != q))) (k1 : (p == q) = true → p ≤ q ∧ q ≤ p → WD E ops (o :: rest) Q ⟨t, h, n⟩) (k2 : (p == q) = false → p < q ∨ q < p → WD E ops (o :: rest) Q ⟨t, h, n⟩) : WD E ops (o :: rest) Q ⟨t, h, n⟩ := ko_gI rfl k1 k2
theorem x_gND {j e : Nat} {want : Bool} {c : Bool} (hg : o.guard = some (j, want)) (hj : (ops[j]?).bind (·.dst) = some e) (hb : t e = .s (.bool !c)) (k1 : c = true → WD E ops (o :: rest) Q ⟨t, h, n⟩) (k2 : c = false → WD E ops (o :: rest) Q ⟨t, h, n⟩) : WD E ops (o :: rest) Q ⟨t, h, n⟩ := by
  cases c
  · exact k2 rfl
  · exact k1 rfl
theorem x_gNPD {j e : Nat} {want : Bool} {p : Prop} {_ : Decidable p} (hg : o.guard = some (j, want)) (hj : (ops[j]?).bind (·.dst) = some e) (hb : t e = .s (.bool !(decide p))) (k1 : p → WD E ops (o :: rest) Q ⟨t, h, n⟩) (k2 : ¬ p → WD E ops (o :: rest) Q ⟨t, h, n⟩) : WD E ops (o :: rest) Q ⟨t, h, n⟩ := by
  by_cases hp : p
  · exact k1 hp
  · exact k2 hp
/-- Memory. -/
theorem x_box {T : TypeId} {x : Operand} {cs : List V} (ho : o.op = .box T x) (hg : o.guard = none) (hd : o.dst = some d) (hx : cellsV (ev t x) = some cs) (k : WO E ops rest Q ⟨upd t d (.ptr n 0 0), upd h n (some ⟨cs.length, [cs], true⟩), n + 1⟩) : WO E ops (o :: rest) Q ⟨t, h, n⟩ := by
  refine x_eff hg ⟨?_⟩
  rw [ho, hd]
  unfold aop abox
  simp only [hx]
  exact x_putS k
theorem x_alloc {T : TypeId} {z : Value} {cs : List V} (ho : o.op = .alloc T) (hg : o.guard = none) (hd : o.dst = some d) (hx : zro E.P T = some z) (hc : cellsZ z = cs) (k : WO E ops rest Q ⟨upd t d (.ptr n 0 0), upd h n (some ⟨cs.length, [cs], true⟩), n + 1⟩) : WO E ops (o :: rest) Q ⟨t, h, n⟩ := by
  subst hc
  refine x_eff hg ⟨?_⟩
  rw [ho, hd]
  unfold aop aalloc
  simp only [hx]
  exact x_putS k
theorem x_store {T : TypeId} {a x : Operand} {b r c z : Nat} {cs : List V} {B : Blk} (ho : o.op = .store T a x) (hg : o.guard = none) (hd : o.dst = none) (ha : ev t a = .ptr b r c) (hx : cellsV (ev t x) = some cs) (hz : szo E.P T = some z) (hB : h b = some B) (hw : B.wr = true) (hl : cs.length = z) (hce : ∀ q ∈ cs, cellish q = true) (hr : r < B.rows.length) (hc : c + z ≤ B.size)
    {B' : Blk} (hB' : (⟨B.size, B.rows.set r (setAt (B.rows.getD r []) c cs), B.wr⟩ : Blk) = B') (k : WO E ops rest Q ⟨t, upd h b (some B'), n⟩) : WO E ops (o :: rest) Q ⟨t, h, n⟩ := by
  subst hB'
  refine x_eff hg ⟨?_⟩
  rw [ho, hd]
  unfold aop astore
  simp only [ha, hx, hz]
  exact ⟨B, hB, hw, hl, hce, hr, hc, x_putN k⟩
theorem x_bslice {T el z b8 : TypeId} {len : Nat} {parts : Array (Nat × Operand)} {zv : Value} {cs : List V} {rows : List (List V)} (ho : o.op = .buildSlice T len parts) (hg : o.guard = none) (hd : o.dst = some d) (hq : seqo E.P T = .slice el z b8) (hzv : zro E.P el = some zv)
    (hf : afill (fun i => some (i * z, z)) (repCells (cellsZ zv) len) (parts.toList.map fun q => (q.1, ev t q.2)) = some cs) (hs : len * z ≤ 16777216 ∧ 0 < z ∧ (cellsZ zv).length = z) (hr : chunks z len cs = rows) (k : WO E ops rest Q ⟨upd t d (.loc n 0 len len), upd h n (some ⟨z, rows, true⟩), n + 1⟩) : WO E ops (o :: rest) Q ⟨t, h, n⟩ := by
  subst hr
  refine x_eff hg ⟨?_⟩
  rw [ho, hd]
  unfold aop abuildSlice
  simp only [hq, hzv, hf]
  exact ⟨hs.1, hs.2.1, hs.2.2, x_putS k⟩
theorem x_mslice {T el z b8 : TypeId} {l c : Operand} {m m' : Nat} {zv : Value} (ho : o.op = .makeSlice T l c) (hg : o.guard = none) (hd : o.dst = some d) (hq : seqo E.P T = .slice el z b8) (hzv : zro E.P el = some zv) (hl : asN (ev t l) = some m) (hc : asN (ev t c) = some m') (hs : m ≤ m' ∧ m' * b8 ≤ 281474976710656 ∧ m' ≤ 281474976710656 ∧ (cellsZ zv).length = z)
    (k : WO E ops rest Q ⟨upd t d (.loc n 0 m m'), upd h n (some ⟨z, List.replicate m' (cellsZ zv), true⟩), n + 1⟩) : WO E ops (o :: rest) Q ⟨t, h, n⟩ := by
  refine x_eff hg ⟨?_⟩
  rw [ho, hd]
  unfold aop amakeSlice
  simp only [hq, hzv, hl, hc]
  exact ⟨hs.1, hs.2.1, hs.2.2.1, hs.2.2.2, x_putS k⟩
theorem x_nilEq {T p : TypeId} {x : Operand} {q r m : Nat} (ho : o.op = .binOp .eql T x (.const (.slice none q r)) p) (hg : o.guard = none) (hd : o.dst = some d) (hT : isSliceT E.P T = true) (hm : slLen (ev t x) = some m) (k : ∀ b : Bool, (0 < m → b = false) → WO E ops rest Q ⟨upd t d (.s (.bool b)), h, n⟩) : WO E ops (o :: rest) Q ⟨t, h, n⟩ := by
  refine x_eff hg ⟨?_⟩
  rw [ho, hd]
  unfold aop
  exact ⟨hT, m, hm, fun b hb => x_putS (k b hb)⟩
/-- A quiet call. -/
theorem x_callD {cl : Call} {g : FuncId} {caps args ds : List V} {r : V} {F : Fspec} {f : Operand} (hf : quiet ops o = true) (hg : o.guard = none) (ho : o.op = .call cl) (hd : o.dst = some d) (hcl : cl.callee = .value f) (hv : ev t f = .fn g caps) (hΓ : E.Γ g = some F) (ha : cl.args.toList.map (ev t) ++ caps = args) (he : expArgs h 0 args = some ds) (hF : F (phi E h args) ds r) (hr : noSl r = true) (k : WD E ops rest Q ⟨upd t d r, h, n⟩) : WD E ops (o :: rest) Q ⟨t, h, n⟩ := by
  refine x_opD hf hg hd ?_ k
  rw [ho]
  unfold qv qcl
  simp only [hcl, hv]
  unfold qcall
  simp only [hΓ, ha, he]
  exact ⟨r, hF, .inl ⟨hr, rfl⟩⟩
theorem x_callVD {cl : Call} {i : Nat} {args ds : List V} {S : List V → Value → Prop} {x : Value} {f : Operand} (hf : quiet ops o = true) (hg : o.guard = none) (ho : o.op = .call cl) (hd : o.dst = some d) (hcl : cl.callee = .value f) (hv : ev t f = .fv i) (hS : E.Φ i = some S) (ha : cl.args.toList.map (ev t) = args) (he : allO (expoA h) args = some ds) (hx : flat x = true) (hF : S ds x) (k : WD E ops rest Q ⟨upd t d (.s x), h, n⟩) : WD E ops (o :: rest) Q ⟨t, h, n⟩ := by
  refine x_opD hf hg hd ?_ k
  rw [ho]
  unfold qv qcl
  simp only [hcl, hv]
  unfold qfv
  simp only [hS, ha, he]
  exact ⟨x, hx, hF, rfl⟩
theorem x_done {rs : List ResultVar} {r : V} (k : Ret E rs r σ) : WQ (retQ E rs r) .ret σ := ⟨k⟩
theorem x_doneN {rs : List ResultVar} {r : V} (k : Ret E rs r σ) : WQ (retQ E rs r) .normal σ := ⟨k⟩
theorem x_inl {rs : List ResultVar} {v : V} {K : V → St → Prop} {σ : St} {t0 : Nat → V} (ho : outV E rs σ = some v) (k : K v ⟨t0, σ.h, σ.n⟩) : WQ (inlQ E rs t0 K) .ret σ := ⟨v, ho, k⟩
theorem x_inlN {rs : List ResultVar} {v : V} {K : V → St → Prop} {σ : St} {t0 : Nat → V} (ho : outV E rs σ = some v) (k : K v ⟨t0, σ.h, σ.n⟩) : WQ (inlQ E rs t0 K) .normal σ := ⟨v, ho, k⟩
/-- Plain data is handed out as it is. -/
theorem x_out {rs : List ResultVar} {r : V} {σ : St} (ho : outV E rs σ = some r) (hr : ∀ z rows, r ≠ .own z rows) (ht : ∀ vs, r ≠ .tup vs) (he : expoA σ.h r = some r) : Ret E rs r σ := ⟨r, ho, by
  unfold handed
  split
  · exact (hr _ _ rfl).elim
  · exact (ht _ rfl).elim
  · exact he⟩
theorem x_outV {rs : List ResultVar} {r v : V} {σ : St} (ho : outV E rs σ = some v) (hr : ∀ z rows, r ≠ .own z rows) (ht : ∀ vs, r ≠ .tup vs) (he : expoA σ.h v = some r) : Ret E rs r σ := ⟨v, ho, by
  unfold handed
  split
  · exact (hr _ _ rfl).elim
  · exact (ht _ rfl).elim
  · exact he⟩
theorem touch_deep (h : Hp) (d : Nat) {v : V} (hv : deepc v = true) : touch h d v = [] := by cases d <;> cases v <;> simp_all [deepc, touch]
/-- A row of one's own is handed out. -/
theorem x_outO {rs : List ResultVar} {σ : St} {b len cap z : Nat} {rows sp : List (List V)} (ho : outV E rs σ = some (.loc b 0 len cap)) (hh : σ.h b = some ⟨z, rows ++ sp, true⟩) (hl : rows.length = len) (hc : len ≤ cap ∧ cap ≤ len + sp.length) (hd : ∀ r ∈ rows, ∀ q ∈ r, deepc q = true) : Ret E rs (.own z rows) σ := by
  have ht : (rows ++ sp).take len = rows := by rw [← hl]; simp
  refine ⟨_, ho, .inr ⟨b, len, cap, _, rfl, hh, rfl, rfl, hc.1, by simp [hl]; omega, hl, ?_, ?_⟩⟩
  · simp only [ht]; exact allO_rows _ _ hd
  · simp only [ht]
    have : rows.flatMap (fun q => q.flatMap (touch σ.h 2)) = [] := by
      rw [List.flatMap_eq_nil_iff]
      intro r hr
      rw [List.flatMap_eq_nil_iff]
      intro q hq
      exact touch_deep _ _ (hd r hr q hq)
    rw [this]
    simp
/-- Nothing is handed out as a row of one's own. -/
theorem x_outO0 {rs : List ResultVar} {σ : St} {z : Nat} (ho : outV E rs σ = some .cap0) : Ret E rs (.own z []) σ := ⟨_, ho, .inl ⟨rfl, rfl⟩⟩
/-- A row of one's own is handed out as data. -/
theorem x_outL {rs : List ResultVar} {σ : St} {b len cap z : Nat} {rows sp : List (List V)} (ho : outV E rs σ = some (.loc b 0 len cap)) (hh : σ.h b = some ⟨z, rows ++ sp, true⟩) (hl : rows.length = len) (hd : ∀ r ∈ rows, ∀ q ∈ r, deepc q = true) : Ret E rs (.sl rows) σ := by
  refine x_outV ho (by simp) (by simp) ?_
  show expo σ.h 2 (.loc b 0 len cap) = _
  have hr : rowsOf σ.h (.loc b 0 len cap) = some rows := by
    have ht : (rows ++ sp).take len = rows := by rw [← hl]; simp
    simp [rowsOf, hh, ht]
    omega
  show (match rowsOf σ.h (.loc b 0 len cap) with
    | some rows => (allO (allO (expo σ.h 1)) rows).map V.sl
    | none => none) = _
  rw [hr]
  simp only
  rw [allO_rows _ _ hd]
  rfl
theorem x_outT {rs : List ResultVar} {r vs : List V} {σ : St} (ho : outV E rs σ = some (.tup vs)) (he : allO (expoA σ.h) vs = some r) : Ret E rs (.tup r) σ := ⟨.tup vs, ho, vs, rfl, he⟩
end
section
variable (h : Hp)
theorem expo_s (d : Nat) (v : Value) : expo h d (.s v) = some (.s v) := by cases d <;> rfl
theorem expo_sl (d : Nat) (r : List (List V)) : expo h d (.sl r) = some (.sl r) := by cases d <;> rfl
theorem expo_cap0 (d : Nat) : expo h d .cap0 = some (.sl []) := by cases d <;> rfl
theorem expo_loc (d b off len cap : Nat) : expo h (d + 1) (.loc b off len cap) = match rowsOf h (.loc b off len cap) with
    | some rows => (allO (allO (expo h d)) rows).map .sl
    | none => none := rfl
theorem expoA_agg (cs : List V) : expoA h (.agg cs) = (allO (expo h 2) cs).map .agg := rfl
theorem expoA_s (v : Value) : expoA h (.s v) = some (.s v) := rfl
theorem expoA_sl (r : List (List V)) : expoA h (.sl r) = some (.sl r) := rfl
theorem expoA_cap0 : expoA h .cap0 = some (.sl []) := rfl
theorem expoA_pc (r : List V) : expoA h (.pc r) = some (.pc r) := rfl
theorem expoA_loc (b off len cap : Nat) : expoA h (.loc b off len cap) = expo h 2 (.loc b off len cap) := rfl
theorem expoA_ptr (b r k : Nat) : expoA h (.ptr b r k) = match h b with
    | some B => if r < B.rows.length ∧ k < B.size then (allO (expo h 2) ((B.rows.getD r []).drop k)).map .pc else none
    | none => none := rfl
theorem expArg_agg (i : Nat) (cs : List V) : expArg h i (.agg cs) = expoA h (.agg cs) := rfl
theorem expArg_s (i : Nat) (v : Value) : expArg h i (.s v) = some (.s v) := rfl
theorem expArg_sl (i : Nat) (r : List (List V)) : expArg h i (.sl r) = some (.sl r) := rfl
theorem expArg_cap0 (i : Nat) : expArg h i .cap0 = some (.sl []) := rfl
theorem expArg_pc (i : Nat) (r : List V) : expArg h i (.pc r) = some (.pc r) := rfl
theorem expArg_loc (i b off len cap : Nat) : expArg h i (.loc b off len cap) = expoA h (.loc b off len cap) := rfl
theorem expArg_ptr (i b r k : Nat) : expArg h i (.ptr b r k) = expoA h (.ptr b r k) := rfl
theorem expArg_fn (i g : Nat) (cs : List V) : expArg h i (.fn g cs) = some (.fv i) := rfl
theorem expArg_fv (i g : Nat) : expArg h i (.fv g) = some (.fv i) := rfl
end
theorem upd_at {α : Type} (f : Nat → α) (k : Nat) (v : α) (j : Nat) : upd f k v j = if j = k then v else f j := rfl
theorem ev_tmp (t : Nat → V) (i : Nat) : ev t (.tmp i) = t i := rfl
theorem ev_func (t : Nat → V) (f : FuncId) : ev t (.func f) = .fn f [] := rfl
theorem ev_const (t : Nat → V) (v : Value) : ev t (.const v) = ofVal v := rfl
theorem ofVal_int (k : IntKind) (n : Int) : ofVal (.int k n) = .s (.int k n) := rfl
theorem ofVal_str (s : ByteArray) : ofVal (.string s) = .s (.string s) := rfl
theorem ofVal_bool (b : Bool) : ofVal (.bool b) = .s (.bool b) := rfl
theorem ofVal_nil (q r : Nat) (h : q = 0 ∧ r = 0) : ofVal (.slice none q r) = .cap0 := by obtain ⟨rfl, rfl⟩ := h; rfl
theorem wrap_id (x : Int) (h : -9223372036854775808 ≤ x ∧ x < 9223372036854775808) : IntKind.i64.wrap x = x := by
  unfold IntKind.wrap
  simp only [IntKind.bits, IntKind.signed]
  simp only [Nat.reduceSub, Int.reducePow, Bool.true_and]
  split <;> rename_i h1 <;> simp at h1 <;> omega
theorem asN_nat (k : IntKind) (i : Nat) : asN (.s (.int k (i : Int))) = some i := by simp [asN]
theorem asN_pos (k : IntKind) (x : Int) (h : 0 ≤ x) : asN (.s (.int k x)) = some x.toNat := by simp [asN, h]
theorem getD_map {α : Type} (f : α → List V) (l : List α) (i : Nat) (h : i < l.length) : (l.map f).getD i [] = f l[i] := by simp [List.getD_eq_getElem?_getD, h]
theorem rows_map {α : Type} (f : α → List V) (l : List α) (z : Nat) (h : ∀ a, (f a).length = z) : (∀ r ∈ l.map f, r.length = z) = True := by
  simp only [eq_iff_iff, iff_true]
  intro r hr
  obtain ⟨a, _, rfl⟩ := List.mem_map.1 hr
  exact h a
theorem wrapU_id (x : Int) (h : 0 ≤ x ∧ x < 18446744073709551616) : IntKind.u64.wrap x = x := by
  unfold IntKind.wrap
  simp only [IntKind.bits, IntKind.signed]
  simp
  omega
theorem wrapB_id (x : Int) (h : 0 ≤ x ∧ x < 256) : IntKind.u8.wrap x = x := by
  unfold IntKind.wrap
  simp only [IntKind.bits, IntKind.signed]
  simp
  omega
theorem ashift_shr1 (a : Int) (h : 0 ≤ a) : ashift .shr .u64 a 1 = some (.s (.int .u64 (a / 2))) := by
  unfold ashift
  simp only [show ¬ ((1 : Int) < 0) by omega, if_false]
  rw [show (2 : Int) ^ min (1 : Int).toNat IntKind.u64.bits = 2 by rfl, Int.fdiv_eq_ediv_of_nonneg _ (by omega)]
theorem half_cast (i j : Nat) : ((i : Int) + (j : Int)) / 2 = (((i + j) / 2 : Nat) : Int) := by omega
theorem rg0 : List.range 0 = [] := rfl
theorem rg1 : List.range 1 = [0] := rfl
theorem rg2 : List.range 2 = [0, 1] := rfl
theorem rg3 : List.range 3 = [0, 1, 2] := rfl
theorem rg4 : List.range 4 = [0, 1, 2, 3] := rfl
theorem rg5 : List.range 5 = [0, 1, 2, 3, 4] := rfl
theorem rg6 : List.range 6 = [0, 1, 2, 3, 4, 5] := rfl
theorem okRows_map {α : Type} (f : α → List V) (l : List α) (z : Nat) (h : ∀ a, (f a).length = z ∧ ∀ q ∈ f a, cellish q = true) : okRows z (l.map f) := by
  intro r hr
  obtain ⟨a, _, rfl⟩ := List.mem_map.1 hr
  exact h a
theorem deep_map {α : Type} (f : α → List V) (l : List α) (h : ∀ a, ∀ q ∈ f a, deepc q = true) : ∀ r ∈ l.map f, ∀ q ∈ r, deepc q = true := by
  intro r hr
  obtain ⟨a, _, rfl⟩ := List.mem_map.1 hr
  exact h a
theorem spare_len (z m : Nat) : (spare z m).length = m := spare_length z m
/-- A number, for a measure. -/
def ix : V → Nat
  | .s (.int _ n) => n.toNat
  | _ => 0
theorem ix_nat (k : IntKind) (i : Nat) : ix (.s (.int k (i : Int))) = i := by simp [ix]
theorem ix_succ (k : IntKind) (i : Nat) : ix (.s (.int k ((i : Int) + 1))) = i + 1 := by simp only [ix]; omega
theorem cast_succ (i : Nat) : ((i : Int) + 1) = ((i + 1 : Nat) : Int) := by omega
end Go.Proofs.Ytahgddfnbjpfiaa.Am

/- An abstract machine over values: steps, one lemma each, further. -/
set_option linter.unusedVariables false
set_option linter.unusedSimpArgs false
namespace Go.Proofs.Ytahgddfnbjpfiaa.Am
open Go Go.RowKit
section
variable {E : Env} {Q : Exit → St → Prop} {K : St → Prop} {σ : St} {t : Nat → V} {h : Hp} {n : Nat} {ops : Array Oper} {o : Oper} {rest : List Oper} {x y : Code} {v : V} {d : Nat}
theorem frzOf_at {args : List V} (b : Nat) (hb : (args.flatMap (touchA h)).contains b = false) : frzOf h args b = h b := by
  unfold frzOf frz
  simp only [hb, Bool.false_eq_true, if_false]
/-- A call that is handed rows of one's own as data: what it wasn't handed stays, what it was handed may still be read. -/
theorem x_callG {cl : Call} {g : FuncId} {caps args ds : List V} {r : V} {F : Fspec} {f : Operand} (hg : o.guard = none) (ho : o.op = .call cl) (hd : o.dst = some d) (hf : cl.callee = .value f) (hv : ev t f = .fn g caps) (hΓ : E.Γ g = some F) (ha : cl.args.toList.map (ev t) ++ caps = args) (he : expArgs h 0 args = some ds) (hF : F (phi E h args) ds r) (hr : ∀ z rows, r ≠ .own z rows)
    (k : ∀ h2 : Hp, (∀ b, (args.flatMap (touchA h)).contains b = false → h2 b = h b) → (∀ b B, h b = some B → ∃ q, h2 b = some ⟨B.size, B.rows, q⟩) → WO E ops rest Q ⟨upd t d r, h2, n⟩) : WO E ops (o :: rest) Q ⟨t, h, n⟩ := by
  have hfz : ∀ b B, h b = some B → ∃ q, frzOf h args b = some ⟨B.size, B.rows, q⟩ := by
    intro b B hB
    unfold frzOf frz
    split
    · exact ⟨false, by rw [hB]; rfl⟩
    · exact ⟨B.wr, hB⟩
  refine x_eff hg ?_
  rw [ho]
  refine wa_call hf hv hΓ ha he hF ?_
  rw [hd]
  unfold aret
  split
  · exact absurd rfl (hr _ _)
  · split
    · exact x_putS (k h (fun _ _ => rfl) fun b B hB => ⟨B.wr, hB⟩)
    · exact x_putS (k _ (fun b hb => frzOf_at b hb) hfz)
/-- A call that is handed rows of one's own as data: what it wasn't handed stays. -/
theorem x_callF {cl : Call} {g : FuncId} {caps args ds : List V} {r : V} {F : Fspec} {f : Operand} (hg : o.guard = none) (ho : o.op = .call cl) (hd : o.dst = some d) (hf : cl.callee = .value f) (hv : ev t f = .fn g caps) (hΓ : E.Γ g = some F) (ha : cl.args.toList.map (ev t) ++ caps = args) (he : expArgs h 0 args = some ds) (hF : F (phi E h args) ds r) (hr : ∀ z rows, r ≠ .own z rows)
    (k : ∀ h2 : Hp, (∀ b, (args.flatMap (touchA h)).contains b = false → h2 b = h b) → WO E ops rest Q ⟨upd t d r, h2, n⟩) : WO E ops (o :: rest) Q ⟨t, h, n⟩ := by
  refine x_eff hg ?_
  rw [ho]
  refine wa_call hf hv hΓ ha he hF ?_
  rw [hd]
  unfold aret
  split
  · exact (hr _ _ rfl).elim
  · simp only
    split
    · exact x_putS (k h fun _ _ => rfl)
    · exact x_putS (k (frzOf h args) fun b hb => frzOf_at b hb)
/-- .. and hands back a row of one's own. -/
theorem x_callFO {cl : Call} {g : FuncId} {caps args ds : List V} {z : Nat} {rows : List (List V)} {F : Fspec} {f : Operand} (hg : o.guard = none) (ho : o.op = .call cl) (hd : o.dst = some d) (hf : cl.callee = .value f) (hv : ev t f = .fn g caps) (hΓ : E.Γ g = some F) (ha : cl.args.toList.map (ev t) ++ caps = args) (he : expArgs h 0 args = some ds) (hF : F (phi E h args) ds (.own z rows))
    (k : ∀ (h2 : Hp) (cap : Nat), (∀ b, (args.flatMap (touchA h)).contains b = false → h2 b = h b) → rows.length ≤ cap → WO E ops rest Q ⟨upd t d (.loc n 0 rows.length cap), upd h2 n (some ⟨z, rows ++ spare z (cap - rows.length), true⟩), n + 1⟩) : WO E ops (o :: rest) Q ⟨t, h, n⟩ := by
  refine x_eff hg ?_
  rw [ho]
  refine wa_call hf hv hΓ ha he hF ?_
  rw [hd]
  unfold aret
  intro cap hc
  exact x_putS (k (frzOf h args) cap (fun b hb => frzOf_at b hb) hc)
/-- A quiet call that hands back data. -/
theorem x_callDS {cl : Call} {g : FuncId} {caps args ds : List V} {r : V} {F : Fspec} {f : Operand} (hf : quiet ops o = true) (hg : o.guard = none) (ho : o.op = .call cl) (hd : o.dst = some d) (hcl : cl.callee = .value f) (hv : ev t f = .fn g caps) (hΓ : E.Γ g = some F) (ha : cl.args.toList.map (ev t) ++ caps = args) (he : expArgs h 0 args = some ds) (hF : F (phi E h args) ds r) (hr : ∀ z rows, r ≠ .own z rows) (ht : args.flatMap (touchA h) = []) (k : WD E ops rest Q ⟨upd t d r, h, n⟩) : WD E ops (o :: rest) Q ⟨t, h, n⟩ := by
  refine x_opD hf hg hd ?_ k
  rw [ho]
  unfold qv qcl
  simp only [hcl, hv]
  unfold qcall
  simp only [hΓ, ha, he]
  refine ⟨r, hF, .inr ⟨ht, ?_⟩⟩
  split
  · exact absurd rfl (hr _ _)
  · rfl
/-- An open order with quiet operations among the others. -/
structure WX1 (E : Env) (ops : Array Oper) (l all : List Oper) (h0 : Hp) (Kb : Nat → Prop) (Q : Exit → St → Prop) (σ : St) : Prop where
  out : awpX1 E ops l (fun σ1 => awpX2 E ops h0 Kb 0 all (Q .normal) ⟨σ1.t, h0, σ.n⟩) σ
structure WX2 (E : Env) (ops : Array Oper) (h0 : Hp) (Kb : Nat → Prop) (i : Nat) (l : List Oper) (Q : Exit → St → Prop) (σ : St) : Prop where
  out : awpX2 E ops h0 Kb i l (Q .normal) σ
def QX1 (E : Env) (ops : Array Oper) (l all : List Oper) (h0 : Hp) (Kb : Nat → Prop) (n : Nat) (Q : Exit → St → Prop) : Exit → St → Prop := fun _ σ => awpX1 E ops l (fun σ1 => awpX2 E ops h0 Kb 0 all (Q .normal) ⟨σ1.t, h0, n⟩) σ
def QX2 (E : Env) (ops : Array Oper) (h0 : Hp) (Kb : Nat → Prop) (i : Nat) (l : List Oper) (Q : Exit → St → Prop) : Exit → St → Prop := fun _ σ => (allQ ops i = true ∨ ∀ b, Kb b → σ.h b = h0 b) ∧ awpX2 E ops h0 Kb (i + 1) l (Q .normal) σ
/-- The blocks that the quiet operations of a region read: a mark in the context. -/
structure Zm (L : List Nat) : Prop where
  mk' ::
/-- A heap with these blocks alone. -/
def kp (h : Hp) : List Nat → Hp
  | [] => fun _ => none
  | a :: l => fun b => if b = a then h a else kp h l b
theorem kp_same {h : Hp} {a : Nat} {l : List Nat} : kp h (a :: l) a = h a := by simp [kp]
theorem kp_ne {h : Hp} {a b : Nat} {l : List Nat} (hb : b ≠ a) : kp h (a :: l) b = kp h l b := by simp [kp, hb]
def inL : List Nat → Nat → Prop
  | [], _ => False
  | a :: l, b => b = a ∨ inL l b
theorem kp_some {h : Hp} : ∀ {l : List Nat} {b : Nat} {B : Blk}, kp h l b = some B → inL l b ∧ h b = some B
  | [], b, B, hb => by cases hb
  | a :: l, b, B, hb => by
    unfold kp at hb
    split at hb
    · rename_i e; subst e; exact ⟨.inl rfl, hb⟩
    · exact ⟨.inr (kp_some hb).1, (kp_some hb).2⟩
section
variable {all : List Oper} {h0 : Hp} {Kb : Nat → Prop}
theorem x_regX {i : Nat} {l : List Oper} (e : ops = List.toArray l) (ho : drawOk ops = false) (hx : drawX ops = true) (k : WX1 E ops l l h (fun b => b < n) Q ⟨t, h, n⟩) : W E (.region i ops true) Q ⟨t, h, n⟩ := ⟨by
  subst e
  simp only [awp, if_true, ho, Bool.false_eq_true, if_false]
  exact .inl ⟨hx, _, h, fun b B hb => ⟨Nat.lt_or_ge b n, hb⟩, k.out⟩⟩
/-- .. of which the quiet ones read only some blocks. -/
theorem x_regZ {i : Nat} {l : List Oper} {L : List Nat} (z : Zm L) (e : ops = List.toArray l) (ho : drawOk ops = false) (hx : drawX ops = true) (k : WX1 E ops l l h (inL L) Q ⟨t, kp h L, n⟩) : W E (.region i ops true) Q ⟨t, h, n⟩ := ⟨by
  subst e
  simp only [awp, if_true, ho, Bool.false_eq_true, if_false]
  exact .inl ⟨hx, _, _, fun b B hb => ⟨.inl (kp_some hb).1, (kp_some hb).2⟩, k.out⟩⟩
theorem x_x1nil (k : WX2 E ops h0 Kb 0 all Q ⟨t, h0, n⟩) : WX1 E ops [] all h0 Kb Q ⟨t, h, n⟩ := ⟨k.out⟩
theorem x_x1skip (hq : quietX ops o = false) (k : WX1 E ops rest all h0 Kb Q σ) : WX1 E ops (o :: rest) all h0 Kb Q σ := ⟨by
  simp only [awpX1, hq, Bool.false_eq_true, if_false]
  exact k.out⟩
theorem gd_imp {r s r' s' : Prop} (hr : r → r') (hs : s → s') (hg : gd ops o σ r s) : gd ops o σ r' s' := by
  unfold gd at hg ⊢
  split at hg
  · exact hr hg
  · split at hg
    · split at hg
      · exact ⟨fun e => hr (hg.1 e), fun e => hs (hg.2 e)⟩
      · exact hs hg
      · exact hg.elim
    · exact hg.elim
theorem x_x1q (hq : quietX ops o = true) (hf : fnFree o.op (ev t) = true) (k : WD E ops [o] (QX1 E ops rest all h0 Kb n Q) ⟨t, h, n⟩) : WX1 E ops (o :: rest) all h0 Kb Q ⟨t, h, n⟩ := ⟨by
  have hk := k.out
  simp only [awpD, quietX_quiet hq, if_true] at hk
  simp only [awpX1, hq, if_true]
  refine gd_imp ?_ ?_ hk
  · rintro ⟨v, h1, h2⟩
    exact ⟨v, ⟨h1, hf⟩, h2⟩
  · exact fun h2 => h2⟩
theorem x_kX1 (k : WX1 E ops rest all h0 Kb Q ⟨t, h, n⟩) : WQ (QX1 E ops rest all h0 Kb n Q) .normal ⟨t, h, n⟩ := ⟨k.out⟩
theorem x_x2nil {i : Nat} (k : WQ Q .normal σ) : WX2 E ops h0 Kb i [] Q σ := ⟨k.out⟩
theorem x_x2skip {i : Nat} (hq : quietX ops o = true) (k : WX2 E ops h0 Kb (i + 1) rest Q σ) : WX2 E ops h0 Kb i (o :: rest) Q σ := ⟨by
  simp only [awpX2, hq, if_true]
  exact k.out⟩
theorem put_h {dst : Option Tmp} {v : V} {σ : St} : (putS dst v σ).h = σ.h := by cases dst <;> rfl
theorem x_x2e {i : Nat} (hq : quietX ops o = false) (k : WO E ops [o] (QX2 E ops h0 Kb i rest Q) σ) : WX2 E ops h0 Kb i (o :: rest) Q σ := ⟨by
  have hk := k.out
  simp only [awpOps, QX2, put_h] at hk
  simp only [awpX2, hq, Bool.false_eq_true, if_false]
  exact gd_imp (fun h => h) (fun h => h.2) hk⟩
theorem x_kX2 {i : Nat} (hk : allQ ops i = true ∨ ∀ b, Kb b → h b = h0 b) (k : WX2 E ops h0 Kb (i + 1) rest Q ⟨t, h, n⟩) : WQ (QX2 E ops h0 Kb i rest Q) .normal ⟨t, h, n⟩ := ⟨⟨hk, k.out⟩⟩
theorem x_isX1 {l : List Oper} (k : WX1 E ops l all h0 Kb Q ⟨t, h, n⟩) : WX1 E ops l all h0 Kb Q ⟨t, h, n⟩ := k
theorem x_isX2 {i : Nat} {l : List Oper} (k : WX2 E ops h0 Kb i l Q σ) : WX2 E ops h0 Kb i l Q σ := k
end
/-- An open order whose new slices are data. -/
structure WY (E : Env) (ops : Array Oper) (l : List Oper) (Q : Exit → St → Prop) (σ : St) : Prop where
  out : awpY E ops l (Q .normal) σ
def QY (E : Env) (ops : Array Oper) (l : List Oper) (Q : Exit → St → Prop) : Exit → St → Prop := fun _ σ => awpY E ops l (Q .normal) σ
def isBs : Op → Bool
  | .buildSlice .. => true
  | _ => false
theorem x_regY {i : Nat} {l : List Oper} (e : ops = List.toArray l) (ho : drawOk ops = false) (hx : drawY ops = true) (k : WY E ops l Q ⟨t, h, n⟩) : W E (.region i ops true) Q ⟨t, h, n⟩ := ⟨by
  subst e
  simp only [awp, if_true, ho, Bool.false_eq_true, if_false]
  exact .inr ⟨hx, k.out⟩⟩
theorem x_isY {l : List Oper} (k : WY E ops l Q ⟨t, h, n⟩) : WY E ops l Q ⟨t, h, n⟩ := k
theorem x_ynil (k : WQ Q .normal σ) : WY E ops [] Q σ := ⟨k.out⟩
theorem x_kY (k : WY E ops rest Q ⟨t, h, n⟩) : WQ (QY E ops rest Q) .normal ⟨t, h, n⟩ := ⟨k.out⟩
theorem qvY_of {op : Op} {e : Operand → V} {v : V} (hb : isBs op = false) (hq : qv E op e h v) : qvY E op e h v := by
  cases op <;> first | exact hq | cases hb
theorem x_yq (hq : quiet ops o = true) (hb : isBs o.op = false) (k : WD E ops [o] (QY E ops rest Q) ⟨t, h, n⟩) : WY E ops (o :: rest) Q ⟨t, h, n⟩ := ⟨by
  have hk := k.out
  simp only [awpD, hq, if_true] at hk
  simp only [awpY]
  refine gd_imp ?_ ?_ hk
  · rintro ⟨v, h1, h2⟩
    exact ⟨v, qvY_of hb h1, h2⟩
  · exact fun h2 => h2⟩
theorem x_gTY {j e : Nat} {want : Bool} (hf : isBs o.op = true) (hg : o.guard = some (j, want)) (hj : (ops[j]?).bind (·.dst) = some e) (hb : t e = .s (.bool want)) (k : WY E ops ({ o with guard := none } :: rest) Q ⟨t, h, n⟩) : WY E ops (o :: rest) Q ⟨t, h, n⟩ := ⟨by
  have hk := k.out
  simp only [awpY, gd] at hk ⊢
  simp only [hg, hj, hb]
  exact ⟨fun _ => hk, fun hh => absurd rfl hh⟩⟩
theorem x_gFY {j e : Nat} {want : Bool} (hf : isBs o.op = true) (hg : o.guard = some (j, want)) (hj : (ops[j]?).bind (·.dst) = some e) (hd : o.dst = some d) (hb : t e = .s (.bool !want)) (k : WY E ops rest Q ⟨upd t d .undef, h, n⟩) : WY E ops (o :: rest) Q ⟨t, h, n⟩ := ⟨by
  have hk := k.out
  simp only [awpY, gd, hg, hj, hb, hd, putS]
  exact ⟨fun hh => (by cases want <;> cases hh), fun _ => hk⟩⟩
theorem x_gUY' {j e : Nat} {want : Bool} {v : V} (hf : isBs o.op = true) (hg : o.guard = some (j, want)) (hj : (ops[j]?).bind (·.dst) = some e) (hd : o.dst = some d) (hb : t e = v) (hb2 : v = .undef) (k : WY E ops rest Q ⟨upd t d .undef, h, n⟩) : WY E ops (o :: rest) Q ⟨t, h, n⟩ := ⟨by
  have hk := k.out
  subst hb2
  simp only [awpY, gd, hg, hj, hb, hd, putS]
  exact hk⟩
theorem x_gTYt {j e : Nat} {b : Bool} (hf : isBs o.op = true) (hg : o.guard = some (j, true)) (hj : (ops[j]?).bind (·.dst) = some e) (hb : t e = .s (.bool b)) (hb2 : b = true) (k : WY E ops ({ o with guard := none } :: rest) Q ⟨t, h, n⟩) : WY E ops (o :: rest) Q ⟨t, h, n⟩ := x_gTY hf hg hj (by rw [hb, hb2]) k
theorem x_gFYt {j e : Nat} {b : Bool} (hf : isBs o.op = true) (hg : o.guard = some (j, true)) (hj : (ops[j]?).bind (·.dst) = some e) (hd : o.dst = some d) (hb : t e = .s (.bool b)) (hb2 : b = false) (k : WY E ops rest Q ⟨upd t d .undef, h, n⟩) : WY E ops (o :: rest) Q ⟨t, h, n⟩ := x_gFY hf hg hj hd (by rw [hb, hb2]; rfl) k
theorem x_gTYf {j e : Nat} {b : Bool} (hf : isBs o.op = true) (hg : o.guard = some (j, false)) (hj : (ops[j]?).bind (·.dst) = some e) (hb : t e = .s (.bool b)) (hb2 : b = false) (k : WY E ops ({ o with guard := none } :: rest) Q ⟨t, h, n⟩) : WY E ops (o :: rest) Q ⟨t, h, n⟩ := x_gTY hf hg hj (by rw [hb, hb2]) k
theorem x_gFYf {j e : Nat} {b : Bool} (hf : isBs o.op = true) (hg : o.guard = some (j, false)) (hj : (ops[j]?).bind (·.dst) = some e) (hd : o.dst = some d) (hb : t e = .s (.bool b)) (hb2 : b = true) (k : WY E ops rest Q ⟨upd t d .undef, h, n⟩) : WY E ops (o :: rest) Q ⟨t, h, n⟩ := x_gFY hf hg hj hd (by rw [hb, hb2]; rfl) k
theorem x_isGtY {j : Nat} (hg : o.guard = some (j, true)) (k : WY E ops (o :: rest) Q ⟨t, h, n⟩) : WY E ops (o :: rest) Q ⟨t, h, n⟩ := k
theorem x_isGfY {j : Nat} (hg : o.guard = some (j, false)) (k : WY E ops (o :: rest) Q ⟨t, h, n⟩) : WY E ops (o :: rest) Q ⟨t, h, n⟩ := k
theorem x_bsliceY {T el z b8 : TypeId} {len : Nat} {parts : Array (Nat × Operand)} {zv : Value} {cs : List V} {rows : List (List V)} (ho : o.op = .buildSlice T len parts) (hg : o.guard = none) (hd : o.dst = some d) (hq : seqo E.P T = .slice el z b8) (hzv : zro E.P el = some zv)
    (hf : afill (fun i => some (i * z, z)) (repCells (cellsZ zv) len) (parts.toList.map fun q => (q.1, ev t q.2)) = some cs) (hs : len * z ≤ 16777216 ∧ 0 < z ∧ (cellsZ zv).length = z) (hr : chunks z len cs = rows) (hfl : (parts.toList.all fun q => isFlat (ev t q.2)) = true ∧ cs.all isFlat = true) (k : WY E ops rest Q ⟨upd t d (.sl rows), h, n⟩) : WY E ops (o :: rest) Q ⟨t, h, n⟩ := ⟨by
  subst hr
  simp only [awpY, gd, hg, ho, hd, putS]
  refine ⟨_, ?_, k.out⟩
  simp only [qvY, qbs, hq, hzv, hf]
  refine ⟨hs, hfl.1, hfl.2, ?_⟩ <;> first | rfl | trivial⟩
end
section
variable {E : Env} {Q : Exit → St → Prop} {t : Nat → V} {n : Nat} {x : Code}
/-- A loop at whose start a row of one's own is taken as data. -/
theorem x_loopF {h' : Hp} (k : Nat) (v : V) (I : St → Prop) (m : St → Nat) (hv : expoA h' (t k) = some v) (h0 : ∀ h2 : Hp, (∀ b, (touchA h' (t k)).contains b = false → h2 b = h' b) → I ⟨upd t k v, h2, n⟩) (hs : ∀ t h n, I ⟨t, h, n⟩ → W E x (thenQ (fun σ' => I σ' ∧ m σ' < m ⟨t, h, n⟩) Q) ⟨t, h, n⟩) : W E (.loop x) Q ⟨t, h', n⟩ :=
  ⟨⟨I, m, _, .data k v hv (.refl _), h0 _ (fun b hb => by unfold frz; simp only [hb, Bool.false_eq_true, if_false]), fun σ hσ => (hs σ.t σ.h σ.n hσ).out⟩⟩
end
/-- What is handed over may be taken as data. -/
theorem own_sl {c : Cx} {w' : World} {z : Nat} {rows : List (List V)} {x : Value} (hR : OwnRes c w' z rows x) (fv : Nat → Value) : Rp fv w' (AllB c w') noMu (.sl rows) x := by
  rcases hR with ⟨rfl, A, rfl⟩ | ⟨k, base, cap, rfl, hcap, hk, hkl, hlen, hcell⟩
  · exact Rp.nil A 0
  · have hex : ∀ i, ∃ f : Nat → Value, ∀ j, i < rows.length → j < z → w'.cell? ⟨k, base + (i * z + j), none⟩ = some (f j) ∧ Dp w' (AllB c w') (cellAt rows i j) (f j) := by
      intro i
      have : ∀ j, ∃ y, i < rows.length → j < z → w'.cell? ⟨k, base + (i * z + j), none⟩ = some y ∧ Dp w' (AllB c w') (cellAt rows i j) y := by
        intro j
        by_cases hij : i < rows.length ∧ j < z
        · obtain ⟨y, h1, _, h3⟩ := hcell i j (by omega) hij.2
          exact ⟨y, fun _ _ => ⟨h1, (h3 hij.1).mono fun q hq => ⟨hq.1, rfl⟩⟩⟩
        · exact ⟨Go.undef, fun h1 h2 => absurd ⟨h1, h2⟩ hij⟩
      exact Classical.axiomOfChoice this
    obtain ⟨g', hg⟩ := Classical.axiomOfChoice hex
    exact .sl rows _ cap z _ g' rfl hcap hlen (fun _ => ⟨_, rfl, ⟨.inr hk, hkl⟩, fun i j hi hj => by rw [add_plain]; exact (hg i j hi hj).1⟩) (fun i j hi hj => (hg i j hi hj).2)
def weakS (F : Fspec) : Fspec := fun Φ ds r => F Φ ds r ∨ ∃ z rows, F Φ ds (.own z rows) ∧ r = .sl rows
theorem Sound.data {P : Program} {f : FuncId} {F : Fspec} (hS : Sound P f F) : Sound P f (weakS F) := by
  intro c Φ ds r vals hc hok0 hX hΦ hF hargs
  rcases hF with hF | ⟨z, rows, hF, rfl⟩
  · exact hS c Φ ds r vals hc hok0 hX hΦ hF hargs
  · refine (hS c Φ ds (.own z rows) vals hc hok0 hX hΦ hF hargs).mono ?_
    rintro e w' ⟨x, rfl, hb, hR⟩
    exact ⟨x, rfl, hb, own_sl hR⟩
end Go.Proofs.Ytahgddfnbjpfiaa.Am
