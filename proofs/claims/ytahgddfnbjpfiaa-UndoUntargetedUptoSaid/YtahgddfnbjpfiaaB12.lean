/- Texts that the law's proof stands on: AmFun, Ty. -/
import Derived.Test.YtahgddfnbjpfiaaB11
import Derived.Test.YtahgddfnbjpfiaaProg
/- An abstract machine over values: code, loops, functions. -/
set_option linter.unusedVariables false
set_option linter.unusedSimpArgs false
namespace Go.Proofs.Ytahgddfnbjpfiaa.Am
open Go Go.RowKit

def codeOk (nt : Nat) : Code → Bool
  | .region _ ops draw => ops.toList.all (dstOk nt)
  | .seq x y => codeOk nt x && codeOk nt y
  | .cond _ x y => codeOk nt x && codeOk nt y
  | .block _ x => codeOk nt x
  | .loop x => codeOk nt x
  | .skip | .exit _ | .ret => true
  | _ => false
def thenQ (K : St → Prop) (Q : Exit → St → Prop) : Exit → St → Prop
  | .normal, σ => K σ
  | e, σ => Q e σ
def blockQ (id : Nat) (Q : Exit → St → Prop) : Exit → St → Prop
  | .exit id', σ => if id' = id then Q .normal σ else Q (.exit id') σ
  | e, σ => Q e σ
/-- Without a step: an empty slice is taken as an empty row of one's own. -/
inductive Gh : St → St → Prop
  | refl (σ : St) : Gh σ σ
  | step {σ σ2 : St} (k z : Nat) (h : σ.t k = .cap0) (g : Gh ⟨upd σ.t k (.loc σ.n 0 0 0), upd σ.h σ.n (some ⟨z, [], true⟩), σ.n + 1⟩ σ2) : Gh σ σ2
  | data {σ σ2 : St} (k : Nat) (v : V) (h : expoA σ.h (σ.t k) = some v) (g : Gh ⟨upd σ.t k v, frz σ.h (fun b => (touchA σ.h (σ.t k)).contains b), σ.n⟩ σ2) : Gh σ σ2
def awp (E : Env) : Code → (Exit → St → Prop) → St → Prop
  | .skip, Q, σ => Q .normal σ
  | .region _ ops draw, Q, σ => if draw then (if drawOk ops then awpD E ops ops.toList (Q .normal) σ else (drawX ops = true ∧ awpX E ops (Q .normal) σ) ∨ (drawY ops = true ∧ awpY E ops ops.toList (Q .normal) σ) ∨ (drawW ops = true ∧ awpW E ops (Q .normal) σ)) else awpOps E ops ops.toList (Q .normal) σ
  | .seq x y, Q, σ => ∃ I : St → Prop, awp E x (thenQ I Q) σ ∧ ∀ σ, I σ → ∃ σ1, Gh σ σ1 ∧ awp E y Q σ1
  | .cond b x y, Q, σ => match ev σ.t b with
    | .s (.bool t) => (t = true → awp E x Q σ) ∧ (t = false → awp E y Q σ)
    | _ => False
  | .block id x, Q, σ => awp E x (blockQ id Q) σ
  | .loop x, Q, σ => ∃ (I : St → Prop) (m : St → Nat) (σ1 : St), Gh σ σ1 ∧ I σ1 ∧ ∀ σ, I σ → awp E x (thenQ (fun σ' => I σ' ∧ m σ' < m σ) Q) σ
  | .exit id, Q, σ => Q (.exit id) σ
  | .ret, Q, σ => Q .ret σ
  | _, _, _ => False

section
variable {ps : Hp × Mu × World} {E : Env} {c : Cx}
theorem drop_takeWhile {α : Type} (p : α → Bool) : ∀ l : List α, l.drop (l.takeWhile p).length = l.dropWhile p
  | [] => rfl
  | a :: l => by
    simp only [List.takeWhile_cons, List.dropWhile_cons]
    split
    · simpa using drop_takeWhile p l
    · rfl
theorem dropWhile_head {α : Type} (p : α → Bool) : ∀ (l : List α) {a : α} {r : List α}, l.dropWhile p = a :: r → p a = false
  | [], a, r, h => by cases h
  | b :: l, a, r, h => by
    rw [List.dropWhile_cons] at h
    split at h
    · exact dropWhile_head p l h
    · rename_i hb; cases h; simpa using hb
theorem draw_sound (hE : EnvOk E) (hc : c.P = E.P) (hΦ : FvOk c E.Φ) {ops : Array Oper} (hok : drawOk ops = true) (hd : ∀ o ∈ ops.toList, dstOk E.nt o = true) {Q : Exit → Act → World → Prop} {K : St → Prop} (hQ : ∀ σ μ a w, K σ → Sim ps E c σ μ a w → Q .normal a w)
    {σ : St} {μ : Mu} {a : Act} {w : World} (hk : awpD E ops ops.toList K σ) (S : Sim ps E c σ μ a w) : wpAny c.P .any ops Q ops.size (Array.replicate ops.size false) a w := by
  have hsplit : ops.toList = ops.toList.takeWhile (fun o => quiet ops o) ++ ops.toList.dropWhile (fun o => quiet ops o) := (List.takeWhile_append_dropWhile).symm
  have hq : ∀ o ∈ ops.toList.takeWhile (fun o => quiet ops o), quiet ops o = true := fun o ho => by
    have := List.all_takeWhile (p := fun o : Oper => quiet ops o) (l := ops.toList)
    rw [List.all_eq_true] at this
    simpa using this o ho
  have hN : quietN ops ≤ ops.size := by
    have := (List.takeWhile_prefix (l := ops.toList) (fun o : Oper => quiet ops o)).length_le
    simpa [quietN] using this
  have hk' := hk
  rw [hsplit] at hk'
  obtain ⟨vs, ts, h1, h2, h3⟩ := head_vals ops (ops.toList.dropWhile (fun o => quiet ops o)) (ops.toList.takeWhile (fun o => quiet ops o)) σ.t hq hk'
  have htl : awpOps E ops (ops.toList.drop (quietN ops)) K ⟨ts (quietN ops), σ.h, σ.n⟩ := by
    unfold quietN
    rw [drop_takeWhile]
    cases hdw : ops.toList.dropWhile (fun o => quiet ops o) with
    | nil => rw [hdw] at h3; exact h3
    | cons o rest =>
      rw [hdw] at h3
      have heff : quiet ops o = false := by
        simpa using dropWhile_head _ _ hdw
      simpa only [awpD, heff, Bool.false_eq_true, if_false] using h3
  have hcount : ((List.range (quietN ops)).countP fun i => !(Array.replicate ops.size false).getD i true) = quietN ops := by
    rw [List.countP_eq_length.2]
    · simp
    · intro i hi
      have : i < ops.size := by have := List.mem_range.1 hi; omega
      simp [this]
  have := head_sound hE hc hΦ hok hd hQ (t0 := σ.t) (h := σ.h) (n := σ.n) (μ := μ) (vs := vs) (ts := ts) hN h1 (fun i o hi ho => h2 i o (by
      have h4 : (ops.toList.takeWhile (fun o => quiet ops o))[i]? = ops.toList[i]? := by
        have h5 : ops.toList[i]? = (ops.toList.takeWhile (fun o => quiet ops o) ++ ops.toList.dropWhile (fun o => quiet ops o))[i]? := congrArg (fun l => l[i]?) hsplit
        rw [h5, List.getElem?_append_left (by simpa [quietN] using hi)]
      rw [h4]; simpa using ho)) htl (quietN ops) (Array.replicate ops.size false) (a := a) (w := w) hcount (by simp) (fun j _ hj => by simp [hj]) (fun j o hj => by
      by_cases h : j < ops.size <;> simp [h] at hj)
    ⟨σ.t, ⟨fun i o d hi hl => (by have : i < ops.size := by omega
                                  simp [this] at hl), fun d _ => rfl⟩, S⟩
  rwa [show ops.size - quietN ops + quietN ops = ops.size by omega] at this

theorem gh_sim {σ σ1 : St} (g : Gh σ σ1) : ∀ {μ : Mu} {a : Act} {w : World}, Sim ps E c σ μ a w → ∃ μ1, Sim ps E c σ1 μ1 a w := by
  induction g with
  | refl σ => exact fun S => ⟨_, S⟩
  | step k z h g ih =>
    intro μ a w S
    rename_i σ σ2
    have H := S.hs.virt z
    refine ih (μ := upd μ σ.n (some .virt)) ⟨H.1, fun i => ?_, S.nt, S.df, S.ex.trans H.2⟩
    by_cases hi : i = k
    · subst hi
      show R c _ _ w (upd σ.t i (V.loc σ.n 0 0 0) i) _
      rw [upd_same]
      have h1 := S.tm i
      rw [h] at h1
      obtain ⟨A, hA⟩ := h1.cap0_inv
      rw [hA]
      exact .loc0 _ _ _ _ (upd_same _ _ _)
    · show R c _ _ w (upd σ.t k (V.loc σ.n 0 0 0) i) _
      rw [upd_ne _ _ _ _ hi]
      exact H.2.R (S.tm i)
  | data k v h g ih =>
    intro μ a w S
    rename_i σ σ2
    have H := S.hs.freezeP (fun b => (touchA σ.h (σ.t k)).contains b)
    refine ih (μ := μ) ⟨H.1, fun i => ?_, S.nt, S.df, S.ex.trans H.2⟩
    by_cases hi : i = k
    · subst hi
      show R c _ _ w (upd σ.t i v i) _
      rw [upd_same]
      exact (expoA_sound S.hs (fun b => (touchA σ.h (σ.t i)).contains b) (fv := c.fvals) (S.tm i) h (fun b hb => by simpa using hb)).mono (fun q hq => ⟨hq, rfl⟩) (fun _ _ h => by cases h)
    · show R c _ _ w (upd σ.t k v i) _
      rw [upd_ne _ _ _ _ hi]
      exact H.2.R (S.tm i)
theorem awp_sound (hE : EnvOk E) (hc : c.P = E.P) (hΦ : FvOk c E.Φ) : ∀ (x : Code) {Q : Exit → St → Prop} {Q' : Exit → Act → World → Prop} {σ : St} {μ : Mu} {a : Act} {w : World}, codeOk E.nt x = true → awp E x Q σ → Sim ps E c σ μ a w →
    (∀ e σ μ a w, Q e σ → Sim ps E c σ μ a w → Q' e a w) → x.wp c.P Q' a w := by
  intro x
  induction x with
  | skip => intro Q Q' σ μ a w _ hk S hQ; exact wp_skip (hQ _ _ _ _ _ hk S)
  | region id ops draw =>
    intro Q Q' σ μ a w hok hk S hQ
    simp only [codeOk, List.all_eq_true] at hok
    simp only [awp] at hk
    cases draw with
    | false =>
      simp only [Bool.false_eq_true, if_false] at hk
      exact wp_region_list (ops_sound hE hc hΦ ops (fun σ μ a w => hQ _ σ μ a w) _ (fun o ho => hok o ho) hk S)
    | true =>
      simp only [if_true] at hk
      refine wp_region_any (by rw [hc]; exact hE.mixed) ?_
      have hb : Below w.heap.size w { w with drawn := w.drawn + 1 } := (Below.refl _ w).drew
      have H2 := S.hs.below hb
      cases hdr : drawOk ops with
      | true =>
        simp only [hdr, if_true] at hk
        exact draw_sound hE hc hΦ hdr (fun o ho => hok o ho) (fun σ μ a w => hQ _ σ μ a w) hk ⟨H2.1, fun i => H2.2.R (S.tm i), S.nt, S.df, S.ex.trans H2.2⟩
      | false =>
        simp only [hdr, Bool.false_eq_true, if_false] at hk
        rcases hk with ⟨hdx, hk⟩ | ⟨hdx, hk⟩ | ⟨hdx, hk⟩
        · exact drawX_sound hE hc hΦ hdx (fun o ho => hok o ho) (fun σ μ a w => hQ _ σ μ a w) hk ⟨H2.1, fun i => H2.2.R (S.tm i), S.nt, S.df, S.ex.trans H2.2⟩
        · exact drawY_sound hE hc hΦ hdx (fun o ho => hok o ho) (fun σ μ a w => hQ _ σ μ a w) hk ⟨H2.1, fun i => H2.2.R (S.tm i), S.nt, S.df, S.ex.trans H2.2⟩
        · exact drawW_sound hE hc hΦ hdx (fun o ho => hok o ho) (fun σ μ a w => hQ _ σ μ a w) hk ⟨H2.1, fun i => H2.2.R (S.tm i), S.nt, S.df, S.ex.trans H2.2⟩
  | seq x y ihx ihy =>
    intro Q Q' σ μ a w hok hk S hQ
    simp only [codeOk, Bool.and_eq_true] at hok
    simp only [awp] at hk
    obtain ⟨I, hx, hy⟩ := hk
    refine wp_seq (ihx hok.1 hx S ?_)
    intro e σ μ a w hq S
    cases e with
    | normal =>
      obtain ⟨σ1, hg, hy⟩ := hy _ hq
      obtain ⟨μ1, S⟩ := gh_sim hg S
      exact ihy hok.2 hy S hQ
    | _ => exact hQ _ _ _ _ _ hq S
  | cond b x y ihx ihy =>
    intro Q Q' σ μ a w hok hk S hQ
    simp only [codeOk, Bool.and_eq_true] at hok
    simp only [awp] at hk
    have hb : R c σ.h μ w (ev σ.t b) (a.eval b) := Rp.ev S.tm b
    split at hk
    · rename_i t ht
      rw [ht] at hb
      exact wp_cond_split hb.s_eq.1 (fun h => ihx hok.1 (hk.1 h) S hQ) (fun h => ihy hok.2 (hk.2 h) S hQ)
    · exact hk.elim
  | block id x ih =>
    intro Q Q' σ μ a w hok hk S hQ
    simp only [codeOk] at hok
    simp only [awp] at hk
    refine wp_block (ih hok hk S ?_)
    intro e σ μ a w hq S
    cases e with
    | exit id' =>
      simp only [blockQ, Exit.inBlock] at hq ⊢
      split
      · rename_i h; rw [if_pos h] at hq; exact hQ _ _ _ _ _ hq S
      · rename_i h; rw [if_neg h] at hq; exact hQ _ _ _ _ _ hq S
    | _ => exact hQ _ _ _ _ _ hq S
  | loop x ih =>
    intro Q Q' σ μ a w hok hk S hQ
    simp only [codeOk] at hok
    simp only [awp] at hk
    obtain ⟨I, m, σ1, hg, hI, hk⟩ := hk
    obtain ⟨μ1, S⟩ := gh_sim hg S
    have key : ∀ (n : Nat) {σ : St} {μ : Mu} {a : Act} {w : World}, I σ → m σ < n → Sim ps E c σ μ a w → Code.rounds c.P x Q' n a w := by
      intro n
      induction n with
      | zero => intro σ μ a w _ h; exact absurd h (Nat.not_lt_zero _)
      | succ n ihn =>
        intro σ μ a w hI hm S
        rw [rounds_succ]
        refine ih hok (hk σ hI) S ?_
        intro e σ' μ' a' w' hq S'
        cases e with
        | normal => exact ihn hq.1 (by have := hq.2; omega) S'
        | _ => exact hQ _ _ _ _ _ hq S'
    exact wp_loop_rounds (m σ1 + 1) (key _ hI (Nat.lt_succ_self _) S)
  | exit id => intro Q Q' σ μ a w _ hk S hQ; exact wp_exit (hQ _ _ _ _ _ hk S)
  | ret => intro Q Q' σ μ a w _ hk S hQ; exact wp_ret (hQ _ _ _ _ _ hk S)
  | _ => intro Q Q' σ μ a w hok; simp [codeOk] at hok

/-- What a function hands back. -/
def resV (E : Env) (σ : St) : ResultVar → Option V
  | .tmp t => some (σ.t t)
  | .cell p T => aload E.P σ.h T (σ.t p)
def oneOf : List V → V
  | [v] => v
  | vs => .tup vs
def outV (E : Env) (rs : List ResultVar) (σ : St) : Option V := (allO (resV E σ) rs).map oneOf
def handed (h : Hp) (r v : V) : Prop :=
  match r with
  | .own z rows => (v = .cap0 ∧ rows = []) ∨ ∃ b len cap B, v = .loc b 0 len cap ∧ h b = some B ∧ B.wr = true ∧ B.size = z ∧ len ≤ cap ∧ cap ≤ B.rows.length ∧ rows.length = len ∧ allO (allO (expo h 2)) (B.rows.take len) = some rows ∧
      b ∉ (B.rows.take len).flatMap fun q => q.flatMap (touch h 2)
  | .tup rs => ∃ vs, v = .tup vs ∧ allO (expoA h) vs = some rs
  | r => expoA h v = some r
def Ret (E : Env) (rs : List ResultVar) (r : V) (σ : St) : Prop := ∃ v, outV E rs σ = some v ∧ handed σ.h r v
def retQ (E : Env) (rs : List ResultVar) (r : V) : Exit → St → Prop
  | .normal, σ => Ret E rs r σ
  | .ret, σ => Ret E rs r σ
  | _, _ => False
def st0 (ds : List V) : St := ⟨fun i => ds.getD i .undef, fun _ => none, 0⟩

end
section
variable {ps : Hp × Mu × World} {E : Env} {c : Cx} {σ : St} {μ : Mu} {a : Act} {w : World}
theorem run_resultsM {P : Program} {f : ResultVar → Sem Value} : ∀ (l : List ResultVar) (ys : List Value), l.length = ys.length → (∀ (i : Nat) (r : ResultVar) (y : Value), l[i]? = some r → ys[i]? = some y → (f r).run P w = .ok y w) → (l.mapM f).run P w = .ok ys w
  | [], ys, h, _ => by
    cases ys with
    | nil => simp [Sem.run, pure]
    | cons y ys => simp at h
  | r :: l, ys, h, hf => by
    cases ys with
    | nil => simp at h
    | cons y ys =>
      have h1 := hf 0 r y rfl rfl
      have h2 := run_resultsM (P := P) (f := f) l ys (by simpa using h) (fun i r y h3 h4 => hf (i + 1) r y (by simpa using h3) (by simpa using h4))
      simp [List.mapM_cons, h1, h2]
theorem results_sound (S : Sim ps E c σ μ a w) (hc : c.P = E.P) {fn : Func} {v : V} (hv : outV E fn.results.toList σ = some v) : ∃ x, (results fn a.tmps).run c.P w = .ok x w ∧ R c σ.h μ w v x := by
  unfold outV at hv
  simp only [Option.map_eq_some_iff] at hv
  obtain ⟨vs, hvs, rfl⟩ := hv
  obtain ⟨e1, e2⟩ := allO_spec hvs
  let f : ResultVar → Sem Value := fun r => match r with
    | .tmp t => pure (a.tmps.getD t Go.undef)
    | .cell p T => do loadVar T (← asAddr (a.tmps.getD p Go.undef))
  have hone : ∀ i : Nat, ∃ y : Value, ∀ (r : ResultVar) (v : V), fn.results.toList[i]? = some r → vs[i]? = some v → (f r).run c.P w = .ok y w ∧ R c σ.h μ w v y := by
    intro i
    by_cases hi : i < fn.results.toList.length
    · have h1 : fn.results.toList[i]? = some fn.results.toList[i] := List.getElem?_eq_getElem hi
      have h2 : vs[i]? = some (vs[i]'(by omega)) := List.getElem?_eq_getElem (by omega)
      have h3 := e2 i _ _ h1 h2
      generalize fn.results.toList[i] = r at h1 h3
      generalize vs[i]'(by omega) = v at h2 h3
      cases r with
      | tmp t =>
        simp only [resV, Option.some.injEq] at h3
        refine ⟨a.tmps.getD t Go.undef, fun r' v' g1 g2 => ?_⟩
        rw [h1] at g1; cases g1
        rw [h2] at g2; cases g2
        exact ⟨rfl, by rw [← h3]; exact S.tm t⟩
      | cell p T =>
        simp only [resV] at h3
        rw [← hc] at h3
        obtain ⟨y, g1, g2⟩ := load_sound S.hs (S.tm p) h3
        refine ⟨y, fun r' v' g3 g4 => ?_⟩
        rw [h1] at g3; cases g3
        rw [h2] at g4; cases g4
        refine ⟨?_, g2⟩
        simp only [f]
        have hp := S.tm p
        unfold aload at h3
        split at h3
        · split at h3
          · rename_i cs hcs
            rw [hcs] at hp
            obtain ⟨ad, g, hx, _⟩ := hp.pc_inv
            rw [hx] at g1 ⊢
            simpa [Instr.loadAt, Instr.sureAddr, asAddr, Sem.run, pure] using g1
          · rename_i b r k hcs
            rw [hcs] at hp
            obtain ⟨q, base, size, _, hx⟩ := hp.ptr_inv
            rw [hx] at g1 ⊢
            simpa [Instr.loadAt, Instr.sureAddr, asAddr, Sem.run, pure] using g1
          · rename_i q hcs
            rw [hcs] at hp
            have hx : a.tmps.getD p Go.undef = .pointer (some ⟨q, 0, none⟩) := by generalize a.tmps.getD p Go.undef = y at hp; cases hp; rfl
            rw [hx] at g1 ⊢
            simpa [Instr.loadAt, Instr.sureAddr, asAddr, Sem.run, pure] using g1
          · cases h3
        · cases h3
    · exact ⟨Go.undef, fun r v g1 => by rw [List.getElem?_eq_none (by omega)] at g1; cases g1⟩
  obtain ⟨y, hy⟩ := Classical.axiomOfChoice hone
  have hys : ∀ (i : Nat), i < vs.length → ((List.range vs.length).map y)[i]? = some (y i) := fun i hi => by simp [hi]
  have hrun := run_resultsM (P := c.P) (w := w) (f := f) fn.results.toList ((List.range vs.length).map y) (by simp [e1]) (fun i r z h1 h2 => by
    have hi : i < vs.length := by rw [e1]; exact (List.getElem?_eq_some_iff.1 h1).1
    rw [hys i hi] at h2; cases h2
    exact (hy i r (vs[i]) h1 (List.getElem?_eq_getElem hi)).1)
  have hR : ∀ (i : Nat) (hi : i < vs.length), R c σ.h μ w (vs[i]) (y i) := fun i hi => (hy i (fn.results.toList[i]'(by omega)) vs[i] (List.getElem?_eq_getElem (by omega)) (List.getElem?_eq_getElem hi)).2
  have hm : (fn.results.mapM f).run c.P w = .ok ((List.range vs.length).map y).toArray w := by
    rw [Array.mapM_eq_mapM_toList]
    simp [hrun]
  have hres : results fn a.tmps = (do let vs ← fn.results.mapM f; pure (if h : vs.size = 1 then vs[0] else .tuple vs)) := rfl
  rw [hres]
  simp only [Sem.run_bind, hm, Result.andThen_ok, Sem.run_pure]
  by_cases h1 : vs.length = 1
  · obtain ⟨v0, rfl⟩ : ∃ v0, vs = [v0] := by
      cases vs with
      | nil => simp at h1
      | cons v0 l => cases l with
        | nil => exact ⟨v0, rfl⟩
        | cons v1 l => simp at h1
    refine ⟨y 0, ?_, hR 0 (by simp)⟩
    simp
  · refine ⟨.tuple ((List.range vs.length).map y).toArray, ?_, ?_⟩
    · rw [dif_neg (by simpa using h1)]
    · have hoo : oneOf vs = .tup vs := by
        unfold oneOf
        split
        · simp at h1
        · rfl
      rw [hoo]
      refine .tup vs _ (by simp) fun i hi => ?_
      have g1 : vs.getD i .undef = vs[i] := by simp [List.getD_eq_getElem?_getD, hi]
      rw [g1]
      simpa [hi] using hR i hi

/-- What is handed back is what the contract says. -/
theorem handed_sound {h : Hp} {n : Nat} (H : HS c h n μ w) {r v : V} {x : Value} (hx : R c h μ w v x) (hh : handed h r v) : Res c w r x := by
  unfold handed at hh
  unfold Res
  have hall : ∀ p q, okB c (frz h p) μ w q → AllB c w q := fun p q hq => ⟨hq.1, hq.2.1⟩
  split at hh
  · rename_i z rows
    rcases hh with ⟨rfl, rfl⟩ | ⟨b, len, cap, B, rfl, hB, hwr, hBz, hlc, hcl, hrl, hex, hnb⟩
    · obtain ⟨A, rfl⟩ := hx.cap0_inv
      exact .inl ⟨rfl, A, rfl⟩
    · obtain ⟨_, ⟨q, base, size, hmu, rfl⟩ | ⟨h0, h00, A, t, hmu, rfl⟩⟩ := hx.loc_inv
      · right
        have hblk := H.blk b B hB
        rcases hblk with ⟨g1, _⟩ | ⟨k, base', g1, g2, g3, g4, g5⟩
        · rw [hmu] at g1; cases g1
        · rw [hmu] at g1
          cases g1
          obtain ⟨e1, e2⟩ := allO_spec hex
          have hlt : (B.rows.take len).length = len := by simp; omega
          have hrow : ∀ i, i < len → ∃ r r', (B.rows.take len)[i]? = some r ∧ rows[i]? = some r' ∧ allO (expo h 2) r = some r' := by
            intro i hi
            have h1 : (B.rows.take len)[i]? = some ((B.rows.take len)[i]'(by omega)) := List.getElem?_eq_getElem (by omega)
            have h2 : rows[i]? = some (rows[i]'(by omega)) := List.getElem?_eq_getElem (by omega)
            exact ⟨_, _, h1, h2, e2 i _ _ h1 h2⟩
          refine ⟨q, base, cap, by simp [hrl], by omega, g3.2 hwr, g2, fun r' hr' => ?_, fun i j hi hj => ?_⟩
          · obtain ⟨i, hi, rfl⟩ := List.getElem_of_mem hr'
            obtain ⟨r0, r1, f1, f2, f3⟩ := hrow i (by omega)
            rw [List.getElem?_eq_getElem hi] at f2
            cases f2
            rw [(allO_spec f3).1, ← hBz]
            exact g4 r0 (List.mem_of_mem_take (List.mem_of_getElem? f1))
          · subst hBz
            obtain ⟨y, y1, y2, y3⟩ := g5 i j (by omega) hj
            refine ⟨y, y1, y2, fun hir => ?_⟩
            obtain ⟨r0, r1, f1, f2, f3⟩ := hrow i (by omega)
            obtain ⟨e3, e4⟩ := allO_spec f3
            have hr0 := g4 r0 (List.mem_of_mem_take (List.mem_of_getElem? f1))
            have h5 : r0[j]? = some (r0[j]'(by omega)) := List.getElem?_eq_getElem (by omega)
            have h6 : r1[j]? = some (r1[j]'(by omega)) := List.getElem?_eq_getElem (by omega)
            have h9 : cellAt B.rows i j = r0[j]'(by omega) := by
              rw [← cellAt_take B.rows len i j (by omega)]
              simp [cellAt, List.getD_eq_getElem?_getD, f1, h5]
            have h10 : cellAt rows i j = r1[j]'(by omega) := by simp [cellAt, List.getD_eq_getElem?_getD, f2, h6]
            rw [h9] at y3
            rw [h10]
            have hd := expo_sound H (fun b' => decide (b' ≠ b)) 2 y3 (e4 j _ _ h5 h6) (fun b2 hb2 => by
              simp only [ne_eq, decide_eq_true_eq]
              rintro rfl
              exact hnb (by simp only [List.mem_flatMap]; exact ⟨r0, List.mem_of_getElem? f1, _, List.mem_of_getElem? h5, hb2⟩))
            refine hd.mono fun k hk => ⟨⟨hall _ _ hk, ?_⟩, rfl⟩
            rintro rfl
            exact hk.2.2 ⟨b, B, base, B.size, by simp [frz, hB], hwr, hmu⟩
      · left
        subst h0
        exact ⟨List.eq_nil_of_length_eq_zero hrl, A, rfl⟩
  · rename_i rs
    obtain ⟨vs, rfl, hvs⟩ := hh
    intro fv
    obtain ⟨xs, rfl, hl, hr⟩ := hx.tup_inv
    obtain ⟨e1, e2⟩ := allO_spec hvs
    refine .tup _ _ (by omega) fun i hi => ?_
    have h1 : vs[i]? = some (vs[i]'(by omega)) := List.getElem?_eq_getElem (by omega)
    have h2 : rs[i]? = some rs[i] := List.getElem?_eq_getElem hi
    have h3 := hr i (by omega)
    have h4 : vs.getD i .undef = vs[i]'(by omega) := by simp [List.getD_eq_getElem?_getD, h1]
    have h5 : rs.getD i .undef = rs[i] := by simp [List.getD_eq_getElem?_getD, h2]
    rw [h4] at h3
    rw [h5]
    exact (expoA_sound H (fun _ => true) (fv := fv) h3 (e2 i _ _ h1 h2) (fun _ _ => rfl)).mono (fun q hq => ⟨hall _ _ hq, rfl⟩) (fun _ _ h => h)
  · rename_i n1 n2
    split
    · exact absurd rfl (n1 _ _)
    · intro fv
      exact (expoA_sound H (fun _ => true) (fv := fv) hx hh (fun _ _ => rfl)).mono (fun q hq => ⟨hall _ _ hq, rfl⟩) (fun _ _ h => h)
end

/-- A function is right if its code, run over values, hands back what the contract says. -/
theorem sound_of_awp {P : Program} {plain : TypeId → Bool} {Γ : FuncId → Option Fspec} {Δ : FuncId → Option Pt} (hE : EnvOk ⟨P, plain, Γ, Δ, fun _ => none, 0⟩) {f : FuncId} {fn : Func} {code : Code} {F : Fspec} (hf : P.funcs[f]? = some fn) (hb : fn.body = some code) (hok : codeOk fn.ntmps code = true)
    (h : ∀ Φ ds r, F Φ ds r → ds.length ≤ fn.ntmps ∧ awp ⟨P, plain, Γ, Δ, Φ, fn.ntmps⟩ code (retQ ⟨P, plain, Γ, Δ, Φ, fn.ntmps⟩ fn.results.toList r) (st0 ds)) : Sound P f F := by
  intro c Φ ds r vals hc hok0 hX hΦ hF hargs
  obtain ⟨hlen, hk⟩ := h Φ ds r hF
  have hE' : EnvOk ⟨P, plain, Γ, Δ, Φ, fn.ntmps⟩ := ⟨hE.plain, hE.sound, hE.fn, hE.mixed, hE.soundT⟩
  rw [← hc] at hf
  have hnt : vals.size = ds.length := hargs.1
  have H0 : HS c (fun _ => none) 0 (fun _ => none) c.w0 := ⟨Fr.refl _ _, fun _ _ => rfl, fun _ _ => rfl, fun b B h => (by cases h), fun b b' B B' k base size base' size' h => (by cases h)⟩
  have hokB : ∀ q, c.ok0 q → okB c (fun _ => none) (fun _ => none) c.w0 q := fun q hq => ⟨.inl hq, hok0 q hq, fun ⟨b, B, _, _, h, _⟩ => by cases h⟩
  have S0 : Sim ((fun _ => none), (fun _ => none), c.w0) ⟨P, plain, Γ, Δ, Φ, fn.ntmps⟩ c (st0 ds) (fun _ => none) { tmps := vals ++ Array.replicate (fn.ntmps - vals.size) Go.undef, defers := [] } c.w0 := by
    refine ⟨H0, fun i => ?_, by simp; omega, rfl, Ext.refl _ _ _ _⟩
    by_cases hi : i < ds.length
    · have h1 := hargs.2 i hi
      have h2 : (vals ++ Array.replicate (fn.ntmps - vals.size) Go.undef).getD i Go.undef = vals.getD i Go.undef := by
        have : i < vals.size := by omega
        simp [Array.getElem?_append_left this]
      rw [h2]
      exact h1.mono (fun q hq => ⟨hokB q hq, rfl⟩) (fun _ _ h => h)
    · have h1 : (st0 ds).t i = .undef := by simp [st0, List.getD_eq_getElem?_getD, List.getElem?_eq_none (Nat.le_of_not_lt hi)]
      have h2 : (vals ++ Array.replicate (fn.ntmps - vals.size) Go.undef).getD i Go.undef = Go.undef := by
        simp only [Array.getD_eq_getD_getElem?]
        rw [Array.getElem?_append_right (by omega)]
        rw [Array.getElem?_replicate]
        split <;> rfl
      rw [h1, h2]
      exact .undef
  have hbel : ∀ {w' : World}, Fr c.w0 w' c.X → Below c.w0.heap.size c.w0 w' := fun hf => ⟨hf.os, hf.tape, hf.output, hf.size, fun k hk => hf.block k hk (hX k)⟩
  have key : ∀ (σ : St) (μ : Mu) (a : Act) (w : World), Ret ⟨P, plain, Γ, Δ, Φ, fn.ntmps⟩ fn.results.toList r σ → Sim ((fun _ => none), (fun _ => none), c.w0) ⟨P, plain, Γ, Δ, Φ, fn.ntmps⟩ c σ μ a w →
      a.defers = [] ∧ ∃ v, (results fn a.tmps).run c.P w = .ok v w ∧ ∃ x, (Ending.returned v : Ending) = .returned x ∧ Below c.w0.heap.size c.w0 w ∧ Res c w r x := by
    rintro σ μ a w ⟨v, hv, hh⟩ S
    obtain ⟨x, h1, h2⟩ := results_sound S hc hv
    exact ⟨S.df, x, h1, x, rfl, hbel S.hs.fr, handed_sound S.hs h2 hh⟩
  have hw := awp_sound hE' hc hΦ code (Q' := bodyPost c.P fn (fun e w' => ∃ x, e = .returned x ∧ Below c.w0.heap.size c.w0 w' ∧ Res c w' r x)) hok hk S0 (fun e σ μ a w hq S => by
    cases e with
    | normal => exact key σ μ a w hq S
    | ret => exact key σ μ a w hq S
    | _ => exact hq.elim)
  have := calls_of_wp hf hb hw
  rwa [hc] at this

/-- The same code, run on what it is handed. -/
def inlQ (E : Env) (rs : List ResultVar) (t : Nat → V) (K : V → St → Prop) : Exit → St → Prop
  | .normal, σ => ∃ v, outV E rs σ = some v ∧ K v ⟨t, σ.h, σ.n⟩
  | .ret, σ => ∃ v, outV E rs σ = some v ∧ K v ⟨t, σ.h, σ.n⟩
  | _, _ => False
def inl (P : Program) (plain : TypeId → Bool) (Γ : FuncId → Option Fspec) (Δ : FuncId → Option Pt) (fn : Func) (code : Code) : Pt := fun Φ args σ K =>
  args.length ≤ fn.ntmps ∧ awp ⟨P, plain, Γ, Δ, Φ, fn.ntmps⟩ code (inlQ ⟨P, plain, Γ, Δ, Φ, fn.ntmps⟩ fn.results.toList σ.t K) ⟨fun i => args.getD i .undef, σ.h, σ.n⟩
theorem inl_sound {P : Program} {plain : TypeId → Bool} {Γ : FuncId → Option Fspec} {Δ : FuncId → Option Pt} (hE : EnvOk ⟨P, plain, Γ, Δ, fun _ => none, 0⟩) {f : FuncId} {fn : Func} {code : Code} {T : Pt} (hf : P.funcs[f]? = some fn) (hb : fn.body = some code) (hok : codeOk fn.ntmps code = true) (hfn : fnOk P f = true)
    (hT : ∀ Φ args t h n K, T Φ args ⟨t, h, n⟩ K → inl P plain Γ Δ fn code Φ args ⟨t, h, n⟩ K) : SoundT P f T := by
  intro c Φ h n μ w args vals t K hc hΦ H hl ha hk
  obtain ⟨hlen, hk⟩ := hT _ _ _ _ _ _ hk
  have hE' : EnvOk ⟨P, plain, Γ, Δ, Φ, fn.ntmps⟩ := ⟨hE.plain, hE.sound, hE.fn, hE.mixed, hE.soundT⟩
  rw [← hc] at hf
  have S0 : Sim (h, μ, w) ⟨P, plain, Γ, Δ, Φ, fn.ntmps⟩ c ⟨fun i => args.getD i .undef, h, n⟩ μ { tmps := vals ++ Array.replicate (fn.ntmps - vals.size) Go.undef, defers := [] } w := by
    refine ⟨H, fun i => ?_, by simp; omega, rfl, Ext.refl _ _ _ _⟩
    by_cases hi : i < args.length
    · have h1 := ha i hi
      have h2 : (vals ++ Array.replicate (fn.ntmps - vals.size) Go.undef).getD i Go.undef = vals.getD i Go.undef := by
        have : i < vals.size := by omega
        simp [Array.getElem?_append_left this]
      simp only
      rw [h2]
      exact h1
    · have h1 : args.getD i .undef = .undef := by simp [List.getD_eq_getElem?_getD, List.getElem?_eq_none (Nat.le_of_not_lt hi)]
      have h2 : (vals ++ Array.replicate (fn.ntmps - vals.size) Go.undef).getD i Go.undef = Go.undef := by
        simp only [Array.getD_eq_getD_getElem?]
        rw [Array.getElem?_append_right (by omega)]
        rw [Array.getElem?_replicate]
        split <;> rfl
      simp only
      rw [h1, h2]
      exact .undef
  have key : ∀ (σ : St) (μ' : Mu) (a : Act) (w' : World), (∃ v, outV ⟨P, plain, Γ, Δ, Φ, fn.ntmps⟩ fn.results.toList σ = some v ∧ K v ⟨t, σ.h, σ.n⟩) → Sim (h, μ, w) ⟨P, plain, Γ, Δ, Φ, fn.ntmps⟩ c σ μ' a w' →
      a.defers = [] ∧ ∃ v, (results fn a.tmps).run c.P w' = .ok v w' ∧ ∃ x, (Ending.returned v : Ending) = .returned x ∧ ∃ v h' n' μ', K v ⟨t, h', n'⟩ ∧ HS c h' n' μ' w' ∧ Ext c h μ w h' μ' w' ∧ R c h' μ' w' v x := by
    rintro σ μ' a w' ⟨v, hv, hK⟩ S
    obtain ⟨x, h1, h2⟩ := results_sound S hc hv
    exact ⟨S.df, x, h1, x, rfl, v, σ.h, σ.n, μ', hK, S.hs, S.ex, h2⟩
  have hw := awp_sound hE' hc hΦ code (Q' := bodyPost c.P fn (fun e w' => ∃ x, e = .returned x ∧ ∃ v h' n' μ', K v ⟨t, h', n'⟩ ∧ HS c h' n' μ' w' ∧ Ext c h μ w h' μ' w' ∧ R c h' μ' w' v x)) hok hk S0 (fun e σ μ a w hq S => by
    cases e with
    | normal => exact key σ μ a w hq S
    | ret => exact key σ μ a w hq S
    | _ => exact hq.elim)
  have := calls_of_wp hf hb hw
  rw [hc] at this
  exact .inl ⟨hfn, this⟩
end Go.Proofs.Ytahgddfnbjpfiaa.Am

/- Facts on the types of the program, asked of the kernel. -/
set_option maxRecDepth 100000
namespace Go.Proofs.Ytahgddfnbjpfiaa
open Go Go.RowKit Am
theorem sz2 : szo Try.prog 2 = some 1 := by kernel_rfl
theorem ag2 : aggo Try.prog 2 = some false := by kernel_rfl
theorem zr2 : zro Try.prog 2 = some (.int .i64 0) := by kernel_rfl
theorem zok2 : zok Try.prog 2 1 = true := by kernel_rfl
theorem ii2 : isIntT Try.prog 2 = true := by kernel_rfl
theorem sz3 : szo Try.prog 3 = some 1 := by kernel_rfl
theorem ag3 : aggo Try.prog 3 = some false := by kernel_rfl
theorem zr3 : zro Try.prog 3 = some (.int .i64 0) := by kernel_rfl
theorem zok3 : zok Try.prog 3 1 = true := by kernel_rfl
theorem ii3 : isIntT Try.prog 3 = true := by kernel_rfl
theorem sz4 : szo Try.prog 4 = some 1 := by kernel_rfl
theorem ag4 : aggo Try.prog 4 = some false := by kernel_rfl
theorem zr4 : zro Try.prog 4 = some (.bool false) := by kernel_rfl
theorem zok4 : zok Try.prog 4 1 = true := by kernel_rfl
theorem bt4 : isBoolT Try.prog 4 = true := by kernel_rfl
theorem sz5 : szo Try.prog 5 = some 1 := by kernel_rfl
theorem ag5 : aggo Try.prog 5 = some false := by kernel_rfl
theorem zr5 : zro Try.prog 5 = some (.int .u8 0) := by kernel_rfl
theorem zok5 : zok Try.prog 5 1 = true := by kernel_rfl
theorem ii5 : isIntT Try.prog 5 = true := by kernel_rfl
theorem sz7 : szo Try.prog 7 = some 4 := by kernel_rfl
theorem ag7 : aggo Try.prog 7 = some true := by kernel_rfl
theorem zr7 : zro Try.prog 7 = some (.agg #[(.int .i64 0), (.int .i64 0), (.bool false), (.int .u8 0)]) := by kernel_rfl
theorem zok7 : zok Try.prog 7 4 = true := by kernel_rfl
theorem fl7_0 : fldo Try.prog 7 0 = some (0, 1, false) := by kernel_rfl
theorem fl7_1 : fldo Try.prog 7 1 = some (1, 1, false) := by kernel_rfl
theorem fl7_2 : fldo Try.prog 7 2 = some (2, 1, false) := by kernel_rfl
theorem fl7_3 : fldo Try.prog 7 3 = some (3, 1, false) := by kernel_rfl
theorem pl7 : plc Try.prog 7 = .fields [(0, 1), (1, 1), (2, 1), (3, 1)] := by kernel_rfl
theorem sz9 : szo Try.prog 9 = some 1 := by kernel_rfl
theorem ag9 : aggo Try.prog 9 = some false := by kernel_rfl
theorem zr9 : zro Try.prog 9 = some (.string ⟨#[]⟩) := by kernel_rfl
theorem zok9 : zok Try.prog 9 1 = true := by kernel_rfl
theorem sq9 : seqo Try.prog 9 = .str := by kernel_rfl
theorem sz12 : szo Try.prog 12 = some 1 := by kernel_rfl
theorem ag12 : aggo Try.prog 12 = some false := by kernel_rfl
theorem zr12 : zro Try.prog 12 = some (.int .u64 0) := by kernel_rfl
theorem zok12 : zok Try.prog 12 1 = true := by kernel_rfl
theorem ii12 : isIntT Try.prog 12 = true := by kernel_rfl
theorem sz13 : szo Try.prog 13 = some 2 := by kernel_rfl
theorem ag13 : aggo Try.prog 13 = some true := by kernel_rfl
theorem zr13 : zro Try.prog 13 = some (.agg #[(.string ⟨#[]⟩), (.int .u64 0)]) := by kernel_rfl
theorem zok13 : zok Try.prog 13 2 = true := by kernel_rfl
theorem fl13_0 : fldo Try.prog 13 0 = some (0, 1, false) := by kernel_rfl
theorem fl13_1 : fldo Try.prog 13 1 = some (1, 1, false) := by kernel_rfl
theorem pl13 : plc Try.prog 13 = .fields [(0, 1), (1, 1)] := by kernel_rfl
theorem sz21 : szo Try.prog 21 = some 1 := by kernel_rfl
theorem ag21 : aggo Try.prog 21 = some false := by kernel_rfl
theorem zr21 : zro Try.prog 21 = some (.int .i32 0) := by kernel_rfl
theorem zok21 : zok Try.prog 21 1 = true := by kernel_rfl
theorem ii21 : isIntT Try.prog 21 = true := by kernel_rfl
theorem sz22 : szo Try.prog 22 = some 1 := by kernel_rfl
theorem ag22 : aggo Try.prog 22 = some false := by kernel_rfl
theorem zr22 : zro Try.prog 22 = some (.slice none 0 0) := by kernel_rfl
theorem zok22 : zok Try.prog 22 1 = true := by kernel_rfl
theorem ist22 : isSliceT Try.prog 22 = true := by kernel_rfl
theorem sq22 : seqo Try.prog 22 = .slice 34 18 232 := by kernel_rfl
theorem sz25 : szo Try.prog 25 = some 1 := by kernel_rfl
theorem ag25 : aggo Try.prog 25 = some false := by kernel_rfl
theorem zr25 : zro Try.prog 25 = some (.slice none 0 0) := by kernel_rfl
theorem zok25 : zok Try.prog 25 1 = true := by kernel_rfl
theorem ist25 : isSliceT Try.prog 25 = true := by kernel_rfl
theorem sq25 : seqo Try.prog 25 = .slice 4 1 1 := by kernel_rfl
theorem sz28 : szo Try.prog 28 = some 2 := by kernel_rfl
theorem ag28 : aggo Try.prog 28 = some true := by kernel_rfl
theorem zr28 : zro Try.prog 28 = some (.agg #[(.string ⟨#[]⟩), (.int .i64 0)]) := by kernel_rfl
theorem zok28 : zok Try.prog 28 2 = true := by kernel_rfl
theorem fl28_0 : fldo Try.prog 28 0 = some (0, 1, false) := by kernel_rfl
theorem fl28_1 : fldo Try.prog 28 1 = some (1, 1, false) := by kernel_rfl
theorem pl28 : plc Try.prog 28 = .fields [(0, 1), (1, 1)] := by kernel_rfl
theorem sz29 : szo Try.prog 29 = some 2 := by kernel_rfl
theorem ag29 : aggo Try.prog 29 = some true := by kernel_rfl
theorem zr29 : zro Try.prog 29 = some (.agg #[(.string ⟨#[]⟩), (.int .i64 0)]) := by kernel_rfl
theorem zok29 : zok Try.prog 29 2 = true := by kernel_rfl
theorem fl29_0 : fldo Try.prog 29 0 = some (0, 1, false) := by kernel_rfl
theorem fl29_1 : fldo Try.prog 29 1 = some (1, 1, false) := by kernel_rfl
theorem pl29 : plc Try.prog 29 = .fields [(0, 1), (1, 1)] := by kernel_rfl
theorem sz30 : szo Try.prog 30 = some 1 := by kernel_rfl
theorem ag30 : aggo Try.prog 30 = some false := by kernel_rfl
theorem zr30 : zro Try.prog 30 = some (.slice none 0 0) := by kernel_rfl
theorem zok30 : zok Try.prog 30 1 = true := by kernel_rfl
theorem ist30 : isSliceT Try.prog 30 = true := by kernel_rfl
theorem sq30 : seqo Try.prog 30 = .slice 29 2 24 := by kernel_rfl
theorem sz31 : szo Try.prog 31 = some 3 := by kernel_rfl
theorem ag31 : aggo Try.prog 31 = some true := by kernel_rfl
theorem zr31 : zro Try.prog 31 = some (.agg #[(.bool false), (.string ⟨#[]⟩), (.string ⟨#[]⟩)]) := by kernel_rfl
theorem zok31 : zok Try.prog 31 3 = true := by kernel_rfl
theorem fl31_0 : fldo Try.prog 31 0 = some (0, 1, false) := by kernel_rfl
theorem fl31_1 : fldo Try.prog 31 1 = some (1, 1, false) := by kernel_rfl
theorem fl31_2 : fldo Try.prog 31 2 = some (2, 1, false) := by kernel_rfl
theorem pl31 : plc Try.prog 31 = .fields [(0, 1), (1, 1), (2, 1)] := by kernel_rfl
theorem sz32 : szo Try.prog 32 = some 3 := by kernel_rfl
theorem ag32 : aggo Try.prog 32 = some true := by kernel_rfl
theorem zr32 : zro Try.prog 32 = some (.agg #[(.bool false), (.string ⟨#[]⟩), (.string ⟨#[]⟩)]) := by kernel_rfl
theorem zok32 : zok Try.prog 32 3 = true := by kernel_rfl
theorem fl32_0 : fldo Try.prog 32 0 = some (0, 1, false) := by kernel_rfl
theorem fl32_1 : fldo Try.prog 32 1 = some (1, 1, false) := by kernel_rfl
theorem fl32_2 : fldo Try.prog 32 2 = some (2, 1, false) := by kernel_rfl
theorem pl32 : plc Try.prog 32 = .fields [(0, 1), (1, 1), (2, 1)] := by kernel_rfl
theorem sz33 : szo Try.prog 33 = some 18 := by kernel_rfl
theorem ag33 : aggo Try.prog 33 = some true := by kernel_rfl
theorem zr33 : zro Try.prog 33 = some (.agg #[(.string ⟨#[]⟩), (.int .i64 0), (.int .i64 0), (.int .i64 0), (.slice none 0 0), (.int .i64 0), (.string ⟨#[]⟩), (.int .i64 0), (.string ⟨#[]⟩), (.int .i64 0), (.bool false), (.string ⟨#[]⟩), (.string ⟨#[]⟩), (.string ⟨#[]⟩), (.string ⟨#[]⟩), (.string ⟨#[]⟩), (.int .i64 0), (.string ⟨#[]⟩)]) := by kernel_rfl
theorem zok33 : zok Try.prog 33 18 = true := by kernel_rfl
theorem fl33_0 : fldo Try.prog 33 0 = some (0, 2, true) := by kernel_rfl
theorem fl33_1 : fldo Try.prog 33 1 = some (2, 1, false) := by kernel_rfl
theorem fl33_2 : fldo Try.prog 33 2 = some (3, 1, false) := by kernel_rfl
theorem fl33_3 : fldo Try.prog 33 3 = some (4, 1, false) := by kernel_rfl
theorem fl33_4 : fldo Try.prog 33 4 = some (5, 1, false) := by kernel_rfl
theorem fl33_5 : fldo Try.prog 33 5 = some (6, 2, true) := by kernel_rfl
theorem fl33_6 : fldo Try.prog 33 6 = some (8, 2, true) := by kernel_rfl
theorem fl33_7 : fldo Try.prog 33 7 = some (10, 3, true) := by kernel_rfl
theorem fl33_8 : fldo Try.prog 33 8 = some (13, 1, false) := by kernel_rfl
theorem fl33_9 : fldo Try.prog 33 9 = some (14, 1, false) := by kernel_rfl
theorem fl33_10 : fldo Try.prog 33 10 = some (15, 2, true) := by kernel_rfl
theorem fl33_11 : fldo Try.prog 33 11 = some (17, 1, false) := by kernel_rfl
theorem pl33 : plc Try.prog 33 = .fields [(0, 2), (2, 1), (3, 1), (4, 1), (5, 1), (6, 2), (8, 2), (10, 3), (13, 1), (14, 1), (15, 2), (17, 1)] := by kernel_rfl
theorem sz34 : szo Try.prog 34 = some 18 := by kernel_rfl
theorem ag34 : aggo Try.prog 34 = some true := by kernel_rfl
theorem zr34 : zro Try.prog 34 = some (.agg #[(.string ⟨#[]⟩), (.int .i64 0), (.int .i64 0), (.int .i64 0), (.slice none 0 0), (.int .i64 0), (.string ⟨#[]⟩), (.int .i64 0), (.string ⟨#[]⟩), (.int .i64 0), (.bool false), (.string ⟨#[]⟩), (.string ⟨#[]⟩), (.string ⟨#[]⟩), (.string ⟨#[]⟩), (.string ⟨#[]⟩), (.int .i64 0), (.string ⟨#[]⟩)]) := by kernel_rfl
theorem zok34 : zok Try.prog 34 18 = true := by kernel_rfl
theorem fl34_0 : fldo Try.prog 34 0 = some (0, 2, true) := by kernel_rfl
theorem fl34_1 : fldo Try.prog 34 1 = some (2, 1, false) := by kernel_rfl
theorem fl34_2 : fldo Try.prog 34 2 = some (3, 1, false) := by kernel_rfl
theorem fl34_3 : fldo Try.prog 34 3 = some (4, 1, false) := by kernel_rfl
theorem fl34_4 : fldo Try.prog 34 4 = some (5, 1, false) := by kernel_rfl
theorem fl34_5 : fldo Try.prog 34 5 = some (6, 2, true) := by kernel_rfl
theorem fl34_6 : fldo Try.prog 34 6 = some (8, 2, true) := by kernel_rfl
theorem fl34_7 : fldo Try.prog 34 7 = some (10, 3, true) := by kernel_rfl
theorem fl34_8 : fldo Try.prog 34 8 = some (13, 1, false) := by kernel_rfl
theorem fl34_9 : fldo Try.prog 34 9 = some (14, 1, false) := by kernel_rfl
theorem fl34_10 : fldo Try.prog 34 10 = some (15, 2, true) := by kernel_rfl
theorem fl34_11 : fldo Try.prog 34 11 = some (17, 1, false) := by kernel_rfl
theorem pl34 : plc Try.prog 34 = .fields [(0, 2), (2, 1), (3, 1), (4, 1), (5, 1), (6, 2), (8, 2), (10, 3), (13, 1), (14, 1), (15, 2), (17, 1)] := by kernel_rfl
theorem sz39 : szo Try.prog 39 = some 1 := by kernel_rfl
theorem ag39 : aggo Try.prog 39 = some false := by kernel_rfl
theorem zr39 : zro Try.prog 39 = some (.int .i64 0) := by kernel_rfl
theorem zok39 : zok Try.prog 39 1 = true := by kernel_rfl
theorem ii39 : isIntT Try.prog 39 = true := by kernel_rfl
theorem sz66 : szo Try.prog 66 = some 1 := by kernel_rfl
theorem ag66 : aggo Try.prog 66 = some false := by kernel_rfl
theorem zr66 : zro Try.prog 66 = some (.slice none 0 0) := by kernel_rfl
theorem zok66 : zok Try.prog 66 1 = true := by kernel_rfl
theorem ist66 : isSliceT Try.prog 66 = true := by kernel_rfl
theorem sq66 : seqo Try.prog 66 = .slice 9 1 16 := by kernel_rfl
theorem sz74 : szo Try.prog 74 = some 2 := by kernel_rfl
theorem ag74 : aggo Try.prog 74 = some true := by kernel_rfl
theorem zr74 : zro Try.prog 74 = some (.agg #[(.bool false), (.string ⟨#[]⟩)]) := by kernel_rfl
theorem zok74 : zok Try.prog 74 2 = true := by kernel_rfl
theorem fl74_0 : fldo Try.prog 74 0 = some (0, 1, false) := by kernel_rfl
theorem fl74_1 : fldo Try.prog 74 1 = some (1, 1, false) := by kernel_rfl
theorem pl74 : plc Try.prog 74 = .fields [(0, 1), (1, 1)] := by kernel_rfl
theorem sz75 : szo Try.prog 75 = some 2 := by kernel_rfl
theorem ag75 : aggo Try.prog 75 = some true := by kernel_rfl
theorem zr75 : zro Try.prog 75 = some (.agg #[(.bool false), (.string ⟨#[]⟩)]) := by kernel_rfl
theorem zok75 : zok Try.prog 75 2 = true := by kernel_rfl
theorem fl75_0 : fldo Try.prog 75 0 = some (0, 1, false) := by kernel_rfl
theorem fl75_1 : fldo Try.prog 75 1 = some (1, 1, false) := by kernel_rfl
theorem pl75 : plc Try.prog 75 = .fields [(0, 1), (1, 1)] := by kernel_rfl
theorem sz77 : szo Try.prog 77 = some 1 := by kernel_rfl
theorem ag77 : aggo Try.prog 77 = some false := by kernel_rfl
theorem zr77 : zro Try.prog 77 = some (.int .u64 0) := by kernel_rfl
theorem zok77 : zok Try.prog 77 1 = true := by kernel_rfl
theorem ii77 : isIntT Try.prog 77 = true := by kernel_rfl
theorem sz80 : szo Try.prog 80 = some 1 := by kernel_rfl
theorem ag80 : aggo Try.prog 80 = some false := by kernel_rfl
theorem zr80 : zro Try.prog 80 = some (.slice none 0 0) := by kernel_rfl
theorem zok80 : zok Try.prog 80 1 = true := by kernel_rfl
theorem ist80 : isSliceT Try.prog 80 = true := by kernel_rfl
theorem sq80 : seqo Try.prog 80 = .slice 75 2 24 := by kernel_rfl
theorem sz92 : szo Try.prog 92 = some 1 := by kernel_rfl
theorem ag92 : aggo Try.prog 92 = some false := by kernel_rfl
theorem zr92 : zro Try.prog 92 = some (.slice none 0 0) := by kernel_rfl
theorem zok92 : zok Try.prog 92 1 = true := by kernel_rfl
theorem ist92 : isSliceT Try.prog 92 = true := by kernel_rfl
theorem sq92 : seqo Try.prog 92 = .slice 5 1 1 := by kernel_rfl
theorem sz97 : szo Try.prog 97 = some 1 := by kernel_rfl
theorem ag97 : aggo Try.prog 97 = some false := by kernel_rfl
theorem zr97 : zro Try.prog 97 = some (.int .u64 0) := by kernel_rfl
theorem zok97 : zok Try.prog 97 1 = true := by kernel_rfl
theorem ii97 : isIntT Try.prog 97 = true := by kernel_rfl
theorem sz99 : szo Try.prog 99 = some 1 := by kernel_rfl
theorem ag99 : aggo Try.prog 99 = some false := by kernel_rfl
theorem zr99 : zro Try.prog 99 = some (.slice none 0 0) := by kernel_rfl
theorem zok99 : zok Try.prog 99 1 = true := by kernel_rfl
theorem ist99 : isSliceT Try.prog 99 = true := by kernel_rfl
theorem sq99 : seqo Try.prog 99 = .slice 3 1 8 := by kernel_rfl
theorem sz103 : szo Try.prog 103 = some 0 := by kernel_rfl
theorem ag103 : aggo Try.prog 103 = some true := by kernel_rfl
theorem zr103 : zro Try.prog 103 = some (.agg #[]) := by kernel_rfl
theorem zok103 : zok Try.prog 103 0 = true := by kernel_rfl
theorem sz104 : szo Try.prog 104 = some 0 := by kernel_rfl
theorem ag104 : aggo Try.prog 104 = some true := by kernel_rfl
theorem zr104 : zro Try.prog 104 = some (.agg #[]) := by kernel_rfl
theorem zok104 : zok Try.prog 104 0 = true := by kernel_rfl
theorem fl104_0 : fldo Try.prog 104 0 = some (0, 0, true) := by kernel_rfl
theorem pl104 : plc Try.prog 104 = .fields [(0, 0)] := by kernel_rfl
theorem sz107 : szo Try.prog 107 = some 1 := by kernel_rfl
theorem ag107 : aggo Try.prog 107 = some false := by kernel_rfl
theorem zr107 : zro Try.prog 107 = some (.int .u32 0) := by kernel_rfl
theorem zok107 : zok Try.prog 107 1 = true := by kernel_rfl
theorem ii107 : isIntT Try.prog 107 = true := by kernel_rfl
/-  -/
end Go.Proofs.Ytahgddfnbjpfiaa
