/- Texts that the law's proof stands on: AmRg, AmMp, V40, V42, V43, V44, V53, V54, V57, V58d, V58. -/
import Derived.OrdersIn
import Derived.RangeFuncNested
import Derived.RangeFuncBound
import Derived.RangeFuncCalls
import Derived.RangeFuncLeaves
import Derived.TacticsInMore
import Derived.LoopNIn
import Derived.LoopIn
import Derived.Test.YtahgddfnbjpfiaaB4
import Derived.Test.YtahgddfnbjpfiaaB7
import Derived.Test.YtahgddfnbjpfiaaB5
import Derived.MapKept
import Derived.WideKeyRuns
import Derived.Test.YtahgddfnbjpfiaaB6
/- An abstract machine over values: what it proves holds within a round of a range over a function, too. -/
set_option linter.unusedVariables false
set_option linter.unusedSimpArgs false
namespace Go.Proofs.Ytahgddfnbjpfiaa.Am
open Go Go.RowKit

/-- Nothing is asked of the machines on the way; the activation stands in a round, or in none. -/
def Fw (r : Option Nat) : Fence := { Fence.wide with round := r }
def noDefer (o : Oper) : Bool := match o.op with
  | .defer _ => false
  | _ => true
theorem rowsIn_of {r : Option Nat} {n : Nat} {P : Program} {row : String} {args : Array Value} {w : World} {R : Value → World → Prop} (h : Go.Rows P row args w R) : RowsIn (Fw r) n P row args w R :=
  fun c cs _ => let ⟨v, w', q, s⟩ := h c cs; ⟨v, w', q, stepsIn_wide.2 s⟩
theorem callsIn_of {r : Option Nat} {n : Nat} {P : Program} {f : FuncId} {args : Array Value} {w : World} {R : Ending → World → Prop} (h : Calls P f args w R) : CallsIn (Fw r) n P f args w R :=
  (callsIn_wide (n := n)).2 h
theorem oper_in {r : Option Nat} {n : Nat} {P : Program} {o : Oper} {a : Act} {w : World} {next : Act → World → Prop} {Q : Exit → Act → World → Prop} (hd : noDefer o = true) (h : o.wp P a w next Q) : o.wpIn (Fw r) n P a w next Q := by
  refine ⟨fun _ _ => trivial, ?_⟩
  rw [Oper.semAt_eq _ _ _ (fun c hc => by rw [noDefer, hc] at hd; cases hd)]
  unfold Oper.wp at h
  generalize (execOp a.eval o).run P w = x at h
  cases x with
  | ok y w' =>
    cases y <;> simp only [Oper.upon, Oper.uponIn] at h ⊢ <;> first
      | exact h
      | exact ⟨fun hh => absurd hh (by simp [Fw, Fence.wide]), callsIn_of h⟩
      | exact ⟨fun hh => absurd hh (by simp [Fw, Fence.wide]), rowsIn_of h⟩
      | exact h.elim
  | halt y w' => cases y <;> simp only [Oper.upon, Oper.uponIn] at h ⊢ <;> first | exact h | exact h.elim
section
variable {r : Option Nat} {n : Nat} {P : Program} {ops : Array Oper} {Q : Exit → Act → World → Prop}
theorem list_in (hQ : ¬ LetsOut Q) : ∀ (l : List Oper) {a : Act} {w : World}, (∀ o ∈ l, noDefer o = true) → wpList P ops Q l a w → wpListIn (Fw r) n P ops Q l a w
  | [], a, w, _, h => h
  | o :: l, a, w, hd, h => by
    unfold wpList at h
    unfold wpListIn
    split at h
    · rename_i hw
      rw [if_pos hw]
      rcases h with h | h
      · exact Oper.wpIn_mono (fun a w hh => list_in hQ l (fun o ho => hd o (by simp [ho])) hh) (oper_in (hd o (by simp)) h)
      · exact absurd h.2 hQ
    · rename_i hw
      rw [if_neg hw]
      exact ⟨fun _ _ => trivial, list_in hQ l (fun o ho => hd o (by simp [ho])) h⟩
theorem region_in {id : Nat} {a : Act} {w : World} (hQ : ¬ LetsOut Q) (hd : ops.toList.all noDefer = true) (h : wpList P ops Q ops.toList a w) : (Code.region id ops false).wpIn (Fw r) n P Q a w :=
  wpIn_region (by rw [List.range_eq_range', ← Array.length_toList, wpOpsIn_eq_wpListIn ops.toList 0 (by simp)]; exact list_in hQ _ (fun o ho => List.all_eq_true.1 hd o ho) h)
theorem op_in (hQ : ¬ LetsOut Q) (hd : ops.toList.all noDefer = true) {i : Nat} {K : Act → World → Prop} {a : Act} {w : World} (h : wpOp P ops Q i K a w) : wpOpIn (Fw r) n P ops Q i K a w := by
  unfold wpOp at h
  unfold wpOpIn
  split at h
  · rename_i hi; rw [hi]; exact h
  · rename_i o hi
    rw [hi]
    have hm : o ∈ ops.toList := by rw [Array.getElem?_eq_some_iff] at hi; obtain ⟨_, rfl⟩ := hi; simp
    simp only
    split at h
    · rename_i hw
      rw [if_pos hw]
      rcases h with h | h
      · exact oper_in (List.all_eq_true.1 hd o hm) h
      · exact absurd h.2 hQ
    · rename_i hw
      rw [if_neg hw]
      exact ⟨fun _ _ => trivial, h⟩
theorem any_in (hQ : ¬ LetsOut Q) (hd : ops.toList.all noDefer = true) : ∀ (u : Nat) (listed : Array Bool) {a : Act} {w : World}, wpAny P .any ops Q u listed a w → wpAnyIn (Fw r) n P .any ops Q u listed a w
  | 0, listed, a, w, h => h
  | u + 1, listed, a, w, h => ⟨h.1, fun i hi => wpOpIn_mono (fun a w hh => any_in hQ hd u _ hh) (op_in hQ hd (h.2 i hi))⟩
theorem draw_in {id : Nat} {a : Act} {w : World} (hm : P.follows .mixedOrders = true) (hQ : ¬ LetsOut Q) (hd : ops.toList.all noDefer = true) (h : wpAny P .any ops Q ops.size (Array.replicate ops.size false) a { w with drawn := w.drawn + 1 }) : (Code.region id ops true).wpIn (Fw r) n P Q a w :=
  wpIn_region_any hm (any_in hQ hd _ _ h)
end
def codeNd : Code → Bool
  | .region _ ops _ => ops.toList.all noDefer
  | .seq x y => codeNd x && codeNd y
  | .cond _ x y => codeNd x && codeNd y
  | .block _ x => codeNd x
  | .loop x => codeNd x
  | _ => true
section
variable {ps : Hp × Mu × World} {E : Env} {c : Cx}
theorem awp_soundIn (hE : EnvOk E) (hc : c.P = E.P) (hΦ : FvOk c E.Φ) {r : Option Nat} {m : Nat} : ∀ (x : Code) {Q : Exit → St → Prop} {Q' : Exit → Act → World → Prop} {σ : St} {μ : Mu} {a : Act} {w : World}, codeOk E.nt x = true → codeNd x = true → ¬ LetsOut Q' → awp E x Q σ → Sim ps E c σ μ a w →
    (∀ e σ μ a w, Q e σ → Sim ps E c σ μ a w → Q' e a w) → x.wpIn (Fw r) m c.P Q' a w := by
  intro x
  induction x with
  | skip => intro Q Q' σ μ a w _ _ _ hk S hQ; exact wpIn_skip (hQ _ _ _ _ _ hk S)
  | region id ops draw =>
    intro Q Q' σ μ a w hok hnd hlo hk S hQ
    simp only [codeOk, List.all_eq_true] at hok
    simp only [codeNd] at hnd
    simp only [awp] at hk
    cases draw with
    | false =>
      simp only [Bool.false_eq_true, if_false] at hk
      exact region_in hlo hnd (ops_sound hE hc hΦ ops (fun σ μ a w => hQ _ σ μ a w) _ (fun o ho => hok o ho) hk S)
    | true =>
      simp only [if_true] at hk
      refine draw_in (by rw [hc]; exact hE.mixed) hlo hnd ?_
      have hb : Below w.heap.size w { w with drawn := w.drawn + 1 } := (Below.refl _ w).drew
      have H2 := S.hs.below hb
      cases hdr : drawOk ops with
      | true =>
        simp only [hdr, if_true] at hk
        exact draw_sound hE hc hΦ hdr (fun o ho => hok o ho) (fun σ μ a w => hQ _ σ μ a w) hk ⟨H2.1, fun i => H2.2.R (S.tm i), S.nt, S.df, S.ex.trans H2.2⟩
      | false =>
        simp only [hdr, Bool.false_eq_true, if_false] at hk
        rcases hk with ⟨hdx, hk⟩ | ⟨hdx, hk⟩
        · exact drawX_sound hE hc hΦ hdx (fun o ho => hok o ho) (fun σ μ a w => hQ _ σ μ a w) hk ⟨H2.1, fun i => H2.2.R (S.tm i), S.nt, S.df, S.ex.trans H2.2⟩
        · exact drawY_sound hE hc hΦ hdx (fun o ho => hok o ho) (fun σ μ a w => hQ _ σ μ a w) hk ⟨H2.1, fun i => H2.2.R (S.tm i), S.nt, S.df, S.ex.trans H2.2⟩
  | seq x y ihx ihy =>
    intro Q Q' σ μ a w hok hnd hlo hk S hQ
    simp only [codeOk, codeNd, Bool.and_eq_true] at hok hnd
    simp only [awp] at hk
    obtain ⟨I, hx, hy⟩ := hk
    refine wpIn_seq (ihx hok.1 hnd.1 (fun ⟨a, w, hq⟩ => hlo ⟨a, w, hq⟩) hx S ?_)
    intro e σ μ a w hq S
    cases e with
    | normal =>
      obtain ⟨σ1, hg, hy⟩ := hy _ hq
      obtain ⟨μ1, S⟩ := gh_sim hg S
      exact ihy hok.2 hnd.2 hlo hy S hQ
    | _ => exact hQ _ _ _ _ _ hq S
  | cond b x y ihx ihy =>
    intro Q Q' σ μ a w hok hnd hlo hk S hQ
    simp only [codeOk, codeNd, Bool.and_eq_true] at hok hnd
    simp only [awp] at hk
    have hb : R c σ.h μ w (ev σ.t b) (a.eval b) := Rp.ev S.tm b
    split at hk
    · rename_i t ht
      rw [ht] at hb
      refine wpIn_cond hb.s_eq.1 ?_
      cases t with
      | true => exact ihx hok.1 hnd.1 hlo (hk.1 rfl) S hQ
      | false => exact ihy hok.2 hnd.2 hlo (hk.2 rfl) S hQ
    · exact hk.elim
  | block id x ih =>
    intro Q Q' σ μ a w hok hnd hlo hk S hQ
    simp only [codeOk] at hok
    simp only [codeNd] at hnd
    simp only [awp] at hk
    refine wpIn_block (ih hok hnd (fun ⟨a, w, hq⟩ => hlo ⟨a, w, hq⟩) hk S ?_)
    intro e σ μ a w hq S
    cases e with
    | exit id' =>
      simp only [blockQ, Exit.inBlock] at hq ⊢
      split
      · rename_i h; rw [if_pos h] at hq; exact hQ _ _ _ _ _ hq S
      · rename_i h; rw [if_neg h] at hq; exact hQ _ _ _ _ _ hq S
    | _ => exact hQ _ _ _ _ _ hq S
  | loop x ih =>
    intro Q Q' σ μ a w hok hnd hlo hk S hQ
    simp only [codeOk] at hok
    simp only [codeNd] at hnd
    simp only [awp] at hk
    obtain ⟨I, m1, σ1, hg, hI, hk⟩ := hk
    obtain ⟨μ1, S⟩ := gh_sim hg S
    have hlo' : ∀ n, ¬ LetsOut (Exit.then (Code.roundsIn (Fw r) m c.P x Q' n) Q') := fun n ⟨a, w, hq⟩ => hlo ⟨a, w, hq⟩
    have key : ∀ (n : Nat) {σ : St} {μ : Mu} {a : Act} {w : World}, I σ → m1 σ < n → Sim ps E c σ μ a w → Code.roundsIn (Fw r) m c.P x Q' n a w := by
      intro n
      induction n with
      | zero => intro σ μ a w _ h; exact absurd h (Nat.not_lt_zero _)
      | succ n ihn =>
        intro σ μ a w hI hm S
        rw [roundsIn_succ]
        refine ih hok hnd (hlo' n) (hk σ hI) S ?_
        intro e σ' μ' a' w' hq S'
        cases e with
        | normal => exact ihn hq.1 (by have := hq.2; omega) S'
        | _ => exact hQ _ _ _ _ _ hq S'
    exact wpIn_loop_rounds (m1 σ1 + 1) (key _ hI (Nat.lt_succ_self _) S)
  | exit id => intro Q Q' σ μ a w _ _ _ hk S hQ; exact wpIn_exit (hQ _ _ _ _ _ hk S)
  | ret => intro Q Q' σ μ a w _ _ _ hk S hQ; exact wpIn_ret (hQ _ _ _ _ _ hk S)
  | _ => intro Q Q' σ μ a w hok; simp [codeOk] at hok
end
end Go.Proofs.Ytahgddfnbjpfiaa.Am

/- An abstract machine over values: what a range over a function asks of its states; a region with operations of another kind among its quiet ones. -/
set_option linter.unusedVariables false
set_option linter.unusedSimpArgs false
namespace Go.Proofs.Ytahgddfnbjpfiaa.Am
open Go Go.RowKit

theorem Dp.cells {w w' : World} {ok ok' : Nat → Prop} {v : V} {x : Value} (h : Dp w ok v x) (hc : ∀ p y, w.cell? p = some y → w'.cell? p = some y) (hok : ∀ k, ok k → ok' k) : Dp w' ok' v x := by
  induction h with
  | s v h => exact .s v h
  | sl rows n c size A g hn hc' hs hA hr ih =>
    refine .sl rows n c size A g hn hc' hs (fun h => ?_) ih
    obtain ⟨ad, rfl, hk, hcell⟩ := hA h
    exact ⟨ad, rfl, hok _ hk, fun i j hi hj => hc _ _ (hcell i j hi hj)⟩
theorem Rp.cells {fvals : Nat → Value} {w w' : World} {ok ok' : Nat → Prop} {μ : Mu} {v : V} {x : Value} (h : Rp fvals w ok μ v x) (hc : ∀ p y, w.cell? p = some y → w'.cell? p = some y) (hok : ∀ k, ok k → ok' k) : Rp fvals w' ok' μ v x := by
  induction h with
  | undef => exact .undef
  | any x => exact .any x
  | s v h => exact .s v h
  | cap0 A => exact .cap0 A
  | sl rows n c size A g hn hc' hs hA hr =>
    refine .sl rows n c size A g hn hc' hs (fun h => ?_) (fun i j hi hj => (hr i j hi hj).cells hc hok)
    obtain ⟨ad, rfl, hk, hcell⟩ := hA h
    exact ⟨ad, rfl, hok _ hk, fun i j hi hj => hc _ _ (hcell i j hi hj)⟩
  | agg cs xs hl h ih => exact .agg cs xs hl ih
  | tup cs xs hl h ih => exact .tup cs xs hl ih
  | pc cells ad g hb hc' hr => exact .pc cells ad g (hok _ hb) (fun j hj => hc _ _ (hc' j hj)) (fun j hj => (hr j hj).cells hc hok)
  | ptr b row col k base size h => exact .ptr b row col k base size h
  | loc b off len cap k base size h hc' => exact .loc b off len cap k base size h hc'
  | loc0 b off A t h => exact .loc0 b off A t h
  | fn f caps xs hl h ih => exact .fn f caps xs hl ih
  | fv k => exact .fv k
  | glb g => exact .glb g
  | mp k => exact .mp k
section
variable {c : Cx} {h : Hp} {n : Nat} {μ : Mu} {w w' : World}
/-- A step of the book-keeping: new blocks, and one block that is no cells. -/
theorem HS.grown (H : HS c h n μ w) {row : Option Nat} (g : w.grownBy w' row) (hr : ∀ r, row = some r → c.w0.heap.size ≤ r ∧ ∃ o : Obj, w.heap[r]? = some o ∧ o.isCells = false) :
    HS c h n μ w' ∧ ∀ v x, R c h μ w v x → R c h μ w' v x := by
  have hc : ∀ p y, w.cell? p = some y → w'.cell? p = some y := fun p y hp => cell_kept hp g fun r e => (hr r e).2
  have hok : ∀ k, okB c h μ w k → okB c h μ w' k := fun k hk => ⟨hk.1, Nat.lt_of_lt_of_le hk.2.1 g.size, hk.2.2⟩
  refine ⟨⟨⟨g.os.trans H.fr.os, g.tape.trans H.fr.tape, g.output.trans H.fr.output, Nat.le_trans H.fr.size g.size, fun k hk hx => ?_⟩, H.hfresh, H.mfresh, fun b B hB => ?_, H.inj⟩, fun v x r => r.cells hc hok⟩
  · rw [g.block k (Nat.lt_of_lt_of_le hk H.fr.size) (fun e => by have := (hr k e.symm).1; omega)]
    exact H.fr.block k hk hx
  · rcases H.blk b B hB with ⟨h1, h2⟩ | ⟨k, base, h1, h2, h3, h4, h5⟩
    · exact .inl ⟨h1, h2⟩
    · refine .inr ⟨k, base, h1, Nat.lt_of_lt_of_le h2 g.size, h3, h4, fun i j hi hj => ?_⟩
      obtain ⟨x, hx, hz, hR⟩ := h5 i j hi hj
      have hne : some k ≠ row := fun e => by
        obtain ⟨_, o, ho, hcl⟩ := hr k e.symm
        have : w.cell? ⟨k, base + (i * B.size + j), none⟩ = none := by
          unfold World.cell?
          rw [ho]
          cases o <;> first | rfl | cases hcl
        rw [this] at hx
        cases hx
      exact ⟨x, hc _ _ hx, fun o ho => by rw [← hz o ho]; exact frozen_same (g.block k h2 hne), hR.cells hc hok⟩
/-- Some blocks alone are kept. -/
theorem HS.keepOnly (H : HS c h n μ w) (p : Nat → Bool) : HS c (fun b => if p b then h b else none) n μ w ∧ Ext c h μ w (fun b => if p b then h b else none) μ w := by
  have hsub : ∀ b B, (if p b then h b else none) = some B → h b = some B := fun b B hb => by
    split at hb
    · exact hb
    · cases hb
  refine H.step (Fr.refl _ _) (fun _ _ h => h) H.mfresh ?_ ?_ (fun e b2 B2 hB => ?_) ?_
  · intro b2 hb2
    show (if p b2 then h b2 else none) = none
    split
    · exact H.hfresh b2 hb2
    · rfl
  · rintro q ⟨b2, B2, base2, size2, h1, h2, h3⟩
    exact .inl ⟨b2, B2, base2, size2, hsub _ _ h1, h2, h3⟩
  · exact (H.blk b2 B2 (hsub _ _ hB)).keep e (Nat.le_refl _) fun _ _ _ _ => rfl
  · intro b1 b2 B1 B2 q base1 size1 base2 size2 h1 h2 h3 h4 h5
    exact H.inj _ _ _ _ _ _ _ _ _ (hsub _ _ h1) (hsub _ _ h2) h3 h4 h5
end

theorem rep_getD {n j : Nat} (h : j < n) : (Array.replicate n false).getD j true = false := by simp [h]
/-- All but the last operation quiet (in a sense that is handed in), the last behind them all. -/
def awpG (E : Env) (qq : Op → (Operand → V) → V → Prop) (ops : Array Oper) : List Oper → (St → Prop) → St → Prop
  | [], K, σ => K σ
  | [o], K, σ => gd ops o σ (aop E o.op σ fun v σ' => K (putS o.dst v σ')) (K (putS o.dst .undef σ))
  | o :: o2 :: rest, K, σ => gd ops o σ (∃ v, qq o.op (ev σ.t) v ∧ awpG E qq ops (o2 :: rest) K (putS o.dst v σ)) (awpG E qq ops (o2 :: rest) K (putS o.dst .undef σ))
def drawG (ops : Array Oper) : Bool :=
  (List.range ops.size).all fun i => match ops[i]? with
    | none => false
    | some o => (o.after.all fun e => !Region.binds .any e || decide (e.on < i)) && ((List.range ops.size).all fun j => match (ops[j]?).bind (·.dst) with
      | some d => (!(o.looksAt ops).contains d || (decide (j < i) && reach ops i j)) && (j == i || o.dst != some d)
      | none => true) && (i + 1 != ops.size || (List.range i).all fun j => reach ops i j)
theorem drawG_at {ops : Array Oper} (h : drawG ops = true) {i : Nat} {o : Oper} (hi : ops[i]? = some o) : (∀ e ∈ o.after, Region.binds .any e = true → e.on < i) ∧ (∀ j oj d, ops[j]? = some oj → oj.dst = some d → (d ∈ o.looksAt ops → j < i ∧ Reach ops i j) ∧ (j = i ∨ o.dst ≠ some d)) ∧ (i + 1 = ops.size → ∀ j, j < i → Reach ops i j) := by
  have hlt : i < ops.size := (Array.getElem?_eq_some_iff.1 hi).1
  unfold drawG at h
  rw [List.all_eq_true] at h
  have h1 := h i (by simpa using hlt)
  rw [hi] at h1
  simp only [Bool.and_eq_true, Array.all_eq_true, List.all_eq_true] at h1
  obtain ⟨⟨h2, h4⟩, h6⟩ := h1
  refine ⟨fun e he hb => ?_, fun j oj d hj hd => ?_, fun he j hj => ?_⟩
  · obtain ⟨k, hk, rfl⟩ := Array.getElem_of_mem he
    have := h2 k hk
    simpa [hb] using this
  · have h5 := h4 j (by simpa using (Array.getElem?_eq_some_iff.1 hj).1)
    simp only [hj, Option.bind_some, hd, Bool.and_eq_true, Bool.or_eq_true, Bool.not_eq_true', decide_eq_true_eq] at h5
    refine ⟨fun hm => ?_, ?_⟩
    · rcases h5.1 with h6 | h6
      · rw [List.contains_iff_mem.2 hm] at h6; cases h6
      · exact ⟨h6.1, reach_of h6.2⟩
    · rcases h5.2 with h6 | h6
      · exact .inl (by simpa using h6)
      · exact .inr (by simpa using h6)
  · simp only [Bool.or_eq_true, bne_iff_ne, ne_eq, he, not_true_eq_false, false_or, List.all_eq_true] at h6
    exact reach_of (h6 j (by simpa using hj))
def gdvG (qq : Op → (Operand → V) → V → Prop) (ops : Array Oper) (o : Oper) (t : Nat → V) (v : V) : Prop :=
  ∃ b, wantA ops o t b ∧ (b = true → qq o.op (ev t) v) ∧ (b = false → v = .undef)
theorem gdvG_of_gd {qq : Op → (Operand → V) → V → Prop} {ops : Array Oper} {o : Oper} {σ : St} {K : St → Prop} (hg : gd ops o σ (∃ v, qq o.op (ev σ.t) v ∧ K (putS o.dst v σ)) (K (putS o.dst .undef σ))) : ∃ v, gdvG qq ops o σ.t v ∧ K (putS o.dst v σ) := by
  unfold gd at hg
  split at hg
  · rename_i hgu
    obtain ⟨v, h1, h2⟩ := hg
    exact ⟨v, ⟨true, by simp [wantA, hgu], fun _ => h1, (fun h => by cases h)⟩, h2⟩
  · rename_i j want hgu
    split at hg
    · rename_i d hd
      split at hg
      · rename_i q hq
        by_cases hqw : q = want
        · obtain ⟨v, h1, h2⟩ := hg.1 hqw
          exact ⟨v, ⟨true, (by simp only [wantA, hgu]; exact ⟨d, hd, .inl ⟨q, hq, by simp [hqw]⟩⟩), fun _ => h1, (fun h => by cases h)⟩, h2⟩
        · exact ⟨.undef, ⟨false, (by simp only [wantA, hgu]; exact ⟨d, hd, .inl ⟨q, hq, by simp [hqw]⟩⟩), (fun h => by cases h), fun _ => rfl⟩, hg.2 hqw⟩
      · rename_i hq
        exact ⟨.undef, ⟨false, (by simp only [wantA, hgu]; exact ⟨d, hd, .inr ⟨hq, trivial⟩⟩), (fun h => by cases h), fun _ => rfl⟩, hg⟩
      · exact hg.elim
    · exact hg.elim
/-- The values in the listed order; the last operation at their end. -/
theorem headG (E : Env) (qq : Op → (Operand → V) → V → Prop) (ops : Array Oper) {K : St → Prop} {h : Hp} {n : Nat} (ol : Oper) : ∀ (l : List Oper) (t : Nat → V), awpG E qq ops (l ++ [ol]) K ⟨t, h, n⟩ →
    ∃ (vs : Nat → V) (ts : Nat → Nat → V), ts 0 = t ∧ (∀ i o, l[i]? = some o → gdvG qq ops o (ts i) (vs i) ∧ ts (i + 1) = (putS o.dst (vs i) ⟨ts i, h, n⟩).t) ∧ awpG E qq ops [ol] K ⟨ts l.length, h, n⟩ := by
  intro l
  induction l with
  | nil => intro t hk; exact ⟨fun _ => .undef, fun _ => t, rfl, fun i o h => by simp at h, hk⟩
  | cons o l ih =>
    intro t hk
    have hk' : gd ops o ⟨t, h, n⟩ (∃ v, qq o.op (ev t) v ∧ awpG E qq ops (l ++ [ol]) K (putS o.dst v ⟨t, h, n⟩)) (awpG E qq ops (l ++ [ol]) K (putS o.dst .undef ⟨t, h, n⟩)) := by
      cases l with
      | nil => exact hk
      | cons o2 l => exact hk
    obtain ⟨v, h1, h2⟩ := gdvG_of_gd (σ := ⟨t, h, n⟩) (K := awpG E qq ops (l ++ [ol]) K) hk'
    rw [put_eq] at h2
    obtain ⟨vs, ts, g1, g2, g3⟩ := ih _ h2
    refine ⟨fun i => match i with | 0 => v | i + 1 => vs i, fun i => match i with | 0 => t | i + 1 => ts i, rfl, fun i o' hi => ?_, g3⟩
    cases i with
    | zero => simp at hi; subst hi; exact ⟨h1, by simp only [Nat.zero_add]; rw [g1]⟩
    | succ i => exact g2 i o' (by simpa using hi)
section
variable {ps : Hp × Mu × World} {E : Env} {c : Cx}
theorem G_sound (hE : EnvOk E) (hc : c.P = E.P) (hΦ : FvOk c E.Φ) {qq : Op → (Operand → V) → V → Prop} {ops : Array Oper} (hcongr : ∀ op e e' v, (∀ x ∈ op.operands, e x = e' x) → qq op e v → qq op e' v)
    (hok : drawG ops = true) (hd : ∀ o ∈ ops.toList, dstOk E.nt o = true) {l : List Oper} {ol : Oper} (hl : ops.toList = l ++ [ol]) {Q : Exit → Act → World → Prop} {K : St → Prop} (hQ : ∀ σ μ a w, K σ → Sim ps E c σ μ a w → Q .normal a w)
    {t0 : Nat → V} {h : Hp} {n : Nat} {μ : Mu}
    (hqq : ∀ (t : Nat → V) (v : V) (a : Act) (w1 : World) (o : Oper) (next : Act → World → Prop), o ∈ ops.toList → HS c h n μ w1 → Ext c ps.1 ps.2.1 ps.2.2 h μ w1 → (∀ i, R c h μ w1 (t i) (a.tmps.getD i Go.undef)) → qq o.op (ev t) v → (∀ x w2, HS c h n μ w2 → Ext c h μ w1 h μ w2 → R c h μ w2 v x → next (a.put o.dst x) w2) → o.wp c.P a w1 next Q)
    (hk : awpG E qq ops ops.toList K ⟨t0, h, n⟩) {a : Act} {w : World} (S : Sim ps E c ⟨t0, h, n⟩ μ a w) : wpAny c.P .any ops Q ops.size (Array.replicate ops.size false) a w := by
  rw [hl] at hk
  obtain ⟨vs, ts, hts0, hvs, hK⟩ := headG E qq ops ol l t0 hk
  have hsz : ops.size = l.length + 1 := by rw [← Array.length_toList, hl]; simp
  have hget : ∀ i o, i < l.length → (ops[i]? = some o ↔ l[i]? = some o) := fun i o hi => by
    rw [← Array.getElem?_toList, hl, List.getElem?_append_left hi]
  have hlast : ops[l.length]? = some ol := by rw [← Array.getElem?_toList, hl]; simp
  have hagree : ∀ i, i ≤ l.length → (∀ j o d, j < i → ops[j]? = some o → o.dst = some d → ts i d = vs j) ∧ ∀ d, (∀ j o, j < i → ops[j]? = some o → o.dst ≠ some d) → ts i d = t0 d := by
    intro i
    induction i with
    | zero => intro _; exact ⟨fun j o d hj => absurd hj (Nat.not_lt_zero _), fun d _ => by rw [hts0]⟩
    | succ i ih =>
      intro hi
      obtain ⟨b1, b2⟩ := ih (by omega)
      have hio : ops[i]? = some (ops[i]'(by omega)) := Array.getElem?_eq_getElem (by omega)
      generalize (ops[i]'(by omega)) = oi at hio
      obtain ⟨_, g3⟩ := hvs i _ ((hget i _ (by omega)).1 hio)
      refine ⟨fun j o d hj ho hdd => ?_, fun d hdd => ?_⟩
      · rw [g3, put_t]
        by_cases hji : j = i
        · subst hji
          rw [hio] at ho
          cases ho
          rw [if_pos hdd]
        · have hne := ((drawG_at hok hio).2.1 j o d ho hdd).2
          rw [if_neg (by rcases hne with h5 | h5; exact absurd h5 hji; exact h5)]
          exact b1 j o d (by omega) ho hdd
      · rw [g3, put_t, if_neg (hdd i oi (by omega) hio)]
        exact b2 d fun j o hj ho => hdd j o (by omega) ho
  have main : ∀ (u : Nat) (listed : Array Bool) {t : Nat → V} {a : Act} {w : World}, ((List.range ops.size).countP fun i => !listed.getD i true) = u → listed.size = ops.size → listed.getD l.length true = false →
      (∀ (i : Nat) (o : Oper), listed.getD i false = true → ops[i]? = some o → ∀ e ∈ o.after, Region.binds .any e = true → listed.getD e.on false = true) →
      (∀ j o d, j < l.length → ops[j]? = some o → o.dst = some d → t d = if listed.getD j true = true then vs j else t0 d) → (∀ d, (∀ (j : Nat) (o : Oper), j < l.length → ops[j]? = some o → o.dst ≠ some d) → t d = t0 d) →
      Sim ps E c ⟨t, h, n⟩ μ a w → wpAny c.P .any ops Q u listed a w := by
    intro u
    induction u with
    | zero =>
      intro listed t a w hu hls hlt hcl hA hB S
      have := List.countP_eq_zero.1 hu l.length (by simp; omega)
      simp only [hlt] at this
      exact absurd rfl this
    | succ u ih =>
      intro listed t a w hu hls hlt hcl hA hB S
      have htf : ∀ j, j < ops.size → listed.getD j true = listed.getD j false := fun j hj => by
        have : j < listed.size := by omega
        simp [this]
      obtain ⟨m, hm1, hm2, hm3⟩ : ∃ m, m < ops.size ∧ listed.getD m true = false ∧ ∀ j, j < m → listed.getD j true = true := by
        have key : ∀ k, (∃ m, m < k ∧ m < ops.size ∧ listed.getD m true = false) → ∃ m, m < ops.size ∧ listed.getD m true = false ∧ ∀ j, j < m → listed.getD j true = true := by
          intro k
          induction k with
          | zero => rintro ⟨m, h, _⟩; omega
          | succ k ihk =>
            rintro ⟨m, h1, h2, h3⟩
            by_cases hb : ∃ m, m < k ∧ m < ops.size ∧ listed.getD m true = false
            · exact ihk hb
            · refine ⟨m, h2, h3, fun j hj => ?_⟩
              cases hq : listed.getD j true with
              | true => rfl
              | false => exact absurd ⟨j, by omega, by omega, hq⟩ hb
        exact key (l.length + 1) ⟨l.length, by omega, by omega, hlt⟩
      have hmo : ops[m]? = some (ops[m]'(by omega)) := Array.getElem?_eq_getElem (by omega)
      have hmr : m ∈ Region.ready .any ops listed := mem_ready.2 ⟨hm2, _, hmo, fun e he hb => by
        have h1 := (drawG_at hok hmo).1 e he hb
        rw [← htf _ (by omega)]
        exact hm3 _ h1⟩
      refine ⟨fun h0 => (by rw [h0] at hmr; cases hmr), fun i hi => ?_⟩
      obtain ⟨hiu, o, hio, hwait⟩ := mem_ready.1 hi
      have hilt : i < ops.size := (Array.getElem?_eq_some_iff.1 hio).1
      have hils : i < listed.size := by omega
      have hmem : o ∈ ops.toList := by rw [Array.getElem?_eq_some_iff] at hio; obtain ⟨_, rfl⟩ := hio; simp
      have hdo : ∀ d, o.dst = some d → d < E.nt := by
        intro d hd'
        have := hd o hmem
        simp [dstOk, hd'] at this
        exact this
      obtain ⟨_, hpair, hall⟩ := drawG_at hok hio
      have hreach : ∀ j, j < ops.size → Reach ops i j → listed.getD j true = true := fun j hj hr => by
        rw [htf j hj]
        exact reach_listed hcl hr fun o' ho' => by rw [hio] at ho'; cases ho'; exact hwait
      have hcount : ((List.range ops.size).countP fun j => !(listed.setIfInBounds i true).getD j true) = u := by
        have := countP_flip (f := fun j => !listed.getD j true) (g := fun j => !(listed.setIfInBounds i true).getD j true) (i := i) (by simp only [hiu]; rfl) (by simp only [set_same hils]; rfl) (fun j hj => by simp only [getD_set_ne true (fun e => hj e.symm)]) ops.size hilt
        omega
      unfold wpOp
      rw [hio]
      simp only
      by_cases hil : i = l.length
      · subst hil
        rw [hlast] at hio
        cases hio
        have hallT : ∀ j, j < ops.size → (listed.setIfInBounds l.length true).getD j true = true := by
          intro j hj
          by_cases hje : j = l.length
          · subst hje; exact set_same hils _
          · rw [getD_set_ne true (fun e => hje e.symm)]
            exact hreach j hj (hall (by omega) j (by omega))
        have hu0 : u = 0 := by
          rw [← hcount, List.countP_eq_zero]
          intro j hj
          rw [hallT j (by simpa using hj)]
          simp
        subst hu0
        have hte : t = ts l.length := by
          funext d
          obtain ⟨b1, b2⟩ := hagree l.length (Nat.le_refl _)
          by_cases hex : ∃ (j : Nat) (oj : Oper), j < l.length ∧ ops[j]? = some oj ∧ oj.dst = some d
          · obtain ⟨j, oj, hjl, hoj, hdd⟩ := hex
            rw [hA j oj d hjl hoj hdd, if_pos (hreach j (by omega) (hall (by omega) j (by omega))), b1 j oj d hjl hoj hdd]
          · rw [hB d fun j oj hjl hoj hdd => hex ⟨j, oj, hjl, hoj, hdd⟩, b2 d fun j oj hjl hoj hdd => hex ⟨j, oj, hjl, hoj, hdd⟩]
        subst hte
        have hrdy : Region.ready .any ops (listed.setIfInBounds l.length true) = [] := by
          rw [List.eq_nil_iff_forall_not_mem]
          intro i hi
          obtain ⟨h1, o, h2, _⟩ := mem_ready.1 hi
          exact bool_tf (hallT i (Array.getElem?_eq_some_iff.1 h2).1) h1
        have hK2 : gd ops ol ⟨ts l.length, h, n⟩ (aop E ol.op ⟨ts l.length, h, n⟩ fun v σ' => K (putS ol.dst v σ')) (K (putS ol.dst .undef ⟨ts l.length, h, n⟩)) := hK
        rcases gd_wanted ops (n := n) S.tm hK2 with ⟨h1, h2⟩ | ⟨h1, h2⟩
        · rw [if_pos h1]
          refine .inl (op_sound hE hc hΦ S h2 ?_)
          intro v h' n' μ' x w' g1 g2 g3 g4
          exact ⟨hrdy, hQ _ _ _ _ g1 (S.put g2 g3 g4 hdo)⟩
        · rw [if_neg (by simp [h1])]
          exact ⟨hrdy, hQ _ _ _ _ h2 (S.put S.hs (Ext.refl _ _ _ _) .undef hdo)⟩
      · have hin : i < l.length := by omega
        have hmono : ∀ k, listed.getD k false = true → (listed.setIfInBounds i true).getD k false = true := by
          intro k hk
          by_cases hki : k = i
          · subst hki; exact set_same hils _
          · rw [getD_set_ne false (fun e => hki e.symm)]; exact hk
        have hcl' : ∀ (j : Nat) (oj : Oper), (listed.setIfInBounds i true).getD j false = true → ops[j]? = some oj → ∀ e ∈ oj.after, Region.binds .any e = true → (listed.setIfInBounds i true).getD e.on false = true := by
          intro j oj hl hoj e he hb
          by_cases hji : j = i
          · subst hji
            rw [hoj] at hio
            cases hio
            exact hmono _ (hwait e he hb)
          · rw [getD_set_ne false (fun e => hji e.symm)] at hl
            exact hmono _ (hcl j oj hl hoj e he hb)
        have hlt' : (listed.setIfInBounds i true).getD l.length true = false := by rw [getD_set_ne true (fun e => hil e)]; exact hlt
        have hlook : ∀ d ∈ o.looksAt ops, ts i d = t d := by
          intro d hdl
          obtain ⟨b1, b2⟩ := hagree i (by omega)
          by_cases hex : ∃ (j : Nat) (oj : Oper), j < l.length ∧ ops[j]? = some oj ∧ oj.dst = some d
          · obtain ⟨j, oj, hjl, hoj, hdd⟩ := hex
            obtain ⟨h1, h2⟩ := (hpair j oj d hoj hdd).1 hdl
            rw [b1 j oj d h1 hoj hdd, hA j oj d hjl hoj hdd, if_pos (hreach j (by omega) h2)]
          · rw [b2 d fun j oj hj hoj hdd => hex ⟨j, oj, by omega, hoj, hdd⟩, hB d fun j oj hj hoj hdd => hex ⟨j, oj, hj, hoj, hdd⟩]
        obtain ⟨b, k1, k2, k3⟩ := (hvs i o ((hget i o hin).1 hio)).1
        have k1 := wantA_congr hlook k1
        have hA' : ∀ j oj d, j < l.length → ops[j]? = some oj → oj.dst = some d → (putS o.dst (vs i) ⟨t, h, n⟩).t d = if (listed.setIfInBounds i true).getD j true = true then vs j else t0 d := by
          intro j oj d hjl hoj hdd
          rw [put_t]
          by_cases hji : j = i
          · subst hji
            rw [hio] at hoj
            cases hoj
            rw [if_pos hdd, if_pos (set_same hils _)]
          · rw [if_neg (by rcases (hpair j oj d hoj hdd).2 with h5 | h5; exact absurd h5 hji; exact h5), getD_set_ne true (fun e => hji e.symm)]
            exact hA j oj d hjl hoj hdd
        have hB' : ∀ d, (∀ (j : Nat) (o : Oper), j < l.length → ops[j]? = some o → o.dst ≠ some d) → (putS o.dst (vs i) ⟨t, h, n⟩).t d = t0 d := by
          intro d hdd
          rw [put_t, if_neg (hdd i o hin hio)]
          exact hB d hdd
        rcases gd_wanted ops (n := n) S.tm (gd_of_want k1) with ⟨h1, h2⟩ | ⟨h1, h2⟩
        · rw [if_pos h1]
          refine .inl (hqq t (vs i) a w o _ hmem S.hs S.ex S.tm (hcongr _ _ _ _ (ev_looks hlook) (k2 h2)) ?_)
          intro x w' g2 g3 g4
          refine ih _ hcount (by simp [hls]) hlt' hcl' hA' hB' ?_
          rw [← put_eq]
          exact S.put g2 g3 g4 hdo
        · rw [if_neg (by simp [h1])]
          refine ih _ hcount (by simp [hls]) hlt' hcl' hA' hB' ?_
          rw [← put_eq, k3 h2]
          exact S.put S.hs (Ext.refl _ _ _ _) .undef hdo
  have hcount : ((List.range ops.size).countP fun i => !(Array.replicate ops.size false).getD i true) = ops.size := by
    rw [List.countP_eq_length.2]
    · simp
    · intro i hi
      have : i < ops.size := List.mem_range.1 hi
      simp [this]
  refine main ops.size (Array.replicate ops.size false) (t := t0) hcount (by simp) (rep_getD (by omega)) ?_ ?_ (fun _ _ => rfl) S
  · intro j o hl ho
    have : j < ops.size := (Array.getElem?_eq_some_iff.1 ho).1
    simp [this] at hl
  · intro j o d hjl ho hdd
    have : j < ops.size := (Array.getElem?_eq_some_iff.1 ho).1
    rw [if_neg (by simp [this])]
end
/-- Operations that turn nothing, in their order: the world stays. -/
def pwL (E : Env) (h : Hp) : List Oper → ((Nat → V) → Prop) → (Nat → V) → Prop
  | [], K, t => K t
  | o :: rest, K, t => (o.guard = none ∧ noDefer o = true) ∧ ∃ d v, o.dst = some d ∧ pval E.P E.plain h (ev t) o.op = some v ∧ pwL E h rest K (upd t d v)
theorem put_R {c : Cx} {h : Hp} {μ : Mu} {w : World} {t : Nat → V} {a : Act} (ht : ∀ i, R c h μ w (t i) (a.tmps.getD i Go.undef)) {d : Nat} (hd : d < a.tmps.size) {v : V} {x : Value} (hx : R c h μ w v x) : ∀ i, R c h μ w (upd t d v i) ((a.put (some d) x).tmps.getD i Go.undef) := by
  intro i
  simp only [Act.put]
  by_cases hid : i = d
  · subst hid
    rw [upd_same]
    have : (a.tmps.setIfInBounds i x).getD i Go.undef = x := by simp [hd]
    rw [this]
    exact hx
  · rw [upd_ne _ _ _ _ hid]
    have : (a.tmps.setIfInBounds d x).getD i Go.undef = a.tmps.getD i Go.undef := by
      simp only [Array.getD_eq_getD_getElem?, Array.getElem?_setIfInBounds]
      rw [if_neg (by omega)]
    rw [this]
    exact ht i
theorem pure_listIn {E : Env} (hE : PlainOk E.P E.plain) {c : Cx} (hc : c.P = E.P) {h : Hp} {n : Nat} {μ : Mu} {w : World} (H : HS c h n μ w) {r : Option Nat} {m : Nat} {ops : Array Oper} {Q : Exit → Act → World → Prop} {l2 : List Oper} {K : (Nat → V) → Prop} {nt : Nat} :
    ∀ (l : List Oper) {t : Nat → V} {a : Act}, (∀ o ∈ l, dstOk nt o = true) → a.tmps.size = nt → (∀ i, R c h μ w (t i) (a.tmps.getD i Go.undef)) → pwL E h l K t →
      (∀ t' a', K t' → a'.tmps.size = nt → a'.defers = a.defers → (∀ i, R c h μ w (t' i) (a'.tmps.getD i Go.undef)) → wpListIn (Fw r) m c.P ops Q l2 a' w) → wpListIn (Fw r) m c.P ops Q (l ++ l2) a w
  | [], t, a, _, hs, ht, hk, hn => hn t a hk hs rfl ht
  | o :: l, t, a, hd, hs, ht, hk, hn => by
    obtain ⟨⟨hg, hnd⟩, d, v, hdst, hv, hk⟩ := hk
    have hdn : d < a.tmps.size := by
      have h1 := hd o (by simp)
      unfold dstOk at h1
      rw [hdst] at h1
      have h2 := of_decide_eq_true h1
      rw [hs]
      exact h2
    rw [List.cons_append]
    unfold wpListIn
    rw [if_pos (by simp [Region.wanted, hg])]
    refine oper_in hnd ?_
    rw [← hc] at hv
    obtain ⟨x, h1, h2⟩ := pval_sound (by rw [hc]; exact hE) H (fun x => Rp.ev ht x) hv
    unfold Oper.wp
    rw [h1]
    show wpListIn (Fw r) m c.P ops Q (l ++ l2) (a.put o.dst x) w
    rw [hdst]
    refine pure_listIn hE hc H l (fun o ho => hd o (by simp [ho])) (by simp [Act.put, hs]) (put_R ht hdn h2) hk ?_
    intro t' a' k1 k2 k3 k4
    exact hn t' a' k1 k2 (by rw [k3]; rfl) k4
theorem pure_regionIn {E : Env} (hE : PlainOk E.P E.plain) {c : Cx} {P : Program} (hP : c.P = P) (hc : c.P = E.P) {h : Hp} {n : Nat} {μ : Mu} {w : World} (H : HS c h n μ w) {r : Option Nat} {m : Nat} {id : Nat} {ops : Array Oper} {Q : Exit → Act → World → Prop} (K : (Nat → V) → Prop) {nt : Nat}
    {t : Nat → V} {a : Act} (hd : ops.toList.all (dstOk nt) = true) (hs : a.tmps.size = nt) (ht : ∀ i, R c h μ w (t i) (a.tmps.getD i Go.undef)) (hk : pwL E h ops.toList K t)
    (hn : ∀ t' a', K t' → a'.tmps.size = nt → a'.defers = a.defers → (∀ i, R c h μ w (t' i) (a'.tmps.getD i Go.undef)) → Q .normal a' w) : (Code.region id ops false).wpIn (Fw r) m P Q a w := by
  subst hP
  refine wpIn_region_list ?_
  have := pure_listIn hE hc H (r := r) (m := m) (ops := ops) (Q := Q) (l2 := []) (K := K) (nt := nt) ops.toList (fun o ho => List.all_eq_true.1 hd o ho) hs ht hk hn
  rwa [List.append_nil] at this
theorem pure_headIn {E : Env} (hE : PlainOk E.P E.plain) {c : Cx} {P : Program} (hP : c.P = P) (hc : c.P = E.P) {h : Hp} {n : Nat} {μ : Mu} {w : World} (H : HS c h n μ w) {r : Option Nat} {m : Nat} {id : Nat} {ops : Array Oper} {Q : Exit → Act → World → Prop} (k : Nat) (K : (Nat → V) → Prop) {nt : Nat}
    {t : Nat → V} {a : Act} (hd : ops.toList.all (dstOk nt) = true) (hs : a.tmps.size = nt) (ht : ∀ i, R c h μ w (t i) (a.tmps.getD i Go.undef)) (hk : pwL E h (ops.toList.take k) K t)
    (hn : ∀ t' a', K t' → a'.tmps.size = nt → a'.defers = a.defers → (∀ i, R c h μ w (t' i) (a'.tmps.getD i Go.undef)) → wpListIn (Fw r) m P ops Q (ops.toList.drop k) a' w) : (Code.region id ops false).wpIn (Fw r) m P Q a w := by
  subst hP
  refine wpIn_region_list ?_
  have := pure_listIn hE hc H (r := r) (m := m) (ops := ops) (Q := Q) (l2 := ops.toList.drop k) (K := K) (nt := nt) (ops.toList.take k) (fun o ho => List.all_eq_true.1 hd o (List.mem_of_mem_take ho)) hs ht hk hn
  rwa [List.take_append_drop] at this
theorem listIn_cons {F : Fence} {m : Nat} {P : Program} {ops : Array Oper} {Q : Exit → Act → World → Prop} {o : Oper} {rest : List Oper} {a : Act} {w : World} (hg : o.guard = none) (h : o.wpIn F m P a w (wpListIn F m P ops Q rest) Q) : wpListIn F m P ops Q (o :: rest) a w := by
  unfold wpListIn
  rw [if_pos (by simp [Region.wanted, hg])]
  exact h
theorem yield_in {r : Option Nat} {m : Nat} {P : Program} {o : Oper} {cl : Call} {f : Operand} {l : Nat} {args : Array Value} {a : Act} {w : World} {next : Act → World → Prop} {Q : Exit → Act → World → Prop} {R' : Ending → World → Prop} (ho : o.op = .call cl) (hcal : cl.callee = .value f) (hf : a.eval f = .func (.yield l) #[] #[]) (ha : cl.args.map a.eval = args)
    (hy : YieldAt (Fw r) (m - 1) P l args w R') (hn : ∀ e w', R' e w' → ∃ v, e = .returned v ∧ next (a.put o.dst v) w') : o.wpIn (Fw r) m P a w next Q := by
  refine ⟨fun _ _ => trivial, ?_⟩
  rw [Oper.semAt_eq _ _ _ (fun c hc => by rw [ho] at hc; cases hc)]
  obtain ⟨fn, tmps, assign, body, h1, h2⟩ := hy
  have hrun : (execOp a.eval o).run P w = .ok (.round l fn tmps assign body) w := by
    rw [← ha] at h1
    simpa [execOp, ho, resolve, hcal, hf, Deferred.ofValue, invoke] using h1
  rw [hrun, Oper.uponIn_round]
  refine ⟨fun hh => absurd hh (by simp [Fw, Fence.wide]), h2.mono ?_⟩
  intro e w' hR
  obtain ⟨v, rfl, hv⟩ := hn e w' hR
  exact hv
theorem one_in {E : Env} (hE : PlainOk E.P E.plain) {c : Cx} {P : Program} (hP : c.P = P) (hc : c.P = E.P) {h : Hp} {n : Nat} {μ : Mu} {w : World} (H : HS c h n μ w) {r : Option Nat} {m : Nat} {o : Oper} {Q : Exit → Act → World → Prop} {next : Act → World → Prop}
    {t : Nat → V} {a : Act} {v : V} (ht : ∀ i, R c h μ w (t i) (a.tmps.getD i Go.undef)) (hnd : noDefer o = true) (hv : pval E.P E.plain h (ev t) o.op = some v) (hn : ∀ x, R c h μ w v x → next (a.put o.dst x) w) : o.wpIn (Fw r) m P a w next Q := by
  subst hP
  refine oper_in hnd ?_
  rw [← hc] at hv
  obtain ⟨x, h1, h2⟩ := pval_sound (by rw [hc]; exact hE) H (fun x => Rp.ev ht x) hv
  unfold Oper.wp
  rw [h1]
  exact hn x h2
theorem wpList_app {P : Program} {ops : Array Oper} {Q Q1 : Exit → Act → World → Prop} {l2 : List Oper} (hQ1 : ∀ a w, Q1 .normal a w → wpList P ops Q l2 a w) (hQe : ∀ e a w, e ≠ .normal → Q1 e a w → Q e a w) :
    ∀ (l : List Oper) {a : Act} {w : World}, wpList P ops Q1 l a w → wpList P ops Q (l ++ l2) a w
  | [], a, w, h => hQ1 a w h
  | o :: l, a, w, h => by
    rw [List.cons_append]
    unfold wpList at h ⊢
    have hlo : LetsOut Q1 → LetsOut Q := fun ⟨a, w, q⟩ => ⟨a, w, hQe _ _ _ (by simp) q⟩
    split at h
    · rename_i hw
      rw [if_pos hw]
      rcases h with h | ⟨h1, h2⟩
      · left
        have h3 := Oper.wp_mono (fun a w hh => wpList_app hQ1 hQe l hh) h
        unfold Oper.wp at h3 ⊢
        generalize (execOp _ o).run P w = x at h3 ⊢
        cases x with
        | ok y w' =>
          cases y <;> simp only [Oper.upon] at h3 ⊢ <;> first
            | exact h3
            | exact h3.mono (fun e w'' he => by cases e <;> first | exact he | exact hQe _ _ _ (by simp) he | exact hlo he)
        | halt y w' => cases y <;> simp only [Oper.upon] at h3 ⊢ <;> first | exact hQe _ _ _ (by simp) h3 | exact h3
      · exact .inr ⟨h1, hlo h2⟩
    · rename_i hw
      rw [if_neg hw]
      exact wpList_app hQ1 hQe l h
theorem list_cons {P : Program} {ops : Array Oper} {Q : Exit → Act → World → Prop} {o : Oper} {rest : List Oper} {a : Act} {w : World} (hg : o.guard = none) (h : o.wp P a w (wpList P ops Q rest) Q) : wpList P ops Q (o :: rest) a w := by
  unfold wpList
  rw [if_pos (by simp [Region.wanted, hg])]
  exact .inl h
section
variable {E : Env} {qq : Op → (Operand → V) → V → Prop} {ops : Array Oper} {K : St → Prop} {t : Nat → V} {h : Hp} {n : Nat}
theorem g_cons {o o2 : Oper} {rest : List Oper} {d : Nat} {v : V} (hg : o.guard = none) (hd : o.dst = some d) (hq : qq o.op (ev t) v) (k : awpG E qq ops (o2 :: rest) K ⟨upd t d v, h, n⟩) : awpG E qq ops (o :: o2 :: rest) K ⟨t, h, n⟩ := by
  unfold awpG gd
  rw [hg]
  refine ⟨v, hq, ?_⟩
  rw [hd]
  exact k
theorem g_last {o : Oper} (hg : o.guard = none) (k : aop E o.op ⟨t, h, n⟩ fun v σ' => K (putS o.dst v σ')) : awpG E qq ops [o] K ⟨t, h, n⟩ := by
  unfold awpG gd
  rw [hg]
  exact k
end
section
variable {ps : Hp × Mu × World} {E : Env} {c : Cx}
/-- .. and the variables that no operation sets hold what they held. -/
theorem ops_soundX (hE : EnvOk E) (hc : c.P = E.P) (hΦ : FvOk c E.Φ) (ops : Array Oper) (D : Nat → Prop) {Q : Exit → Act → World → Prop} {K : St → Prop} : ∀ (l : List Oper) {σ : St} {μ : Mu} {a : Act} {w : World},
    (∀ o ∈ l, dstOk E.nt o = true) → (∀ o ∈ l, ∀ d, o.dst = some d → ¬ D d) → awpOps E ops l K σ → Sim ps E c σ μ a w → (∀ σ' μ' a' w', K σ' → Sim ps E c σ' μ' a' w' → (∀ d, D d → a'.tmps.getD d Go.undef = a.tmps.getD d Go.undef) → Q .normal a' w') → wpList c.P ops Q l a w
  | [], σ, μ, a, w, _, _, hk, S, hQ => hQ σ μ a w hk S fun _ _ => rfl
  | o :: l, σ, μ, a, w, hd, hD, hk, S, hQ => by
    have hdo : ∀ d, o.dst = some d → d < E.nt := by
      intro d hd'
      have := hd o (by simp)
      simp [dstOk, hd'] at this
      exact this
    have hput : ∀ x d, D d → (a.put o.dst x).tmps.getD d Go.undef = a.tmps.getD d Go.undef := by
      intro x d hdd
      cases ho : o.dst with
      | none => rfl
      | some e =>
        have hne : e ≠ d := fun h => hD o (by simp) e ho (h ▸ hdd)
        simp only [Act.put, Array.getD_eq_getD_getElem?, Array.getElem?_setIfInBounds]
        rw [if_neg hne]
    unfold awpOps at hk
    unfold wpList
    rcases gd_wanted ops (n := σ.n) S.tm hk with ⟨h1, h2⟩ | ⟨h1, h2⟩
    · rw [if_pos h1]
      refine .inl (op_sound hE hc hΦ S h2 ?_)
      intro v h' n' μ' x w' g1 g2 g3 g4
      exact ops_soundX hE hc hΦ ops D l (fun o ho => hd o (by simp [ho])) (fun o ho => hD o (by simp [ho])) g1 (S.put g2 g3 g4 hdo) fun σ' μ' a' w' k1 k2 k3 => hQ σ' μ' a' w' k1 k2 fun d hdd => (k3 d hdd).trans (hput x d hdd)
    · rw [if_neg (by simp [h1])]
      exact ops_soundX hE hc hΦ ops D l (fun o ho => hd o (by simp [ho])) (fun o ho => hD o (by simp [ho])) h2 (S.put S.hs (Ext.refl _ _ _ _) .undef hdo) fun σ' μ' a' w' k1 k2 k3 => hQ σ' μ' a' w' k1 k2 fun d hdd => (k3 d hdd).trans (hput _ d hdd)
end
end Go.Proofs.Ytahgddfnbjpfiaa.Am

set_option linter.unusedVariables false
set_option linter.unusedSimpArgs false
set_option maxRecDepth 100000
set_option maxHeartbeats 4000000
namespace Go.Proofs.Ytahgddfnbjpfiaa
open Go Go.RowKit Am

/-- An Id as a map's key. -/
def keyV (x : Idt) : Value := .agg #[.string x.a, .int .i64 x.n]
def idE (x y : Idt) : Bool := (x.a.toList == y.a.toList) && (x.n == y.n)
theorem run_eqKey {plain : TypeId → Bool} (hp : PlainOk Try.prog plain) (hpl : plain 29 = true) (x y : Idt) (w : World) : (Op.equal 29 (keyV x) (keyV y)).run Try.prog w = .ok (idE x y) w := by
  have h := hp.eq 29 hpl #[.string ⟨#[]⟩, .int .i64 0] [.string x.a, .int .i64 x.n] [.string y.a, .int .i64 y.n] (idE x y) (by kernel_rfl) rfl rfl (by simp [eqL, idE]) w
  exact h
theorem run_checkId (x : Idt) (w : World) (e : Bool) : (Instr.checkKey e 10000 29 (keyV x)).run Try.prog w = .ok () w := by
  obtain ⟨fs, hu, hf⟩ : ∃ fs, Try.prog.underlying 29 = some (.struct fs) ∧ fs.toList.map (fun f => (f.name != "_", f.type, f.offset)) = [(true, 9, 0), (true, 3, 1)] := ⟨_, Try.underlying29, by kernel_rfl⟩
  obtain ⟨f1, f2, rfl, h1, h2⟩ : ∃ f1 f2 : Field, fs = #[f1, f2] ∧ (f1.name != "_", f1.type, f1.offset) = (true, 9, 0) ∧ (f2.name != "_", f2.type, f2.offset) = (true, 3, 1) := by
    obtain ⟨l⟩ := fs
    cases l with
    | nil => simp at hf
    | cons f1 l => cases l with
      | nil => simp at hf
      | cons f2 l => cases l with
        | nil => simp only [List.map_cons, List.map_nil, List.cons.injEq, and_true] at hf; exact ⟨f1, f2, rfl, hf.1, hf.2⟩
        | cons f3 l => simp at hf
  simp only [Prod.mk.injEq] at h1 h2
  have u1 := Try.underlying9
  have u2 := Try.underlying3
  have p1 : (part 9 #[.string x.a, .int .i64 x.n] 0).run Try.prog w = .ok (.string x.a) w := run_part_one (by kernel_rfl) (by simp)
  have p2 : (part 3 #[.string x.a, .int .i64 x.n] 1).run Try.prog w = .ok (.int .i64 x.n) w := run_part_one (by kernel_rfl) (by simp)
  have c1 : (Instr.checkKey e (9998 + 1) 9 (.string x.a)).run Try.prog w = .ok () w := by
    rw [Instr.checkKey]; simp only [Sem.run_bind, run_underlying u1, Result.andThen_ok]; rfl
  have c2 : (Instr.checkKey e (9998 + 1) 3 (.int .i64 x.n)).run Try.prog w = .ok () w := by
    rw [Instr.checkKey]; simp only [Sem.run_bind, run_underlying u2, Result.andThen_ok]; rfl
  have n1 : f1.name ≠ "_" := by simpa using h1.1
  have n2 : f2.name ≠ "_" := by simpa using h2.1
  unfold keyV
  rw [show 10000 = 9998 + 1 + 1 from rfl, Instr.checkKey]
  simp only [Sem.run_bind, run_underlying hu, Result.andThen_ok]
  rw [← Array.forIn_toList]
  simp only [List.forIn_cons, List.forIn_nil, Sem.run_bind, n1, n2, ne_eq, not_false_eq_true, if_true, h1.2.1, h1.2.2, h2.2.1, h2.2.2, p1, p2, c1, c2, Result.andThen_ok, Sem.run_pure]
theorem keep_key (x : Idt) (w : World) : (Instr.keyThatStays (keyV x) (keyV x)).run Try.prog w = .ok (keyV x) w := by
  have : Instr.sameBits 10000 (keyV x) (keyV x) = true := by
    have hb : (x.a == x.a) = true := by show (x.a.beq x.a) = true; unfold ByteArray.beq; simp
    simp [keyV, Instr.sameBits, hb]
  simp [Instr.keyThatStays, this, Sem.run, pure]
end Go.Proofs.Ytahgddfnbjpfiaa

set_option linter.unusedVariables false
set_option linter.unusedSimpArgs false
set_option maxRecDepth 100000
set_option maxHeartbeats 4000000
namespace Go.Proofs.Ytahgddfnbjpfiaa
open Go Go.RowKit Am

def esOf : List (Idt × Value) → Nat → List MapEntry
  | [], _ => []
  | m :: l, k => ⟨keyV m.1, m.2, k⟩ :: esOf l (k + 1)
def mapO (M : List (Idt × Value)) : Obj := .map (esOf M 0).toArray M.length
def fnd (x : Idt) : List (Idt × Value) → Nat → Option (Nat × Value)
  | [], _ => none
  | m :: l, i => if idE x m.1 then some (i, m.2) else fnd x l (i + 1)
theorem esOf_len : ∀ (M : List (Idt × Value)) (k : Nat), (esOf M k).length = M.length
  | [], _ => rfl
  | m :: l, k => by simp [esOf, esOf_len l]
theorem esOf_get : ∀ (M : List (Idt × Value)) (k i : Nat), (esOf M k)[i]? = M[i]?.map fun m => ⟨keyV m.1, m.2, k + i⟩
  | [], k, i => by simp [esOf]
  | m :: l, k, 0 => by simp [esOf]
  | m :: l, k, i + 1 => by simp only [esOf, List.getElem?_cons_succ, esOf_get l]; congr 1; funext m; rw [show k + 1 + i = k + (i + 1) by omega]
theorem esOf_app : ∀ (M : List (Idt × Value)) (k : Nat) (m : Idt × Value), esOf (M ++ [m]) k = esOf M k ++ [⟨keyV m.1, m.2, k + M.length⟩]
  | [], k, m => by simp [esOf]
  | m0 :: l, k, m => by simp only [List.cons_append, esOf, esOf_app l, List.length_cons]; rw [show k + 1 + l.length = k + (l.length + 1) by omega]
theorem idE_eq {x y : Idt} : idE x y = true ↔ x = y := by
  unfold idE
  rw [Bool.and_eq_true, beq_iff_eq, beq_iff_eq]
  constructor
  · rintro ⟨h1, h2⟩
    cases x; cases y
    have := Go.WideShapes.bytes_inj (by simpa only [ByteArray.toList_eq] using h1)
    simp only at this h2
    subst this; subst h2; rfl
  · rintro rfl; exact ⟨rfl, rfl⟩
theorem fnd_some {x : Idt} : ∀ {M : List (Idt × Value)} {k i : Nat} {v : Value}, fnd x M k = some (i, v) → k ≤ i ∧ M[i - k]? = some (x, v)
  | m :: l, k, i, v, h => by
    unfold fnd at h
    split at h
    · rename_i he
      cases h
      refine ⟨Nat.le_refl _, ?_⟩
      rw [Nat.sub_self, List.getElem?_cons_zero, idE_eq.1 he]
    · obtain ⟨h1, h2⟩ := fnd_some h
      refine ⟨by omega, ?_⟩
      rw [show i - k = (i - (k + 1)) + 1 by omega, List.getElem?_cons_succ]
      exact h2
theorem fnd_none {x : Idt} : ∀ {M : List (Idt × Value)} {k : Nat}, fnd x M k = none → ∀ m ∈ M, m.1 ≠ x
  | m :: l, k, h, m', hm => by
    unfold fnd at h
    split at h
    · cases h
    · rename_i he
      rcases List.mem_cons.1 hm with rfl | hm
      · exact fun e => he (idE_eq.2 e.symm)
      · exact fnd_none h m' hm
theorem run_getMap {bm : Nat} {M : List (Idt × Value)} {w : World} (hb : w.heap[bm]? = some (mapO M)) : (getObj bm).run Try.prog w = .ok (mapO M) w := by
  simp only [getObj, Sem.run, hb]; rfl
theorem run_setMap {bm : Nat} {o : Obj} {M : List (Idt × Value)} {w : World} (hb : w.heap[bm]? = some (mapO M)) : (setObj bm o).run Try.prog w = .ok () (w.putObj bm o) := by
  simp [setObj, Sem.run, hb, mapO, World.putObj]
theorem esOf_modify {M : List (Idt × Value)} {i : Nat} {x : Idt} {v : Value} (hi : M[i]? = some (x, v)) : (esOf M 0).toArray.modify i (fun e => { e with key := keyV x }) = (esOf M 0).toArray := by
  apply Array.ext'
  rw [Array.toList_modify]
  apply List.ext_getElem?
  intro j
  rw [List.getElem?_modify, esOf_get]
  by_cases hj : i = j
  · subst hj; rw [hi]; simp
  · simp [hj]
theorem esOf_store {M : List (Idt × Value)} {i : Nat} {x : Idt} {v u : Value} (hi : M[i]? = some (x, v)) : (esOf M 0).toArray.modify i (fun e => { e with val := u }) = (esOf (M.set i (x, u)) 0).toArray := by
  apply Array.ext'
  rw [Array.toList_modify]
  apply List.ext_getElem?
  intro j
  rw [List.getElem?_modify, esOf_get, esOf_get, List.getElem?_set]
  by_cases hj : i = j
  · subst hj
    have hl : i < M.length := (List.getElem?_eq_some_iff.1 hi).1
    rw [hi]; simp [hl]
  · simp [hj]
theorem mapU : Try.prog.underlying 42 = some (.map 29 22) := by kernel_rfl
section
variable {plain : TypeId → Bool} (hp : PlainOk Try.prog plain) (hpl : plain 29 = true)
include hp hpl
theorem run_ask (x : Idt) (w : World) : ∀ (M : List (Idt × Value)) (k i : Nat), (Instr.findAsking 29 (keyV x) (esOf M k) i).run Try.prog w = .ok (fnd x M i) w
  | [], k, i => by simp [esOf, Instr.findAsking, fnd, Sem.run, pure]
  | m :: l, k, i => by
    rw [esOf, Instr.findAsking, fnd]
    simp only [Sem.run_bind, run_eqKey hp hpl, Result.andThen_ok]
    split
    · rfl
    · exact run_ask x w l _ _
theorem run_fnd (x : Idt) (w : World) (M : List (Idt × Value)) : (Instr.findKey 29 (keyV x) (esOf M 0)).run Try.prog w = .ok (fnd x M 0) w := by
  rw [run_findKey_eq w (by kernel_rfl) (keyV x) (esOf M 0)]
  exact run_ask hp hpl x w M 0 0
theorem run_look {bm : Nat} {M : List (Idt × Value)} {w : World} (hb : w.heap[bm]? = some (mapO M)) (x : Idt) : (Instr.lookup 42 (.map (some bm)) (keyV x) false).run Try.prog w = .ok (match fnd x M 0 with | some q => q.2 | none => .slice none 0 0) w := by
  have hu := mapU
  have hg := run_getMap (M := M) hb
  unfold Instr.lookup
  simp only [Sem.run_bind, run_underlying hu, Result.andThen_ok, hg, mapO, Sem.run_pure, run_checkId, run_fnd hp hpl]
  cases hq : fnd x M 0 with
  | some q => rfl
  | none => simp only [Sem.run_bind, Result.andThen_ok, run_zero (P := Try.prog) (T := 22) (z := .slice none 0 0) (by kernel_rfl), Sem.run_pure]; rfl
/-- A map's entry is asked for: it is there, or it is laid. -/
theorem run_entry {bm : Nat} {M : List (Idt × Value)} {w : World} (hb : w.heap[bm]? = some (mapO M)) (x : Idt) :
    ∃ (M' : List (Idt × Value)) (i : Nat) (v : Value), (Instr.mapEntry 42 (.map (some bm)) (keyV x)).run Try.prog w = .ok (.tuple #[v, .int .i64 i]) (w.putObj bm (mapO M')) ∧ M'[i]? = some (x, v) ∧
      ((fnd x M 0 = some (i, v) ∧ M' = M) ∨ (fnd x M 0 = none ∧ v = .slice none 0 0 ∧ i = M.length ∧ M' = M ++ [(x, .slice none 0 0)])) := by
  have hu := mapU
  have hg := run_getMap (M := M) hb
  cases hq : fnd x M 0 with
  | some q =>
    obtain ⟨i, v⟩ := q
    obtain ⟨_, hi⟩ := fnd_some hq
    rw [Nat.sub_zero] at hi
    refine ⟨M, i, v, ?_, hi, .inl ⟨rfl, rfl⟩⟩
    have he : (((esOf M 0).toArray[i]?).map (·.key)).getD (keyV x) = keyV x := by
      rw [List.getElem?_toArray, esOf_get, hi]; rfl
    have hbn : (((esOf M 0).toArray[i]?).map (fun e => (e.born : Int))).getD 0 = i := by
      rw [List.getElem?_toArray, esOf_get, hi]; simp
    unfold Instr.mapEntry
    simp only [Sem.run_bind, run_underlying hu, Result.andThen_ok, hg, mapO, run_checkId, run_fnd hp hpl, hq, he, keep_key, run_setMap hb, esOf_modify hi, hbn, Sem.run_pure]
    rfl
  | none =>
    refine ⟨M ++ [(x, .slice none 0 0)], M.length, .slice none 0 0, ?_, by simp, .inr ⟨rfl, rfl, rfl, rfl⟩⟩
    have hpush : mapO (M ++ [(x, .slice none 0 0)]) = .map ((esOf M 0).toArray.push ⟨keyV x, .slice none 0 0, M.length⟩) (M.length + 1) := by
      unfold mapO
      rw [esOf_app, Nat.zero_add, List.length_append]
      simp
    unfold Instr.mapEntry
    simp only [Sem.run_bind, run_underlying hu, Result.andThen_ok, hg, mapO, run_checkId, run_fnd hp hpl, hq, run_setMap hb, run_zero (P := Try.prog) (T := 22) (z := .slice none 0 0) (by kernel_rfl), Sem.run_pure]
    rw [← hpush]
    rfl
omit hp hpl in
theorem run_enter {bm : Nat} {M : List (Idt × Value)} {w : World} (hb : w.heap[bm]? = some (mapO M)) {i : Nat} {x : Idt} {v : Value} (hi : M[i]? = some (x, v)) (u : Value) :
    (Instr.entryStore 42 (.map (some bm)) (.int .i64 i) u).run Try.prog w = .ok () (w.putObj bm (mapO (M.set i (x, u)))) := by
  have hg := run_getMap (M := M) hb
  have hl : i < M.length := (List.getElem?_eq_some_iff.1 hi).1
  have hfi : (esOf M 0).toArray.findIdx? (fun e => (e.born : Int) == (i : Int)) = some i := by
    rw [List.findIdx?_toArray, List.findIdx?_eq_some_iff_getElem]
    refine ⟨by rw [esOf_len]; exact hl, ?_, fun j hj => ?_⟩
    · have := esOf_get M 0 i
      rw [List.getElem?_eq_getElem (by rw [esOf_len]; exact hl), hi] at this
      simp only [Option.map_some, Option.some.injEq, Nat.zero_add] at this
      rw [this]; simp
    · have := esOf_get M 0 j
      rw [List.getElem?_eq_getElem (by rw [esOf_len]; omega), List.getElem?_eq_getElem (by omega : j < M.length)] at this
      simp only [Option.map_some, Option.some.injEq, Nat.zero_add] at this
      rw [this]; simp; omega
  unfold Instr.entryStore
  simp only [Sem.run_bind, Result.andThen_ok, hg, mapO, asInt, Sem.run_pure, run_getInt, hfi, run_setMap hb, esOf_store hi]
  rw [List.length_set]
end
end Go.Proofs.Ytahgddfnbjpfiaa

set_option linter.unusedVariables false
set_option linter.unusedSimpArgs false
set_option maxRecDepth 100000
set_option maxHeartbeats 4000000
namespace Go.Proofs.Ytahgddfnbjpfiaa
open Go Go.RowKit Am

/-- A callee that only reads. -/
noncomputable def cI (W : World) (K : Nat → Prop) (y : Value) : Cx := ⟨Try.prog, W, K, fun _ => False, fun _ => y, fun w1 _ => ⟨trivial, fun g vs h => by cases h⟩⟩
def h00 : Hp := fun _ => none
def m00 : Mu := fun _ => none
theorem cI_HS (W : World) (K : Nat → Prop) (y : Value) : HS (cI W K y) h00 0 m00 W := ⟨Fr.refl _ _, fun _ _ => rfl, fun _ _ => rfl, fun b B hb => (nomatch hb), fun b b' B B' k base size base' size' hb => (nomatch hb)⟩
theorem cI_ok {W : World} {K : Nat → Prop} {y : Value} {k : Nat} (h : okB (cI W K y) h00 m00 W k) : K k ∧ k < W.heap.size := by
  obtain ⟨h1, h2, _⟩ := h
  rcases h1 with h1 | h1 | h1
  · exact ⟨h1, h2⟩
  · exact absurd h2 (by have : W.heap.size ≤ k := h1; omega)
  · exact h1.elim
theorem cI_mk {W : World} {K : Nat → Prop} {y : Value} {k : Nat} (h1 : K k) (h2 : k < W.heap.size) : okB (cI W K y) h00 m00 W k := ⟨.inl h1, h2, fun ⟨b, B, base, size, hb, _⟩ => (nomatch hb)⟩
/-- What was to be read stays. -/
def KpB (K : Nat → Prop) (A C : World) : Prop := ∀ k, K k → C.heap[k]? = A.heap[k]?
theorem lt_of_heap {A C : World} {k : Nat} (h : C.heap[k]? = A.heap[k]?) (hk : k < A.heap.size) : k < C.heap.size := by
  rw [Array.getElem?_eq_getElem hk] at h
  exact (Array.getElem?_eq_some_iff.1 h).1
theorem cI_mono {W W' : World} {K : Nat → Prop} {y : Value} (hk : KpB K W W') {v : Am.V} {x : Value} (h : R (cI W K y) h00 m00 W v x) : R (cI W' K y) h00 m00 W' v x :=
  Rp.mono h (fun k hok => ⟨cI_mk (cI_ok hok).1 (lt_of_heap (hk k (cI_ok hok).1) (cI_ok hok).2), hk k (cI_ok hok).1⟩) (fun _ _ q => q)
theorem Rp_dp {fv : Nat → Value} {w : World} {ok : Nat → Prop} {μ : Mu} {v : Am.V} {x : Value} (hv : deepc v = true) (h : Rp fv w ok μ v x) : Dp w ok v x := by
  cases h with
  | s _ h => exact .s _ h
  | sl rows n c size A g hn hc hs hA hr => exact .sl rows n c size A g hn hc hs hA hr
  | _ => cases hv
/-- A value is the edit's, its memory in K as w has it. -/
def GoodE (w : World) (K : Nat → Prop) (e : Edt) (x : Value) : Prop := ∃ xs : Array Value, x = .agg xs ∧ xs.size = 18 ∧ ∀ j, j < 18 → Dp w K ((encE e).getD j .undef) (xs.getD j Go.undef)
def El (es : List Edt) (w : World) (K : Nat → Prop) : Type := { q : Nat × Value // ∃ h : q.1 < es.length, GoodE w K es[q.1] q.2 }
def downs (N p : Nat) : List Nat := (List.range p).map fun j => N - 1 - j
theorem downs_succ (N p : Nat) : downs N (p + 1) = downs N p ++ [N - 1 - p] := by simp [downs, List.range_succ]
theorem pw_cons {E : Env} {h : Hp} {o : Oper} {rest : List Oper} {K : (Nat → Am.V) → Prop} {t : Nat → Am.V} {d : Nat} {v : Am.V} (hg : o.guard = none) (hn : noDefer o = true) (hd : o.dst = some d) (hv : pval E.P E.plain h (ev t) o.op = some v) (k : pwL E h rest K (upd t d v)) : pwL E h (o :: rest) K t :=
  ⟨⟨hg, hn⟩, d, v, hd, hv, k⟩
theorem encE_deep (e : Edt) (j : Nat) (hj : j < 18) : deepc ((encE e).getD j .undef) = true := by
  have : ∀ q ∈ encE e, deepc q = true := by simp [encE, deepc]
  refine this _ ?_
  rw [List.getD_eq_getElem?_getD, List.getElem?_eq_getElem (by exact hj)]
  exact List.getElem_mem _
theorem goodE_of {W w : World} {K : Nat → Prop} {y : Value} {e : Edt} {x : Value} (hk : KpB K w W) (h : R (cI W K y) h00 m00 W (.agg (encE e)) x) : GoodE w K e x := by
  obtain ⟨xs, rfl, hl, hr⟩ := h.agg_inv
  refine ⟨xs, rfl, hl, fun j hj => ?_⟩
  exact (Rp_dp (encE_deep e j hj) (hr j hj)).mono fun k hok => ⟨(cI_ok hok).1, (hk k (cI_ok hok).1).symm⟩
section
variable {plain : TypeId → Bool} (hp : PlainOk Try.prog plain)
include hp
theorem backIt (n : Nat) (es : List Edt) {w : World} {K : Nat → Prop} {k0 : Nat} {sl0 : Value} (hk0 : K k0) (hKlt : ∀ k, K k → k < w.heap.size) (hcell : w.cell? ⟨k0, 0, none⟩ = some sl0) (hsv : Dp w K (.sl (es.map encE)) sl0) (hN : es.length ≤ 1099511627776) :
    SeqStopsK (α := El es w K) Fence.wide n Try.prog 32 #[.pointer (some ⟨k0, 0, none⟩)] (fun q => #[.int .i64 (q.1.1 : Nat), q.1.2]) (KpB K) (fun xs => xs.map (fun q => q.1.1) = downs es.length es.length) (fun _ => True) es.length w := by
  intro l J Jx W hW hJ hJx hY h0
  have hKW : KpB K w W := fun k hk => hW.block k (hKlt k hk)
  obtain ⟨y, hy⟩ : ∃ y : Value, y = .func (.yield l) #[] #[] := ⟨_, rfl⟩
  have hr := encE_rows es
  refine callsIn_of_wp Try.func32 rfl trivial ?_ rfl
  -- what the captured slice is
  have hpc : R (cI W K y) h00 m00 W (.pc [.sl (es.map encE)]) (.pointer (some ⟨k0, 0, none⟩)) := by
    refine .pc [.sl (es.map encE)] ⟨k0, 0, none⟩ (fun _ => sl0) (cI_mk hk0 (lt_of_heap (hKW k0 hk0) (hKlt _ hk0))) (fun j hj => ?_) (fun j hj => ?_)
    · obtain rfl : j = 0 := by simp at hj; exact hj
      have : ((⟨k0, 0, none⟩ : Addr).add 0) = ⟨k0, 0, none⟩ := rfl
      rw [this, ← hcell]
      exact cell_same (hKW k0 hk0)
    · obtain rfl : j = 0 := by simp at hj; exact hj
      exact hsv.mono fun k hk => ⟨cI_mk hk (lt_of_heap (hKW k hk) (hKlt _ hk)), hKW k hk⟩
  obtain ⟨tt, htt⟩ : ∃ tt : Int → Nat → Am.V, tt = fun z i => if i = 0 then .fv 0 else if i = 1 then .pc [.sl (es.map encE)] else if i = 3 then .s (.int .i64 z) else .any := ⟨_, rfl⟩
  have tt0 : ∀ z, tt z 0 = .fv 0 := fun z => by rw [htt]; rfl
  have tt1 : ∀ z, tt z 1 = .pc [.sl (es.map encE)] := fun z => by rw [htt]; rfl
  have tt3 : ∀ z, tt z 3 = .s (.int .i64 z) := fun z => by rw [htt]; rfl
  have ttR : ∀ (z : Int) (W' : World) (a : Act), R (cI W' K y) h00 m00 W' (.fv 0) (a.tmps.getD 0 Go.undef) → R (cI W' K y) h00 m00 W' (.pc [.sl (es.map encE)]) (a.tmps.getD 1 Go.undef) → R (cI W' K y) h00 m00 W' (.s (.int .i64 z)) (a.tmps.getD 3 Go.undef) → ∀ i, R (cI W' K y) h00 m00 W' (tt z i) (a.tmps.getD i Go.undef) := by
    intro z W' a r0 r1 r3 i
    rw [htt]
    show R _ _ _ _ (if i = 0 then V.fv 0 else if i = 1 then _ else if i = 3 then _ else V.any) _
    split
    · rename_i e; rw [e]; exact r0
    · split
      · rename_i e; rw [e]; exact r1
      · split
        · rename_i e; rw [e]; exact r3
        · exact .any _
  have r0 : ∀ W', R (cI W' K y) h00 m00 W' (.fv 0) y := fun W' => .fv 0
  have rz : ∀ (z : Int) W', R (cI W' K y) h00 m00 W' (.s (.int .i64 z)) (.int .i64 z) := fun z W' => .s _ rfl
  have nt := Try.ntmps32
  rw [nt]
  generalize ha0 : ({ tmps := _, defers := [] } : Act) = a0
  have hsz0 : a0.tmps.size = 19 := by rw [← ha0]; simp
  have hdf0 : a0.defers = [] := by rw [← ha0]
  have g0 : a0.tmps.getD 0 undef = y := by rw [← ha0, hy]; simp
  have g1 : a0.tmps.getD 1 undef = .pointer (some ⟨k0, 0, none⟩) := by rw [← ha0]; simp
  clear ha0
  have hR0 : ∀ i, R (cI W K y) h00 m00 W ((fun i => if i = 0 then V.fv 0 else if i = 1 then .pc [.sl (es.map encE)] else .any) i) (a0.tmps.getD i undef) := by
    intro i
    show R _ _ _ _ (if i = 0 then V.fv 0 else if i = 1 then _ else V.any) _
    split
    · rename_i e; rw [e, g0]; exact r0 W
    · split
      · rename_i e; rw [e, g1]; exact hpc
      · exact .any _
  refine wpIn_seq (pure_regionIn (r := none) (E := ⟨Try.prog, plain, fun _ => none, fun _ => none, fun _ => none, 19⟩) hp (c := cI W K y) rfl rfl (cI_HS W K y) (nt := 19) (fun t' => t' 0 = .fv 0 ∧ t' 1 = .pc [.sl (es.map encE)] ∧ t' 3 = .s (.int .i64 ((es.length : Int) - 1))) (by decide +kernel) hsz0 hR0 ?_ ?_)
  · refine pw_cons rfl rfl rfl (sv hr) (pw_cons rfl rfl rfl (sv hr) (pw_cons rfl rfl rfl (sv hr) (pw_cons rfl rfl rfl (sv hr) ?_)))
    exact ⟨sx trivial, sx trivial, sx trivial⟩
  rintro t1 a1 ⟨q0, q1, q3⟩ hs1 hd1 hR1
  show Code.wpIn _ _ _ _ _ _ _
  refine wpIn_block (wpIn_loop (fun a wr => ∃ pre : List (El es w K), pre.map (fun q => q.1.1) = downs es.length pre.length ∧ pre.length ≤ es.length ∧ J pre wr ∧ KpB K w wr ∧ a.tmps.size = 19 ∧ a.defers = [] ∧ R (cI wr K y) h00 m00 wr (.fv 0) (a.tmps.getD 0 undef) ∧ R (cI wr K y) h00 m00 wr (.pc [.sl (es.map encE)]) (a.tmps.getD 1 undef) ∧ R (cI wr K y) h00 m00 wr (.s (.int .i64 ((es.length : Int) - 1 - pre.length))) (a.tmps.getD 3 undef)) (fun a _ => match a.tmps.getD 3 undef with | .int _ z => (z + 1).toNat | _ => 0) ⟨[], rfl, Nat.zero_le _, h0, hKW, hs1, by rw [hd1, hdf0], by rw [← q0]; exact hR1 0, by rw [← q1]; exact hR1 1, ?_⟩ ?_)
  · rw [List.length_nil, show ((es.length : Int) - 1 - ((0 : Nat) : Int)) = (es.length : Int) - 1 by omega, ← q3]; exact hR1 3
  rintro a wr ⟨pre, hpre, hlen, hJp, hKp, hs, hdf, e0, e1, e3⟩
  have ha3 : a.tmps.getD 3 undef = .int .i64 ((es.length : Int) - 1 - pre.length) := e3.s_eq.1
  have hRt : ∀ i, R (cI wr K y) h00 m00 wr ((fun i => if i = 0 then V.fv 0 else if i = 1 then .pc [.sl (es.map encE)] else if i = 3 then .s (.int .i64 ((es.length : Int) - 1 - pre.length)) else .any) i) (a.tmps.getD i undef) := by
    intro i
    show R _ _ _ _ (if i = 0 then V.fv 0 else if i = 1 then _ else if i = 3 then _ else V.any) _
    split
    · rename_i e; rw [e]; exact e0
    · split
      · rename_i e; rw [e]; exact e1
      · split
        · rename_i e; rw [e]; exact e3
        · exact .any _
  by_cases hlt : pre.length < es.length
  · -- a round
    obtain ⟨k, hk⟩ : ∃ k : Nat, (es.length : Int) - 1 - pre.length = (k : Int) := ⟨es.length - 1 - pre.length, by omega⟩
    rw [hk] at hRt ha3
    have hkl : k < es.length := by omega
    have hge : ((0 : Int) ≤ (k : Int)) = True := eq_true (by omega)
    refine wpIn_seq (wpIn_seq (pure_regionIn (r := none) (E := ⟨Try.prog, plain, fun _ => none, fun _ => none, fun _ => none, 19⟩) hp (c := cI wr K y) rfl rfl (cI_HS wr K y) (nt := 19) (fun t' => t' 0 = .fv 0 ∧ t' 1 = .pc [.sl (es.map encE)] ∧ t' 3 = .s (.int .i64 k) ∧ t' 8 = .s (.bool true)) (by decide +kernel) hs hRt ?_ ?_))
    · refine pw_cons rfl rfl rfl (sv hge) (pw_cons rfl rfl rfl (sv hge) ?_)
      exact ⟨sx trivial, sx trivial, sx trivial, sx trivial⟩
    rintro t2 a2 ⟨q0, q1, q3, q8⟩ hs2 hd2 hR2
    show Code.wpIn _ _ _ _ _ _ _
    have hb8 : R (cI wr K y) h00 m00 wr (t2 8) (a2.eval (.tmp 8)) := hR2 8
    rw [q8] at hb8
    refine wpIn_cond_true hb8.s_eq.1 (wpIn_skip ?_)
    show Code.wpIn _ _ _ _ _ _ _
    have hrow : ((es.map encE).getD k []) = encE es[k] := getD_map _ _ _ hkl
    refine wpIn_seq (wpIn_block (wpIn_seq (pure_headIn (r := none) (E := ⟨Try.prog, plain, fun _ => none, fun _ => none, fun _ => none, 19⟩) hp (c := cI wr K y) rfl rfl (cI_HS wr K y) (nt := 19) 6 (fun t' => t' 0 = .fv 0 ∧ t' 1 = .pc [.sl (es.map encE)] ∧ t' 3 = .s (.int .i64 k) ∧ t' 11 = .fv 0 ∧ t' 12 = .s (.int .i64 k) ∧ t' 16 = .agg (encE es[k])) (by decide +kernel) hs2 hR2 ?_ ?_)))
    · refine pw_cons rfl rfl rfl (sv (And.intro q0 (And.intro q1 (And.intro q3 hr)))) ?_
      refine pw_cons rfl rfl rfl (sv (And.intro q0 (And.intro q1 (And.intro q3 hr)))) ?_
      refine pw_cons rfl rfl rfl (sv (And.intro q0 (And.intro q1 (And.intro q3 hr)))) ?_
      refine pw_cons rfl rfl rfl (sv (And.intro q0 (And.intro q1 (And.intro q3 hr)))) ?_
      refine pw_cons rfl rfl rfl (sv (And.intro q0 (And.intro q1 (And.intro q3 hr)))) ?_
      refine pw_cons rfl rfl rfl (sv (And.intro q0 (And.intro q1 (And.intro q3 (And.intro hr (@encE.eq_1)))))) ?_
      refine ⟨sx (And.intro q0 (And.intro q1 q3)), sx (And.intro q0 (And.intro q1 q3)), sx (And.intro q0 (And.intro q1 q3)), sx (And.intro q0 (And.intro q1 q3)), sx (And.intro q0 (And.intro q1 q3)), ?_⟩
      exact sx (And.intro hr (And.intro hkl (@encE.eq_1)))
    rintro t3 a3 ⟨q0, q1, q3, q11, q12, q16⟩ hs3 hd3 hR3
    have f11 : R (cI wr K y) h00 m00 wr (t3 11) (a3.eval (.tmp 11)) := hR3 11
    have f12 : R (cI wr K y) h00 m00 wr (t3 12) (a3.eval (.tmp 12)) := hR3 12
    have f16 : R (cI wr K y) h00 m00 wr (t3 16) (a3.eval (.tmp 16)) := hR3 16
    rw [q11] at f11
    rw [q12] at f12
    rw [q16] at f16
    have v11 : a3.eval (.tmp 11) = .func (.yield l) #[] #[] := by rw [← hy]; generalize a3.eval (.tmp 11) = z at f11; cases f11; rfl
    have v12 := f12.s_eq.1
    obtain ⟨x, hx⟩ : ∃ x, a3.eval (.tmp 16) = x := ⟨_, rfl⟩
    rw [hx] at f16
    obtain ⟨qe, g1, g2⟩ : ∃ qe : El es w K, qe.1.1 = k ∧ qe.1.2 = x := ⟨⟨(k, x), ⟨hkl, goodE_of hKp f16⟩⟩, rfl, rfl⟩
    have hY1 := hY pre qe wr hJp hlt
    simp only [g1, g2] at hY1
    have hdl : (pre ++ [qe]).map (fun q => q.1.1) = downs es.length (pre ++ [qe]).length := by
      rw [List.length_append, List.map_append, hpre]
      show _ ++ [qe.1.1] = downs es.length (pre.length + 1)
      rw [downs_succ, g1, show es.length - 1 - pre.length = k by omega]
    refine listIn_cons rfl (yield_in (r := none) rfl rfl v11 (by simp [v12, hx]) hY1 ?_)
    have hR3' : ∀ (W' : World), KpB K wr W' → ∀ b : Bool, ∀ i, R (cI W' K y) h00 m00 W' ((fun i => if i = 17 then V.s (.bool b) else if i = 0 then .fv 0 else if i = 1 then .pc [.sl (es.map encE)] else if i = 3 then .s (.int .i64 k) else .any) i) ((a3.put (some 17) (.bool b)).tmps.getD i undef) := by
      intro W' hW' b i
      have h0 := hR3 0
      have h1 := hR3 1
      have h3 := hR3 3
      rw [q0] at h0
      rw [q1] at h1
      rw [q3] at h3
      show R _ _ _ _ (if i = 17 then V.s (.bool b) else if i = 0 then .fv 0 else if i = 1 then .pc [.sl (es.map encE)] else if i = 3 then .s (.int .i64 k) else .any) _
      have hne : i ≠ 17 → (a3.put (some 17) (.bool b)).tmps.getD i undef = a3.tmps.getD i undef := by
        intro hi
        simp only [Act.put, Array.getD_eq_getD_getElem?, Array.getElem?_setIfInBounds]
        rw [if_neg (by omega)]
      split
      · rename_i e
        subst e
        have : (a3.put (some 17) (.bool b)).tmps.getD 17 undef = .bool b := by simp [Act.put, hs3]
        rw [this]; exact .s _ rfl
      · rename_i hi
        rw [hne hi]
        split
        · rename_i e; subst e; exact cI_mono hW' h0
        · split
          · rename_i e; subst e; exact cI_mono hW' h1
          · split
            · rename_i e; subst e; exact cI_mono hW' h3
            · exact .any _
    have hs4 : ∀ b : Bool, (a3.put (some 17) (.bool b)).tmps.size = 19 := fun b => by simp [Act.put, hs3]
    have hd4 : ∀ b : Bool, (a3.put (some 17) (.bool b)).defers = [] := fun b => by simp only [Act.put]; rw [hd3, hd2, hdf]
    rintro e W' (⟨rfl, hJ', hK'⟩ | ⟨rfl, hJx'⟩)
    · refine ⟨_, rfl, ?_⟩
      have hRR := hR3' W' hK' true
      refine listIn_cons rfl (one_in (r := none) (E := ⟨Try.prog, plain, fun _ => none, fun _ => none, fun _ => none, 19⟩) hp (c := cI W' K y) rfl rfl (cI_HS W' K y) hRR rfl (sv trivial) ?_)
      intro x5 hx5
      have e18 : x5 = .bool false := by have := hx5.s_eq.1; simpa using this
      subst e18
      have hRR2 := put_R hRR (d := 18) (by rw [hs4]; decide) hx5
      generalize ha5 : ((a3.put (some 17) (.bool true)).put (some 18) (.bool false)) = a5 at *
      have hs5 : a5.tmps.size = 19 := by rw [← ha5]; simp [Act.put, hs3]
      have hd5 : a5.defers = [] := by rw [← ha5]; exact hd4 true
      have h18 : a5.eval (.tmp 18) = .bool false := by
        have h1 : R (cI W' K y) h00 m00 W' _ (a5.eval (.tmp 18)) := hRR2 18
        rw [upd_same] at h1
        have := h1.s_eq.1
        simpa using this
      show Code.wpIn _ _ _ _ _ _ _
      refine wpIn_cond_false h18 (wpIn_skip ?_)
      show Code.wpIn _ _ _ _ _ _ _
      refine pure_regionIn (r := none) (E := ⟨Try.prog, plain, fun _ => none, fun _ => none, fun _ => none, 19⟩) hp (c := cI W' K y) rfl rfl (cI_HS W' K y) (nt := 19) (fun t' => t' 0 = .fv 0 ∧ t' 1 = .pc [.sl (es.map encE)] ∧ t' 3 = .s (.int .i64 ((k : Int) - 1))) (by decide +kernel) hs5 hRR2 ?_ ?_
      · refine pw_cons rfl rfl rfl (sv trivial) (pw_cons rfl rfl rfl (sv trivial) (pw_cons rfl rfl rfl (sv trivial) ?_))
        exact ⟨sx trivial, sx trivial, sx trivial⟩
      rintro t6 a6 ⟨q0, q1, q3⟩ hs6 hd6 hR6
      have e30 := hR6 0
      have e31 := hR6 1
      have e33 := hR6 3
      rw [q0] at e30
      rw [q1] at e31
      rw [q3] at e33
      refine ⟨⟨pre ++ [qe], hdl, by simp; omega, hJ', fun z hz => (hK' z hz).trans (hKp z hz), hs6, by rw [hd6, hd5], e30, e31, ?_⟩, ?_⟩
      · have : (es.length : Int) - 1 - ((pre ++ [qe]).length : Nat) = (k : Int) - 1 := by simp; omega
        rw [this]
        exact e33
      · simp only [e33.s_eq.1, ha3]
        omega
    · refine ⟨_, rfl, ?_⟩
      have hRR := cI_HS W' K y
      have hx17 : ∀ i, R (cI W' K y) h00 m00 W' ((fun i => if i = 17 then V.s (.bool false) else .any) i) ((a3.put (some 17) (.bool false)).tmps.getD i undef) := by
        intro i
        show R _ _ _ _ (if i = 17 then V.s (.bool false) else .any) _
        split
        · rename_i e
          subst e
          have : (a3.put (some 17) (.bool false)).tmps.getD 17 undef = .bool false := by simp [Act.put, hs3]
          rw [this]; exact .s _ rfl
        · exact .any _
      refine listIn_cons rfl (one_in (r := none) (E := ⟨Try.prog, plain, fun _ => none, fun _ => none, fun _ => none, 19⟩) hp (c := cI W' K y) rfl rfl (cI_HS W' K y) hx17 rfl (sv trivial) ?_)
      intro x5 hx5
      have e18 : x5 = .bool true := by have := hx5.s_eq.1; simpa using this
      subst e18
      have h18 : ((a3.put (some 17) (.bool false)).put (some 18) (.bool true)).eval (.tmp 18) = .bool true := by simp [Act.eval, Act.put, hs3]
      show Code.wpIn _ _ _ _ _ _ _
      refine wpIn_cond_true h18 (wpIn_ret ?_)
      exact ⟨show ((a3.put (some 17) (.bool false)).put (some 18) (.bool true)).defers = [] from hd4 false, _, results_none rfl _ _ _, ⟨_, rfl⟩, .inr ⟨_, trivial, hJx'⟩⟩
  · -- all have come
    have hle : pre.length = es.length := by omega
    have hlt0 : ((0 : Int) ≤ (es.length : Int) - 1 - pre.length) = False := eq_false (by omega)
    refine wpIn_seq (wpIn_seq (pure_regionIn (r := none) (E := ⟨Try.prog, plain, fun _ => none, fun _ => none, fun _ => none, 19⟩) hp (c := cI wr K y) rfl rfl (cI_HS wr K y) (nt := 19) (fun t' => t' 8 = .s (.bool false)) (by decide +kernel) hs hRt ?_ ?_))
    · refine pw_cons rfl rfl rfl (sv hlt0) (pw_cons rfl rfl rfl (sv hlt0) ?_)
      show upd _ 8 _ 8 = _
      exact sx trivial
    rintro t2 a2 q8 hs2 hd2 hR2
    show Code.wpIn _ _ _ _ _ _ _
    have hb8 : R (cI wr K y) h00 m00 wr (t2 8) (a2.eval (.tmp 8)) := hR2 8
    rw [q8] at hb8
    refine wpIn_cond_false hb8.s_eq.1 (wpIn_exit ?_)
    rw [hle] at hpre
    exact ⟨by rw [hd2, hdf], _, results_none rfl _ _ _, ⟨_, rfl⟩, .inl ⟨pre, hpre, hJp⟩⟩
end
end Go.Proofs.Ytahgddfnbjpfiaa

set_option linter.unusedVariables false
set_option linter.unusedSimpArgs false
set_option maxRecDepth 100000
set_option maxHeartbeats 4000000
namespace Go.Proofs.Ytahgddfnbjpfiaa
open Go Go.RowKit Am

/-- The undos of an edit among some live undos. -/
def offL (o : List Edt) (x : Idt) : List Edt := o.filter fun u => idE u.target x
/-- One edit is judged: the edits' state so far, the live undos so far. -/
def stp (es : List Edt) (st : List Bool × List Edt) (i : Nat) : List Bool × List Edt := match es[i]? with
  | none => st
  | some e => (st.1.set i (!(offL st.2 e.id).any fun u => undF u e), if (!(offL st.2 e.id).any fun u => undF u e) && decide (e.kind = 4) then st.2 ++ [e] else st.2)
def runL (es : List Edt) (l : List Nat) : List Bool × List Edt := l.foldl (stp es) (List.replicate es.length false, [])
theorem runL_snoc (es : List Edt) (l : List Nat) (i : Nat) : runL es (l ++ [i]) = stp es (runL es l) i := by simp [runL]
def liveB (es : List Edt) : List Bool := (runL es (downs es.length es.length)).1
abbrev encBo (b : Bool) : List Am.V := [.s (.bool b)]
/-- An entry of the map: its key, the block where its undos lie. -/
structure Ent where
  id : Idt
  b : Nat
  cap : Nat
  L : List Edt
  sp : List (List Am.V)
  x : Value
abbrev Ent.v (m : Ent) : Am.V := .loc m.b 0 m.L.length m.cap
/-- What holds between two rounds. -/
structure Inv (c : Cx) (es : List Edt) (w : World) (K : Nat → Prop) (bm : Nat) (v3 v4 : Value) (st : List Bool × List Edt) (p : Nat) (h : Hp) (n : Nat) (μ : Mu) (M : List Ent) (W : World) : Prop where
  hs : HS c h n μ W
  kp : KpB K w W
  bm_ok : okB c h μ W bm
  k_ok : ∀ k, K k → ¬ live h μ k
  t3 : R c h μ W (.ptr 1 0 0) v3
  t4 : R c h μ W (.ptr 2 0 0) v4
  b0 : h 0 = some ⟨1, st.1.map encBo, true⟩
  b1 : h 1 = some ⟨1, [[.loc 0 0 es.length es.length]], true⟩
  b2 : h 2 = some ⟨1, [[.mp bm]], true⟩
  n2 : 2 < n
  mo : W.heap[bm]? = some (mapO (M.map fun m => (m.id, m.x)))
  ent : ∀ m ∈ M, R c h μ W m.v m.x ∧ h m.b = some ⟨18, m.L.map encE ++ m.sp, true⟩ ∧ m.L.length ≤ m.cap ∧ m.cap ≤ m.L.length + m.sp.length ∧ 2 < m.b ∧ m.L ≠ [] ∧ m.L = offL st.2 m.id
  ndb : (M.map (·.b)).Nodup
  ndi : (M.map (·.id)).Nodup
  non : ∀ x, (∀ m ∈ M, m.id ≠ x) → offL st.2 x = []
  len : st.1.length = es.length
  sub : ∀ u ∈ st.2, u ∈ es
  o2 : st.2.length ≤ p
  low : ∀ b, b ≤ 2 → ∀ k base size, μ b = some (.real k base size) → k < w.heap.size
  liv : ∀ b B, h b = some B → b ≤ 2 ∨ ∃ m ∈ M, m.b = b
  cel : 0 < es.length → ∀ k, live h μ k → ∀ o, W.heap[k]? = some o → o.isCells = true
def InvI (c : Cx) (es : List Edt) (w : World) (K : Nat → Prop) (bm : Nat) (v3 v4 : Value) (pre : List (El es w K)) (W : World) : Prop := ∃ h n μ M, Inv c es w K bm v3 v4 (runL es (pre.map fun q => q.1.1)) pre.length h n μ M W
section
variable {c : Cx} {es : List Edt} {w : World} {K : Nat → Prop} {bm : Nat} {v3 v4 : Value}
theorem Inv.grown {st : List Bool × List Edt} {p : Nat} {h : Hp} {n : Nat} {μ : Mu} {M : List Ent} {W W' : World} (hw : c.w0.heap.size ≤ w.heap.size) (hKlt : ∀ k, K k → k < w.heap.size) (hbm : bm < w.heap.size) (I : Inv c es w K bm v3 v4 st p h n μ M W) {row : Option Nat} (g : W.grownBy W' row) (hr : ∀ r, row = some r → w.heap.size ≤ r ∧ ∃ o : Obj, W.heap[r]? = some o ∧ o.isCells = false) :
    Inv c es w K bm v3 v4 st p h n μ M W' := by
  obtain ⟨H, hR⟩ := I.hs.grown g fun r e => ⟨Nat.le_trans hw (hr r e).1, (hr r e).2⟩
  have hkeep : ∀ k, k < w.heap.size → k < W.heap.size → W'.heap[k]? = W.heap[k]? := fun k h1 h2 => g.block k h2 fun e => by have := (hr k e.symm).1; omega
  refine ⟨H, fun k hk => ?_, ⟨I.bm_ok.1, Nat.lt_of_lt_of_le I.bm_ok.2.1 g.size, I.bm_ok.2.2⟩, I.k_ok, hR _ _ I.t3, hR _ _ I.t4, I.b0, I.b1, I.b2, I.n2, by rw [hkeep bm hbm I.bm_ok.2.1]; exact I.mo, fun m hm => ⟨hR _ _ (I.ent m hm).1, (I.ent m hm).2⟩, I.ndb, I.ndi, I.non, I.len, I.sub, I.o2, I.low, I.liv, fun hN k hl o ho => ?_⟩
  · rw [hkeep k (hKlt k hk) (lt_of_heap (I.kp k hk) (hKlt k hk))]
    exact I.kp k hk
  · have hks := (I.hs.wr_block hl).2
    have hne : some k ≠ row := fun e => by
      obtain ⟨_, o2, h2, h3⟩ := hr k e.symm
      have := I.cel hN k hl o2 h2
      rw [this] at h3
      cases h3
    rw [g.block k hks hne] at ho
    exact I.cel hN k hl o ho
theorem inv_own (hw : c.w0.heap.size ≤ w.heap.size) (hKlt : ∀ k, K k → k < w.heap.size) (hbm : bm < w.heap.size) : OwnFrom w.heap.size (InvI c es w K bm v3 v4) := by
  rintro pre W W' row ⟨h, n, μ, M, I⟩ g hr
  exact ⟨h, n, μ, M, I.grown hw hKlt hbm g hr⟩
end
/-- What the map hands back for a key. -/
def offV : List Ent → Idt → Am.V
  | [], _ => .cap0
  | m :: M, x => if idE x m.id then m.v else offV M x
theorem offV_some {x : Idt} : ∀ {M : List Ent} {k i : Nat} {v : Value}, fnd x (M.map fun m => (m.id, m.x)) k = some (i, v) → ∃ m, M[i - k]? = some m ∧ k ≤ i ∧ m.id = x ∧ m.x = v ∧ offV M x = m.v
  | m :: M, k, i, v, h => by
    rw [List.map_cons] at h
    unfold fnd at h
    split at h
    · rename_i he
      cases h
      refine ⟨m, by simp, Nat.le_refl _, (idE_eq.1 he).symm, rfl, ?_⟩
      rw [offV, if_pos he]
    · rename_i he
      obtain ⟨m', h1, h2, h3, h4, h5⟩ := offV_some h
      refine ⟨m', ?_, by omega, h3, h4, ?_⟩
      · rw [show i - k = (i - (k + 1)) + 1 by omega, List.getElem?_cons_succ]; exact h1
      · rw [offV, if_neg he]; exact h5
theorem offV_none {x : Idt} : ∀ {M : List Ent} {k : Nat}, fnd x (M.map fun m => (m.id, m.x)) k = none → offV M x = .cap0 ∧ ∀ m ∈ M, m.id ≠ x
  | [], k, h => ⟨rfl, fun m hm => by cases hm⟩
  | m :: M, k, h => by
    rw [List.map_cons] at h
    unfold fnd at h
    split at h
    · cases h
    · rename_i he
      obtain ⟨h1, h2⟩ := offV_none h
      refine ⟨by rw [offV, if_neg he]; exact h1, fun m' hm => ?_⟩
      rcases List.mem_cons.1 hm with rfl | hm
      · exact fun e => he (idE_eq.2 e.symm)
      · exact h2 m' hm
theorem cells_of_live {c : Cx} {h : Hp} {n : Nat} {μ : Mu} {W : World} (H : HS c h n μ W) {b : Nat} {B : Blk} {k base size : Nat} (hb : h b = some B) (hm : μ b = some (.real k base size)) (hr : B.rows ≠ []) (hz : 0 < B.size) {o : Obj} (ho : W.heap[k]? = some o) : o.isCells = true := by
  rcases H.blk b B hb with ⟨h1, _⟩ | ⟨k2, base2, h1, h2, h3, h4, h5⟩
  · rw [hm] at h1; cases h1
  · rw [hm] at h1
    cases h1
    obtain ⟨x, hx, _⟩ := h5 0 0 (by cases hB : B.rows with
      | nil => exact absurd hB hr
      | cons r l => simp) hz
    unfold World.cell? at hx
    rw [ho] at hx
    cases o <;> first | rfl | cases hx
section
variable {c : Cx} {es : List Edt} {w : World} {K : Nat → Prop} {bm : Nat} {v3 v4 : Value}
theorem inv_mk (hKb : ∀ k, K k → c.ok0 k ∨ c.w0.heap.size ≤ k ∨ c.X k) (hKlt : ∀ k, K k → k < w.heap.size) (hKbm : ¬ K bm) {st st' : List Bool × List Edt} {p p' : Nat} {h hf : Hp} {n nf : Nat} {μ μf : Mu} {M M' : List Ent} {W W' : World} (I : Inv c es w K bm v3 v4 st p h n μ M W)
    (H : HS c hf nf μf W') (hmu : ∀ b t, μ b = some t → μf b = some t) (hfr : ∀ k, okB c h μ W k → k ≠ bm → okB c hf μf W' k ∧ W'.heap[k]? = W.heap[k]?) (hbm : okB c hf μf W' bm)
    (hb0 : hf 0 = some ⟨1, st'.1.map encBo, true⟩) (hb1 : hf 1 = h 1) (hb2 : hf 2 = h 2) (hn : n ≤ nf)
    (mo : W'.heap[bm]? = some (mapO (M'.map fun m => (m.id, m.x))))
    (ent : ∀ m ∈ M', R c hf μf W' m.v m.x ∧ hf m.b = some ⟨18, m.L.map encE ++ m.sp, true⟩ ∧ m.L.length ≤ m.cap ∧ m.cap ≤ m.L.length + m.sp.length ∧ 2 < m.b ∧ m.L ≠ [] ∧ m.L = offL st'.2 m.id)
    (ndb : (M'.map (·.b)).Nodup) (ndi : (M'.map (·.id)).Nodup) (non : ∀ x, (∀ m ∈ M', m.id ≠ x) → offL st'.2 x = []) (len : st'.1.length = es.length) (sub : ∀ u ∈ st'.2, u ∈ es) (o2 : st'.2.length ≤ p') (liv : ∀ b B, hf b = some B → b ≤ 2 ∨ ∃ m ∈ M', m.b = b) :
    Inv c es w K bm v3 v4 st' p' hf nf μf M' W' := by
  have hK : ∀ k, K k → okB c hf μf W' k ∧ W'.heap[k]? = W.heap[k]? := fun k hk => hfr k ⟨hKb k hk, lt_of_heap (I.kp k hk) (hKlt k hk), I.k_ok k hk⟩ (fun e => hKbm (e ▸ hk))
  have hptr : ∀ {b : Nat} {v : Value}, R c h μ W (.ptr b 0 0) v → R c hf μf W' (.ptr b 0 0) v := fun r => by
    obtain ⟨q, base, size, hm, rfl⟩ := r.ptr_inv
    exact .ptr _ _ _ _ _ _ (hmu _ _ hm)
  have hlow : ∀ b, b ≤ 2 → ∃ t, μ b = some t := by
    intro b hb
    have hh : ∃ B, h b = some B := by
      have : b = 0 ∨ b = 1 ∨ b = 2 := by omega
      rcases this with rfl | rfl | rfl
      · exact ⟨_, I.b0⟩
      · exact ⟨_, I.b1⟩
      · exact ⟨_, I.b2⟩
    obtain ⟨B, hB⟩ := hh
    rcases I.hs.blk b B hB with ⟨h1, _⟩ | ⟨k, base, h1, _⟩
    · exact ⟨_, h1⟩
    · exact ⟨_, h1⟩
  refine ⟨H, fun k hk => (hK k hk).2.trans (I.kp k hk), hbm, fun k hk => (hK k hk).1.2.2, hptr I.t3, hptr I.t4, hb0, by rw [hb1]; exact I.b1, by rw [hb2]; exact I.b2, Nat.lt_of_lt_of_le I.n2 hn, mo, ent, ndb, ndi, non, len, sub, o2, fun b hb k base size hm => ?_, liv, fun hN k hl o ho => ?_⟩
  · obtain ⟨t, ht⟩ := hlow b hb
    have := hmu b t ht
    rw [hm] at this
    cases this
    exact I.low b hb k base size ht
  · obtain ⟨b, B, base, size, hB, hwr, hm⟩ := hl
    have hne : B.rows ≠ [] ∧ 0 < B.size := by
      rcases liv b B hB with hb | ⟨m, hmM, rfl⟩
      · have : b = 0 ∨ b = 1 ∨ b = 2 := by omega
        rcases this with rfl | rfl | rfl
        · rw [hb0] at hB
          cases hB
          refine ⟨fun e => ?_, Nat.one_pos⟩
          have := congrArg List.length e
          simp at this
          rw [this] at len
          simp at len
          omega
        · rw [hb1, I.b1] at hB; cases hB; exact ⟨by simp, Nat.one_pos⟩
        · rw [hb2, I.b2] at hB; cases hB; exact ⟨by simp, Nat.one_pos⟩
      · obtain ⟨_, e2, _, _, _, e6, _⟩ := ent m hmM
        rw [e2] at hB
        cases hB
        exact ⟨by simp [e6], by show 0 < 18; decide⟩
    exact cells_of_live H hB hm hne.1 hne.2 ho
end
end Go.Proofs.Ytahgddfnbjpfiaa

set_option linter.unusedVariables false
set_option linter.unusedSimpArgs false
namespace Go.Proofs.Ytahgddfnbjpfiaa
open Go Go.RowKit Am

def maxId (y x : Idt) : Idt := ⟨y.a, if y.n < x.n then x.n else y.n⟩
theorem blt (a b : ByteArray) : Op.bytesLess a.toList b.toList = decide (cmpB a b < 0) := by
  rw [bless, ByteArray.toList_eq, ByteArray.toList_eq]; rfl
theorem cB_irr (a : ByteArray) : ¬ cmpB a a < 0 := by
  have := (ordB.z a a).2 rfl
  omega
theorem cB_ne {a b : ByteArray} (h : cmpB a b < 0) : a ≠ b := fun e => by subst e; exact cB_irr a h
theorem cB_as {a b : ByteArray} (h : cmpB a b < 0) : ¬ cmpB b a < 0 := fun h2 => by have := (ordB.an a b).1 h; omega
theorem cB_tri {a b : ByteArray} (h1 : ¬ cmpB a b < 0) (h2 : a ≠ b) : cmpB b a < 0 := by
  have h3 : ¬ cmpB a b = 0 := fun e => h2 ((ordB.z a b).1 e)
  have h4 := ordB.an b a
  exact h4.2 (by omega)
theorem cB_tr {a b c : ByteArray} (h1 : cmpB a b < 0) (h2 : cmpB b c < 0) : cmpB a c < 0 := ordB.tr a b c h1 h2
/-- A valid vector. -/
structure Val (v : List Idt) : Prop where
  ok : ∀ x ∈ v, authF x.a = true ∧ 1 ≤ x.n
  srt : v.Pairwise (fun x y => cmpB x.a y.a < 0)
theorem Val.tail {x : Idt} {v : List Idt} (h : Val (x :: v)) : Val v := ⟨fun y hy => h.ok y (by simp [hy]), (List.pairwise_cons.1 h.srt).2⟩
theorem Val.head {x : Idt} {v : List Idt} (h : Val (x :: v)) : ∀ y ∈ v, cmpB x.a y.a < 0 := (List.pairwise_cons.1 h.srt).1
theorem Val.nil : Val [] := ⟨by simp, by simp⟩
theorem chkFrom_all {v : List Idt} : ∀ (m i : Nat), chkFrom v m i = 0 → ∀ j, i ≤ j → j < i + m → chkAt v j = 0
  | 0, i, _, j, h1, h2 => by omega
  | m + 1, i, h, j, h1, h2 => by
    rw [chkFrom] at h
    by_cases hc : chkAt v i = 0
    · rw [if_pos hc] at h
      by_cases hj : j = i
      · rw [hj]; exact hc
      · exact chkFrom_all m (i + 1) h j (by omega) (by omega)
    · rw [if_neg hc] at h
      exact absurd h hc
theorem chkFrom_of {v : List Idt} : ∀ (m i : Nat), (∀ j, i ≤ j → j < i + m → chkAt v j = 0) → chkFrom v m i = 0
  | 0, i, _ => rfl
  | m + 1, i, h => by
    rw [chkFrom, if_pos (h i (by omega) (by omega))]
    exact chkFrom_of m (i + 1) fun j h1 h2 => h j (by omega) (by omega)
theorem chkAt_iff {v : List Idt} {i : Nat} (hi : i < v.length) : chkAt v i = 0 ↔ authF v[i].a = true ∧ 1 ≤ v[i].n ∧ ∀ h : 0 < i, cmpB v[i - 1].a v[i].a < 0 := by
  have hat := idAt_lt v hi
  unfold chkAt
  rw [hat]
  cases ha : authF v[i].a
  · simp
  · by_cases hn : v[i].n < 1
    · simp [hn]; omega
    · have hn' : 1 ≤ v[i].n := by omega
      by_cases h0 : 0 < i
      · have hjt := idAt_lt v (show i - 1 < v.length by omega)
        rw [hjt, lbeq, blt]
        by_cases h1 : v[i].a = v[i - 1].a
        · have : ¬ cmpB v[i - 1].a v[i].a < 0 := by rw [h1]; exact cB_irr _
          simp [hn, h0, h1]
          exact fun _ => by have := cB_irr v[i - 1].a; omega
        · by_cases h2 : cmpB v[i].a v[i - 1].a < 0
          · have := cB_as h2
            simp [hn, h0, h1, h2]
            omega
          · have := cB_tri h2 h1
            simp [hn, h0, h1, h2, this, hn']
      · simp [hn, h0, hn']
theorem val_of_chk {v : List Idt} (h : chkF v = 0) : Val v := by
  have hall : ∀ j (hj : j < v.length), authF v[j].a = true ∧ 1 ≤ v[j].n ∧ ∀ h : 0 < j, cmpB v[j - 1].a v[j].a < 0 := fun j hj => (chkAt_iff hj).1 (chkFrom_all v.length 0 h j (by omega) (by omega))
  refine ⟨fun x hx => ?_, ?_⟩
  · obtain ⟨j, hj, rfl⟩ := List.getElem_of_mem hx
    exact ⟨(hall j hj).1, (hall j hj).2.1⟩
  · rw [List.pairwise_iff_getElem]
    intro i j hi hj hij
    induction j with
    | zero => omega
    | succ j ih =>
      have h1 := (hall (j + 1) hj).2.2 (by omega)
      simp only [Nat.add_sub_cancel] at h1
      by_cases he : i = j
      · subst he; exact h1
      · exact cB_tr (ih (by omega) (by omega)) h1
theorem chk_of_val {v : List Idt} (h : Val v) : chkF v = 0 := by
  refine chkFrom_of v.length 0 fun j _ hj => (chkAt_iff (by omega)).2 ⟨(h.ok _ (List.getElem_mem _)).1, (h.ok _ (List.getElem_mem _)).2, fun h0 => ?_⟩
  exact (List.pairwise_iff_getElem.1 h.srt) (j - 1) j (by omega) (by omega) (by omega)
theorem up_cons (y : Idt) (v : List Idt) (a : ByteArray) : uptoF (y :: v) a = if y.a = a then y.n else uptoF v a := by
  rw [uptoF, lbeq]
  by_cases h : y.a = a <;> simp [h]
theorem up_none {a : ByteArray} : ∀ {v : List Idt}, (∀ x ∈ v, x.a ≠ a) → uptoF v a = 0
  | [], _ => rfl
  | y :: v, h => by rw [up_cons, if_neg (h y (by simp)), up_none fun x hx => h x (by simp [hx])]
theorem up_nonneg {v : List Idt} (h : Val v) (a : ByteArray) : 0 ≤ uptoF v a := by
  induction v with
  | nil => simp [uptoF]
  | cons y v ih =>
    rw [up_cons]
    split
    · have := (h.ok y (by simp)).2; omega
    · exact ih h.tail
theorem up_mem {v : List Idt} (h : Val v) : ∀ {x : Idt}, x ∈ v → uptoF v x.a = x.n := by
  induction v with
  | nil => intro x hx; simp at hx
  | cons y v ih =>
    intro x hx
    rw [up_cons]
    rcases List.mem_cons.1 hx with rfl | hx
    · rw [if_pos rfl]
    · rw [if_neg (cB_ne (h.head x hx)), ih h.tail hx]
theorem up_cases (v : List Idt) (a : ByteArray) : uptoF v a = 0 ∨ ∃ x ∈ v, x.a = a ∧ uptoF v a = x.n := by
  induction v with
  | nil => exact .inl rfl
  | cons y v ih =>
    rw [up_cons]
    by_cases h : y.a = a
    · exact .inr ⟨y, by simp, h, by rw [if_pos h]⟩
    · rw [if_neg h]
      rcases ih with h1 | ⟨x, h1, h2, h3⟩
      · exact .inl h1
      · exact .inr ⟨x, by simp [h1], h2, h3⟩
/-- Where the search ends. -/
theorem place_at {v : List Idt} (h : Val v) (a : ByteArray) : (∀ k (hk : k < v.length), k < plPos v a → cmpB v[k].a a < 0) ∧ (∀ k (hk : k < v.length), plPos v a ≤ k → ¬ cmpB v[k].a a < 0) := by
  have hs := List.pairwise_iff_getElem.1 h.srt
  have mono : ∀ k m, k ≤ m → m < v.length → cAt (fun x : Idt => cmpB x.a a) v m < 0 → cAt (fun x : Idt => cmpB x.a a) v k < 0 := by
    intro k m hkm hm hc
    rw [cAt_lt _ v hm] at hc
    rw [cAt_lt _ v (show k < v.length by omega)]
    by_cases he : k = m
    · subst he; exact hc
    · exact cB_tr (hs k m (by omega) hm (by omega)) hc
  obtain ⟨l1, l2⟩ := bsF_lb (cAt (fun x : Idt => cmpB x.a a) v) v.length mono v.length 0 v.length (by omega) (by omega) (by omega) (fun k hk => by omega) (fun k h1 h2 => by omega)
  refine ⟨fun k hk h1 => ?_, fun k hk h1 => ?_⟩
  · have := l1 k h1
    rwa [cAt_lt _ v hk] at this
  · have := l2 k h1 hk
    rwa [cAt_lt _ v hk] at this
theorem hit_iff (v : List Idt) (a : ByteArray) : plHit v a = true ↔ ∃ h : plPos v a < v.length, v[plPos v a].a = a := by
  have h1 : plHit v a = (decide (plPos v a < v.length) && decide (cAt (fun x : Idt => cmpB x.a a) v (plPos v a) = 0)) := rfl
  rw [h1, Bool.and_eq_true, decide_eq_true_eq, decide_eq_true_eq]
  constructor
  · rintro ⟨h2, h3⟩
    rw [cAt_lt _ v h2] at h3
    exact ⟨h2, (ordB.z _ _).1 h3⟩
  · rintro ⟨h2, h3⟩
    exact ⟨h2, by rw [cAt_lt _ v h2]; exact (ordB.z _ _).2 h3⟩
theorem cont_has {v : List Idt} (h : Val v) (x : Idt) : contF v x = hasF v x := by
  obtain ⟨l1, l2⟩ := place_at h x.a
  unfold contF hasF
  cases hh : plHit v x.a with
  | true =>
    obtain ⟨h1, h2⟩ := (hit_iff v x.a).1 hh
    rw [nAt_lt v h1]
    have := up_mem h (List.getElem_mem h1)
    rw [h2] at this
    rw [this]
    simp
  | false =>
    have hn : ∀ y ∈ v, y.a ≠ x.a := by
      intro y hy he
      obtain ⟨k, hk, rfl⟩ := List.getElem_of_mem hy
      have hlt : ¬ k < plPos v x.a := fun h1 => cB_ne (l1 k hk h1) he
      have : plHit v x.a = true := (hit_iff v x.a).2 ⟨by omega, by
        by_cases hkp : k = plPos v x.a
        · simp only [← hkp]; exact he
        · have h3 := (List.pairwise_iff_getElem.1 h.srt) (plPos v x.a) k (by omega) hk (by omega)
          rw [he] at h3
          exact absurd h3 (l2 _ (by omega) (Nat.le_refl _))⟩
      rw [this] at hh
      cases hh
    rw [up_none hn]
    by_cases h1 : 1 ≤ x.n
    · have : ¬ x.n ≤ 0 := by omega
      simp [this]
    · simp [h1]
/-- Insertion, place by place. -/
def addL : List Idt → Idt → List Idt
  | [], x => [x]
  | y :: v, x => if cmpB y.a x.a < 0 then y :: addL v x else if y.a = x.a then maxId y x :: v else x :: y :: v
theorem ra_true (x : Idt) : ∀ {v : List Idt}, (∀ y ∈ v, cmpB x.a y.a < 0) → raF v x true = v
  | [], _ => rfl
  | y :: v, h => by
    have h1 : (y.a.toList == x.a.toList) = false := by rw [lbeq]; simpa using fun e : y.a = x.a => cB_ne (h y (by simp)) e.symm
    rw [raF, h1, ra_true x fun z hz => h z (by simp [hz])]
    simp
theorem ra_lay (x : Idt) : ∀ {v : List Idt}, (∀ y ∈ v, cmpB x.a y.a < 0) → raF v x false = x :: v
  | [], _ => rfl
  | y :: v, h => by
    have h0 := h y (by simp)
    have h1 : (y.a.toList == x.a.toList) = false := by rw [lbeq]; simpa using fun e : y.a = x.a => cB_ne h0 e.symm
    have h2 : Op.bytesLess y.a.toList x.a.toList = false := by rw [blt]; simpa using cB_as h0
    rw [raF, h1, h2, ra_true x fun z hz => h z (by simp [hz])]
    simp
theorem radd_addL (x : Idt) : ∀ {v : List Idt}, Val v → raF v x false = addL v x
  | [], _ => rfl
  | y :: v, h => by
    rw [raF, addL, lbeq]
    by_cases h1 : y.a = x.a
    · have hn : ¬ cmpB y.a x.a < 0 := by rw [h1]; exact cB_irr _
      rw [if_pos (by simpa using h1), if_neg hn, if_pos h1]
      have hx : ∀ z ∈ v, cmpB (if x.n < y.n then y else x).a z.a < 0 := by
        intro z hz
        have := h.head z hz
        split
        · exact this
        · rw [← h1]; exact this
      rw [ra_lay _ hx]
      congr 1
      unfold maxId
      by_cases h2 : x.n < y.n
      · rw [if_pos h2, if_neg (by omega)]
      · rw [if_neg h2]
        cases x with | mk xa xn =>
        simp only at h1 h2 ⊢
        subst h1
        congr 1
        split <;> omega
    · rw [if_neg (by simpa using h1)]
      by_cases h2 : cmpB y.a x.a < 0
      · have h3 : Op.bytesLess y.a.toList x.a.toList = true := by rw [blt]; simpa using h2
        rw [h3, if_pos h2, radd_addL x h.tail]
        simp
      · have h3 : Op.bytesLess y.a.toList x.a.toList = false := by rw [blt]; simpa using h2
        have h4 := cB_tri h2 h1
        rw [h3, if_neg h2, if_neg h1, ra_true x fun z hz => cB_tr h4 (h.head z hz)]
        simp [h1]
def imax (m n : Int) : Int := if m < n then n else m
theorem addL_mem {x z : Idt} : ∀ {v : List Idt}, z ∈ addL v x → z.a = x.a ∨ ∃ y ∈ v, z.a = y.a
  | [], h => by simp [addL] at h; exact .inl (by rw [h])
  | y :: v, h => by
    rw [addL] at h
    split at h
    · rcases List.mem_cons.1 h with rfl | h
      · exact .inr ⟨z, by simp, rfl⟩
      · rcases addL_mem h with h | ⟨w, h1, h2⟩
        · exact .inl h
        · exact .inr ⟨w, by simp [h1], h2⟩
    · split at h
      · rcases List.mem_cons.1 h with rfl | h
        · exact .inr ⟨y, by simp, rfl⟩
        · exact .inr ⟨z, by simp [h], rfl⟩
      · rcases List.mem_cons.1 h with rfl | h
        · exact .inl rfl
        · exact .inr ⟨z, h, rfl⟩
theorem addL_val {x : Idt} (hx : authF x.a = true ∧ 1 ≤ x.n) : ∀ {v : List Idt}, Val v → Val (addL v x)
  | [], _ => ⟨by simp [addL]; exact hx, by simp [addL]⟩
  | y :: v, h => by
    rw [addL]
    split
    · rename_i h1
      have ih := addL_val hx h.tail
      refine ⟨fun z hz => ?_, List.pairwise_cons.2 ⟨fun z hz => ?_, ih.srt⟩⟩
      · rcases List.mem_cons.1 hz with rfl | hz
        · exact h.ok _ (by simp)
        · exact ih.ok z hz
      · rcases addL_mem hz with h2 | ⟨w, h2, h3⟩
        · rw [h2]; exact h1
        · rw [h3]; exact h.head w h2
    · split
      · refine ⟨fun z hz => ?_, List.pairwise_cons.2 ⟨fun z hz => h.head z hz, h.tail.srt⟩⟩
        rcases List.mem_cons.1 hz with rfl | hz
        · have h2 := h.ok y (by simp)
          refine ⟨h2.1, ?_⟩
          show 1 ≤ if y.n < x.n then x.n else y.n
          split
          · exact hx.2
          · exact h2.2
        · exact h.tail.ok z hz
      · rename_i h1 h2
        have h3 := cB_tri h1 h2
        refine ⟨fun z hz => ?_, List.pairwise_cons.2 ⟨fun z hz => ?_, h.srt⟩⟩
        · rcases List.mem_cons.1 hz with rfl | hz
          · exact hx
          · exact h.ok z hz
        · rcases List.mem_cons.1 hz with rfl | hz
          · exact h3
          · exact cB_tr h3 (h.head z hz)
theorem addL_up {x : Idt} (hx : 1 ≤ x.n) (a : ByteArray) : ∀ {v : List Idt}, Val v → uptoF (addL v x) a = if x.a = a then imax (uptoF v a) x.n else uptoF v a
  | [], _ => by
    rw [addL, up_cons]
    by_cases h : x.a = a
    · rw [if_pos h, if_pos h]; exact (if_pos (show (0 : Int) < x.n by omega)).symm
    · rw [if_neg h, if_neg h]
  | y :: v, h => by
    rw [addL]
    split
    · rename_i h1
      rw [up_cons, addL_up hx a h.tail, up_cons]
      by_cases h2 : y.a = a
      · have h3 : ¬ x.a = a := fun e => cB_ne h1 (h2.trans e.symm)
        rw [if_pos h2, if_pos h2, if_neg h3]
      · rw [if_neg h2, if_neg h2]
    · split
      · rename_i h1 h2
        rw [up_cons, up_cons]
        show (if y.a = a then (if y.n < x.n then x.n else y.n) else uptoF v a) = _
        by_cases h3 : y.a = a
        · rw [if_pos h3, if_pos h3, if_pos (h2.symm.trans h3)]; rfl
        · rw [if_neg h3, if_neg h3, if_neg (fun e => h3 (h2.trans e))]
      · rename_i h1 h2
        have h3 := cB_tri h1 h2
        rw [up_cons]
        by_cases h4 : x.a = a
        · rw [if_pos h4, if_pos h4]
          have : uptoF (y :: v) a = 0 := up_none fun z hz e => by
            rcases List.mem_cons.1 hz with rfl | hz
            · exact h2 (e.trans h4.symm)
            · exact cB_ne (cB_tr h3 (h.head z hz)) (h4.trans e.symm)
          rw [this]; exact (if_pos (show (0 : Int) < x.n by omega)).symm
        · rw [if_neg h4, if_neg h4]
end Go.Proofs.Ytahgddfnbjpfiaa

set_option linter.unusedVariables false
set_option linter.unusedSimpArgs false
namespace Go.Proofs.Ytahgddfnbjpfiaa
open Go Go.RowKit Am

/-- Is an edit live, when these follow it? -/
def aliveF (un : Edt → Edt → Bool) (e : Edt) : List Edt → Bool
  | [] => true
  | u :: l => !(un u e && aliveF un u l) && aliveF un e l
def allL (un : Edt → Edt → Bool) : List Edt → List Bool
  | [] => []
  | e :: l => aliveF un e l :: allL un l
theorem allL_len (un : Edt → Edt → Bool) : ∀ l, (allL un l).length = l.length
  | [] => rfl
  | e :: l => by simp [allL, allL_len un l]
theorem allL_get (un : Edt → Edt → Bool) : ∀ (l : List Edt) (i : Nat) (h : i < l.length), (allL un l)[i]? = some (aliveF un l[i] (l.drop (i + 1)))
  | e :: l, 0, h => by simp [allL]
  | e :: l, i + 1, h => by
    rw [allL, List.getElem?_cons_succ, allL_get un l i (by simpa using h)]
    rfl
/-- An undo that names an edit and is effective on it. -/
def unF (u e : Edt) : Bool := decide (u.kind = 4) && idE u.target e.id && undF u e
/-- The live undos, from the last on. -/
def livU : List Edt → List Edt
  | [] => []
  | e :: l => if (aliveF unF e l && decide (e.kind = 4)) = true then livU l ++ [e] else livU l
theorem off_any (e : Edt) : ∀ l : List Edt, ((offL (livU l) e.id).any fun u => undF u e) = !aliveF unF e l
  | [] => rfl
  | u :: l => by
    rw [livU, aliveF]
    have ih := off_any e l
    unfold offL at *
    cases h1 : aliveF unF u l <;> by_cases h2 : u.kind = 4 <;> cases h3 : idE u.target e.id <;> cases h4 : undF u e <;> simp [unF, h1, h2, h3, h4, List.filter_append, List.any_append, ih]
theorem run_at (es : List Edt) : ∀ p, p ≤ es.length → runL es (downs es.length p) = (List.replicate (es.length - p) false ++ allL unF (es.drop (es.length - p)), livU (es.drop (es.length - p)))
  | 0, _ => by
    simp [runL, downs, allL, livU]
  | p + 1, h => by
    rw [downs_succ, runL_snoc, run_at es p (by omega)]
    obtain ⟨i, hi⟩ : ∃ i, i = es.length - 1 - p := ⟨_, rfl⟩
    have h1 : es.length - p = i + 1 := by omega
    have h2 : es.length - (p + 1) = i := by omega
    have hil : i < es.length := by omega
    rw [← hi, h1, h2]
    unfold stp
    rw [List.getElem?_eq_getElem hil]
    simp only
    rw [List.drop_eq_getElem_cons hil, allL, livU, off_any, Bool.not_not]
    congr 1
    rw [List.replicate_succ', List.append_assoc, List.set_append_right _ _ (by simp)]
    simp
theorem liveB_all (es : List Edt) : liveB es = allL unF es := by
  unfold liveB
  rw [run_at es es.length (Nat.le_refl _), Nat.sub_self]
  simp
/-- Only the effective pairs count. -/
theorem alive_congr {un un' : Edt → Edt → Bool} (e : Edt) : ∀ l : List Edt, (∀ u ∈ l, ∀ x, (x = e ∨ x ∈ l) → un u x = un' u x) → aliveF un e l = aliveF un' e l
  | [], _ => rfl
  | u :: l, h => by
    rw [aliveF, aliveF, h u (by simp) e (.inl rfl), alive_congr u l (fun v hv x hx => h v (by simp [hv]) x (.inr (by rcases hx with rfl | hx <;> simp [*]))), alive_congr e l (fun v hv x hx => h v (by simp [hv]) x (by rcases hx with rfl | hx <;> simp [*]))]
theorem allL_congr {un un' : Edt → Edt → Bool} : ∀ l : List Edt, (∀ u ∈ l, ∀ x ∈ l, un u x = un' u x) → allL un l = allL un' l
  | [], _ => rfl
  | e :: l, h => by
    rw [allL, allL, alive_congr e l (fun u hu x hx => h u (by simp [hu]) x (by rcases hx with rfl | hx <;> simp [*])), allL_congr l fun u hu x hx => h u (by simp [hu]) x (by simp [hx])]
/-- The reference's word. -/
def rUn (u e : Edt) : Bool := decide (u.kind = 4) && idE u.target e.id && (u.id.a.toList == e.id.a.toList) && decide (1 ≤ e.kind) && decide (e.kind ≤ 4) && hasF u.deps e.id && decide (u.floor < e.clock)
theorem un_r {u : Edt} (h : Val u.deps) (e : Edt) : unF u e = rUn u e := by
  unfold unF rUn undF
  rw [cont_has h]
  simp only [Bool.and_assoc]
end Go.Proofs.Ytahgddfnbjpfiaa

set_option linter.unusedVariables false
set_option linter.unusedSimpArgs false
set_option maxRecDepth 100000
set_option maxHeartbeats 16000000
namespace Go.Proofs.Ytahgddfnbjpfiaa
open Go Go.RowKit Am

def undoesS : Fspec := fun _ ds r => ∃ u e : Edt, u.deps.length ≤ 1099511627776 ∧ ds = [.agg (encE u), .agg (encE e)] ∧ r = .s (.int .i64 (if rUn u e = true then 1 else 0))
theorem undoes_sound {plain : TypeId → Bool} {Γ : FuncId → Option Fspec} {Δ : FuncId → Option Pt} (hE : EnvOk ⟨Try.prog, plain, Γ, Δ, fun _ => none, 0⟩) (hpl : plain 29 = true) (g_has : Γ 15 = some hasS) : Sound Try.prog 35 undoesS := by
  refine sound_of_awp hE Try.func35 rfl (by kernel_rfl) ?_
  rintro Φ ds r ⟨u, e, hd, rfl, rfl⟩
  refine ⟨by simp [Try.f35], ?_⟩
  unfold st0 encE
  refine W.out (E := ⟨Try.prog, plain, Γ, Δ, Φ, _⟩) ?_
  have hkk : (u.kind == 4) = decide (u.kind = 4) := by rw [beq_eq_decide]
  have gid : (u.target.a.toList == e.id.a.toList && u.target.n == e.id.n) = idE u.target e.id := rfl
  have ui : ∀ v, encIds v = .sl (v.map encId) := fun _ => rfl
  have ue : ∀ x : Idt, encId x = [.s (.string x.a), .s (.int .i64 x.n)] := fun _ => rfl
  cases c1 : (u.kind == 4)
  · have hz : rUn u e = false := by simp only [rUn, ← hkk, c1]; simp
    refine go (And.intro hpl (And.intro gid c1)) ?_
    rw [hz, if_neg (by decide)]
    refine x_done (x_out (sr @Try.f35.eq_1) (by simp) (by simp) rfl)
  cases c2 : idE u.target e.id
  · have hz : rUn u e = false := by simp only [rUn, ← hkk, c1, c2]; simp
    refine go (And.intro hpl (And.intro gid (And.intro c1 c2))) ?_
    rw [hz, if_neg (by decide)]
    refine x_done (x_out (sr @Try.f35.eq_1) (by simp) (by simp) rfl)
  cases c3 : (u.id.a.toList == e.id.a.toList)
  · have hz : rUn u e = false := by simp only [rUn, ← hkk, c1, c2, c3]; simp
    refine go (And.intro hpl (And.intro gid (And.intro c1 (And.intro c2 c3)))) ?_
    rw [hz, if_neg (by decide)]
    refine x_done (x_out (sr @Try.f35.eq_1) (by simp) (by simp) rfl)
  by_cases c4 : 1 ≤ e.kind
  rotate_left
  · have hz : rUn u e = false := by simp only [rUn, ← hkk, c1, c2, c3, c4]; simp
    refine go (And.intro hpl (And.intro gid (And.intro c1 (And.intro c2 (And.intro c3 c4))))) ?_
    rw [hz, if_neg (by decide)]
    refine x_done (x_out (sr @Try.f35.eq_1) (by simp) (by simp) rfl)
  by_cases c5 : e.kind ≤ 4
  rotate_left
  · have hz : rUn u e = false := by simp only [rUn, ← hkk, c1, c2, c3, c4, c5]; simp
    refine go (And.intro hpl (And.intro gid (And.intro c1 (And.intro c2 (And.intro c3 (And.intro c4 c5)))))) ?_
    rw [hz, if_neg (by decide)]
    refine x_done (x_out (sr @Try.f35.eq_1) (by simp) (by simp) rfl)
  refine go (And.intro hpl (And.intro gid (And.intro c1 (And.intro c2 (And.intro c3 (And.intro c4 c5)))))) ?_
  refine x_callN rfl rfl rfl rfl (sv (And.intro ui ue)) g_has (sv (And.intro ui ue)) (se (And.intro ui ue)) ⟨u.deps, e.id, hd, rfl, rfl⟩ rfl ?_
  cases c6 : hasF u.deps e.id
  · have hz : rUn u e = false := by simp only [rUn, ← hkk, c1, c2, c3, c4, c5, c6]; simp
    refine go (And.intro hpl (And.intro gid (And.intro c1 (And.intro c2 (And.intro c3 (And.intro c4 (And.intro c5 c6))))))) ?_
    rw [hz, if_neg (by decide)]
    refine x_done (x_out (sr @Try.f35.eq_1) (by simp) (by simp) rfl)
  by_cases c7 : u.floor < e.clock
  rotate_left
  · have hz : rUn u e = false := by simp only [rUn, ← hkk, c1, c2, c3, c4, c5, c6, c7]; simp
    refine go (And.intro hpl (And.intro gid (And.intro c1 (And.intro c2 (And.intro c3 (And.intro c4 (And.intro c5 (And.intro c6 c7)))))))) ?_
    rw [hz, if_neg (by decide)]
    refine x_done (x_out (sr @Try.f35.eq_1) (by simp) (by simp) rfl)
  have hz : rUn u e = true := by simp only [rUn, ← hkk, c1, c2, c3, c4, c5, c6, c7]; simp
  refine go (And.intro hpl (And.intro gid (And.intro c1 (And.intro c2 (And.intro c3 (And.intro c4 (And.intro c5 (And.intro c6 c7)))))))) ?_
  rw [hz, if_pos rfl]
  refine x_done (x_out (sr @Try.f35.eq_1) (by simp) (by simp) rfl)
/-- The list's edits have few Deps. -/
def smL (es : List Edt) : Prop := es.length ≤ 1048576 ∧ ∀ u ∈ es, u.deps.length ≤ 1048576
def doneS (m : Nat) : Fspec := fun _ ds r => ∃ (es : List Edt) (i : Nat) (h : i < es.length), es.length - i ≤ m ∧ smL es ∧ ds = [.sl (es.map encE), .s (.int .i64 i)] ∧ r = .s (.bool (aliveF rUn es[i] (es.drop (i + 1))))
theorem done_step (m : Nat) {plain : TypeId → Bool} {Γ : FuncId → Option Fspec} {Δ : FuncId → Option Pt} (hE : EnvOk ⟨Try.prog, plain, Γ, Δ, fun _ => none, 0⟩) (g_undoes : Γ 35 = some undoesS) (g_done : Γ 23 = some (doneS m)) : Sound Try.prog 23 (doneS (m + 1)) := by
  refine sound_of_awp hE Try.func23 rfl (by kernel_rfl) ?_
  rintro Φ ds r ⟨es, k, hk, hm, hs, rfl, rfl⟩
  refine ⟨by simp [Try.f23], ?_⟩
  unfold st0
  refine W.out (E := ⟨Try.prog, plain, Γ, Δ, Φ, _⟩) ?_
  have hl := hs.1
  have hr := encE_rows es
  generalize hek : es[k] = e at *
  refine go trivial ?_
  refine x_loop (fun σ => ∃ (i : Nat), σ.t 0 = .sl (es.map encE) ∧ σ.t 1 = .s (.int .i64 k) ∧ σ.t 5 = .s (.int .i64 i) ∧ k < i ∧ i ≤ es.length ∧ aliveF rUn e (es.drop i) = aliveF rUn e (es.drop (k + 1))) (fun σ => es.length - ix (σ.t 5)) ⟨k + 1, (by first | assumption | exact sxa trivial), (by first | assumption | exact sxa trivial), (by first | assumption | exact sxa trivial), (by first | rfl | omega | assumption | (simp [*]; done)), (by first | rfl | omega | assumption | (simp [*]; done)), (by first | rfl | omega | assumption | (simp [*]; done))⟩ ?_
  rintro t h n ⟨i, h0, h1, h5, hf0, hf1, hf2⟩
  simp only at h0 h1 h5
  refine go (And.intro h0 (And.intro h1 h5)) ?_
  refine x_condP (sv (And.intro h0 (And.intro h1 h5))) (fun hc => ?_) (fun hc => ?_)
  · have hi : i < es.length := by omega
    rw [List.drop_eq_getElem_cons hi, aliveF] at hf2
    have hui : es[i].deps.length ≤ 1048576 := hs.2 _ (List.getElem_mem hi)
    have hrow : ((es.map encE).getD i []) = encE es[i] := getD_map _ _ _ hi
    have hrok : ((es.map encE).getD k []) = encE e := by rw [← hek]; exact getD_map _ _ _ hk
    generalize heu : es[i] = u at *
    refine go (And.intro h0 (And.intro h1 (And.intro h5 (And.intro hr (And.intro hrow (And.intro hrok @encE.eq_1)))))) ?_
    refine x_callD rfl rfl rfl rfl rfl (sv @encE.eq_1) g_undoes (sv @encE.eq_1) (se @encE.eq_1) ⟨u, e, by omega, rfl, rfl⟩ rfl ?_
    cases c1 : rUn u e
    · rw [c1, Bool.false_and, Bool.not_false, Bool.true_and] at hf2
      rw [if_neg (by decide)]
      have z0 : ((0 : Int) == 1) = false := rfl
      refine go (And.intro h0 (And.intro h1 (And.intro h5 z0))) ?_
      (refine ⟨⟨i + 1, ?_, ?_, ?_, ?_, ?_, ?_⟩, ?_⟩ <;> (first | omega | (dsimp only; omega) | (first | omega | assumption | (simp [*]; done)) | exact sxa @cast_succ | exact soa trivial))
    · rw [c1, Bool.true_and] at hf2
      rw [if_pos rfl]
      have z0 : ((1 : Int) == 1) = true := rfl
      refine go (And.intro h0 (And.intro h1 (And.intro h5 z0))) ?_
      refine x_callD rfl rfl rfl rfl rfl (sv trivial) g_done (sv trivial) (se trivial) ⟨es, i, hi, by omega, hs, rfl, rfl⟩ rfl ?_
      rw [heu]
      cases c2 : aliveF rUn u (es.drop (i + 1))
      · rw [c2, Bool.not_false, Bool.true_and] at hf2
        refine go (And.intro h0 (And.intro h1 (And.intro h5 c2))) ?_
        (refine ⟨⟨i + 1, ?_, ?_, ?_, ?_, ?_, ?_⟩, ?_⟩ <;> (first | omega | (dsimp only; omega) | (first | omega | assumption | (simp [*]; done)) | exact sxa @cast_succ | exact soa trivial))
      · rw [c2, Bool.not_true, Bool.false_and] at hf2
        refine go (And.intro h0 (And.intro h1 (And.intro h5 c2))) ?_
        rw [← hf2]
        refine x_done (x_out (sr @Try.f23.eq_1) (by simp) (by simp) rfl)
  · have ee : i = es.length := by omega
    subst ee
    rw [List.drop_length, aliveF] at hf2
    rw [← hf2]
    refine go (And.intro h0 (And.intro h1 h5)) ?_
    refine x_done (x_out (sr @Try.f23.eq_1) (by simp) (by simp) rfl)
theorem done_all : ∀ (m : Nat) {plain : TypeId → Bool} {Γ : FuncId → Option Fspec} {Δ : FuncId → Option Pt} (hE : EnvOk ⟨Try.prog, plain, Γ, Δ, fun _ => none, 0⟩) (g_undoes : Γ 35 = some undoesS), Sound Try.prog 23 (doneS m)
  | 0, _, _, _, _, _ => fun c Φ ds r vals _ _ _ _ ⟨es, i, h, hm, _⟩ => absurd hm (by omega)
  | m + 1, plain, Γ, Δ, hE, g => done_step m (EnvOk.add hE (done_all m hE g) (by kernel_rfl)) (by rw [upd_ne _ _ _ _ (by decide)]; exact g) (upd_same _ _ _)
def doneXS : Fspec := fun Φ ds r => ∃ m, doneS m Φ ds r
theorem done_sound {plain : TypeId → Bool} {Γ : FuncId → Option Fspec} {Δ : FuncId → Option Pt} (hE : EnvOk ⟨Try.prog, plain, Γ, Δ, fun _ => none, 0⟩) (g_undoes : Γ 35 = some undoesS) : Sound Try.prog 23 doneXS :=
  fun c Φ ds r vals h1 h2 h3 h4 ⟨m, h⟩ => done_all m hE g_undoes c Φ ds r vals h1 h2 h3 h4 h
def rliveS : Fspec := fun _ ds r => ∃ es : List Edt, smL es ∧ ds = [.sl (es.map encE)] ∧ r = .sl ((allL rUn es).map encBo)
theorem okRowsB (l : List Bool) : okRows 1 (l.map encBo) := okRows_map encBo l 1 fun a => ⟨rfl, by simp [encBo, cellish]⟩
theorem deepB (l : List Bool) : ∀ r ∈ l.map encBo, ∀ q ∈ r, deepc q = true := deep_map encBo l fun a => by simp [encBo, deepc]
theorem encB_rows (v : List Bool) : (∀ r ∈ v.map encBo, r.length = 1) = True := rows_map _ _ _ fun _ => rfl
theorem snocB (l : List Bool) (x : Bool) : (l ++ [x]).map encBo = l.map encBo ++ [encBo x] := by simp
theorem rlive_sound {plain : TypeId → Bool} {Γ : FuncId → Option Fspec} {Δ : FuncId → Option Pt} (hE : EnvOk ⟨Try.prog, plain, Γ, Δ, fun _ => none, 0⟩) (g_done : Γ 23 = some doneXS) : Sound Try.prog 12 rliveS := by
  refine sound_of_awp hE Try.func12 rfl (by kernel_rfl) ?_
  rintro Φ ds r ⟨es, hs, rfl, rfl⟩
  refine ⟨by simp [Try.f12], ?_⟩
  unfold st0
  refine W.out (E := ⟨Try.prog, plain, Γ, Δ, Φ, _⟩) ?_
  have hl := hs.1
  refine go trivial ?_
  refine x_loopG 3 1 (fun σ => ∃ (i : Nat) (b : Nat) (cap : Nat) (out : List Bool) (sp : List (List Am.V)), σ.t 0 = .sl (es.map encE) ∧ σ.t 3 = .loc b 0 out.length cap ∧ σ.t 4 = .s (.int .i64 i) ∧ σ.h b = some ⟨1, out.map encBo ++ sp, true⟩ ∧ b < σ.n ∧ i ≤ es.length ∧ out.length ≤ cap ∧ cap ≤ out.length + sp.length ∧ out.length = i ∧ out ++ allL rUn (es.drop i) = allL rUn es) (fun σ => es.length - ix (σ.t 4)) (sca trivial) ⟨0, 0, 0, [], [], (by first | assumption | exact sxa trivial), (by first | assumption | exact sxa trivial), (by first | assumption | exact sxa trivial), (by first | assumption | exact sxa trivial), (by first | omega | (dsimp only; omega) | exact soa trivial | omega | (simp; done)), (by first | rfl | omega | assumption | (simp [*]; done)), (by first | rfl | omega | assumption | (simp [*]; done)), (by first | rfl | omega | assumption | (simp [*]; done)), (by first | rfl | omega | assumption | (simp [*]; done)), (by first | rfl | omega | assumption | (simp [*]; done))⟩ ?_
  rintro t h n ⟨i, b, cap, out, sp, h0, h3, h4, hhb, hn1, hf0, hf1, hf2, hf3, hf4⟩
  simp only at h0 h3 h4 hhb hn1
  refine go (And.intro h0 (And.intro h3 h4)) ?_
  refine x_condP (sv (And.intro h0 (And.intro h3 h4))) (fun hc => ?_) (fun hc => ?_)
  · have hi : i < es.length := by omega
    rw [List.drop_eq_getElem_cons hi, allL] at hf4
    have e1 : (b = n) = False := by simp <;> omega
    have e3 : (n = b) = False := by simp <;> omega
    refine go (And.intro h0 (And.intro h3 (And.intro h4 (And.intro hhb (And.intro e1 e3))))) ?_
    refine x_callN rfl rfl rfl rfl (sv trivial) g_done (sv trivial) (se trivial) ⟨es.length, es, i, hi, by omega, hs, rfl, rfl⟩ rfl ?_
    generalize hx : aliveF rUn es[i] (es.drop (i + 1)) = x at *
    have hl2 : (out ++ [x]).length = out.length + 1 := by simp
    have hfin : (out ++ [x]) ++ allL rUn (es.drop (i + 1)) = allL rUn es := by rw [List.append_assoc]; exact hf4
    clear hf4
    refine go (And.intro h0 (And.intro h3 (And.intro h4 (And.intro hhb (And.intro e1 e3))))) ?_
    refine x_appendO rfl rfl rfl rfl rfl rfl (sv (And.intro h3 (And.intro hhb (And.intro @encBo.eq_1 (And.intro e1 e3))))) (by decide) (sc (And.intro h3 (And.intro hhb (And.intro @encBo.eq_1 (And.intro e1 e3))))) (sv (And.intro h3 (And.intro hhb (And.intro @encBo.eq_1 (And.intro e1 e3))))) (sx (And.intro h3 (And.intro hhb (And.intro @encBo.eq_1 (And.intro e1 e3))))) (by first | rfl | (simp; done) | (simp [spare_len]; omega)) (by first | omega | (simp; done) | (simp [spare_len]; omega)) (by first | omega | (simp; done) | (simp [spare_len]; omega)) (sx (And.intro h3 (And.intro hhb (And.intro @encBo.eq_1 (And.intro e1 e3))))) (okRowsB [x]) (by first | omega | (simp; done) | (simp [spare_len]; omega)) (fun cap' hcap' => ?_)
    refine go (And.intro h0 (And.intro h3 (And.intro h4 (And.intro hhb (And.intro @encBo.eq_1 (And.intro e1 e3)))))) ?_
    have hc2 : out.length + 1 ≤ cap' := hcap'
    have hs1 := spare_len 1 (cap' - (out.length + 1))
    (refine ⟨⟨i + 1, n + 1, cap', out ++ [x], spare 1 (cap' - (out.length + 1)), ?_, ?_, ?_, ?_, ?_, ?_, ?_, ?_, ?_, ?_⟩, ?_⟩ <;> (first | omega | (dsimp only; omega) | (first | omega | assumption | (simp [*]; done)) | exact sxa (And.intro @cast_succ (And.intro @encBo.eq_1 (And.intro hl2 (And.intro @snocB (And.intro e1 e3))))) | exact soa trivial))
  · have ee : i = es.length := by omega
    subst ee
    rw [List.drop_length, allL, List.append_nil] at hf4
    rw [← hf4]
    refine go (And.intro h0 (And.intro h3 h4)) ?_
    refine x_done (x_outL (sp := sp) (sr (And.intro @Try.f12.eq_1 h3)) (sx hhb) (by simp) (deepB _))
end Go.Proofs.Ytahgddfnbjpfiaa

set_option linter.unusedVariables false
set_option linter.unusedSimpArgs false
set_option maxRecDepth 100000
set_option maxHeartbeats 16000000
namespace Go.Proofs.Ytahgddfnbjpfiaa
open Go Go.RowKit Am

def smA (es : List Edt) : Prop := es.length ≤ 1048576 ∧ ∀ u ∈ es, SmE u
theorem smA.l {es : List Edt} (h : smA es) : smL es := ⟨h.1, fun u hu => (h.2 u hu).deps⟩
/-- Is an edit too large, or invalid? -/
def eBad (e : Edt) : Bool := decide (300 < (e.value.size : Int)) || decide (300 < (e.field.size : Int)) || decide (20 < (e.deps.length : Int)) || (chkEF e != 0)
def sFrom (l : List Edt) : Nat → Nat → Bool
  | 0, _ => true
  | m + 1, i => match l[i]? with
    | none => true
    | some e => !eBad e && !(match l[i - 1]? with | none => false | some q => decide (0 < (i : Int)) && decide (0 ≤ cmpE q e)) && sFrom l m (i + 1)
def srtF (l : List Edt) : Bool := decide ((l.length : Int) ≤ 40) && sFrom l l.length 0
def sortedS : Fspec := fun _ ds r => ∃ es : List Edt, smA es ∧ ds = [.sl (es.map encE)] ∧ r = .s (.int .i64 (if srtF es = true then 1 else 0))
end Go.Proofs.Ytahgddfnbjpfiaa

set_option linter.unusedVariables false
set_option linter.unusedSimpArgs false
set_option maxRecDepth 100000
set_option maxHeartbeats 16000000
namespace Go.Proofs.Ytahgddfnbjpfiaa
open Go Go.RowKit Am

theorem sorted_sound {plain : TypeId → Bool} {Γ : FuncId → Option Fspec} {Δ : FuncId → Option Pt} (hE : EnvOk ⟨Try.prog, plain, Γ, Δ, fun _ => none, 0⟩) (g_chkE : Γ 17 = some chkES) (g_rcmp : Γ 18 = some cmpES) : Sound Try.prog 10 sortedS := by
  refine sound_of_awp hE Try.func10 rfl (by kernel_rfl) ?_
  rintro Φ ds r ⟨es, hs, rfl, rfl⟩
  refine ⟨by simp [Try.f10], ?_⟩
  unfold st0
  refine W.out (E := ⟨Try.prog, plain, Γ, Δ, Φ, _⟩) ?_
  have hl := hs.1
  have hr := encE_rows es
  by_cases d0 : 40 < (es.length : Int)
  · have hz : srtF es = false := by simp only [srtF, decide_eq_false (by omega : ¬ (es.length : Int) ≤ 40)]; rfl
    rw [hz, if_neg (by decide)]
    refine go d0 ?_
    refine x_done (x_out (sr @Try.f10.eq_1) (by simp) (by simp) rfl)
  have hz : srtF es = sFrom es es.length 0 := by simp only [srtF, decide_eq_true (by omega : (es.length : Int) ≤ 40)]; rfl
  rw [hz]
  refine go d0 ?_
  refine x_loop (fun σ => ∃ (i : Nat), σ.t 0 = .sl (es.map encE) ∧ σ.t 3 = .s (.int .i64 i) ∧ i ≤ es.length ∧ sFrom es (es.length - i) i = sFrom es es.length 0) (fun σ => es.length - ix (σ.t 3)) ⟨0, (by first | assumption | exact sxa trivial), (by first | assumption | exact sxa trivial), (by first | rfl | omega | assumption | (simp [*]; done)), (by first | rfl | omega | assumption | (simp [*]; done))⟩ ?_
  rintro t h n ⟨i, h0, h3, hf0, hf1⟩
  simp only at h0 h3
  refine go (And.intro h0 h3) ?_
  refine x_condP (sv (And.intro h0 h3)) (fun hc => ?_) (fun hc => ?_)
  · have hi : i < es.length := by omega
    obtain ⟨m, hm⟩ : ∃ m, es.length - i = m + 1 := ⟨es.length - i - 1, by omega⟩
    have hm2 : es.length - (i + 1) = m := by omega
    rw [hm, sFrom, List.getElem?_eq_getElem hi] at hf1
    simp only at hf1
    have hse : SmE es[i] := hs.2 _ (List.getElem_mem hi)
    have hrow : ((es.map encE).getD i []) = encE es[i] := getD_map _ _ _ hi
    generalize heu : es[i] = e at *
    have bad : ∀ x y : Bool, (!(x || y)) = false → True := fun _ _ _ => trivial
    by_cases c1 : 300 < (e.value.size : Int)
    · have hb : eBad e = true := by simp only [eBad, c1]; simp
      rw [hb, Bool.not_true, Bool.false_and, Bool.false_and] at hf1
      rw [← hf1, if_neg (by decide)]
      refine go (And.intro h0 (And.intro h3 (And.intro hr (And.intro hrow (And.intro @encE.eq_1 c1))))) ?_
      refine x_done (x_out (sr @Try.f10.eq_1) (by simp) (by simp) rfl)
    by_cases c2 : 300 < (e.field.size : Int)
    · have hb : eBad e = true := by simp only [eBad, c1, c2]; simp
      rw [hb, Bool.not_true, Bool.false_and, Bool.false_and] at hf1
      rw [← hf1, if_neg (by decide)]
      refine go (And.intro h0 (And.intro h3 (And.intro hr (And.intro hrow (And.intro @encE.eq_1 (And.intro c1 c2)))))) ?_
      refine x_done (x_out (sr @Try.f10.eq_1) (by simp) (by simp) rfl)
    by_cases c3 : 20 < (e.deps.length : Int)
    · have hb : eBad e = true := by simp only [eBad, c1, c2, c3]; simp
      rw [hb, Bool.not_true, Bool.false_and, Bool.false_and] at hf1
      rw [← hf1, if_neg (by decide)]
      refine go (And.intro h0 (And.intro h3 (And.intro hr (And.intro hrow (And.intro @encE.eq_1 (And.intro c1 (And.intro c2 c3))))))) ?_
      refine x_done (x_out (sr @Try.f10.eq_1) (by simp) (by simp) rfl)
    refine go (And.intro h0 (And.intro h3 (And.intro hr (And.intro hrow (And.intro @encE.eq_1 (And.intro c1 (And.intro c2 c3))))))) ?_
    refine x_callD rfl rfl rfl rfl rfl (sv @encE.eq_1) g_chkE (sv @encE.eq_1) (se @encE.eq_1) ⟨e, hse, rfl, rfl⟩ rfl ?_
    cases c4 : (chkEF e != 0)
    rotate_left
    · have hb : eBad e = true := by simp only [eBad, c1, c2, c3, c4]; simp
      rw [hb, Bool.not_true, Bool.false_and, Bool.false_and] at hf1
      rw [← hf1, if_neg (by decide)]
      refine go (And.intro h0 (And.intro h3 c4)) ?_
      refine x_done (x_out (sr @Try.f10.eq_1) (by simp) (by simp) rfl)
    have hb : eBad e = false := by simp only [eBad, c1, c2, c3, c4]; simp
    rw [hb, Bool.not_false, Bool.true_and] at hf1
    by_cases c5 : 0 < (i : Int)
    · have hi1 : i - 1 < es.length := by omega
      have ei : (i : Int) - 1 = ((i - 1 : Nat) : Int) := by omega
      have hrow1 : ((es.map encE).getD (i - 1) []) = encE es[i - 1] := getD_map _ _ _ hi1
      rw [List.getElem?_eq_getElem hi1] at hf1
      simp only at hf1
      rw [decide_eq_true c5, Bool.true_and] at hf1
      generalize heq : es[i - 1] = q at *
      refine go (And.intro h0 (And.intro h3 (And.intro hr (And.intro hrow (And.intro hrow1 (And.intro ei (And.intro @encE.eq_1 (And.intro c4 c5)))))))) ?_
      refine x_callD rfl rfl rfl rfl rfl (sv @encE.eq_1) g_rcmp (sv @encE.eq_1) (se @encE.eq_1) ⟨q, e, rfl, rfl⟩ rfl ?_
      by_cases c6 : 0 ≤ cmpE q e
      · rw [decide_eq_true c6, Bool.not_true, Bool.false_and] at hf1
        rw [← hf1, if_neg (by decide)]
        refine go (And.intro h0 (And.intro h3 (And.intro c4 c6))) ?_
        refine x_done (x_out (sr @Try.f10.eq_1) (by simp) (by simp) rfl)
      · rw [decide_eq_false c6, Bool.not_false, Bool.true_and, ← hm2] at hf1
        refine go (And.intro h0 (And.intro h3 (And.intro c4 c6))) ?_
        (refine ⟨⟨i + 1, ?_, ?_, ?_, ?_⟩, ?_⟩ <;> (first | omega | (dsimp only; omega) | (first | omega | assumption | (simp [*]; done)) | exact sxa @cast_succ | exact soa trivial))
    · have hnx : sFrom es m (i + 1) = sFrom es es.length 0 := by
        rw [← hf1]
        cases es[i - 1]? with
        | none => simp
        | some q => simp only [decide_eq_false c5, Bool.false_and, Bool.not_false, Bool.true_and]
      rw [← hm2] at hnx
      refine go (And.intro h0 (And.intro h3 (And.intro hr (And.intro hrow (And.intro @encE.eq_1 (And.intro c4 c5)))))) ?_
      (refine ⟨⟨i + 1, ?_, ?_, ?_, ?_⟩, ?_⟩ <;> (first | omega | (dsimp only; omega) | (first | omega | assumption | (simp [*]; done)) | exact sxa @cast_succ | exact soa trivial))
  · have ee : i = es.length := by omega
    subst ee
    rw [Nat.sub_self, sFrom] at hf1
    rw [← hf1, if_pos rfl]
    refine go (And.intro h0 h3) ?_
    refine x_done (x_out (sr @Try.f10.eq_1) (by simp) (by simp) rfl)
end Go.Proofs.Ytahgddfnbjpfiaa
