/- Texts that the law's proof stands on: AmDraw, AmOrd. -/
import Derived.Test.YtahgddfnbjpfiaaB7
/- An abstract machine over values: a region whose order is open. -/
set_option linter.unusedVariables false
set_option linter.unusedSimpArgs false
namespace Go.Proofs.Ytahgddfnbjpfiaa.Am
open Go Go.RowKit

/-- What a quiet operation comes to: it turns no block of one's own. -/
def qcall (E : Env) (g : FuncId) (args : List V) (h : Hp) (v : V) : Prop :=
  match E.Γ g, expArgs h 0 args with
  | some F, some ds => ∃ r, F (phi E h args) ds r ∧ ((noSl r = true ∧ v = r) ∨ (args.flatMap (touchA h) = [] ∧ (match r with | .own _ rows => v = .sl rows | r => v = r)))
  | _, _ => False
def qfv (E : Env) (k : Nat) (args : List V) (h : Hp) (v : V) : Prop :=
  match E.Φ k, allO (expoA h) args with
  | some S, some ds => ∃ x, flat x = true ∧ S ds x ∧ v = .s x
  | _, _ => False
def qcl (E : Env) (cl : Call) (e : Operand → V) (op : Op) (h : Hp) (v : V) : Prop :=
  match cl.callee with
  | .builtin .append => False
  | .builtin _ => pval E.P E.plain h e op = some v
  | .value f => match e f with
    | .fn g caps => qcall E g (cl.args.toList.map e ++ caps) h v
    | .fv k => qfv E k (cl.args.toList.map e) h v
    | _ => False
  | _ => False
def qv (E : Env) (op : Op) (e : Operand → V) (h : Hp) (v : V) : Prop :=
  match op with
  | .call cl => qcl E cl e (.call cl) h v
  | op => pval E.P E.plain h e op = some v
def eff : Op → Bool
  | .store .. | .alloc _ | .box .. | .buildSlice .. | .makeSlice .. => true
  | .call cl => match cl.callee with
    | .builtin .append | .builtin .copy => true
    | _ => false
  | _ => false
/-- Quiet: no memory is turned, and no variable that is read in the region is set. -/
def quiet (ops : Array Oper) (o : Oper) : Bool := !eff o.op && (match o.op, o.dst with
  | .assign x, some d => (ops.toList.all fun o' => !(o'.looksAt ops).contains d) && (ops.toList.all fun o' => !(eff o'.op && (match x, o'.dst with
    | .tmp q, some e => q == e
    | _, _ => false)))
  | _, _ => true)
/-- A region whose order is open: quiet operations in whatever order, then the rest in its own. -/
def awpD (E : Env) (ops : Array Oper) : List Oper → (St → Prop) → St → Prop
  | [], K, σ => K σ
  | o :: rest, K, σ => if quiet ops o then
      gd ops o σ (∃ v, qv E o.op (ev σ.t) σ.h v ∧ awpD E ops rest K (putS o.dst v σ)) (awpD E ops rest K (putS o.dst .undef σ))
    else awpOps E ops (o :: rest) K σ

section
variable {ps : Hp × Mu × World} {E : Env} {c : Cx} {σ : St} {μ : Mu} {a : Act} {w : World}
theorem q_sound (hE : EnvOk E) (hc : c.P = E.P) (hΦ : FvOk c E.Φ) {h : Hp} {n : Nat} (H : HS c h n μ w) {t : Nat → V} (ht : ∀ i, R c h μ w (t i) (a.tmps.getD i Go.undef)) {o : Oper} {v : V} (hk : qv E o.op (ev t) h v) {next : Act → World → Prop} {Q : Exit → Act → World → Prop}
    (hn : ∀ x w', HS c h n μ w' → Ext c h μ w h μ w' → R c h μ w' v x → next (a.put o.dst x) w') : o.wp c.P a w next Q := by
  have he : ∀ x, R c h μ w (ev t x) (a.eval x) := fun x => Rp.ev ht x
  have pure_ : pval E.P E.plain h (ev t) o.op = some v → o.wp c.P a w next Q := by
    intro h1
    rw [← hc] at h1
    obtain ⟨x, h3, h4⟩ := pval_sound (by rw [hc]; exact hE.plain) H he h1
    unfold Oper.wp
    rw [h3]
    exact hn x w H (Ext.refl _ _ _ _) h4
  unfold qv at hk
  split at hk
  · rename_i cl ho
    unfold qcl at hk
    split at hk
    · exact hk.elim
    · rw [← ho] at hk; exact pure_ hk
    · rename_i f hcal
      have h1 := he f
      split at hk
      · rename_i g caps hf
        rw [hf] at h1
        obtain ⟨xs, hx, hl, hr⟩ := h1.fn_inv
        unfold qcall at hk
        split at hk
        · rename_i F ds hF hds
          obtain ⟨r, hS, hv⟩ := hk
          have hΓ : fnOk c.P g = true := by rw [hc]; exact hE.fn g F hF
          have hrun := run_callv (w := w) ho hcal hx hΓ
          have hargs : ∀ i, i < (cl.args.toList.map (ev t) ++ caps).length → R c h μ w ((cl.args.toList.map (ev t) ++ caps).getD i .undef) ((cl.args.map a.eval ++ xs).getD i Go.undef) := by
            intro i hi
            by_cases hia : i < cl.args.size
            · have h2 : (cl.args.toList.map (ev t) ++ caps).getD i .undef = ev t cl.args[i] := by simp [List.getD_eq_getElem?_getD, List.getElem?_append_left, hia]
              have h3 : (cl.args.map a.eval ++ xs).getD i Go.undef = a.eval cl.args[i] := by
                simp [Array.getElem?_append_left, hia]
              rw [h2, h3]; exact he _
            · have h2 : (cl.args.toList.map (ev t) ++ caps).getD i .undef = caps.getD (i - cl.args.size) .undef := by
                simp only [List.getD_eq_getElem?_getD]
                rw [List.getElem?_append_right (by simp; omega)]
                simp
              have h3 : (cl.args.map a.eval ++ xs).getD i Go.undef = xs.getD (i - cl.args.size) Go.undef := by
                simp only [Array.getD_eq_getD_getElem?]
                rw [Array.getElem?_append_right (by simp; omega)]
                simp
              rw [h2, h3]
              exact hr _ (by simp at hi; omega)
          unfold Oper.wp
          rw [hrun]
          have hls : (cl.args.map a.eval ++ xs).size = (cl.args.toList.map (ev t) ++ caps).length := by simp [hl]
          generalize cl.args.toList.map (ev t) ++ caps = args at hS hds hv hargs hls
          refine (call_core hE hc hΦ H hls hargs hF hds hS).mono ?_
          rintro e w' ⟨x, rfl, hb, hR⟩
          have H2 := H.below hb
          rcases hv with ⟨hns, rfl⟩ | ⟨htouch, hv⟩
          · refine hn x w' H2.1 H2.2 ?_
            unfold Res at hR
            split at hR
            · simp [noSl] at hns
            · exact noSl_any (hR c.fvals) hns
          · have hall := res_ok (hi := inv_of hc H) H hb (E := E) args (cl.args.map a.eval ++ xs)
            have hfr : frzOf h args = h := by
              unfold frzOf
              rw [htouch]
              funext b
              simp [frz]
            rw [hfr] at hall
            unfold Res at hR
            split at hR
            · rename_i z rows
              subst hv
              refine hn x w' H2.1 H2.2 ?_
              rcases hR with ⟨rfl, A, rfl⟩ | ⟨k, base, cap, rfl, hcap, hk, hkl, hlen, hcell⟩
              · exact Rp.nil A 0
              · have hex : ∀ i, ∃ f : Nat → Value, ∀ j, i < rows.length → j < z → w'.cell? ⟨k, base + (i * z + j), none⟩ = some (f j) ∧ Dp w' (okB c h μ w') (cellAt rows i j) (f j) := by
                  intro i
                  have : ∀ j, ∃ y, i < rows.length → j < z → w'.cell? ⟨k, base + (i * z + j), none⟩ = some y ∧ Dp w' (okB c h μ w') (cellAt rows i j) y := by
                    intro j
                    by_cases hij : i < rows.length ∧ j < z
                    · obtain ⟨y, h1, _, h3⟩ := hcell i j (by omega) hij.2
                      exact ⟨y, fun _ _ => ⟨h1, (h3 hij.1).mono fun q hq => ⟨hall q hq.1, rfl⟩⟩⟩
                    · exact ⟨Go.undef, fun h1 h2 => absurd ⟨h1, h2⟩ hij⟩
                  exact Classical.axiomOfChoice this
                obtain ⟨g', hg⟩ := Classical.axiomOfChoice hex
                refine .sl rows _ cap z _ g' rfl hcap hlen (fun _ => ⟨_, rfl, hall k ⟨?_, hkl⟩, fun i j hi hj => by rw [add_plain]; exact (hg i j hi hj).1⟩) (fun i j hi hj => (hg i j hi hj).2)
                rcases hk with hk | hk
                · exact .inr (.inl hk)
                · exact hk.elim
            · rename_i hno
              have hvr : v = r := by
                split at hv
                · exact absurd rfl (hno _ _)
                · exact hv
              subst hvr
              exact hn x w' H2.1 H2.2 ((hR c.fvals).mono (fun q hq => ⟨hall q hq, rfl⟩) (fun _ _ h => by cases h))
        · exact hk.elim
      · rename_i k hf
        rw [hf] at h1
        unfold qfv at hk
        split at hk
        · rename_i Sp ds hSp hds
          obtain ⟨x, hxf, hSx, rfl⟩ := hk
          obtain ⟨f', xs, g1, g2, g3⟩ := hΦ k Sp hSp
          have hxe : a.eval f = .func (.func f') #[] xs := by rw [← g1]; generalize a.eval f = y at h1; cases h1; rfl
          have hrun := run_callv (w := w) ho hcal hxe g2
          obtain ⟨e1, e2⟩ := allO_spec hds
          have hargs : ArgsR c.fvals w (okB c (frz h fun _ => true) μ w) ds (cl.args.map a.eval) := by
            refine ⟨by simp [e1], fun i hi => ?_⟩
            have hia : i < cl.args.size := by simp at e1; omega
            have h2 : (cl.args.toList.map (ev t))[i]? = some (ev t cl.args[i]) := by simp [hia]
            have h3 : ds[i]? = some ds[i] := List.getElem?_eq_getElem hi
            have h4 : ds.getD i .undef = ds[i] := by simp [List.getD_eq_getElem?_getD, h3]
            have h5 : (cl.args.map a.eval).getD i Go.undef = a.eval cl.args[i] := by simp [hia]
            rw [h4, h5]
            exact expoA_sound H (fun _ => true) (he _) (e2 i _ _ h2 h3) (fun _ _ => rfl)
          unfold Oper.wp
          rw [hrun]
          refine (g3 w H.fr _ _ ds x _ (fun q hq => hq.2.1) hSx hargs).mono ?_
          rintro e w' ⟨rfl, hb⟩
          have H2 := H.below hb
          exact hn x w' H2.1 H2.2 (.s x hxf)
        · exact hk.elim
      · exact hk.elim
    · exact hk.elim
  · exact pure_ hk

/-- What is asked of one operation's guard, in the machine. -/
theorem gd_wanted (ops : Array Oper) {o : Oper} {t : Nat → V} {h : Hp} {n : Nat} (ht : ∀ i, R c h μ w (t i) (a.tmps.getD i Go.undef)) {run skip : Prop} (hk : gd ops o ⟨t, h, n⟩ run skip) :
    (Region.wanted o (yielded ops a.tmps) = true ∧ run) ∨ (Region.wanted o (yielded ops a.tmps) = false ∧ skip) := by
  unfold gd at hk
  unfold Region.wanted
  split at hk
  · rename_i hg; rw [hg]; exact .inl ⟨rfl, hk⟩
  · rename_i j want hg
    rw [hg]
    simp only
    split at hk
    · rename_i d hd
      simp only at hk
      have htd := ht d
      unfold yielded
      rw [hd]
      simp only [Option.bind_some]
      split at hk
      · rename_i b hb
        rw [hb] at htd
        have h1 := htd.s_eq.1
        have h2 : a.tmps[d]? = some (.bool b) := by
          by_cases hlt : d < a.tmps.size
          · simp [hlt] at h1 ⊢; exact h1
          · simp [Array.getElem?_eq_none (Nat.le_of_not_lt hlt)] at h1
            cases h1
        rw [h2]
        by_cases hbw : b = want
        · exact .inl ⟨by simp [hbw], hk.1 hbw⟩
        · exact .inr ⟨by simp [hbw], hk.2 hbw⟩
      · rename_i hb
        rw [hb] at htd
        have h1 : a.tmps.getD d Go.undef = Go.undef := by generalize a.tmps.getD d Go.undef = y at htd; cases htd; rfl
        refine .inr ⟨?_, hk⟩
        by_cases hlt : d < a.tmps.size
        · simp [hlt] at h1
          have h2 : a.tmps[d]? = some Go.undef := by simp [hlt, h1]
          rw [h2]; rfl
        · rw [Array.getElem?_eq_none (Nat.le_of_not_lt hlt)]; rfl
      · exact hk.elim
    · exact hk.elim

theorem ops_sound (hE : EnvOk E) (hc : c.P = E.P) (hΦ : FvOk c E.Φ) (ops : Array Oper) {Q : Exit → Act → World → Prop} {K : St → Prop} (hQ : ∀ σ μ a w, K σ → Sim ps E c σ μ a w → Q .normal a w) : ∀ (l : List Oper) {σ : St} {μ : Mu} {a : Act} {w : World},
    (∀ o ∈ l, dstOk E.nt o = true) → awpOps E ops l K σ → Sim ps E c σ μ a w → wpList c.P ops Q l a w := by
  intro l
  induction l with
  | nil => intro σ μ a w _ hk S; exact hQ σ μ a w hk S
  | cons o l ih =>
    intro σ μ a w hd hk S
    have hdo : ∀ d, o.dst = some d → d < E.nt := by
      intro d hd'
      have := hd o (by simp)
      simp [dstOk, hd'] at this
      exact this
    unfold awpOps at hk
    unfold wpList
    rcases gd_wanted ops (n := σ.n) S.tm hk with ⟨h1, h2⟩ | ⟨h1, h2⟩
    · rw [if_pos h1]
      refine .inl (op_sound hE hc hΦ S h2 ?_)
      intro v h' n' μ' x w' g1 g2 g3 g4
      exact ih (fun o ho => hd o (by simp [ho])) g1 (S.put g2 g3 g4 hdo)
    · rw [if_neg (by simp [h1])]
      exact ih (fun o ho => hd o (by simp [ho])) h2 (S.put S.hs (Ext.refl _ _ _ _) .undef hdo)
end
end Go.Proofs.Ytahgddfnbjpfiaa.Am

/- An abstract machine over values: a region whose order is open comes to the same in every order. -/
set_option linter.unusedVariables false
set_option linter.unusedSimpArgs false
namespace Go.Proofs.Ytahgddfnbjpfiaa.Am
open Go Go.RowKit

def waits (o : Oper) (j : Nat) : Bool := o.after.any fun e => Region.binds .any e && e.on == j
def quietN (ops : Array Oper) : Nat := (ops.toList.takeWhile fun o => quiet ops o).length
/-- What an operation waits for, through others too. -/
def msk (acc : List Nat) (l : List Edge) : Nat := match l with
  | [] => 0
  | e :: l => if Region.binds .any e then (2 ^ e.on ||| acc.getD e.on 0) ||| msk acc l else msk acc l
def masks : List Oper → List Nat → List Nat
  | [], acc => acc
  | o :: l, acc => masks l (acc ++ [msk acc o.after.toList])
inductive Reach (ops : Array Oper) : Nat → Nat → Prop
  | dir (i : Nat) (o : Oper) (e : Edge) (h : ops[i]? = some o) (he : e ∈ o.after) (hb : Region.binds .any e = true) : Reach ops i e.on
  | step (i j : Nat) (o : Oper) (e : Edge) (h : ops[i]? = some o) (he : e ∈ o.after) (hb : Region.binds .any e = true) (hr : Reach ops e.on j) : Reach ops i j
theorem msk_reach {ops : Array Oper} {acc : List Nat} {i : Nat} {o : Oper} (ho : ops[i]? = some o) (ha : ∀ k j, (acc.getD k 0).testBit j = true → Reach ops k j) : ∀ l : List Edge, (∀ e ∈ l, e ∈ o.after) → ∀ j, (msk acc l).testBit j = true → Reach ops i j
  | [], _, j, h => by simp [msk] at h
  | e :: l, hl, j, h => by
    unfold msk at h
    split at h
    · rename_i hb
      simp only [Nat.testBit_or, Bool.or_eq_true] at h
      rcases h with (h | h) | h
      · rw [Nat.testBit_two_pow] at h
        have : e.on = j := by simpa using h
        subst this
        exact .dir i o e ho (hl e (by simp)) hb
      · exact .step i j o e ho (hl e (by simp)) hb (ha _ _ h)
      · exact msk_reach ho ha l (fun e he => hl e (by simp [he])) j h
    · exact msk_reach ho ha l (fun e he => hl e (by simp [he])) j h
theorem masks_reach {ops : Array Oper} : ∀ (l : List Oper) (acc : List Nat), (∀ k o, l[k]? = some o → ops[acc.length + k]? = some o) → (∀ k j, (acc.getD k 0).testBit j = true → Reach ops k j) → ∀ k j, ((masks l acc).getD k 0).testBit j = true → Reach ops k j
  | [], acc, _, ha, k, j, h => ha k j h
  | o :: l, acc, hl, ha, k, j, h => by
    refine masks_reach l (acc ++ [msk acc o.after.toList]) (fun k' o' h' => ?_) (fun k' j' h' => ?_) k j h
    · have := hl (k' + 1) o' (by simpa using h')
      simpa [Nat.add_assoc, Nat.add_comm 1] using this
    · rcases Nat.lt_trichotomy k' acc.length with h1 | h1 | h1
      · rw [List.getD_eq_getElem?_getD, List.getElem?_append_left h1, ← List.getD_eq_getElem?_getD] at h'
        exact ha k' j' h'
      · subst h1
        have h2 : (acc ++ [msk acc o.after.toList]).getD acc.length 0 = msk acc o.after.toList := by simp [List.getD_eq_getElem?_getD]
        rw [h2] at h'
        have h3 := hl 0 o rfl
        exact msk_reach (by simpa using h3) ha _ (fun e he => by simpa using he) j' h'
      · rw [List.getD_eq_getElem?_getD, List.getElem?_eq_none (by simp; omega)] at h'
        simp at h'
def drawOk (ops : Array Oper) : Bool :=
  (List.range ops.size).all fun i => match ops[i]? with
    | none => false
    | some o => (o.after.all fun e => !Region.binds .any e || decide (e.on < i)) &&
      (if i < quietN ops then (List.range (quietN ops)).all fun j => match (ops[j]?).bind (·.dst) with
        | some d => (!(o.looksAt ops).contains d || (decide (j < i) && waits o j)) && (j == i || o.dst != some d)
        | none => true
      else (List.range i).all fun j => ((masks ops.toList []).getD i 0).testBit j)

theorem map_congr {e e' : Operand → V} {l : List Operand} (h : ∀ x ∈ l, e x = e' x) : l.map e = l.map e' := List.map_congr_left h
theorem pval_congr {P : Program} {plain : TypeId → Bool} {op : Op} {e e' : Operand → V} {h : Hp} {v : V} (he : ∀ x ∈ op.operands, e x = e' x) (hq : pval P plain h e op = some v) : pval P plain h e' op = some v := by
  cases op <;> simp only [pval] at hq ⊢ <;> try (cases hq; done)
  case move x => rw [← he x (by simp [Op.operands])]; exact hq
  case assign x => rw [← he x (by simp [Op.operands])]; exact hq
  case pick c a b => rw [← he c (by simp [Op.operands]), ← he a (by simp [Op.operands]), ← he b (by simp [Op.operands])]; exact hq
  case load T a => rw [← he a (by simp [Op.operands])]; exact hq
  case nilCheck x => rw [← he x (by simp [Op.operands])]; exact hq
  case binOp op T x y yT => rw [← he x (by simp [Op.operands]), ← he y (by simp [Op.operands])]; exact hq
  case unOp op T x => rw [← he x (by simp [Op.operands])]; exact hq
  case convert src dst x => rw [← he x (by simp [Op.operands])]; exact hq
  case slice T x lo hi mx =>
    have h1 : lo.map e = lo.map e' := by cases lo with | none => rfl | some y => simp [he y (by simp [Op.operands])]
    have h2 : hi.map e = hi.map e' := by cases hi with | none => rfl | some y => simp [he y (by simp [Op.operands])]
    have h3 : mx.map e = mx.map e' := by cases mx with | none => rfl | some y => simp [he y (by simp [Op.operands])]
    rw [← he x (by simp [Op.operands]), ← h1, ← h2, ← h3]; exact hq
  case field T x f => rw [← he x (by simp [Op.operands])]; exact hq
  case fieldAddr T x f => rw [← he x (by simp [Op.operands])]; exact hq
  case indexAddr T x i => rw [← he x (by simp [Op.operands]), ← he i (by simp [Op.operands])]; exact hq
  case index T x i => rw [← he x (by simp [Op.operands]), ← he i (by simp [Op.operands])]; exact hq
  case extract x i => rw [← he x (by simp [Op.operands])]; exact hq
  case makeFunc fn first caps =>
    have h1 : caps.toList.map e = caps.toList.map e' := map_congr fun x hx => he x (by simp [Op.operands]; exact .inr (by simpa using hx))
    rw [← h1]; exact hq
  case build T parts =>
    unfold abuild at hq ⊢
    have h1 : (parts.toList.map fun q => (q.1, e q.2)) = parts.toList.map fun q => (q.1, e' q.2) := List.map_congr_left fun q hq => by rw [he q.2 (by simp [Op.operands]; exact ⟨q.1, by simpa using hq⟩)]
    rw [← h1]; exact hq
  case call cl =>
    obtain ⟨callee, args, argTypes⟩ := cl
    have hmem : ∀ x ∈ args.toList, e x = e' x := fun x hx => he x (by simp [Op.operands, Call.operands]; exact .inr (by simpa using hx))
    have h1 : args.toList.map e = args.toList.map e' := map_congr hmem
    cases callee <;> simp only at hq ⊢ <;> try (cases hq; done)
    rename_i b
    generalize hal : args.toList = al at hq hmem h1
    generalize htl : argTypes.toList = tl at hq
    cases b <;> simp only at hq ⊢ <;> try (cases hq; done)
    case cap =>
      cases al with
      | nil => cases hq
      | cons x al => cases al with
        | nil =>
          have h2 := hmem x (by simp)
          cases tl with
          | nil => cases hq
          | cons T tl => cases tl with
            | nil => show acap P T (e' x) = some v; rw [← h2]; exact hq
            | cons U tl => cases hq
        | cons y al => cases hq
    case len =>
      cases al with
      | nil => cases hq
      | cons x al => cases al with
        | nil =>
          have h2 := hmem x (by simp)
          cases tl with
          | nil => cases hq
          | cons T tl => cases tl with
            | nil => show alen P T (e' x) = some v; rw [← h2]; exact hq
            | cons U tl => cases hq
        | cons y al => cases hq
    case max => rw [← h1]; exact hq
    case min => rw [← h1]; exact hq
/-- A quiet operation looks at its operands alone. -/
theorem qv_congr {E : Env} {op : Op} {e e' : Operand → V} {h : Hp} {v : V} (he : ∀ x ∈ op.operands, e x = e' x) (hq : qv E op e h v) : qv E op e' h v := by
  have hp : pval E.P E.plain h e op = some v → pval E.P E.plain h e' op = some v := fun hq => pval_congr he hq
  cases op <;> try exact hp hq
  case call cl =>
    obtain ⟨callee, args, argTypes⟩ := cl
    simp only [qv, qcl] at hq ⊢
    cases callee with
    | value f =>
      have h2 : e f = e' f := he f (by simp [Op.operands, Call.operands])
      have h1 : args.toList.map e = args.toList.map e' := map_congr fun x hx => he x (by simp [Op.operands, Call.operands]; exact .inr (by simpa using hx))
      simp only at hq ⊢
      rw [← h2, ← h1]
      exact hq
    | builtin b => cases b <;> first | exact hp hq | exact hq
    | invoke r m => exact hq

/-- What one operation of the quiet head yields, told by what it looks at. -/
def wantA (ops : Array Oper) (o : Oper) (t : Nat → V) (b : Bool) : Prop :=
  match o.guard with
  | none => b = true
  | some (j, want) => ∃ d, (ops[j]?).bind (·.dst) = some d ∧ ((∃ q, t d = .s (.bool q) ∧ b = (q == want)) ∨ (t d = .undef ∧ b = false))
def gdv (E : Env) (ops : Array Oper) (o : Oper) (t : Nat → V) (h : Hp) (v : V) : Prop :=
  ∃ b, wantA ops o t b ∧ (b = true → qv E o.op (ev t) h v) ∧ (b = false → v = .undef)
theorem gdv_congr {E : Env} {ops : Array Oper} {o : Oper} {t t' : Nat → V} {h : Hp} {v : V} (he : ∀ d ∈ o.looksAt ops, t d = t' d) (hg : gdv E ops o t h v) : gdv E ops o t' h v := by
  obtain ⟨b, h1, h2, h3⟩ := hg
  refine ⟨b, ?_, fun hb => qv_congr (fun x hx => ?_) (h2 hb), h3⟩
  · unfold wantA at h1 ⊢
    split at h1
    · exact h1
    · rename_i j want hg
      obtain ⟨d, hd, h4⟩ := h1
      refine ⟨d, hd, ?_⟩
      rw [← he d (by simp [Oper.looksAt, hg, hd])]
      exact h4
  · cases x with
    | tmp d => exact he d (by simp only [Oper.looksAt, List.mem_append, List.mem_filterMap]; exact .inl ⟨_, by simpa using hx, rfl⟩)
    | const v => rfl
    | global g => rfl
    | func f => rfl
theorem gdv_of_gd {E : Env} {ops : Array Oper} {o : Oper} {σ : St} {K : St → Prop} (hg : gd ops o σ (∃ v, qv E o.op (ev σ.t) σ.h v ∧ K (putS o.dst v σ)) (K (putS o.dst .undef σ))) : ∃ v, gdv E ops o σ.t σ.h v ∧ K (putS o.dst v σ) := by
  unfold gd at hg
  split at hg
  · rename_i hgu
    obtain ⟨v, h1, h2⟩ := hg
    exact ⟨v, ⟨true, by simp [wantA, hgu], fun _ => h1, (fun h => by cases h)⟩, h2⟩
  · rename_i j want hgu
    split at hg
    · rename_i d hd
      split at hg
      · rename_i q hq
        by_cases hqw : q = want
        · obtain ⟨v, h1, h2⟩ := hg.1 hqw
          exact ⟨v, ⟨true, (by simp only [wantA, hgu]; exact ⟨d, hd, .inl ⟨q, hq, by simp [hqw]⟩⟩), fun _ => h1, (fun h => by cases h)⟩, h2⟩
        · exact ⟨.undef, ⟨false, (by simp only [wantA, hgu]; exact ⟨d, hd, .inl ⟨q, hq, by simp [hqw]⟩⟩), (fun h => by cases h), fun _ => rfl⟩, hg.2 hqw⟩
      · rename_i hq
        exact ⟨.undef, ⟨false, (by simp only [wantA, hgu]; exact ⟨d, hd, .inr ⟨hq, trivial⟩⟩), (fun h => by cases h), fun _ => rfl⟩, hg⟩
      · exact hg.elim
    · exact hg.elim

/-- A state's variables agree with the values of the operations that are listed, and with what was before elsewhere. -/
def Agree (ops : Array Oper) (vs : Nat → V) (n : Nat) (L : Nat → Prop) (t0 t : Nat → V) : Prop :=
  (∀ i o d, i < n → L i → ops[i]? = some o → o.dst = some d → t d = vs i) ∧ ∀ d, (∀ i o, i < n → L i → ops[i]? = some o → o.dst ≠ some d) → t d = t0 d

theorem drawOk_at {ops : Array Oper} (h : drawOk ops = true) {i : Nat} {o : Oper} (hi : ops[i]? = some o) : (∀ e ∈ o.after, Region.binds .any e = true → e.on < i) ∧
    (i < quietN ops → ∀ j oj d, j < quietN ops → ops[j]? = some oj → oj.dst = some d → ((d ∈ o.looksAt ops → j < i ∧ waits o j = true) ∧ (j = i ∨ o.dst ≠ some d))) ∧ (quietN ops ≤ i → ∀ j, j < i → Reach ops i j) := by
  have hlt : i < ops.size := (Array.getElem?_eq_some_iff.1 hi).1
  unfold drawOk at h
  rw [List.all_eq_true] at h
  have h1 := h i (by simpa using hlt)
  rw [hi] at h1
  simp only [Bool.and_eq_true, Array.all_eq_true] at h1
  obtain ⟨h2, h3⟩ := h1
  refine ⟨fun e he hb => ?_, fun hin j oj d hj hoj hd => ?_, fun hin j hj => ?_⟩
  · obtain ⟨k, hk, rfl⟩ := Array.getElem_of_mem he
    have := h2 k hk
    simpa [hb] using this
  · rw [if_pos hin, List.all_eq_true] at h3
    have h4 := h3 j (by simpa using hj)
    simp only [hoj, Option.bind_some, hd, Bool.and_eq_true, Bool.or_eq_true, Bool.not_eq_true', decide_eq_true_eq] at h4
    refine ⟨fun hm => ?_, ?_⟩
    · rcases h4.1 with h5 | h5
      · rw [List.contains_iff_mem.2 hm] at h5; cases h5
      · exact h5
    · rcases h4.2 with h5 | h5
      · exact .inl (by simpa using h5)
      · exact .inr (by simpa using h5)
  · rw [if_neg (by omega), List.all_eq_true] at h3
    exact masks_reach ops.toList [] (fun k o hk => by simpa using hk) (fun k j h => by simp at h) i j (h3 j (by simpa using hj))

theorem ready_waits {ops : Array Oper} {listed : Array Bool} {i j : Nat} {o : Oper} (hr : i ∈ Region.ready .any ops listed) (ho : ops[i]? = some o) (hw : waits o j = true) : listed.getD j false = true := by
  obtain ⟨_, o', ho', h1⟩ := mem_ready.1 hr
  rw [ho] at ho'
  cases ho'
  unfold waits at hw
  rw [Array.any_eq_true] at hw
  obtain ⟨k, hk, h2⟩ := hw
  simp only [Bool.and_eq_true, beq_iff_eq] at h2
  rw [← h2.2]
  exact h1 _ (Array.getElem_mem hk) h2.1

theorem reach_lt {ops : Array Oper} (hok : drawOk ops = true) {i j : Nat} (hr : Reach ops i j) : j < i := by
  induction hr with
  | dir i o e h he hb => exact (drawOk_at hok h).1 e he hb
  | step i j o e h he hb _ ih => have := (drawOk_at hok h).1 e he hb; omega
theorem not_reach {ops : Array Oper} (hok : drawOk ops = true) {i k : Nat} {o : Oper} (hw : ∀ e ∈ o.after, Region.binds .any e = true → e.on < k) (ho : ops[i]? = some o) (hr : Reach ops i k) : False := by
  cases hr with
  | dir _ o' e h he hb => rw [ho] at h; cases h; have := hw e he hb; omega
  | step _ _ o' e h he hb hr => rw [ho] at h; cases h; have := hw e he hb; have := reach_lt hok hr; omega
/-- What is listed is closed. -/
theorem reach_listed {ops : Array Oper} {listed : Array Bool} (hcl : ∀ (i : Nat) (o : Oper), listed.getD i false = true → ops[i]? = some o → ∀ e ∈ o.after, Region.binds .any e = true → listed.getD e.on false = true) {i j : Nat} (hr : Reach ops i j) :
    (∀ o, ops[i]? = some o → ∀ e ∈ o.after, Region.binds .any e = true → listed.getD e.on false = true) → listed.getD j false = true := by
  induction hr with
  | dir i o e h he hb => intro hw; exact hw o h e he hb
  | step i j o e h he hb hr ih => intro hw; exact ih fun o' ho' => hcl _ o' (hw o h e he hb) ho'
section
variable {ps : Hp × Mu × World} {E : Env} {c : Cx}
/-- The tail of the region, in its own order. -/
theorem tail_sound (hE : EnvOk E) (hc : c.P = E.P) (hΦ : FvOk c E.Φ) {ops : Array Oper} (hok : drawOk ops = true) (hd : ∀ o ∈ ops.toList, dstOk E.nt o = true) {Q : Exit → Act → World → Prop} {K : St → Prop} (hQ : ∀ σ μ a w, K σ → Sim ps E c σ μ a w → Q .normal a w) :
    ∀ (m k : Nat) (listed : Array Bool) {σ : St} {μ : Mu} {a : Act} {w : World}, ops.size - k = m → k ≤ ops.size → quietN ops ≤ k → listed.size = ops.size → (∀ j, j < ops.size → (listed.getD j true = true ↔ j < k)) →
      awpOps E ops (ops.toList.drop k) K σ → Sim ps E c σ μ a w → wpAny c.P .any ops Q m listed a w := by
  intro m
  induction m with
  | zero =>
    intro k listed σ μ a w hm hk hq hls hl hK S
    have hke : k = ops.size := by omega
    have : ops.toList.drop k = [] := by simp [hke]
    rw [this] at hK
    refine ⟨?_, hQ σ μ a w hK S⟩
    rw [List.eq_nil_iff_forall_not_mem]
    intro i hi
    obtain ⟨h1, o, h2, _⟩ := mem_ready.1 hi
    have hlt : i < ops.size := (Array.getElem?_eq_some_iff.1 h2).1
    have := (hl i hlt).2 (by omega)
    rw [this] at h1
    cases h1
  | succ m ih =>
    intro k listed σ μ a w hm hk hq hls hl hK S
    have hlt : k < ops.size := by omega
    have hko : ops[k]? = some ops[k] := Array.getElem?_eq_getElem hlt
    have hkun : listed.getD k true = false := by
      cases hb : listed.getD k true with
      | false => rfl
      | true => have := (hl k hlt).1 hb; omega
    have hdrop : ops.toList.drop k = ops[k] :: ops.toList.drop (k + 1) := by
      rw [List.drop_eq_getElem_cons (by simpa using hlt)]
      simp
    have hlf : ∀ j, j < k → listed.getD j false = true := by
      intro j hj
      have := (hl j (by omega)).2 hj
      have hjs : j < listed.size := by omega
      simp [hjs] at this ⊢
      exact this
    have hkr : k ∈ Region.ready .any ops listed := mem_ready.2 ⟨hkun, ops[k], hko, fun e he hb => hlf _ ((drawOk_at hok hko).1 e he hb)⟩
    refine ⟨fun h0 => (by rw [h0] at hkr; cases hkr), fun i hi => ?_⟩
    have hik : i = k := by
      obtain ⟨h1, o, h2, _⟩ := mem_ready.1 hi
      have hilt : i < ops.size := (Array.getElem?_eq_some_iff.1 h2).1
      rcases Nat.lt_trichotomy i k with h3 | h3 | h3
      · have := (hl i hilt).2 h3; rw [this] at h1; cases h1
      · exact h3
      · exact (not_reach hok (fun e he hb => by
          obtain ⟨_, o', ho', h5⟩ := mem_ready.1 hi
          rw [h2] at ho'
          cases ho'
          have h6 := h5 e he hb
          rcases Nat.lt_or_ge e.on k with h7 | h7
          · exact h7
          · exfalso
            by_cases h8 : e.on < ops.size
            · have h9 : e.on < listed.size := by omega
              have := (hl e.on h8).1 (by simp [h9] at h6 ⊢; exact h6)
              omega
            · have : ¬ e.on < listed.size := by omega
              simp [this] at h6) h2 ((drawOk_at hok h2).2.2 (by omega) k h3)).elim
    subst hik
    rw [hdrop] at hK
    unfold awpOps at hK
    have hdo : ∀ d, ops[i].dst = some d → d < E.nt := by
      intro d hd'
      have := hd ops[i] (by simp)
      simp [dstOk, hd'] at this
      exact this
    have hl' : ∀ j, j < ops.size → ((listed.setIfInBounds i true).getD j true = true ↔ j < i + 1) := by
      intro j hj
      by_cases hji : j = i
      · subst hji
        have : j < listed.size := by omega
        simp [this]
      · rw [getD_set_ne true (fun e => hji e.symm), hl j hj]
        omega
    unfold wpOp
    rw [hko]
    simp only
    rcases gd_wanted ops (n := σ.n) S.tm hK with ⟨h1, h2⟩ | ⟨h1, h2⟩
    · rw [if_pos h1]
      refine .inl (op_sound hE hc hΦ S h2 ?_)
      intro v h' n' μ' x w' g1 g2 g3 g4
      exact ih (i + 1) _ (by omega) (by omega) (by omega) (by simp [hls]) hl' g1 (S.put g2 g3 g4 hdo)
    · rw [if_neg (by simp [h1])]
      exact ih (i + 1) _ (by omega) (by omega) (by omega) (by simp [hls]) hl' h2 (S.put S.hs (Ext.refl _ _ _ _) .undef hdo)

/-- The values that the quiet head comes to, in its listed order. -/
theorem head_vals (ops : Array Oper) {K : St → Prop} {h : Hp} {n : Nat} (tl : List Oper) : ∀ (l : List Oper) (t : Nat → V), (∀ o ∈ l, quiet ops o = true) → awpD E ops (l ++ tl) K ⟨t, h, n⟩ →
    ∃ (vs : Nat → V) (ts : Nat → Nat → V), ts 0 = t ∧ (∀ i o, l[i]? = some o → gdv E ops o (ts i) h (vs i) ∧ ts (i + 1) = (putS o.dst (vs i) ⟨ts i, h, n⟩).t) ∧ awpD E ops tl K ⟨ts l.length, h, n⟩ := by
  intro l
  induction l with
  | nil => intro t _ hk; exact ⟨fun _ => .undef, fun _ => t, rfl, fun i o h => by simp at h, hk⟩
  | cons o l ih =>
    intro t he hk
    have h0 := he o (by simp)
    simp only [List.cons_append, awpD, h0, if_true] at hk
    obtain ⟨v, h1, h2⟩ := gdv_of_gd (K := awpD E ops (l ++ tl) K) hk
    have h3 : putS o.dst v ⟨t, h, n⟩ = ⟨(putS o.dst v ⟨t, h, n⟩).t, h, n⟩ := by cases o.dst <;> rfl
    rw [h3] at h2
    obtain ⟨vs, ts, g1, g2, g3⟩ := ih _ (fun o ho => he o (by simp [ho])) h2
    refine ⟨fun i => match i with | 0 => v | i + 1 => vs i, fun i => match i with | 0 => t | i + 1 => ts i, rfl, fun i o' hi => ?_, g3⟩
    cases i with
    | zero => simp at hi; subst hi; exact ⟨h1, by simp only [Nat.zero_add]; rw [g1]⟩
    | succ i => exact g2 i o' (by simpa using hi)

theorem countP_flip {f g : Nat → Bool} {i : Nat} (hf : f i = true) (hg : g i = false) (hne : ∀ j, j ≠ i → g j = f j) : ∀ m, i < m → (List.range m).countP g + 1 = (List.range m).countP f
  | 0, h => absurd h (Nat.not_lt_zero _)
  | m + 1, h => by
    rw [List.range_succ, List.countP_append, List.countP_append]
    by_cases hm : i = m
    · subst hm
      have : (List.range i).countP g = (List.range i).countP f := List.countP_congr fun j hj => by
        rw [hne j (by have := List.mem_range.1 hj; omega)]
      simp [this, hf, hg]
    · have := countP_flip hf hg hne m (by omega)
      have h2 : [m].countP g = [m].countP f := by simp [hne m (fun e => hm e.symm)]
      omega
theorem gd_of_want {ops : Array Oper} {o : Oper} {t : Nat → V} {h : Hp} {n : Nat} {b : Bool} (hw : wantA ops o t b) : gd ops o ⟨t, h, n⟩ (b = true) (b = false) := by
  unfold wantA at hw
  unfold gd
  split at hw
  · rename_i hg; first | exact hw | (simp only [hg]; exact hw)
  · rename_i j want hg
    obtain ⟨d, hd, hw⟩ := hw
    try simp only [hg]
    try simp only [hd]
    rcases hw with ⟨q, hq, rfl⟩ | ⟨hq, rfl⟩
    · simp only [hq]
      exact ⟨fun e => by simp [e], fun e => by simpa using e⟩
    · simp only [hq]
/-- The head, in whatever order. -/
theorem head_sound (hE : EnvOk E) (hc : c.P = E.P) (hΦ : FvOk c E.Φ) {ops : Array Oper} (hok : drawOk ops = true) (hd : ∀ o ∈ ops.toList, dstOk E.nt o = true) {Q : Exit → Act → World → Prop} {K : St → Prop} (hQ : ∀ σ μ a w, K σ → Sim ps E c σ μ a w → Q .normal a w)
    {t0 : Nat → V} {h : Hp} {n : Nat} {μ : Mu} {vs : Nat → V} {ts : Nat → Nat → V} (hN : quietN ops ≤ ops.size) (hts0 : ts 0 = t0)
    (hvs : ∀ i o, i < quietN ops → ops[i]? = some o → gdv E ops o (ts i) h (vs i) ∧ ts (i + 1) = (putS o.dst (vs i) ⟨ts i, h, n⟩).t)
    (hK : awpOps E ops (ops.toList.drop (quietN ops)) K ⟨ts (quietN ops), h, n⟩) :
    ∀ (u : Nat) (listed : Array Bool) {a : Act} {w : World}, ((List.range (quietN ops)).countP fun i => !listed.getD i true) = u → listed.size = ops.size → (∀ j, quietN ops ≤ j → j < ops.size → listed.getD j true = false) →
      (∀ (i : Nat) (o : Oper), listed.getD i false = true → ops[i]? = some o → ∀ e ∈ o.after, Region.binds .any e = true → listed.getD e.on false = true) →
      (∃ t, Agree ops vs (quietN ops) (fun i => listed.getD i true = true) t0 t ∧ Sim ps E c ⟨t, h, n⟩ μ a w) → wpAny c.P .any ops Q (ops.size - quietN ops + u) listed a w := by
  -- the values in the listed order
  have hagree : ∀ i, i ≤ quietN ops → Agree ops vs (quietN ops) (fun j => j < i) t0 (ts i) := by
    intro i
    induction i with
    | zero => intro _; exact ⟨fun j o d hj hl => absurd hl (Nat.not_lt_zero _), fun d _ => by rw [hts0]⟩
    | succ i ih =>
      intro hi
      obtain ⟨a1, a2⟩ := ih (by omega)
      have hio : ops[i]? = some (ops[i]'(by omega)) := Array.getElem?_eq_getElem (by omega)
      obtain ⟨g1, g2⟩ := hvs i _ (by omega) hio
      refine ⟨fun j o d hj hl ho hdd => ?_, fun d hdd => ?_⟩
      · rw [g2]
        by_cases hji : j = i
        · subst hji
          rw [hio] at ho
          cases ho
          rw [hdd]
          exact upd_same _ _ _
        · have hne : (ops[i]'(by omega)).dst ≠ some d := by
            have := ((drawOk_at hok hio).2.1 (by omega) j o d hj ho hdd).2
            rcases this with h5 | h5
            · exact absurd h5 hji
            · exact h5
          cases hdi : (ops[i]'(by omega)).dst with
          | none => simp only [putS]; exact a1 j o d hj (by omega) ho hdd
          | some d' =>
            simp only [putS]
            rw [upd_ne _ _ _ _ (by rw [hdi] at hne; intro e; subst e; exact hne rfl)]
            exact a1 j o d hj (by omega) ho hdd
      · rw [g2]
        have hne : (ops[i]'(by omega)).dst ≠ some d := hdd i _ (by omega) (by omega) hio
        cases hdi : (ops[i]'(by omega)).dst with
        | none => simp only [putS]; exact a2 d fun j o hj hl => hdd j o hj (by omega)
        | some d' =>
          simp only [putS]
          rw [upd_ne _ _ _ _ (by rw [hdi] at hne; intro e; subst e; exact hne rfl)]
          exact a2 d fun j o hj hl => hdd j o hj (by omega)
  intro u
  induction u with
  | zero =>
    intro listed a w hu hls htl hcl hS
    obtain ⟨t, hA, S⟩ := hS
    have hall : ∀ j, j < quietN ops → listed.getD j true = true := by
      intro j hj
      have := List.countP_eq_zero.1 hu j (by simpa using hj)
      simpa using this
    have hte : t = ts (quietN ops) := by
      funext d
      obtain ⟨b1, b2⟩ := hagree (quietN ops) (Nat.le_refl _)
      by_cases hex : ∃ i o, i < quietN ops ∧ ops[i]? = some o ∧ o.dst = some d
      · obtain ⟨i, o, hi, ho, hdd⟩ := hex
        rw [hA.1 i o d hi (hall i hi) ho hdd, b1 i o d hi hi ho hdd]
      · rw [hA.2 d fun i o hi _ ho hdd => hex ⟨i, o, hi, ho, hdd⟩, b2 d fun i o hi _ ho hdd => hex ⟨i, o, hi, ho, hdd⟩]
    subst hte
    exact tail_sound hE hc hΦ hok hd hQ _ (quietN ops) listed rfl hN (Nat.le_refl _) hls (fun j hj => ⟨fun hl => (by
      rcases Nat.lt_or_ge j (quietN ops) with h1 | h1
      · exact h1
      · rw [htl j h1 hj] at hl; cases hl), fun hl => hall j hl⟩) hK S
  | succ u ih =>
    intro listed a w hu hls htl hcl hS
    obtain ⟨t, hA, S⟩ := hS
    -- there is one that isn't listed, the first of them is ready
    obtain ⟨m, hm1, hm2, hm3⟩ : ∃ m, m < quietN ops ∧ listed.getD m true = false ∧ ∀ j, j < m → listed.getD j true = true := by
      have hex : ∃ m, m < quietN ops ∧ listed.getD m true = false := by
        have : 0 < (List.range (quietN ops)).countP fun i => !listed.getD i true := by omega
        obtain ⟨m, h1, h2⟩ := List.countP_pos_iff.1 this
        exact ⟨m, by simpa using h1, by simpa using h2⟩
      have key : ∀ k, (∃ m, m < k ∧ m < quietN ops ∧ listed.getD m true = false) → ∃ m, m < quietN ops ∧ listed.getD m true = false ∧ ∀ j, j < m → listed.getD j true = true := by
        intro k
        induction k with
        | zero => rintro ⟨m, h, _⟩; omega
        | succ k ihk =>
          rintro ⟨m, h1, h2, h3⟩
          by_cases hb : ∃ m, m < k ∧ m < quietN ops ∧ listed.getD m true = false
          · exact ihk hb
          · refine ⟨m, h2, h3, fun j hj => ?_⟩
            cases hq : listed.getD j true with
            | true => rfl
            | false => exact absurd ⟨j, by omega, by omega, hq⟩ hb
      obtain ⟨m, h1, h2⟩ := hex
      exact key (m + 1) ⟨m, by omega, h1, h2⟩
    have hmo : ops[m]? = some (ops[m]'(by omega)) := Array.getElem?_eq_getElem (by omega)
    have hmr : m ∈ Region.ready .any ops listed := mem_ready.2 ⟨hm2, _, hmo, fun e he hb => by
      have h1 := (drawOk_at hok hmo).1 e he hb
      have h2 := hm3 _ h1
      have h3 : e.on < listed.size := by omega
      simp [h3] at h2 ⊢
      exact h2⟩
    refine ⟨fun h0 => (by rw [h0] at hmr; cases hmr), fun i hi => ?_⟩
    obtain ⟨hiu, o, hio, _⟩ := mem_ready.1 hi
    have hilt : i < ops.size := (Array.getElem?_eq_some_iff.1 hio).1
    have hiq : i < quietN ops := by
      rcases Nat.lt_or_ge i (quietN ops) with h1 | h1
      · exact h1
      · have h4 : listed.getD m false = true := reach_listed hcl ((drawOk_at hok hio).2.2 h1 m (by omega)) (fun o' ho' => by
          obtain ⟨_, o2, ho2, h5⟩ := mem_ready.1 hi
          rw [ho'] at ho2
          cases ho2
          exact h5)
        have hms : m < listed.size := by omega
        simp [hms] at h4 hm2
        rw [h4] at hm2
        cases hm2
    have hdo : ∀ d, o.dst = some d → d < E.nt := by
      intro d hd'
      have := hd o (by rw [Array.getElem?_eq_some_iff] at hio; obtain ⟨_, rfl⟩ := hio; simp)
      simp [dstOk, hd'] at this
      exact this
    -- it looks at what it looks at in the listed order
    have hlook : ∀ d ∈ o.looksAt ops, ts i d = t d := by
      intro d hdl
      obtain ⟨b1, b2⟩ := hagree i (by omega)
      by_cases hex : ∃ j oj, j < quietN ops ∧ ops[j]? = some oj ∧ oj.dst = some d
      · obtain ⟨j, oj, hj, hoj, hdd⟩ := hex
        obtain ⟨h1, h2⟩ := ((drawOk_at hok hio).2.1 hiq j oj d hj hoj hdd).1 hdl
        have h3 := ready_waits hi hio h2
        have hjs : j < listed.size := by omega
        rw [b1 j oj d hj h1 hoj hdd, hA.1 j oj d hj (by simp [hjs] at h3 ⊢; exact h3) hoj hdd]
      · rw [b2 d fun j oj hj _ hoj hdd => hex ⟨j, oj, hj, hoj, hdd⟩, hA.2 d fun j oj hj _ hoj hdd => hex ⟨j, oj, hj, hoj, hdd⟩]
    obtain ⟨b, k1, k2, k3⟩ := gdv_congr hlook (hvs i o hiq hio).1
    have hset : (listed.setIfInBounds i true).getD i true = true := by
      have : i < listed.size := by omega
      simp [this]
    have hcount : ((List.range (quietN ops)).countP fun j => !(listed.setIfInBounds i true).getD j true) = u := by
      have := countP_flip (f := fun j => !listed.getD j true) (g := fun j => !(listed.setIfInBounds i true).getD j true) (i := i) (by simp only [hiu]; rfl) (by simp only [hset]; rfl) (fun j hj => by simp only [getD_set_ne true (fun e => hj e.symm)]) (quietN ops) hiq
      omega
    have htl' : ∀ j, quietN ops ≤ j → j < ops.size → (listed.setIfInBounds i true).getD j true = false := fun j h1 h2 => by
      rw [getD_set_ne true (by omega)]; exact htl j h1 h2
    have hcl' : ∀ (j : Nat) (oj : Oper), (listed.setIfInBounds i true).getD j false = true → ops[j]? = some oj → ∀ e ∈ oj.after, Region.binds .any e = true → (listed.setIfInBounds i true).getD e.on false = true := by
      have hmono : ∀ k, listed.getD k false = true → (listed.setIfInBounds i true).getD k false = true := by
        intro k hk
        by_cases hki : k = i
        · subst hki
          have : k < listed.size := by omega
          simp [this]
        · rw [getD_set_ne false (fun e => hki e.symm)]; exact hk
      intro j oj hl hoj e he hb
      by_cases hji : j = i
      · subst hji
        obtain ⟨_, o2, ho2, h5⟩ := mem_ready.1 hi
        rw [hoj] at ho2
        cases ho2
        exact hmono _ (h5 e he hb)
      · rw [getD_set_ne false (fun e => hji e.symm)] at hl
        exact hmono _ (hcl j oj hl hoj e he hb)
    have hA' : Agree ops vs (quietN ops) (fun j => (listed.setIfInBounds i true).getD j true = true) t0 (putS o.dst (vs i) ⟨t, h, n⟩).t := by
      refine ⟨fun j oj d hj hl hoj hdd => ?_, fun d hdd => ?_⟩
      · have hl : (listed.setIfInBounds i true).getD j true = true := hl
        by_cases hji : j = i
        · subst hji
          rw [hio] at hoj
          cases hoj
          rw [hdd]
          exact upd_same _ _ _
        · have hne : o.dst ≠ some d := by
            rcases ((drawOk_at hok hio).2.1 hiq j oj d hj hoj hdd).2 with h5 | h5
            · exact absurd h5 hji
            · exact h5
          have hlj : listed.getD j true = true := by rw [getD_set_ne true (fun e => hji e.symm)] at hl; exact hl
          cases hdi : o.dst with
          | none => simp only [putS]; exact hA.1 j oj d hj hlj hoj hdd
          | some d' =>
            simp only [putS]
            rw [upd_ne _ _ _ _ (by rw [hdi] at hne; intro e; subst e; exact hne rfl)]
            exact hA.1 j oj d hj hlj hoj hdd
      · have hne : o.dst ≠ some d := hdd i o hiq hset hio
        have hold : ∀ j oj, j < quietN ops → listed.getD j true = true → ops[j]? = some oj → oj.dst ≠ some d := by
          intro j oj hj hl hoj
          by_cases hji : j = i
          · subst hji; rw [hiu] at hl; cases hl
          · exact hdd j oj hj (by show (listed.setIfInBounds i true).getD j true = true; rw [getD_set_ne true (fun e => hji e.symm)]; exact hl) hoj
        cases hdi : o.dst with
        | none => simp only [putS]; exact hA.2 d hold
        | some d' =>
          simp only [putS]
          rw [upd_ne _ _ _ _ (by rw [hdi] at hne; intro e; subst e; exact hne rfl)]
          exact hA.2 d hold
    have hput : putS o.dst (vs i) ⟨t, h, n⟩ = ⟨(putS o.dst (vs i) ⟨t, h, n⟩).t, h, n⟩ := by cases o.dst <;> rfl
    unfold wpOp
    rw [hio]
    simp only
    rw [Nat.add_succ, Nat.succ_eq_add_one] at *
    rcases gd_wanted ops (n := n) S.tm (gd_of_want k1) with ⟨h1, h2⟩ | ⟨h1, h2⟩
    · rw [if_pos h1]
      refine .inl (q_sound hE hc hΦ S.hs S.tm (k2 h2) ?_)
      intro x w' g2 g3 g4
      refine ih _ hcount (by simp [hls]) htl' hcl' ⟨_, hA', ?_⟩
      rw [← hput]
      exact S.put g2 g3 g4 hdo
    · rw [if_neg (by simp [h1])]
      refine ih _ hcount (by simp [hls]) htl' hcl' ⟨_, hA', ?_⟩
      rw [← hput, k3 h2]
      exact S.put S.hs (Ext.refl _ _ _ _) .undef hdo
end
end Go.Proofs.Ytahgddfnbjpfiaa.Am
