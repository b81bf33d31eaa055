/- Texts that the law's proof stands on: AmY. -/
import Derived.Test.YtahgddfnbjpfiaaB9
/- An abstract machine over values: a region whose order is open, all of it quiet, its new slices among that (they are data from their making on). -/
set_option linter.unusedVariables false
set_option linter.unusedSimpArgs false
namespace Go.Proofs.Ytahgddfnbjpfiaa.Am
open Go Go.RowKit

def isF1 : V → Bool
  | .s v => flat v
  | .sl _ => true
  | _ => false
def isFlat : V → Bool
  | .s v => flat v
  | .sl _ => true
  | .agg cs => cs.all isF1
  | _ => false
/-- A new slice that is only read from its making on. -/
def qbs (P : Program) (e : Operand → V) (T : TypeId) (len : Nat) (parts : List (Nat × Operand)) (v : V) : Prop :=
  match seqo P T with
  | .slice el z _ => match zro P el with
    | some zv => match afill (fun i => some (i * z, z)) (repCells (cellsZ zv) len) (parts.map fun q => (q.1, e q.2)) with
      | some cs => (len * z ≤ 16777216 ∧ 0 < z ∧ (cellsZ zv).length = z) ∧ (parts.all fun q => isFlat (e q.2)) = true ∧ cs.all isF1 = true ∧ v = .sl (chunks z len cs)
      | none => False
    | none => False
  | _ => False
theorem isF1_s (v : Value) : isF1 (.s v) = flat v := rfl
theorem isF1_sl (r : List (List V)) : isF1 (.sl r) = true := rfl
theorem isFlat_s (v : Value) : isFlat (.s v) = flat v := rfl
theorem isFlat_sl (r : List (List V)) : isFlat (.sl r) = true := rfl
theorem isFlat_agg (cs : List V) : isFlat (.agg cs) = cs.all isF1 := rfl
theorem Rp.any_of {fv : Nat → Value} {w : World} {ok ok' : Nat → Prop} {μ μ' : Mu} {v : V} {x : Value} (hok : ∀ k, ok k → ok' k) (hf : isFlat v = true) (h : Rp fv w ok μ v x) : Rp fv w ok' μ' v x := by
  cases h with
  | s _ h => exact .s _ h
  | sl rows n c size A g hn hc hs hA hr =>
    exact .sl rows n c size A g hn hc hs (fun h => by obtain ⟨ad, h1, h2, h3⟩ := hA h; exact ⟨ad, h1, hok _ h2, h3⟩) (fun i j hi hj => (hr i j hi hj).mono fun q hq => ⟨hok q hq, rfl⟩)
  | agg cs xs hl h =>
    refine .agg cs xs hl fun i hi => ?_
    have h1 := h i hi
    have h2 : cs.getD i .undef ∈ cs := by rw [List.getD_eq_getElem?_getD, List.getElem?_eq_getElem hi]; exact List.getElem_mem hi
    have h3 : isF1 (cs.getD i .undef) = true := List.all_eq_true.1 hf _ h2
    generalize cs.getD i .undef = q at *
    generalize xs.getD i Go.undef = y at *
    cases h1 with
    | s _ h => exact .s _ h
    | sl rows n c size A g hn hc hs hA hr =>
      exact .sl rows n c size A g hn hc hs (fun h => by obtain ⟨ad, h1, h2, h3⟩ := hA h; exact ⟨ad, h1, hok _ h2, h3⟩) (fun i j hi hj => (hr i j hi hj).mono fun q hq => ⟨hok q hq, rfl⟩)
    | _ => cases h3
  | _ => cases hf
theorem Rp.flat_dp {fv : Nat → Value} {w' : World} {ok ok' : Nat → Prop} {μ : Mu} {v : V} {x : Value} (hok : ∀ k, ok k → ok' k) (hf : isF1 v = true) (h : Rp fv w' ok μ v x) : Dp w' ok' v x := by
  cases h with
  | s _ h => exact .s _ h
  | sl rows n c size A g hn hc hs hA hr =>
    exact .sl rows n c size A g hn hc hs (fun h => by obtain ⟨ad, h1, h2, h3⟩ := hA h; exact ⟨ad, h1, hok _ h2, h3⟩) (fun i j hi hj => (hr i j hi hj).mono fun q hq => ⟨hok q hq, rfl⟩)
  | _ => cases hf
theorem qbs_sound {c : Cx} {h : Hp} {n : Nat} {μ : Mu} {w : World} (H : HS c h n μ w) {T : TypeId} {len : Nat} {parts : Array (Nat × Operand)} {e : Operand → V} {ρ : Operand → Value} {v : V} (he : ∀ x, R c h μ w (e x) (ρ x)) (hv : qbs c.P e T len parts.toList v) :
    ∃ y w', (Instr.buildSlice T len (parts.map fun q => (q.1, ρ q.2))).run c.P w = .ok y w' ∧ Below w.heap.size w w' ∧ R c h μ w' v y := by
  let c' : Cx := ⟨c.P, w, okB c h μ w, fun _ => False, c.fvals, inv_of (E := ⟨c.P, fun _ => false, fun _ => none, fun _ => none, fun _ => none, 0⟩) rfl H⟩
  have H' : HS c' (fun _ => none) 0 (fun _ => none) w := ⟨Fr.refl _ _, fun _ _ => rfl, fun _ _ => rfl, fun b B hb => (nomatch hb), fun b b' B B' k base size base' size' hb => (nomatch hb)⟩
  let e' : Operand → V := fun x => if isFlat (e x) then e x else .any
  have he' : ∀ x, R c' (fun _ => none) (fun _ => none) w (e' x) (ρ x) := by
    intro x
    show Rp _ _ _ _ (if isFlat (e x) then e x else .any) (ρ x)
    split
    · rename_i hx; exact Rp.any_of (fun k hk => ⟨.inl hk, hk.2.1, fun ⟨_, _, _, _, hb, _⟩ => by cases hb⟩) hx (he x)
    · exact .any _
  unfold qbs at hv
  split at hv
  · rename_i el z b8 hs
    split at hv
    · rename_i zv hzv
      split at hv
      · rename_i cs hcs
        obtain ⟨⟨h1, h2, h3⟩, h4, h5, rfl⟩ := hv
        have hpp : (parts.toList.map fun q => (q.1, e' q.2)) = parts.toList.map fun q => (q.1, e q.2) := List.map_congr_left fun q hq => by
          have := List.all_eq_true.1 h4 q hq
          show (q.1, if isFlat (e q.2) then e q.2 else V.any) = _
          rw [if_pos this]
        have hk : abuildSlice c'.P e' T len parts.toList ⟨fun _ => .undef, fun _ => none, 0⟩ (fun v σ => v = .loc 0 0 len len ∧ σ.h = upd (fun _ => none) 0 (some ⟨z, chunks z len cs, true⟩)) := by
          unfold abuildSlice
          rw [show c'.P = c.P from rfl, hs]
          simp only [hzv, hpp, hcs]
          refine ⟨h1, h2, h3, ?_, ?_⟩ <;> first | rfl | trivial
        obtain ⟨v, y, h', n', μ', w', g1, ⟨rfl, g2⟩, g3, g4, g5⟩ := buildSlice_sound H' (t := fun _ => .undef) he' hk
        simp only at g2
        subst g2
        refine ⟨y, w', g1, g3.fr.below, ?_⟩
        have hlen : (chunks z len cs).length = len := by simp [chunks]
        obtain ⟨_, hl⟩ := g5.loc_inv
        have hrow : ∀ r ∈ chunks z len cs, r.length = z := by
          intro r hr
          have hb := g3.blk 0 ⟨z, chunks z len cs, true⟩ (by rw [upd_same])
          rcases hb with ⟨_, hb⟩ | ⟨k, base, _, _, _, hb, _⟩
          · simp only at hb; rw [hb] at hr; cases hr
          · exact hb r hr
        rcases hl with ⟨k, base, size, hm, rfl⟩ | ⟨rfl, _, A, t, _, rfl⟩
        · rcases g3.blk 0 ⟨z, chunks z len cs, true⟩ (by rw [upd_same]) with ⟨hb, _⟩ | ⟨k2, base2, hm2, hk2, _, _, hcell⟩
          · rw [hm] at hb; cases hb
          · rw [hm] at hm2
            cases hm2
            simp only at hcell hm
            have hwk : w.heap.size ≤ k := by
              rcases (g3.wr_block ⟨0, _, base, z, by rw [upd_same], rfl, hm⟩).1 with q | q
              · exact q
              · exact q.elim
            have hex : ∀ i j, ∃ x : Value, i < len → j < z → w'.cell? ⟨k, base + (i * z + j), none⟩ = some x ∧ Dp w' (okB c h μ w') (cellAt (chunks z len cs) i j) x := by
              intro i j
              by_cases hij : i < len ∧ j < z
              · obtain ⟨x, q1, _, q3⟩ := hcell i j (by rw [hlen]; exact hij.1) hij.2
                refine ⟨x, fun _ _ => ⟨q1, Rp.flat_dp (fun k hk => ?_) ?_ q3⟩⟩
                · refine ⟨?_, hk.2.1, fun hl => ?_⟩
                  · rcases hk.1 with h1 | h1 | h1
                    · exact h1.1
                    · exact .inr (.inl (Nat.le_trans H.fr.size h1))
                    · exact h1.elim
                  · rcases hk.1 with h1 | h1 | h1
                    · exact h1.2.2 hl
                    · have := (H.wr_block hl).2
                      simp only [c'] at h1
                      omega
                    · exact h1.elim
                have hfl : ∀ r ∈ chunks z len cs, ∀ q ∈ r, isF1 q = true := by
                  intro r hr q hq
                  unfold chunks at hr
                  simp only [List.mem_map] at hr
                  obtain ⟨_, _, rfl⟩ := hr
                  exact List.all_eq_true.1 h5 q (List.mem_of_mem_drop (List.mem_of_mem_take hq))
                have hi : i < (chunks z len cs).length := by rw [hlen]; exact hij.1
                have e1 : (chunks z len cs).getD i [] = (chunks z len cs)[i] := by simp [List.getD_eq_getElem?_getD, hi]
                have hr : (chunks z len cs)[i] ∈ chunks z len cs := List.getElem_mem hi
                have hj : j < ((chunks z len cs)[i]).length := by rw [hrow _ hr]; exact hij.2
                have e2 : cellAt (chunks z len cs) i j = ((chunks z len cs)[i])[j] := by unfold cellAt; rw [e1]; simp [List.getD_eq_getElem?_getD, hj]
                rw [e2]
                exact hfl _ hr _ (List.getElem_mem hj)
              · exact ⟨Go.undef, fun q1 q2 => absurd ⟨q1, q2⟩ hij⟩
            obtain ⟨g, hg⟩ := Classical.axiomOfChoice fun i => Classical.axiomOfChoice (hex i)
            refine .sl _ _ _ z _ g hlen (Nat.le_refl _) hrow (fun _ => ⟨_, rfl, ⟨.inr (.inl (Nat.le_trans H.fr.size hwk)), hk2, fun hl => ?_⟩, fun i j hi hj => ?_⟩) (fun i j hi hj => (hg i j hi hj).2)
            · have := (H.wr_block hl).2
              simp only at this
              omega
            · rw [add_plain, Nat.zero_mul, Nat.add_zero]
              exact (hg i j hi hj).1
        · have : chunks z 0 cs = [] := rfl
          rw [this]
          exact Rp.nil A 0
      · exact hv.elim
    · exact hv.elim
  · exact hv.elim

def qvY (E : Env) (op : Op) (e : Operand → V) (h : Hp) (v : V) : Prop :=
  match op with
  | .buildSlice T len parts => qbs E.P e T len parts.toList v
  | op => qv E op e h v
def quietY (ops : Array Oper) (o : Oper) : Bool := match o.op with
  | .buildSlice .. => true
  | _ => quiet ops o
def awpY (E : Env) (ops : Array Oper) : List Oper → (St → Prop) → St → Prop
  | [], K, σ => K σ
  | o :: rest, K, σ => gd ops o σ (∃ v, qvY E o.op (ev σ.t) σ.h v ∧ awpY E ops rest K (putS o.dst v σ)) (awpY E ops rest K (putS o.dst .undef σ))
def drawY (ops : Array Oper) : Bool :=
  (List.range ops.size).all fun i => match ops[i]? with
    | none => false
    | some o => (o.after.all fun e => !Region.binds .any e || decide (e.on < i)) && (List.range ops.size).all fun j => match (ops[j]?).bind (·.dst) with
      | some d => (!(o.looksAt ops).contains d || (decide (j < i) && reach ops i j)) && (j == i || o.dst != some d)
      | none => true
theorem drawY_at {ops : Array Oper} (h : drawY ops = true) {i : Nat} {o : Oper} (hi : ops[i]? = some o) : (∀ e ∈ o.after, Region.binds .any e = true → e.on < i) ∧ ∀ j oj d, ops[j]? = some oj → oj.dst = some d → (d ∈ o.looksAt ops → j < i ∧ Reach ops i j) ∧ (j = i ∨ o.dst ≠ some d) := by
  have hlt : i < ops.size := (Array.getElem?_eq_some_iff.1 hi).1
  unfold drawY at h
  rw [List.all_eq_true] at h
  have h1 := h i (by simpa using hlt)
  rw [hi] at h1
  simp only [Bool.and_eq_true, Array.all_eq_true, List.all_eq_true] at h1
  obtain ⟨h2, h4⟩ := h1
  refine ⟨fun e he hb => ?_, fun j oj d hj hd => ?_⟩
  · obtain ⟨k, hk, rfl⟩ := Array.getElem_of_mem he
    have := h2 k hk
    simpa [hb] using this
  · have h5 := h4 j (by simpa using (Array.getElem?_eq_some_iff.1 hj).1)
    simp only [hj, Option.bind_some, hd, Bool.and_eq_true, Bool.or_eq_true, Bool.not_eq_true', decide_eq_true_eq] at h5
    refine ⟨fun hm => ?_, ?_⟩
    · rcases h5.1 with h6 | h6
      · rw [List.contains_iff_mem.2 hm] at h6; cases h6
      · exact ⟨h6.1, reach_of h6.2⟩
    · rcases h5.2 with h6 | h6
      · exact .inl (by simpa using h6)
      · exact .inr (by simpa using h6)
theorem qvY_congr {E : Env} {op : Op} {e e' : Operand → V} {h : Hp} {v : V} (he : ∀ x ∈ op.operands, e x = e' x) (hq : qvY E op e h v) : qvY E op e' h v := by
  cases op <;> try exact qv_congr he hq
  case buildSlice T len parts =>
    have hm : ∀ q ∈ parts.toList, e q.2 = e' q.2 := fun q hq => he q.2 (by simp [Op.operands]; exact ⟨q.1, by simpa using hq⟩)
    simp only [qvY, qbs] at hq ⊢
    have h1 : (parts.toList.map fun q => (q.1, e q.2)) = parts.toList.map fun q => (q.1, e' q.2) := List.map_congr_left fun q hq => by rw [hm q hq]
    have h2 : (parts.toList.all fun q => isFlat (e q.2)) = true → (parts.toList.all fun q => isFlat (e' q.2)) = true := by
      intro h
      rw [List.all_eq_true] at h ⊢
      intro q hq
      rw [← hm q hq]
      exact h q hq
    rw [← h1]
    split at hq
    · split at hq
      · split at hq
        · exact ⟨hq.1, h2 hq.2.1, hq.2.2⟩
        · exact hq
      · exact hq
    · exact hq
def gdvY (E : Env) (ops : Array Oper) (o : Oper) (t : Nat → V) (h : Hp) (v : V) : Prop :=
  ∃ b, wantA ops o t b ∧ (b = true → qvY E o.op (ev t) h v) ∧ (b = false → v = .undef)
theorem gdvY_congr {E : Env} {ops : Array Oper} {o : Oper} {t t' : Nat → V} {h : Hp} {v : V} (he : ∀ d ∈ o.looksAt ops, t d = t' d) (hg : gdvY E ops o t h v) : gdvY E ops o t' h v := by
  obtain ⟨b, h1, h2, h3⟩ := hg
  exact ⟨b, wantA_congr he h1, fun hb => qvY_congr (ev_looks he) (h2 hb), h3⟩
theorem gdvY_of_gd {E : Env} {ops : Array Oper} {o : Oper} {σ : St} {K : St → Prop} (hg : gd ops o σ (∃ v, qvY E o.op (ev σ.t) σ.h v ∧ K (putS o.dst v σ)) (K (putS o.dst .undef σ))) : ∃ v, gdvY E ops o σ.t σ.h v ∧ K (putS o.dst v σ) := by
  unfold gd at hg
  split at hg
  · rename_i hgu
    obtain ⟨v, h1, h2⟩ := hg
    exact ⟨v, ⟨true, by simp [wantA, hgu], fun _ => h1, (fun h => by cases h)⟩, h2⟩
  · rename_i j want hgu
    split at hg
    · rename_i d hd
      split at hg
      · rename_i q hq
        by_cases hqw : q = want
        · obtain ⟨v, h1, h2⟩ := hg.1 hqw
          exact ⟨v, ⟨true, (by simp only [wantA, hgu]; exact ⟨d, hd, .inl ⟨q, hq, by simp [hqw]⟩⟩), fun _ => h1, (fun h => by cases h)⟩, h2⟩
        · exact ⟨.undef, ⟨false, (by simp only [wantA, hgu]; exact ⟨d, hd, .inl ⟨q, hq, by simp [hqw]⟩⟩), (fun h => by cases h), fun _ => rfl⟩, hg.2 hqw⟩
      · rename_i hq
        exact ⟨.undef, ⟨false, (by simp only [wantA, hgu]; exact ⟨d, hd, .inr ⟨hq, trivial⟩⟩), (fun h => by cases h), fun _ => rfl⟩, hg⟩
      · exact hg.elim
    · exact hg.elim
theorem headY (E : Env) (ops : Array Oper) {K : St → Prop} {h : Hp} {n : Nat} : ∀ (l : List Oper) (t : Nat → V), awpY E ops l K ⟨t, h, n⟩ →
    ∃ (vs : Nat → V) (ts : Nat → Nat → V), ts 0 = t ∧ (∀ i o, l[i]? = some o → gdvY E ops o (ts i) h (vs i) ∧ ts (i + 1) = (putS o.dst (vs i) ⟨ts i, h, n⟩).t) ∧ K ⟨ts l.length, h, n⟩ := by
  intro l
  induction l with
  | nil => intro t hk; exact ⟨fun _ => .undef, fun _ => t, rfl, fun i o h => by simp at h, hk⟩
  | cons o l ih =>
    intro t hk
    simp only [awpY] at hk
    obtain ⟨v, h1, h2⟩ := gdvY_of_gd (K := awpY E ops l K) hk
    rw [put_eq] at h2
    obtain ⟨vs, ts, g1, g2, g3⟩ := ih _ h2
    refine ⟨fun i => match i with | 0 => v | i + 1 => vs i, fun i => match i with | 0 => t | i + 1 => ts i, rfl, fun i o' hi => ?_, g3⟩
    cases i with
    | zero => simp at hi; subst hi; exact ⟨h1, by simp only [Nat.zero_add]; rw [g1]⟩
    | succ i => exact g2 i o' (by simpa using hi)
section
variable {ps : Hp × Mu × World} {E : Env} {c : Cx}
theorem qY_sound (hE : EnvOk E) (hc : c.P = E.P) (hΦ : FvOk c E.Φ) {h : Hp} {n : Nat} {μ : Mu} {w : World} {a : Act} (H : HS c h n μ w) {t : Nat → V} (ht : ∀ i, R c h μ w (t i) (a.tmps.getD i Go.undef)) {o : Oper} {v : V} (hk : qvY E o.op (ev t) h v) {next : Act → World → Prop} {Q : Exit → Act → World → Prop}
    (hn : ∀ x w', HS c h n μ w' → Ext c h μ w h μ w' → R c h μ w' v x → next (a.put o.dst x) w') : o.wp c.P a w next Q := by
  unfold qvY at hk
  split at hk
  · rename_i T len parts ho
    rw [← hc] at hk
    obtain ⟨y, w', h1, h2, h3⟩ := qbs_sound H (fun x => Rp.ev ht x) hk
    have H2 := H.below h2
    unfold Oper.wp
    rw [show (execOp a.eval o).run c.P w = .ok (.value y) w' by simp only [execOp, ho]; exact run_value h1]
    exact hn y w' H2.1 H2.2 h3
  · exact q_sound hE hc hΦ H ht hk hn
theorem Y_sound (hE : EnvOk E) (hc : c.P = E.P) (hΦ : FvOk c E.Φ) {ops : Array Oper} (hok : drawY ops = true) (hd : ∀ o ∈ ops.toList, dstOk E.nt o = true) {Q : Exit → Act → World → Prop} {K : St → Prop} (hQ : ∀ σ μ a w, K σ → Sim ps E c σ μ a w → Q .normal a w)
    {t0 vs : Nat → V} {h : Hp} {n : Nat} {ts : Nat → Nat → V} (hts0 : ts 0 = t0) (hvs : ∀ i o, ops[i]? = some o → gdvY E ops o (ts i) h (vs i) ∧ ts (i + 1) = (putS o.dst (vs i) ⟨ts i, h, n⟩).t) (hK : K ⟨ts ops.size, h, n⟩) :
    ∀ (u : Nat) (listed : Array Bool) {t : Nat → V} {μ : Mu} {a : Act} {w : World}, ((List.range ops.size).countP fun i => !listed.getD i true) = u → listed.size = ops.size →
      (∀ (i : Nat) (o : Oper), listed.getD i false = true → ops[i]? = some o → ∀ e ∈ o.after, Region.binds .any e = true → listed.getD e.on false = true) →
      (∀ j o d, ops[j]? = some o → o.dst = some d → t d = if listed.getD j true = true then vs j else t0 d) → (∀ d, (∀ (j : Nat) (o : Oper), ops[j]? = some o → o.dst ≠ some d) → t d = t0 d) →
      Sim ps E c ⟨t, h, n⟩ μ a w → wpAny c.P .any ops Q u listed a w := by
  have hagree : ∀ i, i ≤ ops.size → (∀ j o d, j < i → ops[j]? = some o → o.dst = some d → ts i d = vs j) ∧ ∀ d, (∀ j o, j < i → ops[j]? = some o → o.dst ≠ some d) → ts i d = t0 d := by
    intro i
    induction i with
    | zero => intro _; exact ⟨fun j o d hj => absurd hj (Nat.not_lt_zero _), fun d _ => by rw [hts0]⟩
    | succ i ih =>
      intro hi
      obtain ⟨b1, b2⟩ := ih (by omega)
      have hio : ops[i]? = some (ops[i]'(by omega)) := Array.getElem?_eq_getElem (by omega)
      generalize (ops[i]'(by omega)) = oi at hio
      obtain ⟨_, g3⟩ := hvs i _ hio
      refine ⟨fun j o d hj ho hdd => ?_, fun d hdd => ?_⟩
      · rw [g3, put_t]
        by_cases hji : j = i
        · subst hji
          rw [hio] at ho
          cases ho
          rw [if_pos hdd]
        · have hne := ((drawY_at hok hio).2 j o d ho hdd).2
          rw [if_neg (by rcases hne with h5 | h5; exact absurd h5 hji; exact h5)]
          exact b1 j o d (by omega) ho hdd
      · rw [g3, put_t, if_neg (hdd i oi (by omega) hio)]
        exact b2 d fun j o hj ho => hdd j o (by omega) ho
  intro u
  induction u with
  | zero =>
    intro listed t μ a w hu hls hcl hA hB S
    have hall : ∀ j, j < ops.size → listed.getD j true = true := by
      intro j hj
      have := List.countP_eq_zero.1 hu j (by simpa using hj)
      simpa using this
    have hte : t = ts ops.size := by
      funext d
      obtain ⟨b1, b2⟩ := hagree ops.size (Nat.le_refl _)
      by_cases hex : ∃ (j : Nat) (oj : Oper), ops[j]? = some oj ∧ oj.dst = some d
      · obtain ⟨j, oj, hoj, hdd⟩ := hex
        have hjl := (Array.getElem?_eq_some_iff.1 hoj).1
        rw [hA j oj d hoj hdd, if_pos (hall j hjl), b1 j oj d hjl hoj hdd]
      · rw [hB d fun j oj hoj hdd => hex ⟨j, oj, hoj, hdd⟩, b2 d fun j oj _ hoj hdd => hex ⟨j, oj, hoj, hdd⟩]
    subst hte
    refine ⟨?_, hQ _ μ a w hK S⟩
    rw [List.eq_nil_iff_forall_not_mem]
    intro i hi
    obtain ⟨h1, o, h2, _⟩ := mem_ready.1 hi
    exact bool_tf (hall i (Array.getElem?_eq_some_iff.1 h2).1) h1
  | succ u ih =>
    intro listed t μ a w hu hls hcl hA hB S
    have htf : ∀ j, j < ops.size → listed.getD j true = listed.getD j false := fun j hj => by
      have : j < listed.size := by omega
      simp [this]
    obtain ⟨m, hm1, hm2, hm3⟩ : ∃ m, m < ops.size ∧ listed.getD m true = false ∧ ∀ j, j < m → listed.getD j true = true := by
      have hex : ∃ m, m < ops.size ∧ listed.getD m true = false := by
        have : 0 < (List.range ops.size).countP fun i => !listed.getD i true := by omega
        obtain ⟨m, h1, h2⟩ := List.countP_pos_iff.1 this
        exact ⟨m, by simpa using h1, by simpa using h2⟩
      have key : ∀ k, (∃ m, m < k ∧ m < ops.size ∧ listed.getD m true = false) → ∃ m, m < ops.size ∧ listed.getD m true = false ∧ ∀ j, j < m → listed.getD j true = true := by
        intro k
        induction k with
        | zero => rintro ⟨m, h, _⟩; omega
        | succ k ihk =>
          rintro ⟨m, h1, h2, h3⟩
          by_cases hb : ∃ m, m < k ∧ m < ops.size ∧ listed.getD m true = false
          · exact ihk hb
          · refine ⟨m, h2, h3, fun j hj => ?_⟩
            cases hq : listed.getD j true with
            | true => rfl
            | false => exact absurd ⟨j, by omega, by omega, hq⟩ hb
      obtain ⟨m, h1, h2⟩ := hex
      exact key (m + 1) ⟨m, by omega, h1, h2⟩
    have hmo : ops[m]? = some (ops[m]'(by omega)) := Array.getElem?_eq_getElem (by omega)
    have hmr : m ∈ Region.ready .any ops listed := mem_ready.2 ⟨hm2, _, hmo, fun e he hb => by
      have h1 := (drawY_at hok hmo).1 e he hb
      rw [← htf _ (by omega)]
      exact hm3 _ h1⟩
    refine ⟨fun h0 => (by rw [h0] at hmr; cases hmr), fun i hi => ?_⟩
    obtain ⟨hiu, o, hio, hwait⟩ := mem_ready.1 hi
    have hilt : i < ops.size := (Array.getElem?_eq_some_iff.1 hio).1
    have hils : i < listed.size := by omega
    have hdo : ∀ d, o.dst = some d → d < E.nt := by
      intro d hd'
      have := hd o (by rw [Array.getElem?_eq_some_iff] at hio; obtain ⟨_, rfl⟩ := hio; simp)
      simp [dstOk, hd'] at this
      exact this
    obtain ⟨_, hpair⟩ := drawY_at hok hio
    have hreach : ∀ j, j < ops.size → Reach ops i j → listed.getD j true = true := fun j hj hr => by
      rw [htf j hj]
      exact reach_listed hcl hr fun o' ho' => by rw [hio] at ho'; cases ho'; exact hwait
    have hcount : ((List.range ops.size).countP fun j => !(listed.setIfInBounds i true).getD j true) = u := by
      have := countP_flip (f := fun j => !listed.getD j true) (g := fun j => !(listed.setIfInBounds i true).getD j true) (i := i) (by simp only [hiu]; rfl) (by simp only [set_same hils]; rfl) (fun j hj => by simp only [getD_set_ne true (fun e => hj e.symm)]) ops.size hilt
      omega
    have hmono : ∀ k, listed.getD k false = true → (listed.setIfInBounds i true).getD k false = true := by
      intro k hk
      by_cases hki : k = i
      · subst hki; exact set_same hils _
      · rw [getD_set_ne false (fun e => hki e.symm)]; exact hk
    have hcl' : ∀ (j : Nat) (oj : Oper), (listed.setIfInBounds i true).getD j false = true → ops[j]? = some oj → ∀ e ∈ oj.after, Region.binds .any e = true → (listed.setIfInBounds i true).getD e.on false = true := by
      intro j oj hl hoj e he hb
      by_cases hji : j = i
      · subst hji
        rw [hoj] at hio
        cases hio
        exact hmono _ (hwait e he hb)
      · rw [getD_set_ne false (fun e => hji e.symm)] at hl
        exact hmono _ (hcl j oj hl hoj e he hb)
    have hlook : ∀ d ∈ o.looksAt ops, ts i d = t d := by
      intro d hdl
      obtain ⟨b1, b2⟩ := hagree i (by omega)
      by_cases hex : ∃ (j : Nat) (oj : Oper), ops[j]? = some oj ∧ oj.dst = some d
      · obtain ⟨j, oj, hoj, hdd⟩ := hex
        obtain ⟨h1, h2⟩ := (hpair j oj d hoj hdd).1 hdl
        have hjl : j < ops.size := by omega
        rw [b1 j oj d h1 hoj hdd, hA j oj d hoj hdd, if_pos (hreach j hjl h2)]
      · rw [b2 d fun j oj _ hoj hdd => hex ⟨j, oj, hoj, hdd⟩, hB d fun j oj hoj hdd => hex ⟨j, oj, hoj, hdd⟩]
    obtain ⟨b, k1, k2, k3⟩ := gdvY_congr hlook (hvs i o hio).1
    have hA' : ∀ j oj d, ops[j]? = some oj → oj.dst = some d → (putS o.dst (vs i) ⟨t, h, n⟩).t d = if (listed.setIfInBounds i true).getD j true = true then vs j else t0 d := by
      intro j oj d hoj hdd
      rw [put_t]
      by_cases hji : j = i
      · subst hji
        rw [hio] at hoj
        cases hoj
        rw [if_pos hdd, if_pos (set_same hils _)]
      · rw [if_neg (by rcases (hpair j oj d hoj hdd).2 with h5 | h5; exact absurd h5 hji; exact h5), getD_set_ne true (fun e => hji e.symm)]
        exact hA j oj d hoj hdd
    have hB' : ∀ d, (∀ (j : Nat) (o : Oper), ops[j]? = some o → o.dst ≠ some d) → (putS o.dst (vs i) ⟨t, h, n⟩).t d = t0 d := by
      intro d hdd
      rw [put_t, if_neg (hdd i o hio)]
      exact hB d hdd
    unfold wpOp
    rw [hio]
    simp only
    rcases gd_wanted ops (n := n) S.tm (gd_of_want k1) with ⟨h1, h2⟩ | ⟨h1, h2⟩
    · rw [if_pos h1]
      refine .inl (qY_sound hE hc hΦ S.hs S.tm (k2 h2) ?_)
      intro x w' g2 g3 g4
      refine ih _ (μ := μ) hcount (by simp [hls]) hcl' hA' hB' ?_
      rw [← put_eq]
      exact S.put g2 g3 g4 hdo
    · rw [if_neg (by simp [h1])]
      refine ih _ (μ := μ) hcount (by simp [hls]) hcl' hA' hB' ?_
      rw [← put_eq, k3 h2]
      exact S.put S.hs (Ext.refl _ _ _ _) .undef hdo
theorem drawY_sound (hE : EnvOk E) (hc : c.P = E.P) (hΦ : FvOk c E.Φ) {ops : Array Oper} (hok : drawY ops = true) (hd : ∀ o ∈ ops.toList, dstOk E.nt o = true) {Q : Exit → Act → World → Prop} {K : St → Prop} (hQ : ∀ σ μ a w, K σ → Sim ps E c σ μ a w → Q .normal a w)
    {σ : St} {μ : Mu} {a : Act} {w : World} (hk : awpY E ops ops.toList K σ) (S : Sim ps E c σ μ a w) : wpAny c.P .any ops Q ops.size (Array.replicate ops.size false) a w := by
  obtain ⟨vs, ts, h1, h2, h3⟩ := headY E ops (h := σ.h) (n := σ.n) ops.toList σ.t hk
  have hcount : ((List.range ops.size).countP fun i => !(Array.replicate ops.size false).getD i true) = ops.size := by
    rw [List.countP_eq_length.2]
    · simp
    · intro i hi
      have : i < ops.size := List.mem_range.1 hi
      simp [this]
  refine Y_sound hE hc hΦ hok hd hQ (t0 := σ.t) (vs := vs) (h := σ.h) (n := σ.n) (ts := ts) h1 (fun i o ho => h2 i o (by simpa using ho)) (by simpa using h3) ops.size (Array.replicate ops.size false) (t := σ.t) hcount (by simp) ?_ ?_ (fun _ _ => rfl) S
  · intro j o hl ho
    have : j < ops.size := (Array.getElem?_eq_some_iff.1 ho).1
    simp [this] at hl
  · intro j o d ho hdd
    have : j < ops.size := (Array.getElem?_eq_some_iff.1 ho).1
    rw [if_neg (by simp [this])]
end
end Go.Proofs.Ytahgddfnbjpfiaa.Am
