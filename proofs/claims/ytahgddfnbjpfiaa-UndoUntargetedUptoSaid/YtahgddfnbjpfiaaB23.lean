/- Texts that the law's proof stands on: AmMp, V40. -/
import Derived.Test.YtahgddfnbjpfiaaB22
import Derived.Test.YtahgddfnbjpfiaaB20
import Derived.Test.YtahgddfnbjpfiaaB16
import Derived.MapKept
import Derived.WideKeyRuns
/- An abstract machine over values: what a range over a function asks of its states; a region with operations of another kind among its quiet ones. -/
set_option linter.unusedVariables false
set_option linter.unusedSimpArgs false
namespace Go.Proofs.Ytahgddfnbjpfiaa.Am
open Go Go.RowKit

theorem Dp.cells {w w' : World} {ok ok' : Nat → Prop} {v : V} {x : Value} (h : Dp w ok v x) (hc : ∀ p y, w.cell? p = some y → w'.cell? p = some y) (hok : ∀ k, ok k → ok' k) : Dp w' ok' v x := by
  induction h with
  | s v h => exact .s v h
  | sl rows n c size A g hn hc' hs hA hr ih =>
    refine .sl rows n c size A g hn hc' hs (fun h => ?_) ih
    obtain ⟨ad, rfl, hk, hcell⟩ := hA h
    exact ⟨ad, rfl, hok _ hk, fun i j hi hj => hc _ _ (hcell i j hi hj)⟩
theorem Rp.cells {fvals : Nat → Value} {w w' : World} {ok ok' : Nat → Prop} {μ : Mu} {v : V} {x : Value} (h : Rp fvals w ok μ v x) (hc : ∀ p y, w.cell? p = some y → w'.cell? p = some y) (hok : ∀ k, ok k → ok' k) : Rp fvals w' ok' μ v x := by
  induction h with
  | undef => exact .undef
  | any x => exact .any x
  | s v h => exact .s v h
  | cap0 A => exact .cap0 A
  | sl rows n c size A g hn hc' hs hA hr =>
    refine .sl rows n c size A g hn hc' hs (fun h => ?_) (fun i j hi hj => (hr i j hi hj).cells hc hok)
    obtain ⟨ad, rfl, hk, hcell⟩ := hA h
    exact ⟨ad, rfl, hok _ hk, fun i j hi hj => hc _ _ (hcell i j hi hj)⟩
  | agg cs xs hl h ih => exact .agg cs xs hl ih
  | tup cs xs hl h ih => exact .tup cs xs hl ih
  | pc cells ad g hb hc' hr => exact .pc cells ad g (hok _ hb) (fun j hj => hc _ _ (hc' j hj)) (fun j hj => (hr j hj).cells hc hok)
  | ptr b row col k base size h => exact .ptr b row col k base size h
  | loc b off len cap k base size h hc' => exact .loc b off len cap k base size h hc'
  | loc0 b off A t h => exact .loc0 b off A t h
  | fn f caps xs hl h ih => exact .fn f caps xs hl ih
  | fv k => exact .fv k
  | glb g => exact .glb g
  | mp k => exact .mp k
section
variable {c : Cx} {h : Hp} {n : Nat} {μ : Mu} {w w' : World}
/-- A step of the book-keeping: new blocks, and one block that is no cells. -/
theorem HS.grown (H : HS c h n μ w) {row : Option Nat} (g : w.grownBy w' row) (hr : ∀ r, row = some r → c.w0.heap.size ≤ r ∧ ∃ o : Obj, w.heap[r]? = some o ∧ o.isCells = false) :
    HS c h n μ w' ∧ ∀ v x, R c h μ w v x → R c h μ w' v x := by
  have hc : ∀ p y, w.cell? p = some y → w'.cell? p = some y := fun p y hp => cell_kept hp g fun r e => (hr r e).2
  have hok : ∀ k, okB c h μ w k → okB c h μ w' k := fun k hk => ⟨hk.1, Nat.lt_of_lt_of_le hk.2.1 g.size, hk.2.2⟩
  refine ⟨⟨⟨g.os.trans H.fr.os, g.tape.trans H.fr.tape, g.output.trans H.fr.output, Nat.le_trans H.fr.size g.size, fun k hk hx => ?_⟩, H.hfresh, H.mfresh, fun b B hB => ?_, H.inj⟩, fun v x r => r.cells hc hok⟩
  · rw [g.block k (Nat.lt_of_lt_of_le hk H.fr.size) (fun e => by have := (hr k e.symm).1; omega)]
    exact H.fr.block k hk hx
  · rcases H.blk b B hB with ⟨h1, h2⟩ | ⟨k, base, h1, h2, h3, h4, h5⟩
    · exact .inl ⟨h1, h2⟩
    · refine .inr ⟨k, base, h1, Nat.lt_of_lt_of_le h2 g.size, h3, h4, fun i j hi hj => ?_⟩
      obtain ⟨x, hx, hz, hR⟩ := h5 i j hi hj
      have hne : some k ≠ row := fun e => by
        obtain ⟨_, o, ho, hcl⟩ := hr k e.symm
        have : w.cell? ⟨k, base + (i * B.size + j), none⟩ = none := by
          unfold World.cell?
          rw [ho]
          cases o <;> first | rfl | cases hcl
        rw [this] at hx
        cases hx
      exact ⟨x, hc _ _ hx, fun o ho => by rw [← hz o ho]; exact frozen_same (g.block k h2 hne), hR.cells hc hok⟩
/-- Some blocks alone are kept. -/
theorem HS.keepOnly (H : HS c h n μ w) (p : Nat → Bool) : HS c (fun b => if p b then h b else none) n μ w ∧ Ext c h μ w (fun b => if p b then h b else none) μ w := by
  have hsub : ∀ b B, (if p b then h b else none) = some B → h b = some B := fun b B hb => by
    split at hb
    · exact hb
    · cases hb
  refine H.step (Fr.refl _ _) (fun _ _ h => h) H.mfresh ?_ ?_ (fun e b2 B2 hB => ?_) ?_
  · intro b2 hb2
    show (if p b2 then h b2 else none) = none
    split
    · exact H.hfresh b2 hb2
    · rfl
  · rintro q ⟨b2, B2, base2, size2, h1, h2, h3⟩
    exact .inl ⟨b2, B2, base2, size2, hsub _ _ h1, h2, h3⟩
  · exact (H.blk b2 B2 (hsub _ _ hB)).keep e (Nat.le_refl _) fun _ _ _ _ => rfl
  · intro b1 b2 B1 B2 q base1 size1 base2 size2 h1 h2 h3 h4 h5
    exact H.inj _ _ _ _ _ _ _ _ _ (hsub _ _ h1) (hsub _ _ h2) h3 h4 h5
end

theorem rep_getD {n j : Nat} (h : j < n) : (Array.replicate n false).getD j true = false := by simp [h]
/-- All but the last operation quiet (in a sense that is handed in), the last behind them all. -/
def awpG (E : Env) (qq : Op → (Operand → V) → V → Prop) (ops : Array Oper) : List Oper → (St → Prop) → St → Prop
  | [], K, σ => K σ
  | [o], K, σ => gd ops o σ (aop E o.op σ fun v σ' => K (putS o.dst v σ')) (K (putS o.dst .undef σ))
  | o :: o2 :: rest, K, σ => gd ops o σ (∃ v, qq o.op (ev σ.t) v ∧ awpG E qq ops (o2 :: rest) K (putS o.dst v σ)) (awpG E qq ops (o2 :: rest) K (putS o.dst .undef σ))
def drawG (ops : Array Oper) : Bool :=
  (List.range ops.size).all fun i => match ops[i]? with
    | none => false
    | some o => (o.after.all fun e => !Region.binds .any e || decide (e.on < i)) && ((List.range ops.size).all fun j => match (ops[j]?).bind (·.dst) with
      | some d => (!(o.looksAt ops).contains d || (decide (j < i) && reach ops i j)) && (j == i || o.dst != some d)
      | none => true) && (i + 1 != ops.size || (List.range i).all fun j => reach ops i j)
theorem drawG_at {ops : Array Oper} (h : drawG ops = true) {i : Nat} {o : Oper} (hi : ops[i]? = some o) : (∀ e ∈ o.after, Region.binds .any e = true → e.on < i) ∧ (∀ j oj d, ops[j]? = some oj → oj.dst = some d → (d ∈ o.looksAt ops → j < i ∧ Reach ops i j) ∧ (j = i ∨ o.dst ≠ some d)) ∧ (i + 1 = ops.size → ∀ j, j < i → Reach ops i j) := by
  have hlt : i < ops.size := (Array.getElem?_eq_some_iff.1 hi).1
  unfold drawG at h
  rw [List.all_eq_true] at h
  have h1 := h i (by simpa using hlt)
  rw [hi] at h1
  simp only [Bool.and_eq_true, Array.all_eq_true, List.all_eq_true] at h1
  obtain ⟨⟨h2, h4⟩, h6⟩ := h1
  refine ⟨fun e he hb => ?_, fun j oj d hj hd => ?_, fun he j hj => ?_⟩
  · obtain ⟨k, hk, rfl⟩ := Array.getElem_of_mem he
    have := h2 k hk
    simpa [hb] using this
  · have h5 := h4 j (by simpa using (Array.getElem?_eq_some_iff.1 hj).1)
    simp only [hj, Option.bind_some, hd, Bool.and_eq_true, Bool.or_eq_true, Bool.not_eq_true', decide_eq_true_eq] at h5
    refine ⟨fun hm => ?_, ?_⟩
    · rcases h5.1 with h6 | h6
      · rw [List.contains_iff_mem.2 hm] at h6; cases h6
      · exact ⟨h6.1, reach_of h6.2⟩
    · rcases h5.2 with h6 | h6
      · exact .inl (by simpa using h6)
      · exact .inr (by simpa using h6)
  · simp only [Bool.or_eq_true, bne_iff_ne, ne_eq, he, not_true_eq_false, false_or, List.all_eq_true] at h6
    exact reach_of (h6 j (by simpa using hj))
def gdvG (qq : Op → (Operand → V) → V → Prop) (ops : Array Oper) (o : Oper) (t : Nat → V) (v : V) : Prop :=
  ∃ b, wantA ops o t b ∧ (b = true → qq o.op (ev t) v) ∧ (b = false → v = .undef)
theorem gdvG_of_gd {qq : Op → (Operand → V) → V → Prop} {ops : Array Oper} {o : Oper} {σ : St} {K : St → Prop} (hg : gd ops o σ (∃ v, qq o.op (ev σ.t) v ∧ K (putS o.dst v σ)) (K (putS o.dst .undef σ))) : ∃ v, gdvG qq ops o σ.t v ∧ K (putS o.dst v σ) := by
  unfold gd at hg
  split at hg
  · rename_i hgu
    obtain ⟨v, h1, h2⟩ := hg
    exact ⟨v, ⟨true, by simp [wantA, hgu], fun _ => h1, (fun h => by cases h)⟩, h2⟩
  · rename_i j want hgu
    split at hg
    · rename_i d hd
      split at hg
      · rename_i q hq
        by_cases hqw : q = want
        · obtain ⟨v, h1, h2⟩ := hg.1 hqw
          exact ⟨v, ⟨true, (by simp only [wantA, hgu]; exact ⟨d, hd, .inl ⟨q, hq, by simp [hqw]⟩⟩), fun _ => h1, (fun h => by cases h)⟩, h2⟩
        · exact ⟨.undef, ⟨false, (by simp only [wantA, hgu]; exact ⟨d, hd, .inl ⟨q, hq, by simp [hqw]⟩⟩), (fun h => by cases h), fun _ => rfl⟩, hg.2 hqw⟩
      · rename_i hq
        exact ⟨.undef, ⟨false, (by simp only [wantA, hgu]; exact ⟨d, hd, .inr ⟨hq, trivial⟩⟩), (fun h => by cases h), fun _ => rfl⟩, hg⟩
      · exact hg.elim
    · exact hg.elim
/-- The values in the listed order; the last operation at their end. -/
theorem headG (E : Env) (qq : Op → (Operand → V) → V → Prop) (ops : Array Oper) {K : St → Prop} {h : Hp} {n : Nat} (ol : Oper) : ∀ (l : List Oper) (t : Nat → V), awpG E qq ops (l ++ [ol]) K ⟨t, h, n⟩ →
    ∃ (vs : Nat → V) (ts : Nat → Nat → V), ts 0 = t ∧ (∀ i o, l[i]? = some o → gdvG qq ops o (ts i) (vs i) ∧ ts (i + 1) = (putS o.dst (vs i) ⟨ts i, h, n⟩).t) ∧ awpG E qq ops [ol] K ⟨ts l.length, h, n⟩ := by
  intro l
  induction l with
  | nil => intro t hk; exact ⟨fun _ => .undef, fun _ => t, rfl, fun i o h => by simp at h, hk⟩
  | cons o l ih =>
    intro t hk
    have hk' : gd ops o ⟨t, h, n⟩ (∃ v, qq o.op (ev t) v ∧ awpG E qq ops (l ++ [ol]) K (putS o.dst v ⟨t, h, n⟩)) (awpG E qq ops (l ++ [ol]) K (putS o.dst .undef ⟨t, h, n⟩)) := by
      cases l with
      | nil => exact hk
      | cons o2 l => exact hk
    obtain ⟨v, h1, h2⟩ := gdvG_of_gd (σ := ⟨t, h, n⟩) (K := awpG E qq ops (l ++ [ol]) K) hk'
    rw [put_eq] at h2
    obtain ⟨vs, ts, g1, g2, g3⟩ := ih _ h2
    refine ⟨fun i => match i with | 0 => v | i + 1 => vs i, fun i => match i with | 0 => t | i + 1 => ts i, rfl, fun i o' hi => ?_, g3⟩
    cases i with
    | zero => simp at hi; subst hi; exact ⟨h1, by simp only [Nat.zero_add]; rw [g1]⟩
    | succ i => exact g2 i o' (by simpa using hi)
section
variable {ps : Hp × Mu × World} {E : Env} {c : Cx}
theorem G_sound (hE : EnvOk E) (hc : c.P = E.P) (hΦ : FvOk c E.Φ) {qq : Op → (Operand → V) → V → Prop} {ops : Array Oper} (hcongr : ∀ op e e' v, (∀ x ∈ op.operands, e x = e' x) → qq op e v → qq op e' v)
    (hok : drawG ops = true) (hd : ∀ o ∈ ops.toList, dstOk E.nt o = true) {l : List Oper} {ol : Oper} (hl : ops.toList = l ++ [ol]) {Q : Exit → Act → World → Prop} {K : St → Prop} (hQ : ∀ σ μ a w, K σ → Sim ps E c σ μ a w → Q .normal a w)
    {t0 : Nat → V} {h : Hp} {n : Nat} {μ : Mu}
    (hqq : ∀ (t : Nat → V) (v : V) (a : Act) (w1 : World) (o : Oper) (next : Act → World → Prop), o ∈ ops.toList → HS c h n μ w1 → Ext c ps.1 ps.2.1 ps.2.2 h μ w1 → (∀ i, R c h μ w1 (t i) (a.tmps.getD i Go.undef)) → qq o.op (ev t) v → (∀ x w2, HS c h n μ w2 → Ext c h μ w1 h μ w2 → R c h μ w2 v x → next (a.put o.dst x) w2) → o.wp c.P a w1 next Q)
    (hk : awpG E qq ops ops.toList K ⟨t0, h, n⟩) {a : Act} {w : World} (S : Sim ps E c ⟨t0, h, n⟩ μ a w) : wpAny c.P .any ops Q ops.size (Array.replicate ops.size false) a w := by
  rw [hl] at hk
  obtain ⟨vs, ts, hts0, hvs, hK⟩ := headG E qq ops ol l t0 hk
  have hsz : ops.size = l.length + 1 := by rw [← Array.length_toList, hl]; simp
  have hget : ∀ i o, i < l.length → (ops[i]? = some o ↔ l[i]? = some o) := fun i o hi => by
    rw [← Array.getElem?_toList, hl, List.getElem?_append_left hi]
  have hlast : ops[l.length]? = some ol := by rw [← Array.getElem?_toList, hl]; simp
  have hagree : ∀ i, i ≤ l.length → (∀ j o d, j < i → ops[j]? = some o → o.dst = some d → ts i d = vs j) ∧ ∀ d, (∀ j o, j < i → ops[j]? = some o → o.dst ≠ some d) → ts i d = t0 d := by
    intro i
    induction i with
    | zero => intro _; exact ⟨fun j o d hj => absurd hj (Nat.not_lt_zero _), fun d _ => by rw [hts0]⟩
    | succ i ih =>
      intro hi
      obtain ⟨b1, b2⟩ := ih (by omega)
      have hio : ops[i]? = some (ops[i]'(by omega)) := Array.getElem?_eq_getElem (by omega)
      generalize (ops[i]'(by omega)) = oi at hio
      obtain ⟨_, g3⟩ := hvs i _ ((hget i _ (by omega)).1 hio)
      refine ⟨fun j o d hj ho hdd => ?_, fun d hdd => ?_⟩
      · rw [g3, put_t]
        by_cases hji : j = i
        · subst hji
          rw [hio] at ho
          cases ho
          rw [if_pos hdd]
        · have hne := ((drawG_at hok hio).2.1 j o d ho hdd).2
          rw [if_neg (by rcases hne with h5 | h5; exact absurd h5 hji; exact h5)]
          exact b1 j o d (by omega) ho hdd
      · rw [g3, put_t, if_neg (hdd i oi (by omega) hio)]
        exact b2 d fun j o hj ho => hdd j o (by omega) ho
  have main : ∀ (u : Nat) (listed : Array Bool) {t : Nat → V} {a : Act} {w : World}, ((List.range ops.size).countP fun i => !listed.getD i true) = u → listed.size = ops.size → listed.getD l.length true = false →
      (∀ (i : Nat) (o : Oper), listed.getD i false = true → ops[i]? = some o → ∀ e ∈ o.after, Region.binds .any e = true → listed.getD e.on false = true) →
      (∀ j o d, j < l.length → ops[j]? = some o → o.dst = some d → t d = if listed.getD j true = true then vs j else t0 d) → (∀ d, (∀ (j : Nat) (o : Oper), j < l.length → ops[j]? = some o → o.dst ≠ some d) → t d = t0 d) →
      Sim ps E c ⟨t, h, n⟩ μ a w → wpAny c.P .any ops Q u listed a w := by
    intro u
    induction u with
    | zero =>
      intro listed t a w hu hls hlt hcl hA hB S
      have := List.countP_eq_zero.1 hu l.length (by simp; omega)
      simp only [hlt] at this
      exact absurd rfl this
    | succ u ih =>
      intro listed t a w hu hls hlt hcl hA hB S
      have htf : ∀ j, j < ops.size → listed.getD j true = listed.getD j false := fun j hj => by
        have : j < listed.size := by omega
        simp [this]
      obtain ⟨m, hm1, hm2, hm3⟩ : ∃ m, m < ops.size ∧ listed.getD m true = false ∧ ∀ j, j < m → listed.getD j true = true := by
        have key : ∀ k, (∃ m, m < k ∧ m < ops.size ∧ listed.getD m true = false) → ∃ m, m < ops.size ∧ listed.getD m true = false ∧ ∀ j, j < m → listed.getD j true = true := by
          intro k
          induction k with
          | zero => rintro ⟨m, h, _⟩; omega
          | succ k ihk =>
            rintro ⟨m, h1, h2, h3⟩
            by_cases hb : ∃ m, m < k ∧ m < ops.size ∧ listed.getD m true = false
            · exact ihk hb
            · refine ⟨m, h2, h3, fun j hj => ?_⟩
              cases hq : listed.getD j true with
              | true => rfl
              | false => exact absurd ⟨j, by omega, by omega, hq⟩ hb
        exact key (l.length + 1) ⟨l.length, by omega, by omega, hlt⟩
      have hmo : ops[m]? = some (ops[m]'(by omega)) := Array.getElem?_eq_getElem (by omega)
      have hmr : m ∈ Region.ready .any ops listed := mem_ready.2 ⟨hm2, _, hmo, fun e he hb => by
        have h1 := (drawG_at hok hmo).1 e he hb
        rw [← htf _ (by omega)]
        exact hm3 _ h1⟩
      refine ⟨fun h0 => (by rw [h0] at hmr; cases hmr), fun i hi => ?_⟩
      obtain ⟨hiu, o, hio, hwait⟩ := mem_ready.1 hi
      have hilt : i < ops.size := (Array.getElem?_eq_some_iff.1 hio).1
      have hils : i < listed.size := by omega
      have hmem : o ∈ ops.toList := by rw [Array.getElem?_eq_some_iff] at hio; obtain ⟨_, rfl⟩ := hio; simp
      have hdo : ∀ d, o.dst = some d → d < E.nt := by
        intro d hd'
        have := hd o hmem
        simp [dstOk, hd'] at this
        exact this
      obtain ⟨_, hpair, hall⟩ := drawG_at hok hio
      have hreach : ∀ j, j < ops.size → Reach ops i j → listed.getD j true = true := fun j hj hr => by
        rw [htf j hj]
        exact reach_listed hcl hr fun o' ho' => by rw [hio] at ho'; cases ho'; exact hwait
      have hcount : ((List.range ops.size).countP fun j => !(listed.setIfInBounds i true).getD j true) = u := by
        have := countP_flip (f := fun j => !listed.getD j true) (g := fun j => !(listed.setIfInBounds i true).getD j true) (i := i) (by simp only [hiu]; rfl) (by simp only [set_same hils]; rfl) (fun j hj => by simp only [getD_set_ne true (fun e => hj e.symm)]) ops.size hilt
        omega
      unfold wpOp
      rw [hio]
      simp only
      by_cases hil : i = l.length
      · subst hil
        rw [hlast] at hio
        cases hio
        have hallT : ∀ j, j < ops.size → (listed.setIfInBounds l.length true).getD j true = true := by
          intro j hj
          by_cases hje : j = l.length
          · subst hje; exact set_same hils _
          · rw [getD_set_ne true (fun e => hje e.symm)]
            exact hreach j hj (hall (by omega) j (by omega))
        have hu0 : u = 0 := by
          rw [← hcount, List.countP_eq_zero]
          intro j hj
          rw [hallT j (by simpa using hj)]
          simp
        subst hu0
        have hte : t = ts l.length := by
          funext d
          obtain ⟨b1, b2⟩ := hagree l.length (Nat.le_refl _)
          by_cases hex : ∃ (j : Nat) (oj : Oper), j < l.length ∧ ops[j]? = some oj ∧ oj.dst = some d
          · obtain ⟨j, oj, hjl, hoj, hdd⟩ := hex
            rw [hA j oj d hjl hoj hdd, if_pos (hreach j (by omega) (hall (by omega) j (by omega))), b1 j oj d hjl hoj hdd]
          · rw [hB d fun j oj hjl hoj hdd => hex ⟨j, oj, hjl, hoj, hdd⟩, b2 d fun j oj hjl hoj hdd => hex ⟨j, oj, hjl, hoj, hdd⟩]
        subst hte
        have hrdy : Region.ready .any ops (listed.setIfInBounds l.length true) = [] := by
          rw [List.eq_nil_iff_forall_not_mem]
          intro i hi
          obtain ⟨h1, o, h2, _⟩ := mem_ready.1 hi
          exact bool_tf (hallT i (Array.getElem?_eq_some_iff.1 h2).1) h1
        have hK2 : gd ops ol ⟨ts l.length, h, n⟩ (aop E ol.op ⟨ts l.length, h, n⟩ fun v σ' => K (putS ol.dst v σ')) (K (putS ol.dst .undef ⟨ts l.length, h, n⟩)) := hK
        rcases gd_wanted ops (n := n) S.tm hK2 with ⟨h1, h2⟩ | ⟨h1, h2⟩
        · rw [if_pos h1]
          refine .inl (op_sound hE hc hΦ S h2 ?_)
          intro v h' n' μ' x w' g1 g2 g3 g4
          exact ⟨hrdy, hQ _ _ _ _ g1 (S.put g2 g3 g4 hdo)⟩
        · rw [if_neg (by simp [h1])]
          exact ⟨hrdy, hQ _ _ _ _ h2 (S.put S.hs (Ext.refl _ _ _ _) .undef hdo)⟩
      · have hin : i < l.length := by omega
        have hmono : ∀ k, listed.getD k false = true → (listed.setIfInBounds i true).getD k false = true := by
          intro k hk
          by_cases hki : k = i
          · subst hki; exact set_same hils _
          · rw [getD_set_ne false (fun e => hki e.symm)]; exact hk
        have hcl' : ∀ (j : Nat) (oj : Oper), (listed.setIfInBounds i true).getD j false = true → ops[j]? = some oj → ∀ e ∈ oj.after, Region.binds .any e = true → (listed.setIfInBounds i true).getD e.on false = true := by
          intro j oj hl hoj e he hb
          by_cases hji : j = i
          · subst hji
            rw [hoj] at hio
            cases hio
            exact hmono _ (hwait e he hb)
          · rw [getD_set_ne false (fun e => hji e.symm)] at hl
            exact hmono _ (hcl j oj hl hoj e he hb)
        have hlt' : (listed.setIfInBounds i true).getD l.length true = false := by rw [getD_set_ne true (fun e => hil e)]; exact hlt
        have hlook : ∀ d ∈ o.looksAt ops, ts i d = t d := by
          intro d hdl
          obtain ⟨b1, b2⟩ := hagree i (by omega)
          by_cases hex : ∃ (j : Nat) (oj : Oper), j < l.length ∧ ops[j]? = some oj ∧ oj.dst = some d
          · obtain ⟨j, oj, hjl, hoj, hdd⟩ := hex
            obtain ⟨h1, h2⟩ := (hpair j oj d hoj hdd).1 hdl
            rw [b1 j oj d h1 hoj hdd, hA j oj d hjl hoj hdd, if_pos (hreach j (by omega) h2)]
          · rw [b2 d fun j oj hj hoj hdd => hex ⟨j, oj, by omega, hoj, hdd⟩, hB d fun j oj hj hoj hdd => hex ⟨j, oj, hj, hoj, hdd⟩]
        obtain ⟨b, k1, k2, k3⟩ := (hvs i o ((hget i o hin).1 hio)).1
        have k1 := wantA_congr hlook k1
        have hA' : ∀ j oj d, j < l.length → ops[j]? = some oj → oj.dst = some d → (putS o.dst (vs i) ⟨t, h, n⟩).t d = if (listed.setIfInBounds i true).getD j true = true then vs j else t0 d := by
          intro j oj d hjl hoj hdd
          rw [put_t]
          by_cases hji : j = i
          · subst hji
            rw [hio] at hoj
            cases hoj
            rw [if_pos hdd, if_pos (set_same hils _)]
          · rw [if_neg (by rcases (hpair j oj d hoj hdd).2 with h5 | h5; exact absurd h5 hji; exact h5), getD_set_ne true (fun e => hji e.symm)]
            exact hA j oj d hjl hoj hdd
        have hB' : ∀ d, (∀ (j : Nat) (o : Oper), j < l.length → ops[j]? = some o → o.dst ≠ some d) → (putS o.dst (vs i) ⟨t, h, n⟩).t d = t0 d := by
          intro d hdd
          rw [put_t, if_neg (hdd i o hin hio)]
          exact hB d hdd
        rcases gd_wanted ops (n := n) S.tm (gd_of_want k1) with ⟨h1, h2⟩ | ⟨h1, h2⟩
        · rw [if_pos h1]
          refine .inl (hqq t (vs i) a w o _ hmem S.hs S.ex S.tm (hcongr _ _ _ _ (ev_looks hlook) (k2 h2)) ?_)
          intro x w' g2 g3 g4
          refine ih _ hcount (by simp [hls]) hlt' hcl' hA' hB' ?_
          rw [← put_eq]
          exact S.put g2 g3 g4 hdo
        · rw [if_neg (by simp [h1])]
          refine ih _ hcount (by simp [hls]) hlt' hcl' hA' hB' ?_
          rw [← put_eq, k3 h2]
          exact S.put S.hs (Ext.refl _ _ _ _) .undef hdo
  have hcount : ((List.range ops.size).countP fun i => !(Array.replicate ops.size false).getD i true) = ops.size := by
    rw [List.countP_eq_length.2]
    · simp
    · intro i hi
      have : i < ops.size := List.mem_range.1 hi
      simp [this]
  refine main ops.size (Array.replicate ops.size false) (t := t0) hcount (by simp) (rep_getD (by omega)) ?_ ?_ (fun _ _ => rfl) S
  · intro j o hl ho
    have : j < ops.size := (Array.getElem?_eq_some_iff.1 ho).1
    simp [this] at hl
  · intro j o d hjl ho hdd
    have : j < ops.size := (Array.getElem?_eq_some_iff.1 ho).1
    rw [if_neg (by simp [this])]
end
/-- Operations that turn nothing, in their order: the world stays. -/
def pwL (E : Env) (h : Hp) : List Oper → ((Nat → V) → Prop) → (Nat → V) → Prop
  | [], K, t => K t
  | o :: rest, K, t => (o.guard = none ∧ noDefer o = true) ∧ ∃ d v, o.dst = some d ∧ pval E.P E.plain h (ev t) o.op = some v ∧ pwL E h rest K (upd t d v)
theorem put_R {c : Cx} {h : Hp} {μ : Mu} {w : World} {t : Nat → V} {a : Act} (ht : ∀ i, R c h μ w (t i) (a.tmps.getD i Go.undef)) {d : Nat} (hd : d < a.tmps.size) {v : V} {x : Value} (hx : R c h μ w v x) : ∀ i, R c h μ w (upd t d v i) ((a.put (some d) x).tmps.getD i Go.undef) := by
  intro i
  simp only [Act.put]
  by_cases hid : i = d
  · subst hid
    rw [upd_same]
    have : (a.tmps.setIfInBounds i x).getD i Go.undef = x := by simp [hd]
    rw [this]
    exact hx
  · rw [upd_ne _ _ _ _ hid]
    have : (a.tmps.setIfInBounds d x).getD i Go.undef = a.tmps.getD i Go.undef := by
      simp only [Array.getD_eq_getD_getElem?, Array.getElem?_setIfInBounds]
      rw [if_neg (by omega)]
    rw [this]
    exact ht i
theorem pure_listIn {E : Env} (hE : PlainOk E.P E.plain) {c : Cx} (hc : c.P = E.P) {h : Hp} {n : Nat} {μ : Mu} {w : World} (H : HS c h n μ w) {r : Option Nat} {m : Nat} {ops : Array Oper} {Q : Exit → Act → World → Prop} {l2 : List Oper} {K : (Nat → V) → Prop} {nt : Nat} :
    ∀ (l : List Oper) {t : Nat → V} {a : Act}, (∀ o ∈ l, dstOk nt o = true) → a.tmps.size = nt → (∀ i, R c h μ w (t i) (a.tmps.getD i Go.undef)) → pwL E h l K t →
      (∀ t' a', K t' → a'.tmps.size = nt → a'.defers = a.defers → (∀ i, R c h μ w (t' i) (a'.tmps.getD i Go.undef)) → wpListIn (Fw r) m c.P ops Q l2 a' w) → wpListIn (Fw r) m c.P ops Q (l ++ l2) a w
  | [], t, a, _, hs, ht, hk, hn => hn t a hk hs rfl ht
  | o :: l, t, a, hd, hs, ht, hk, hn => by
    obtain ⟨⟨hg, hnd⟩, d, v, hdst, hv, hk⟩ := hk
    have hdn : d < a.tmps.size := by
      have h1 := hd o (by simp)
      unfold dstOk at h1
      rw [hdst] at h1
      have h2 := of_decide_eq_true h1
      rw [hs]
      exact h2
    rw [List.cons_append]
    unfold wpListIn
    rw [if_pos (by simp [Region.wanted, hg])]
    refine oper_in hnd ?_
    rw [← hc] at hv
    obtain ⟨x, h1, h2⟩ := pval_sound (by rw [hc]; exact hE) H (fun x => Rp.ev ht x) hv
    unfold Oper.wp
    rw [h1]
    show wpListIn (Fw r) m c.P ops Q (l ++ l2) (a.put o.dst x) w
    rw [hdst]
    refine pure_listIn hE hc H l (fun o ho => hd o (by simp [ho])) (by simp [Act.put, hs]) (put_R ht hdn h2) hk ?_
    intro t' a' k1 k2 k3 k4
    exact hn t' a' k1 k2 (by rw [k3]; rfl) k4
theorem pure_regionIn {E : Env} (hE : PlainOk E.P E.plain) {c : Cx} {P : Program} (hP : c.P = P) (hc : c.P = E.P) {h : Hp} {n : Nat} {μ : Mu} {w : World} (H : HS c h n μ w) {r : Option Nat} {m : Nat} {id : Nat} {ops : Array Oper} {Q : Exit → Act → World → Prop} (K : (Nat → V) → Prop) {nt : Nat}
    {t : Nat → V} {a : Act} (hd : ops.toList.all (dstOk nt) = true) (hs : a.tmps.size = nt) (ht : ∀ i, R c h μ w (t i) (a.tmps.getD i Go.undef)) (hk : pwL E h ops.toList K t)
    (hn : ∀ t' a', K t' → a'.tmps.size = nt → a'.defers = a.defers → (∀ i, R c h μ w (t' i) (a'.tmps.getD i Go.undef)) → Q .normal a' w) : (Code.region id ops false).wpIn (Fw r) m P Q a w := by
  subst hP
  refine wpIn_region_list ?_
  have := pure_listIn hE hc H (r := r) (m := m) (ops := ops) (Q := Q) (l2 := []) (K := K) (nt := nt) ops.toList (fun o ho => List.all_eq_true.1 hd o ho) hs ht hk hn
  rwa [List.append_nil] at this
theorem pure_headIn {E : Env} (hE : PlainOk E.P E.plain) {c : Cx} {P : Program} (hP : c.P = P) (hc : c.P = E.P) {h : Hp} {n : Nat} {μ : Mu} {w : World} (H : HS c h n μ w) {r : Option Nat} {m : Nat} {id : Nat} {ops : Array Oper} {Q : Exit → Act → World → Prop} (k : Nat) (K : (Nat → V) → Prop) {nt : Nat}
    {t : Nat → V} {a : Act} (hd : ops.toList.all (dstOk nt) = true) (hs : a.tmps.size = nt) (ht : ∀ i, R c h μ w (t i) (a.tmps.getD i Go.undef)) (hk : pwL E h (ops.toList.take k) K t)
    (hn : ∀ t' a', K t' → a'.tmps.size = nt → a'.defers = a.defers → (∀ i, R c h μ w (t' i) (a'.tmps.getD i Go.undef)) → wpListIn (Fw r) m P ops Q (ops.toList.drop k) a' w) : (Code.region id ops false).wpIn (Fw r) m P Q a w := by
  subst hP
  refine wpIn_region_list ?_
  have := pure_listIn hE hc H (r := r) (m := m) (ops := ops) (Q := Q) (l2 := ops.toList.drop k) (K := K) (nt := nt) (ops.toList.take k) (fun o ho => List.all_eq_true.1 hd o (List.mem_of_mem_take ho)) hs ht hk hn
  rwa [List.take_append_drop] at this
theorem listIn_cons {F : Fence} {m : Nat} {P : Program} {ops : Array Oper} {Q : Exit → Act → World → Prop} {o : Oper} {rest : List Oper} {a : Act} {w : World} (hg : o.guard = none) (h : o.wpIn F m P a w (wpListIn F m P ops Q rest) Q) : wpListIn F m P ops Q (o :: rest) a w := by
  unfold wpListIn
  rw [if_pos (by simp [Region.wanted, hg])]
  exact h
theorem yield_in {r : Option Nat} {m : Nat} {P : Program} {o : Oper} {cl : Call} {f : Operand} {l : Nat} {args : Array Value} {a : Act} {w : World} {next : Act → World → Prop} {Q : Exit → Act → World → Prop} {R' : Ending → World → Prop} (ho : o.op = .call cl) (hcal : cl.callee = .value f) (hf : a.eval f = .func (.yield l) #[] #[]) (ha : cl.args.map a.eval = args)
    (hy : YieldAt (Fw r) (m - 1) P l args w R') (hn : ∀ e w', R' e w' → ∃ v, e = .returned v ∧ next (a.put o.dst v) w') : o.wpIn (Fw r) m P a w next Q := by
  refine ⟨fun _ _ => trivial, ?_⟩
  rw [Oper.semAt_eq _ _ _ (fun c hc => by rw [ho] at hc; cases hc)]
  obtain ⟨fn, tmps, assign, body, h1, h2⟩ := hy
  have hrun : (execOp a.eval o).run P w = .ok (.round l fn tmps assign body) w := by
    rw [← ha] at h1
    simpa [execOp, ho, resolve, hcal, hf, Deferred.ofValue, invoke] using h1
  rw [hrun, Oper.uponIn_round]
  refine ⟨fun hh => absurd hh (by simp [Fw, Fence.wide]), h2.mono ?_⟩
  intro e w' hR
  obtain ⟨v, rfl, hv⟩ := hn e w' hR
  exact hv
theorem one_in {E : Env} (hE : PlainOk E.P E.plain) {c : Cx} {P : Program} (hP : c.P = P) (hc : c.P = E.P) {h : Hp} {n : Nat} {μ : Mu} {w : World} (H : HS c h n μ w) {r : Option Nat} {m : Nat} {o : Oper} {Q : Exit → Act → World → Prop} {next : Act → World → Prop}
    {t : Nat → V} {a : Act} {v : V} (ht : ∀ i, R c h μ w (t i) (a.tmps.getD i Go.undef)) (hnd : noDefer o = true) (hv : pval E.P E.plain h (ev t) o.op = some v) (hn : ∀ x, R c h μ w v x → next (a.put o.dst x) w) : o.wpIn (Fw r) m P a w next Q := by
  subst hP
  refine oper_in hnd ?_
  rw [← hc] at hv
  obtain ⟨x, h1, h2⟩ := pval_sound (by rw [hc]; exact hE) H (fun x => Rp.ev ht x) hv
  unfold Oper.wp
  rw [h1]
  exact hn x h2
theorem wpList_app {P : Program} {ops : Array Oper} {Q Q1 : Exit → Act → World → Prop} {l2 : List Oper} (hQ1 : ∀ a w, Q1 .normal a w → wpList P ops Q l2 a w) (hQe : ∀ e a w, e ≠ .normal → Q1 e a w → Q e a w) :
    ∀ (l : List Oper) {a : Act} {w : World}, wpList P ops Q1 l a w → wpList P ops Q (l ++ l2) a w
  | [], a, w, h => hQ1 a w h
  | o :: l, a, w, h => by
    rw [List.cons_append]
    unfold wpList at h ⊢
    have hlo : LetsOut Q1 → LetsOut Q := fun ⟨a, w, q⟩ => ⟨a, w, hQe _ _ _ (by simp) q⟩
    split at h
    · rename_i hw
      rw [if_pos hw]
      rcases h with h | ⟨h1, h2⟩
      · left
        have h3 := Oper.wp_mono (fun a w hh => wpList_app hQ1 hQe l hh) h
        unfold Oper.wp at h3 ⊢
        generalize (execOp _ o).run P w = x at h3 ⊢
        cases x with
        | ok y w' =>
          cases y <;> simp only [Oper.upon] at h3 ⊢ <;> first
            | exact h3
            | exact h3.mono (fun e w'' he => by cases e <;> first | exact he | exact hQe _ _ _ (by simp) he | exact hlo he)
        | halt y w' => cases y <;> simp only [Oper.upon] at h3 ⊢ <;> first | exact hQe _ _ _ (by simp) h3 | exact h3
      · exact .inr ⟨h1, hlo h2⟩
    · rename_i hw
      rw [if_neg hw]
      exact wpList_app hQ1 hQe l h
theorem list_cons {P : Program} {ops : Array Oper} {Q : Exit → Act → World → Prop} {o : Oper} {rest : List Oper} {a : Act} {w : World} (hg : o.guard = none) (h : o.wp P a w (wpList P ops Q rest) Q) : wpList P ops Q (o :: rest) a w := by
  unfold wpList
  rw [if_pos (by simp [Region.wanted, hg])]
  exact .inl h
section
variable {E : Env} {qq : Op → (Operand → V) → V → Prop} {ops : Array Oper} {K : St → Prop} {t : Nat → V} {h : Hp} {n : Nat}
theorem g_cons {o o2 : Oper} {rest : List Oper} {d : Nat} {v : V} (hg : o.guard = none) (hd : o.dst = some d) (hq : qq o.op (ev t) v) (k : awpG E qq ops (o2 :: rest) K ⟨upd t d v, h, n⟩) : awpG E qq ops (o :: o2 :: rest) K ⟨t, h, n⟩ := by
  unfold awpG gd
  rw [hg]
  refine ⟨v, hq, ?_⟩
  rw [hd]
  exact k
theorem g_last {o : Oper} (hg : o.guard = none) (k : aop E o.op ⟨t, h, n⟩ fun v σ' => K (putS o.dst v σ')) : awpG E qq ops [o] K ⟨t, h, n⟩ := by
  unfold awpG gd
  rw [hg]
  exact k
end
section
variable {ps : Hp × Mu × World} {E : Env} {c : Cx}
/-- .. and the variables that no operation sets hold what they held. -/
theorem ops_soundX (hE : EnvOk E) (hc : c.P = E.P) (hΦ : FvOk c E.Φ) (ops : Array Oper) (D : Nat → Prop) {Q : Exit → Act → World → Prop} {K : St → Prop} : ∀ (l : List Oper) {σ : St} {μ : Mu} {a : Act} {w : World},
    (∀ o ∈ l, dstOk E.nt o = true) → (∀ o ∈ l, ∀ d, o.dst = some d → ¬ D d) → awpOps E ops l K σ → Sim ps E c σ μ a w → (∀ σ' μ' a' w', K σ' → Sim ps E c σ' μ' a' w' → (∀ d, D d → a'.tmps.getD d Go.undef = a.tmps.getD d Go.undef) → Q .normal a' w') → wpList c.P ops Q l a w
  | [], σ, μ, a, w, _, _, hk, S, hQ => hQ σ μ a w hk S fun _ _ => rfl
  | o :: l, σ, μ, a, w, hd, hD, hk, S, hQ => by
    have hdo : ∀ d, o.dst = some d → d < E.nt := by
      intro d hd'
      have := hd o (by simp)
      simp [dstOk, hd'] at this
      exact this
    have hput : ∀ x d, D d → (a.put o.dst x).tmps.getD d Go.undef = a.tmps.getD d Go.undef := by
      intro x d hdd
      cases ho : o.dst with
      | none => rfl
      | some e =>
        have hne : e ≠ d := fun h => hD o (by simp) e ho (h ▸ hdd)
        simp only [Act.put, Array.getD_eq_getD_getElem?, Array.getElem?_setIfInBounds]
        rw [if_neg hne]
    unfold awpOps at hk
    unfold wpList
    rcases gd_wanted ops (n := σ.n) S.tm hk with ⟨h1, h2⟩ | ⟨h1, h2⟩
    · rw [if_pos h1]
      refine .inl (op_sound hE hc hΦ S h2 ?_)
      intro v h' n' μ' x w' g1 g2 g3 g4
      exact ops_soundX hE hc hΦ ops D l (fun o ho => hd o (by simp [ho])) (fun o ho => hD o (by simp [ho])) g1 (S.put g2 g3 g4 hdo) fun σ' μ' a' w' k1 k2 k3 => hQ σ' μ' a' w' k1 k2 fun d hdd => (k3 d hdd).trans (hput x d hdd)
    · rw [if_neg (by simp [h1])]
      exact ops_soundX hE hc hΦ ops D l (fun o ho => hd o (by simp [ho])) (fun o ho => hD o (by simp [ho])) h2 (S.put S.hs (Ext.refl _ _ _ _) .undef hdo) fun σ' μ' a' w' k1 k2 k3 => hQ σ' μ' a' w' k1 k2 fun d hdd => (k3 d hdd).trans (hput _ d hdd)
end
end Go.Proofs.Ytahgddfnbjpfiaa.Am

set_option linter.unusedVariables false
set_option linter.unusedSimpArgs false
set_option maxRecDepth 100000
set_option maxHeartbeats 4000000
namespace Go.Proofs.Ytahgddfnbjpfiaa
open Go Go.RowKit Am

/-- An Id as a map's key. -/
def keyV (x : Idt) : Value := .agg #[.string x.a, .int .i64 x.n]
def idE (x y : Idt) : Bool := (x.a.toList == y.a.toList) && (x.n == y.n)
theorem run_eqKey {plain : TypeId → Bool} (hp : PlainOk Try.prog plain) (hpl : plain 29 = true) (x y : Idt) (w : World) : (Op.equal 29 (keyV x) (keyV y)).run Try.prog w = .ok (idE x y) w := by
  have h := hp.eq 29 hpl #[.string ⟨#[]⟩, .int .i64 0] [.string x.a, .int .i64 x.n] [.string y.a, .int .i64 y.n] (idE x y) (by kernel_rfl) rfl rfl (by simp [eqL, idE]) w
  exact h
theorem run_checkId (x : Idt) (w : World) (e : Bool) : (Instr.checkKey e 10000 29 (keyV x)).run Try.prog w = .ok () w := by
  obtain ⟨fs, hu, hf⟩ : ∃ fs, Try.prog.underlying 29 = some (.struct fs) ∧ fs.toList.map (fun f => (f.name != "_", f.type, f.offset)) = [(true, 9, 0), (true, 3, 1)] := ⟨_, Try.underlying29, by kernel_rfl⟩
  obtain ⟨f1, f2, rfl, h1, h2⟩ : ∃ f1 f2 : Field, fs = #[f1, f2] ∧ (f1.name != "_", f1.type, f1.offset) = (true, 9, 0) ∧ (f2.name != "_", f2.type, f2.offset) = (true, 3, 1) := by
    obtain ⟨l⟩ := fs
    cases l with
    | nil => simp at hf
    | cons f1 l => cases l with
      | nil => simp at hf
      | cons f2 l => cases l with
        | nil => simp only [List.map_cons, List.map_nil, List.cons.injEq, and_true] at hf; exact ⟨f1, f2, rfl, hf.1, hf.2⟩
        | cons f3 l => simp at hf
  simp only [Prod.mk.injEq] at h1 h2
  have u1 := Try.underlying9
  have u2 := Try.underlying3
  have p1 : (part 9 #[.string x.a, .int .i64 x.n] 0).run Try.prog w = .ok (.string x.a) w := run_part_one (by kernel_rfl) (by simp)
  have p2 : (part 3 #[.string x.a, .int .i64 x.n] 1).run Try.prog w = .ok (.int .i64 x.n) w := run_part_one (by kernel_rfl) (by simp)
  have c1 : (Instr.checkKey e (9998 + 1) 9 (.string x.a)).run Try.prog w = .ok () w := by
    rw [Instr.checkKey]; simp only [Sem.run_bind, run_underlying u1, Result.andThen_ok]; rfl
  have c2 : (Instr.checkKey e (9998 + 1) 3 (.int .i64 x.n)).run Try.prog w = .ok () w := by
    rw [Instr.checkKey]; simp only [Sem.run_bind, run_underlying u2, Result.andThen_ok]; rfl
  have n1 : f1.name ≠ "_" := by simpa using h1.1
  have n2 : f2.name ≠ "_" := by simpa using h2.1
  unfold keyV
  rw [show 10000 = 9998 + 1 + 1 from rfl, Instr.checkKey]
  simp only [Sem.run_bind, run_underlying hu, Result.andThen_ok]
  rw [← Array.forIn_toList]
  simp only [List.forIn_cons, List.forIn_nil, Sem.run_bind, n1, n2, ne_eq, not_false_eq_true, if_true, h1.2.1, h1.2.2, h2.2.1, h2.2.2, p1, p2, c1, c2, Result.andThen_ok, Sem.run_pure]
theorem keep_key (x : Idt) (w : World) : (Instr.keyThatStays (keyV x) (keyV x)).run Try.prog w = .ok (keyV x) w := by
  have : Instr.sameBits 10000 (keyV x) (keyV x) = true := by
    have hb : (x.a == x.a) = true := by show (x.a.beq x.a) = true; unfold ByteArray.beq; simp
    simp [keyV, Instr.sameBits, hb]
  simp [Instr.keyThatStays, this, Sem.run, pure]
end Go.Proofs.Ytahgddfnbjpfiaa
