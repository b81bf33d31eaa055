/- Texts that the law's proof stands on: V45, V46, V47. -/
import Derived.Test.YtahgddfnbjpfiaaB24
set_option linter.unusedVariables false
set_option linter.unusedSimpArgs false
set_option maxRecDepth 100000
set_option maxHeartbeats 8000000
namespace Go.Proofs.Ytahgddfnbjpfiaa
open Go Go.RowKit Am

def subC : List Nat → Code → Code
  | 0 :: p, .seq x _ => subC p x
  | _ :: p, .seq _ y => subC p y
  | _ :: p, .block _ x => subC p x
  | 0 :: p, .rangeFunc _ _ x _ => subC p x
  | _ :: p, .rangeFunc _ _ _ y => subC p y
  | _, c => c
noncomputable def liveC : Code := (Try.f11.body).getD .skip
def qq6 (E : Env) (h : Hp) (bm : Nat) (M : List Ent) (op : Op) (e : Operand → Am.V) (v : Am.V) : Prop := match op with
  | .lookup T x k false => T = 42 ∧ e x = .mp bm ∧ ∃ id, e k = .agg (encId id) ∧ v = offV M id
  | op => qv E op e h v
theorem qq6_congr (E : Env) (h : Hp) (bm : Nat) (M : List Ent) : ∀ op e e' v, (∀ x ∈ op.operands, e x = e' x) → qq6 E h bm M op e v → qq6 E h bm M op e' v := by
  intro op e e' v he hq
  cases op <;> try exact qv_congr he hq
  case lookup T x k b =>
    cases b
    · obtain ⟨h1, h2, id, h3, h4⟩ := hq
      exact ⟨h1, by rw [← he x (by simp [Op.operands])]; exact h2, id, by rw [← he k (by simp [Op.operands])]; exact h3, h4⟩
    · exact qv_congr he hq
theorem agg_id {fv : Nat → Value} {w : World} {ok : Nat → Prop} {μ : Mu} {id : Idt} {x : Value} (h : Rp fv w ok μ (.agg (encId id)) x) : x = keyV id := by
  obtain ⟨xs, rfl, hl, hr⟩ := h.agg_inv
  have h0 := (hr 0 (by show 0 < 2; omega)).s_eq.1
  have h1 := (hr 1 (by show 1 < 2; omega)).s_eq.1
  unfold keyV
  congr 1
  apply Array.ext
  · simpa [encId] using hl
  · intro i g1 g2
    have : i = 0 ∨ i = 1 := by simp at g2; omega
    rcases this with rfl | rfl
    · simpa [g1] using h0
    · simpa [g1] using h1
/-- The map's look-up, as a quiet operation. -/
theorem look_sound {plain : TypeId → Bool} (hp : PlainOk Try.prog plain) (hpl : plain 29 = true) {c : Cx} (hc : c.P = Try.prog) {h : Hp} {μ : Mu} {w1 : World} {bm : Nat} {M : List Ent} (hmo : w1.heap[bm]? = some (mapO (M.map fun m => (m.id, m.x)))) (hent : ∀ m ∈ M, R c h μ w1 m.v m.x)
    {t : Nat → Am.V} {a : Act} (ht : ∀ i, R c h μ w1 (t i) (a.tmps.getD i undef)) {o : Oper} {x k : Operand} (ho : o.op = .lookup 42 x k false) (h1 : ev t x = .mp bm) {id : Idt} (h2 : ev t k = .agg (encId id)) : ∃ y, (execOp a.eval o).run c.P w1 = .ok (.value y) w1 ∧ R c h μ w1 (offV M id) y := by
  have e1 : a.eval x = .map (some bm) := by
    have := Rp.ev ht x
    rw [h1] at this
    generalize a.eval x = z at this
    cases this
    rfl
  have e2 : a.eval k = keyV id := by
    have := Rp.ev ht k
    rw [h2] at this
    exact agg_id this
  have hrun := run_look hp hpl hmo id
  refine ⟨match fnd id (M.map fun m => (m.id, m.x)) 0 with | some q => q.2 | none => .slice none 0 0, ?_, ?_⟩
  · rw [hc]
    simp only [execOp, ho, e1, e2]
    exact run_value hrun
  · cases hq : fnd id (M.map fun m => (m.id, m.x)) 0 with
    | some q =>
      obtain ⟨i, v⟩ := q
      obtain ⟨m, g1, _, _, g4, g5⟩ := offV_some hq
      rw [g5]
      show R c h μ w1 m.v v
      rw [← g4]
      exact hent m (List.mem_of_getElem? g1)
    | none =>
      rw [(offV_none hq).1]
      exact .cap0 none
theorem loc_R {c : Cx} {h h' : Hp} {μ μ' : Mu} {w w' : World} {b len cap : Nat} {x : Value} (hμ : ∀ b t, μ b = some t → μ' b = some t) (r : R c h μ w (.loc b 0 len cap) x) : R c h' μ' w' (.loc b 0 len cap) x := by
  obtain ⟨h1, h2⟩ := r.loc_inv
  rcases h2 with ⟨k, base, size, hm, rfl⟩ | ⟨rfl, rfl, A, t, hm, rfl⟩
  · exact .loc _ _ _ _ _ _ _ (hμ _ _ hm) h1
  · exact .loc0 _ _ _ t (hμ _ _ hm)
theorem astore_mk {P : Program} {T : TypeId} {p x : Am.V} {σ : St} {K : Am.V → St → Prop} {b r k z : Nat} {cs : List Am.V} {B : Blk} (hp : p = .ptr b r k) (hx : cellsV x = some cs) (hz : szo P T = some z) (hh : σ.h b = some B ∧ B.wr = true ∧ cs.length = z ∧ (∀ q ∈ cs, cellish q = true) ∧ r < B.rows.length ∧ k + z ≤ B.size)
    (hK : K .undef (σ.set b { B with rows := B.rows.set r (setAt (B.rows.getD r []) k cs) })) : astore P T p x σ K := by
  subst hp
  unfold astore
  simp only [hx, hz]
  exact ⟨B, hh.1, hh.2.1, hh.2.2.1, hh.2.2.2.1, hh.2.2.2.2.1, hh.2.2.2.2.2, hK⟩
section
variable {plain : TypeId → Bool} {Γ : FuncId → Option Fspec} {Δ : FuncId → Option Pt} {Φ : FvSpec} (hE : EnvOk ⟨Try.prog, plain, Γ, Δ, Φ, 44⟩) (hpl : plain 29 = true)
  (g_cf : Γ 20 = some (cfS encE)) (g_und : Γ 21 = some und1S)
  {c : Cx} (hc : c.P = Try.prog) (hΦ : FvOk c Φ) {es : List Edt} {w : World} {K : Nat → Prop} {bm : Nat} {v3 v4 : Value}
include hE hpl g_cf g_und hc hΦ
/-- The draw: is the edit undone? -/
theorem draw6 {st : List Bool × List Edt} {p : Nat} {h : Hp} {n : Nat} {μ : Mu} {M : List Ent} {W : World} (I : Inv c es w K bm v3 v4 st p h n μ M W) (hdp : ∀ u ∈ es, u.deps.length ≤ 1048576) (hel : es.length ≤ 1048576) (hpe : p ≤ es.length) {i : Nat} (hi : i < es.length)
    {t : Nat → Am.V} (q3 : t 3 = .ptr 1 0 0) (q4 : t 4 = .ptr 2 0 0) (q5 : t 5 = .s (.int .i64 i)) (q6 : t 6 = .pc (encE es[i])) {Q : Exit → Act → World → Prop} (hlo : ¬ LetsOut Q) {r : Option Nat} {m : Nat} {a : Act} (S : Sim (h, μ, W) ⟨Try.prog, plain, Γ, Δ, Φ, 44⟩ c ⟨t, h, n⟩ μ a W)
    (hQ : ∀ (t' : Nat → Am.V) μ' a' w', t' 3 = .ptr 1 0 0 → t' 4 = .ptr 2 0 0 → t' 5 = .s (.int .i64 i) → t' 6 = .pc (encE es[i]) → Sim (h, μ, W) ⟨Try.prog, plain, Γ, Δ, Φ, 44⟩ c ⟨t', upd h 0 (some ⟨1, ((st.1.set i (!(offL st.2 es[i].id).any fun u => undF u es[i])).map encBo), true⟩), n⟩ μ' a' w' → Q .normal a' w') :
    (subC [1, 1, 1, 0, 1, 0, 1, 0, 0] liveC).wpIn (Fw r) m c.P Q a W := by
  show (Code.region _ _ true).wpIn _ _ _ _ _ _
  refine draw_in (by rw [hc]; exact hE.mixed) hlo (by decide +kernel) ?_
  have hb := (Below.refl W.heap.size W).drew
  have H2 := S.hs.below hb
  have S2 : Sim (h, μ, W) ⟨Try.prog, plain, Γ, Δ, Φ, 44⟩ c ⟨t, h, n⟩ μ a { W with drawn := W.drawn + 1 } := ⟨H2.1, fun i => H2.2.R (S.tm i), S.nt, S.df, S.ex.trans H2.2⟩
  have hEx : ∀ k, okB c h μ W k → k < W.heap.size := fun k hk => hk.2.1
  -- the undos of this edit
  generalize hL : offL st.2 es[i].id = L at *
  have hLs : ∀ u ∈ L, u ∈ es := fun u hu => by rw [← hL] at hu; exact I.sub u (List.mem_filter.1 hu).1
  have hLn : L.length ≤ 1048576 := by rw [← hL]; have := List.length_filter_le (fun u => idE u.target es[i].id) st.2; have := I.o2; unfold offL; omega
  have hV : (offV M es[i].id = .cap0 ∧ L = []) ∨ ∃ b cap sp, offV M es[i].id = .loc b 0 L.length cap ∧ h b = some ⟨18, L.map encE ++ sp, true⟩ := by
    cases hq : fnd es[i].id (M.map fun m => (m.id, m.x)) 0 with
    | some q =>
      obtain ⟨j, v⟩ := q
      obtain ⟨m, g1, _, g3, g4, g5⟩ := offV_some hq
      obtain ⟨_, g6, _, _, _, _, g7⟩ := I.ent m (List.mem_of_getElem? g1)
      rw [g3, hL] at g7
      refine .inr ⟨m.b, m.cap, m.sp, ?_, ?_⟩
      · rw [g5, ← g7]
      · rw [← g7]; exact g6
    | none =>
      obtain ⟨g1, g2⟩ := offV_none hq
      exact .inl ⟨g1, by rw [← hL]; exact I.non _ g2⟩
  refine G_sound (ps := (h, μ, W)) hE hc hΦ (qq := qq6 ⟨Try.prog, plain, Γ, Δ, Φ, 44⟩ h bm M) (qq6_congr _ _ _ _) ?ok ?dst (l := _) (ol := _) (List.dropLast_concat_getLast (by exact List.cons_ne_nil _ _)).symm (K := fun σ' => σ'.t 3 = .ptr 1 0 0 ∧ σ'.t 4 = .ptr 2 0 0 ∧ σ'.t 5 = .s (.int .i64 i) ∧ σ'.t 6 = .pc (encE es[i]) ∧ σ'.h = upd h 0 (some ⟨1, (st.1.set i (!L.any fun u => undF u es[i])).map encBo, true⟩) ∧ σ'.n = n) ?hq ?hqq ?hk S2
  case ok => decide +kernel
  case dst =>
    show ∀ o ∈ _, dstOk 44 o = true
    decide +kernel
  case hq =>
    rintro ⟨t', h', n'⟩ μ' a' w' ⟨k3, k4, k5, k6, k7, k8⟩ S'
    simp only at k3 k4 k5 k6 k7 k8
    subst k7; subst k8
    exact hQ t' μ' a' w' k3 k4 k5 k6 S'
  case hqq =>
    intro t v a w1 o next hm H1 X1 R1 hq hn
    have hcs : (∃ x k, o.op = .lookup 42 x k false ∧ ev t x = .mp bm ∧ ∃ id, ev t k = .agg (encId id) ∧ v = offV M id) ∨ qv ⟨Try.prog, plain, Γ, Δ, Φ, 44⟩ o.op (ev t) h v := by
      revert hq
      generalize o.op = op
      intro hq
      cases op <;> try exact .inr hq
      case lookup T x k b =>
        cases b
        · obtain ⟨rfl, h2, id, h3, h4⟩ := hq
          exact .inl ⟨x, k, rfl, h2, id, h3, h4⟩
        · exact .inr hq
    rcases hcs with ⟨x, k, ho, h2, id, h3, h4⟩ | hq
    · have hmo := I.mo
      rw [← (X1.ok bm I.bm_ok).2] at hmo
      obtain ⟨y, hrun, hR⟩ := look_sound hE.plain hpl hc hmo (fun m hm => loc_R X1.mu (I.ent m hm).1) R1 ho h2 h3
      unfold Oper.wp
      rw [hrun]
      exact hn y w1 H1 (Ext.refl _ _ _ _) (by rw [h4]; exact hR)
    · exact q_sound hE hc hΦ H1 R1 hq hn
  case hk =>
    have hz42 : szo Try.prog 42 = some 1 := by kernel_rfl
    have ha42 : aggo Try.prog 42 = some false := by kernel_rfl
    have hb0 := I.b0
    have hb1 := I.b1
    have hb2 := I.b2
    have hst := I.len
    refine g_cons rfl rfl (show pval _ _ _ _ _ = some _ from sv (And.intro q3 hb1)) ?_
    refine g_cons rfl rfl (show pval _ _ _ _ _ = some _ from sv q5) ?_
    refine g_cons rfl rfl (show pval _ _ _ _ _ = some _ from sv (And.intro q4 (And.intro hb2 (And.intro hz42 ha42)))) ?_
    refine g_cons rfl rfl (show pval _ _ _ _ _ = some _ from sv (And.intro q6 (@encE.eq_1))) ?_
    refine g_cons rfl rfl (show pval _ _ _ _ _ = some _ from sv (And.intro q6 (@encE.eq_1))) ?_
    refine g_cons rfl rfl (v := offV M es[i].id) ⟨rfl, sx trivial, es[i].id, sx (@encId.eq_1), rfl⟩ ?_
    refine g_cons rfl rfl (show pval _ _ _ _ _ = some _ from sv (And.intro q6 (@encE.eq_1))) ?_
    have hcall : qcall ⟨Try.prog, plain, Γ, Δ, Φ, 44⟩ 20 [offV M es[i].id, .fn 21 [.pc (encE es[i])]] h (.s (.bool (L.any fun u => undF u es[i]))) := by
      have hS : ∀ u ∈ L, und1S (fun _ => none) ([.agg (encE u)] ++ [.pc (encE es[i])]) (.s (.bool (undF u es[i]))) := fun u hu => ⟨u, es[i], by have := hdp u (hLs u hu); omega, rfl, rfl⟩
      have hcl : closS ⟨Try.prog, plain, Γ, Δ, Φ, 44⟩ h 21 [.pc (encE es[i])] = some fun ds x => und1S (fun _ => none) (ds ++ [.pc (encE es[i])]) (.s x) := by
        unfold closS
        simp only [allO, expoA, g_und]
      have hargs : ∃ a1, expArg h 0 a1 = some (.sl (L.map encE)) ∧ offV M es[i].id = a1 := by
        rcases hV with ⟨g1, g2⟩ | ⟨b, cap, sp, g1, g2⟩
        · refine ⟨.cap0, ?_, g1⟩
          rw [g2]; rfl
        · refine ⟨.loc b 0 L.length cap, ?_, g1⟩
          have hall : allO (allO (expo h 1)) (L.map encE) = some (L.map encE) := allO_rows h 1 (deep_map encE L fun a => by simp [encE, deepc])
          show expoA h (.loc b 0 L.length cap) = _
          have hro : rowsOf h (.loc b 0 L.length cap) = some (L.map encE) := by
            unfold rowsOf
            simp [g2]
          show (match rowsOf h (.loc b 0 L.length cap) with | some rows => Option.map V.sl (allO (allO (expo h 1)) rows) | none => none) = _
          rw [hro]
          simp only [hall, Option.map_some]
      obtain ⟨a1, ha1, hoff⟩ := hargs
      rw [hoff]
      unfold qcall
      have hexp : expArgs h 0 [a1, .fn 21 [.pc (encE es[i])]] = some [.sl (L.map encE), .fv 1] := by
        unfold expArgs
        rw [ha1]; rfl
      simp only [g_cf, hexp]
      exact ⟨_, ⟨L, fun u => undF u es[i], _, by omega, rfl, hcl, hS, rfl⟩, .inl ⟨rfl, rfl⟩⟩
    refine g_cons rfl rfl (show qcall _ _ _ _ _ from hcall) ?_
    refine g_cons rfl rfl (show pval _ _ _ _ _ = some _ from sv trivial) ?_
    have hi2 : (i < es.length) = True := eq_true hi
    refine g_cons rfl rfl (show pval _ _ _ _ _ = some _ from sv (And.intro hb0 hi2)) ?_
    refine g_last rfl ?_
    have hil : i < st.1.length := by omega
    have hrow : setAt ((st.1.map encBo).getD i []) 0 [.s (.bool (!L.any fun u => undF u es[i]))] = encBo (!L.any fun u => undF u es[i]) := by
      rw [getD_map _ _ _ hil]; rfl
    unfold aop
    refine astore_mk (b := 0) (r := i) (k := 0) (cs := [.s (.bool (!L.any fun u => undF u es[i]))]) (z := 1) (B := ⟨1, st.1.map encBo, true⟩) (sx trivial) (sx trivial) (sx trivial) ⟨hb0, rfl, rfl, by simp [cellish], by simp; exact hil, Nat.le_refl _⟩ ?_
    refine ⟨?_, ?_, ?_, ?_, ?_, rfl⟩
    · exact q3
    · exact q4
    · exact q5
    · exact q6
    show upd h 0 (some ⟨1, (st.1.map encBo).set i (setAt ((st.1.map encBo).getD i []) 0 [.s (.bool (!L.any fun u => undF u es[i]))]), true⟩) = _
    rw [hrow, List.map_set]
end
end Go.Proofs.Ytahgddfnbjpfiaa

set_option linter.unusedVariables false
set_option linter.unusedSimpArgs false
set_option maxRecDepth 100000
set_option maxHeartbeats 8000000
namespace Go.Proofs.Ytahgddfnbjpfiaa
open Go Go.RowKit Am

theorem wpList_at (k : Nat) {P : Program} {ops : Array Oper} {Q : Exit → Act → World → Prop} (Q1 : Exit → Act → World → Prop) {l : List Oper} {a : Act} {w : World} (hQe : ∀ e a w, e ≠ .normal → Q1 e a w → Q e a w) (h : wpList P ops Q1 (l.take k) a w) (hQ1 : ∀ a w, Q1 .normal a w → wpList P ops Q (l.drop k) a w) : wpList P ops Q l a w := by
  have := wpList_app hQ1 hQe (l.take k) h
  rwa [List.take_append_drop] at this
section
variable {plain : TypeId → Bool} {Γ : FuncId → Option Fspec} {Δ : FuncId → Option Pt} {Φ : FvSpec} (hE : EnvOk ⟨Try.prog, plain, Γ, Δ, Φ, 44⟩)
  {c : Cx} (hc : c.P = Try.prog) (hΦ : FvOk c Φ)
include hE hc hΦ
/-- The test: is it a live undo? -/
theorem tst7 {ps : Hp × Mu × World} {h : Hp} {n : Nat} {μ : Mu} {bs : List Bool} {N i : Nat} {e : Edt} (hb0 : h 0 = some ⟨1, bs.map encBo, true⟩) (hb1 : h 1 = some ⟨1, [[.loc 0 0 N N]], true⟩) (hN : bs.length = N) (hi : i < bs.length) {b : Bool} (hbi : bs[i] = b)
    {t : Nat → Am.V} (q3 : t 3 = .ptr 1 0 0) (q4 : t 4 = .ptr 2 0 0) (q5 : t 5 = .s (.int .i64 i)) (q6 : t 6 = .pc (encE e)) {Q : Exit → Act → World → Prop} (hlo : ¬ LetsOut Q) {r : Option Nat} {m : Nat} {a : Act} {w0 : World} (S : Sim ps ⟨Try.prog, plain, Γ, Δ, Φ, 44⟩ c ⟨t, h, n⟩ μ a w0)
    (hQ : ∀ (t' : Nat → Am.V) μ' a' w', t' 4 = .ptr 2 0 0 → t' 6 = .pc (encE e) → t' 33 = .s (.bool (b && decide (e.kind = 4))) → Sim ps ⟨Try.prog, plain, Γ, Δ, Φ, 44⟩ c ⟨t', h, n⟩ μ' a' w' → Q .normal a' w') :
    (subC [1, 1, 1, 0, 1, 0, 1, 0, 1, 0] liveC).wpIn (Fw r) m c.P Q a w0 := by
  have hrow : (bs.map encBo).getD i [] = encBo b := by rw [getD_map _ _ _ hi, hbi]
  have hin : (i < N) = True := eq_true (by omega)
  have hil : i < bs.length := hi
  refine awp_soundIn hE hc hΦ (r := r) (m := m) _ (Q := fun ex σ' => ex = .normal ∧ σ'.t 4 = .ptr 2 0 0 ∧ σ'.t 6 = .pc (encE e) ∧ σ'.t 33 = .s (.bool (b && decide (e.kind = 4))) ∧ σ'.h = h ∧ σ'.n = n) (by show codeOk 44 _ = true; decide +kernel) (by decide +kernel) hlo (W.out (E := ⟨Try.prog, plain, Γ, Δ, Φ, 44⟩) ?_) S ?_
  · show W _ (Code.region _ _ false) _ _
    cases b
    · refine go (And.intro q3 (And.intro q5 (And.intro q6 (And.intro hb0 (And.intro hb1 (And.intro @encE.eq_1 (And.intro hin hrow))))))) ?_
      exact ⟨rfl, q4, q6, rfl, rfl, rfl⟩
    · refine go (And.intro q3 (And.intro q5 (And.intro q6 (And.intro hb0 (And.intro hb1 (And.intro @encE.eq_1 (And.intro hin hrow))))))) ?_
      have hk : (e.kind == 4) = (true && decide (e.kind = 4)) := by rw [beq_eq_decide, Bool.true_and]
      exact ⟨rfl, q4, q6, congrArg (fun z => V.s (.bool z)) hk, rfl, rfl⟩
  · rintro ex ⟨t', h', n'⟩ μ' a' w' ⟨rfl, k4, k6, k33, k7, k8⟩ S'
    simp only at k4 k6 k33 k7 k8
    subst k7; subst k8
    exact hQ t' μ' a' w' k4 k6 k33 S'
end
end Go.Proofs.Ytahgddfnbjpfiaa

set_option linter.unusedVariables false
set_option linter.unusedSimpArgs false
set_option maxRecDepth 100000
set_option maxHeartbeats 8000000
namespace Go.Proofs.Ytahgddfnbjpfiaa
open Go Go.RowKit Am

theorem val_wp {P : Program} {o : Oper} {a : Act} {w w' : World} {y : Value} {next : Act → World → Prop} {Q : Exit → Act → World → Prop} (h : (execOp a.eval o).run P w = .ok (.value y) w') (hn : next (a.put o.dst y) w') : o.wp P a w next Q := by
  unfold Oper.wp; rw [h]; exact hn
theorem ent_run {P : Program} {o : Oper} {x k : Operand} {a : Act} {w w' : World} {u v y : Value} (ho : o.op = .mapEntry 42 x k) (e1 : a.eval x = u) (e2 : a.eval k = v) (hr : (Instr.mapEntry 42 u v).run P w = .ok y w') : (execOp a.eval o).run P w = .ok (.value y) w' := by
  simp only [execOp, ho, e1, e2]; exact run_value hr
theorem sto_wp {P : Program} {o : Oper} {x k z : Operand} {a : Act} {w w' : World} {u v y : Value} {next : Act → World → Prop} {Q : Exit → Act → World → Prop} (ho : o.op = .entryStore 42 x k z) (hd : o.dst = none) (e1 : a.eval x = u) (e2 : a.eval k = v) (e3 : a.eval z = y) (hr : (Instr.entryStore 42 u v y).run P w = .ok () w') (hn : next a w') : o.wp P a w next Q := by
  have h : (execOp a.eval o).run P w = .ok .skip w' := by simp only [execOp, ho, e1, e2, e3, Sem.run_bind, hr, Result.andThen_ok, Sem.run_pure]
  unfold Oper.wp; rw [h]
  show next (a.put o.dst undef) w'
  rw [hd]; exact hn
theorem nodup_set {l : List Nat} {x : Nat} (h : l.Nodup) (hx : x ∉ l) (i : Nat) : (l.set i x).Nodup := by
  induction l generalizing i with
  | nil => exact h
  | cons a l ih =>
    have h1 := List.nodup_cons.1 h
    cases i with
    | zero => exact List.nodup_cons.2 ⟨fun hm => hx (List.mem_cons_of_mem _ hm), h1.2⟩
    | succ i =>
      refine List.nodup_cons.2 ⟨fun hm => ?_, ih h1.2 (fun hm => hx (List.mem_cons_of_mem _ hm)) i⟩
      rcases List.mem_or_eq_of_mem_set hm with hm | hm
      · exact h1.1 hm
      · exact hx (by rw [← hm]; exact List.mem_cons_self)
/-- A map's block is turned: what AM knows stays. -/
theorem put_map {plain : TypeId → Bool} {Γ : FuncId → Option Fspec} {Δ : FuncId → Option Pt} {Φ : FvSpec} {c : Cx} {bm : Nat} {ps : Hp × Mu × World} {h : Hp} {n : Nat} {μ : Mu} {t : Nat → Am.V} {a : Act} {W1 : World} (S : Sim ps ⟨Try.prog, plain, Γ, Δ, Φ, 44⟩ c ⟨t, h, n⟩ μ a W1) (hw : c.w0.heap.size ≤ bm) {o : Obj} (ho : W1.heap[bm]? = some o) (hoc : o.isCells = false) (o' : Obj) :
    HS c h n μ (W1.putObj bm o') ∧ (∀ v x, R c h μ W1 v x → R c h μ (W1.putObj bm o') v x) ∧ ∀ k, k ≠ bm → (W1.putObj bm o').heap[k]? = W1.heap[k]? := by
  have g := grownBy_putObj' W1 bm o'
  obtain ⟨H, hR⟩ := S.hs.grown g fun r e => by cases e; exact ⟨hw, o, ho, hoc⟩
  exact ⟨H, hR, fun k hk => World.putObj_heap_other hk⟩
section
variable {plain : TypeId → Bool} {Γ : FuncId → Option Fspec} {Δ : FuncId → Option Pt} {Φ : FvSpec} (hE : EnvOk ⟨Try.prog, plain, Γ, Δ, Φ, 44⟩) (hpl : plain 29 = true)
  {c : Cx} (hc : c.P = Try.prog) (hΦ : FvOk c Φ) {es : List Edt} {w : World} {K : Nat → Prop} {bm : Nat} {v3 v4 : Value}
include hE hpl hc hΦ
/-- A live undo is put into the map. -/
theorem sto8 (hKb : ∀ k, K k → c.ok0 k ∨ c.w0.heap.size ≤ k ∨ c.X k) (hKlt : ∀ k, K k → k < w.heap.size) (hKbm : ¬ K bm) (hbw : c.w0.heap.size ≤ bm) {st : List Bool × List Edt} {p : Nat} {h : Hp} {n : Nat} {μ : Mu} {M : List Ent} {W1 : World} (I : Inv c es w K bm v3 v4 st p h n μ M W1) (hel : es.length ≤ 1048576) (hpe : p ≤ es.length)
    {e : Edt} (hee : e ∈ es) {bs : List Bool} (hbs : bs.length = es.length) {t : Nat → Am.V} (q4 : t 4 = .ptr 2 0 0) (q6 : t 6 = .pc (encE e)) {Q : Exit → Act → World → Prop} (hlo : ¬ LetsOut Q) {r : Option Nat} {m : Nat} {a : Act} {μ1 : Mu} {w1 : World}
    (S : Sim (h, μ, W1) ⟨Try.prog, plain, Γ, Δ, Φ, 44⟩ c ⟨t, upd h 0 (some ⟨1, bs.map encBo, true⟩), n⟩ μ1 a w1)
    (hQ : ∀ a' w' h' n' μ' M', Inv c es w K bm v3 v4 (bs, st.2 ++ [e]) (p + 1) h' n' μ' M' w' → (∀ k, okB c h μ W1 k → k ≠ bm → w'.heap[k]? = W1.heap[k]?) → W1.heap.size ≤ w'.heap.size → Q .normal a' w') {id : Nat} {ops : Array Oper} (hops : (Code.region id ops false) = (match subC [1, 1, 1, 0, 1, 0, 1, 0, 1, 1] liveC with | .cond _ x _ => x | y => y)) :
    (Code.region id ops false).wpIn (Fw r) m c.P Q a w1 := by
  rw [hops]
  show (Code.region _ _ false).wpIn _ _ _ _ _ _
  have hz42 : szo Try.prog 42 = some 1 := by kernel_rfl
  have ha42 : aggo Try.prog 42 = some false := by kernel_rfl
  have hb2 := I.b2
  have hn2 := I.n2
  refine region_in hlo (by decide +kernel) ?_
  refine wpList_at 5 (fun ex a2 w2 => ex = .normal ∧ ∃ t2 μ2, Sim (h, μ, W1) ⟨Try.prog, plain, Γ, Δ, Φ, 44⟩ c ⟨t2, upd (upd h 0 (some ⟨1, bs.map encBo, true⟩)) n (some ⟨18, [encE e], true⟩), n + 1⟩ μ2 a2 w2 ∧ t2 34 = .mp bm ∧ t2 36 = .agg (encId e.target) ∧ t2 39 = .loc n 0 1 1) (fun ex a w he hq => absurd hq.1 he) ?_ ?_
  · refine ops_sound hE hc hΦ _ (K := fun σ' => σ'.t 34 = .mp bm ∧ σ'.t 36 = .agg (encId e.target) ∧ σ'.t 39 = .loc n 0 1 1 ∧ σ'.h = upd (upd h 0 (some ⟨1, bs.map encBo, true⟩)) n (some ⟨18, [encE e], true⟩) ∧ σ'.n = n + 1) ?_ _ (by show ∀ o ∈ _, dstOk 44 o = true; decide +kernel) ?_ S
    · rintro ⟨t2, h2, n2⟩ μ2 a2 w2 ⟨k1, k2, k3, k4, k5⟩ S2
      simp only at k1 k2 k3 k4 k5
      subst k4; subst k5
      exact ⟨rfl, t2, μ2, S2, k1, k2, k3⟩
    · have e02 : (2 = 0) = False := by simp
      refine (show WO ⟨Try.prog, plain, Γ, Δ, Φ, 44⟩ _ [_, _, _, _, _] (fun _ σ' => σ'.t 34 = .mp bm ∧ σ'.t 36 = .agg (encId e.target) ∧ σ'.t 39 = .loc n 0 1 1 ∧ σ'.h = upd (upd h 0 (some ⟨1, bs.map encBo, true⟩)) n (some ⟨18, [encE e], true⟩) ∧ σ'.n = n + 1) ⟨t, upd h 0 (some ⟨1, bs.map encBo, true⟩), n⟩ from ?_).out
      refine go (And.intro q4 (And.intro q6 (And.intro hb2 (And.intro hz42 (And.intro ha42 @encE.eq_1))))) ?_
      exact ⟨⟨rfl, rfl, rfl, rfl, rfl⟩⟩
  rintro a2 w2 ⟨_, t2, μ2, S2, k34, k36, k39⟩
  have hmo2 : w2.heap[bm]? = some (mapO (M.map fun m => (m.id, m.x))) := (S2.ex.ok bm I.bm_ok).2.trans I.mo
  have hokb2 := (S2.ex.ok bm I.bm_ok).1
  have e34 : a2.eval (.tmp 34) = .map (some bm) := by
    have := S2.tm 34
    simp only [k34] at this
    show a2.tmps.getD 34 undef = _
    generalize a2.tmps.getD 34 undef = z at this
    cases this
    rfl
  have e36 : a2.eval (.tmp 36) = keyV e.target := by
    have := S2.tm 36
    simp only [k36] at this
    exact agg_id this
  obtain ⟨M1, i, v, hrun, hM1, hcase⟩ := run_entry hE.plain hpl hmo2 e.target
  obtain ⟨H3, hR3, hk3⟩ := put_map S2 hbw hmo2 rfl (mapO M1)
  generalize hw3 : w2.putObj bm (mapO M1) = w3 at *
  have hmo3 : w3.heap[bm]? = some (mapO M1) := by rw [← hw3]; exact World.putObj_heap_same hokb2.2.1
  have hsz3 : w3.heap.size = w2.heap.size := by rw [← hw3]; simp [World.putObj]
  have hokb3 : okB c (upd (upd h 0 (some ⟨1, bs.map encBo, true⟩)) n (some ⟨18, [encE e], true⟩)) μ2 w3 bm := ⟨hokb2.1, by rw [hsz3]; exact hokb2.2.1, hokb2.2.2⟩
  -- the entry, as AM sees it
  have hV : ∃ (V0 : Am.V) (Lo : List Edt), R c (upd (upd h 0 (some ⟨1, bs.map encBo, true⟩)) n (some ⟨18, [encE e], true⟩)) μ2 w3 V0 v ∧ Lo = offL st.2 e.target ∧ ((V0 = .cap0 ∧ Lo = [] ∧ M1 = (M.map fun m => (m.id, m.x)) ++ [(e.target, .slice none 0 0)] ∧ i = M.length ∧ (∀ m ∈ M, m.id ≠ e.target)) ∨ ∃ m, M[i]? = some m ∧ m.id = e.target ∧ V0 = m.v ∧ Lo = m.L ∧ M1 = (M.map fun m => (m.id, m.x))) := by
    rcases hcase with ⟨hf, hM⟩ | ⟨hf, rfl, hi, hM⟩
    · obtain ⟨m, g1, _, g3, g4, _⟩ := offV_some hf
      rw [Nat.sub_zero] at g1
      have hm := I.ent m (List.mem_of_getElem? g1)
      refine ⟨m.v, m.L, ?_, by rw [hm.2.2.2.2.2.2, g3], .inr ⟨m, g1, g3, rfl, rfl, hM⟩⟩
      rw [← g4]
      exact loc_R S2.ex.mu hm.1
    · obtain ⟨_, g2⟩ := offV_none hf
      exact ⟨.cap0, [], .cap0 none, (I.non _ g2).symm, .inl ⟨rfl, rfl, hM, by rw [hi, List.length_map], g2⟩⟩
  obtain ⟨V0, Lo, hRV, hLo, hVc⟩ := hV
  show wpList _ _ _ [_, _, _, _, _] _ _
  refine list_cons rfl (val_wp (by rw [hc]; exact ent_run rfl e34 e36 hrun) ?_)
  have hRt : R c (upd (upd h 0 (some ⟨1, bs.map encBo, true⟩)) n (some ⟨18, [encE e], true⟩)) μ2 w3 (.tup [V0, .s (.int .i64 i)]) (.tuple #[v, .int .i64 i]) := by
    refine .tup [V0, .s (.int .i64 i)] #[v, .int .i64 i] rfl fun j hj => ?_
    have : j = 0 ∨ j = 1 := by simp at hj; omega
    rcases this with rfl | rfl
    · exact hRV
    · exact .s _ rfl
  have hs40 : 40 < a2.tmps.size := by
    have h1 : a2.tmps.size = 44 := S2.nt
    omega
  have S3 : Sim (upd (upd h 0 (some ⟨1, bs.map encBo, true⟩)) n (some ⟨18, [encE e], true⟩), μ2, w3) ⟨Try.prog, plain, Γ, Δ, Φ, 44⟩ c ⟨upd t2 40 (.tup [V0, .s (.int .i64 i)]), upd (upd h 0 (some ⟨1, bs.map encBo, true⟩)) n (some ⟨18, [encE e], true⟩), n + 1⟩ μ2 (a2.put (some 40) (.tuple #[v, .int .i64 i])) w3 :=
    ⟨H3, put_R (fun i => hR3 _ _ (S2.tm i)) hs40 hRt, by simp only [Act.put]; rw [Array.size_setIfInBounds]; exact S2.nt, S2.df, Ext.refl _ _ _ _⟩
  generalize hh2 : upd (upd h 0 (some ⟨1, bs.map encBo, true⟩)) n (some ⟨18, [encE e], true⟩) = h2 at *
  have h2n : h2 n = some ⟨18, [encE e], true⟩ := by rw [← hh2, upd_same]
  have h2b : ∀ b, b < n → b ≠ 0 → h2 b = h b := fun b h1 h3 => by rw [← hh2, upd_ne _ _ _ _ (by omega), upd_ne _ _ _ _ h3]
  have hLn : Lo.length ≤ 1048576 := by
    rw [hLo]
    have h1 := List.length_filter_le (fun u => idE u.target e.target) st.2
    have h2 := I.o2
    unfold offL
    omega
  refine wpList_at 3 (fun ex a4 w4 => ex = .normal ∧ ∃ t4 μ4 hB cap' sp, Sim (h2, μ2, w3) ⟨Try.prog, plain, Γ, Δ, Φ, 44⟩ c ⟨t4, upd hB (n + 1) (some ⟨18, (Lo ++ [e]).map encE ++ sp, true⟩), n + 2⟩ μ4 a4 w4 ∧ t4 34 = .mp bm ∧ t4 42 = .s (.int .i64 i) ∧ t4 41 = .loc (n + 1) 0 (Lo ++ [e]).length cap' ∧ (Lo ++ [e]).length ≤ cap' ∧ cap' ≤ (Lo ++ [e]).length + sp.length ∧ (hB = h2 ∨ ∃ m, M[i]? = some m ∧ hB = upd h2 m.b none)) (fun ex a w he hq => absurd hq.1 he) ?_ ?_
  · refine ops_sound hE hc hΦ _ (K := fun σ' => ∃ hB cap' sp, σ'.t 34 = .mp bm ∧ σ'.t 42 = .s (.int .i64 i) ∧ σ'.t 41 = .loc (n + 1) 0 (Lo ++ [e]).length cap' ∧ (Lo ++ [e]).length ≤ cap' ∧ cap' ≤ (Lo ++ [e]).length + sp.length ∧ (hB = h2 ∨ ∃ m, M[i]? = some m ∧ hB = upd h2 m.b none) ∧ σ'.h = upd hB (n + 1) (some ⟨18, (Lo ++ [e]).map encE ++ sp, true⟩) ∧ σ'.n = n + 2) ?_ _ (by show ∀ o ∈ _, dstOk 44 o = true; decide +kernel) ?_ S3
    · rintro ⟨t4, h4, n4⟩ μ4 a4 w4 ⟨hB, cap', sp, k1, k2, k3, k4, k5, k6, k7, k8⟩ S4
      simp only at k1 k2 k3 k7 k8
      subst k7; subst k8
      exact ⟨rfl, t4, μ4, hB, cap', sp, S4, k1, k2, k3, k4, k5, k6⟩
    · refine (show WO ⟨Try.prog, plain, Γ, Δ, Φ, 44⟩ _ [_, _, _] (fun _ σ' => ∃ hB cap' sp, σ'.t 34 = .mp bm ∧ σ'.t 42 = .s (.int .i64 i) ∧ σ'.t 41 = .loc (n + 1) 0 (Lo ++ [e]).length cap' ∧ (Lo ++ [e]).length ≤ cap' ∧ cap' ≤ (Lo ++ [e]).length + sp.length ∧ (hB = h2 ∨ ∃ m, M[i]? = some m ∧ hB = upd h2 m.b none) ∧ σ'.h = upd hB (n + 1) (some ⟨18, (Lo ++ [e]).map encE ++ sp, true⟩) ∧ σ'.n = n + 2) ⟨upd t2 40 (.tup [V0, .s (.int .i64 i)]), h2, n + 1⟩ from ?_).out
      have okr : okRows 18 [encE e] := okRowsE [e]
      rcases hVc with ⟨rfl, rfl, _⟩ | ⟨m, g1, g2, rfl, rfl, _⟩
      · refine go (And.intro k34 (And.intro k36 k39)) ?_
        refine x_append0 rfl rfl rfl rfl rfl rfl (sv (And.intro h2n k39)) (by decide) (sc (And.intro h2n k39)) (sv (And.intro h2n k39)) (sx (And.intro h2n k39)) okr (by first | omega | (simp; done) | (simp [spare_len]; omega)) (fun cap' hcap' => ?_)
        refine go k34 ?_
        refine ⟨⟨h2, cap', spare 18 (cap' - 1), k34, rfl, rfl, by simpa using hcap', ?_, .inl rfl, rfl, rfl⟩⟩
        have := hcap'
        simp [spare_len] at this ⊢
        omega
      · have hm := I.ent m (List.mem_of_getElem? g1)
        have hbn : m.b < n := I.hs.id_lt hm.2.1
        have h2m : h2 m.b = some ⟨18, m.L.map encE ++ m.sp, true⟩ := by rw [h2b m.b hbn (by have := hm.2.2.2.2.1; omega)]; exact hm.2.1
        have hcap := hm.2.2.1
        have hcap2 := hm.2.2.2.1
        refine go (And.intro k34 (And.intro k36 k39)) ?_
        refine x_appendO rfl rfl rfl rfl rfl rfl (sv (And.intro h2m (And.intro h2n k39))) (by decide) (sc (And.intro h2m (And.intro h2n k39))) (sv (And.intro h2m (And.intro h2n k39))) (sx (And.intro h2m (And.intro h2n k39))) (by first | rfl | (simp; done) | (simp [spare_len]; omega)) (by first | omega | (simp; done) | (simp [spare_len]; omega)) (by first | omega | (simp; done) | (simp [spare_len]; omega)) (sx (And.intro h2m (And.intro h2n k39))) okr (by first | omega | (simp; done) | (simp [spare_len]; omega)) (fun cap' hcap' => ?_)
        refine go k34 ?_
        refine ⟨⟨upd h2 m.b none, cap', spare 18 (cap' - (m.L.length + 1)), k34, rfl, by rw [List.length_append]; rfl, by simpa using hcap', ?_, .inr ⟨m, g1, rfl⟩, by simp, rfl⟩⟩
        have := hcap'
        simp [spare_len] at this ⊢
        omega
  rintro a4 w4 ⟨_, t4, μ4, hB, cap', sp, S4, k34', k42, k41, hc1, hc2, hBc⟩
  have hs4 := S4.hs
  have mo4 : w4.heap[bm]? = some (mapO M1) := (S4.ex.ok bm hokb3).2.trans hmo3
  have hokb4 := (S4.ex.ok bm hokb3).1
  have e34' : a4.eval (.tmp 34) = .map (some bm) := by
    have := S4.tm 34
    simp only [k34'] at this
    show a4.tmps.getD 34 undef = _
    generalize a4.tmps.getD 34 undef = z at this
    cases this
    rfl
  have e42 : a4.eval (.tmp 42) = .int .i64 i := by
    have := S4.tm 42
    simp only [k42] at this
    exact this.s_eq.1
  obtain ⟨x, hx⟩ : ∃ x, a4.eval (.tmp 41) = x := ⟨_, rfl⟩
  have hRx : R c (upd hB (n + 1) (some ⟨18, (Lo ++ [e]).map encE ++ sp, true⟩)) μ4 w4 (.loc (n + 1) 0 (Lo ++ [e]).length cap') x := by
    have := S4.tm 41
    simp only [k41] at this
    rw [← hx]
    exact this
  have hrun5 := run_enter mo4 hM1 x
  obtain ⟨H5, hR5, hk5⟩ := put_map S4 hbw mo4 rfl (mapO (M1.set i (e.target, x)))
  generalize hw5 : w4.putObj bm (mapO (M1.set i (e.target, x))) = w5 at *
  have hmo5 : w5.heap[bm]? = some (mapO (M1.set i (e.target, x))) := by rw [← hw5]; exact World.putObj_heap_same hokb4.2.1
  have hsz5 : w5.heap.size = w4.heap.size := by rw [← hw5]; simp [World.putObj]
  show wpList _ _ _ [_] _ _
  refine list_cons rfl (sto_wp rfl rfl e34' e42 hx (by rw [hc]; exact hrun5) ?_)
  show Q .normal a4 w5
  obtain ⟨en, hen⟩ : ∃ en : Ent, en = ⟨e.target, n + 1, cap', Lo ++ [e], sp, x⟩ := ⟨_, rfl⟩
  have hbn : ∀ m ∈ M, m.b < n := fun m hm => I.hs.id_lt (I.ent m hm).2.1
  obtain ⟨M', hmapM, hmem, hcov, henM, hndb, hndi⟩ : ∃ M' : List Ent, M1.set i (e.target, x) = M'.map (fun m => (m.id, m.x)) ∧ (∀ m ∈ M', m = en ∨ (m ∈ M ∧ m.id ≠ e.target)) ∧ (∀ m ∈ M, m.id ≠ e.target → m ∈ M') ∧ en ∈ M' ∧ (M'.map (·.b)).Nodup ∧ (M'.map (·.id)).Nodup := by
    have hnb : n + 1 ∉ M.map (·.b) := fun hm => by
      obtain ⟨m, h1, h2⟩ := List.mem_map.1 hm
      have := hbn m h1
      omega
    rcases hVc with ⟨_, _, g3, g4, g5⟩ | ⟨m, g1, g2, _, _, g5⟩
    · refine ⟨M ++ [en], ?_, ?_, ?_, by simp, ?_, ?_⟩
      · rw [g3, g4, List.map_append, hen]
        rw [List.set_append_right _ _ (by simp)]
        simp
      · intro m hm
        rcases List.mem_append.1 hm with hm | hm
        · exact .inr ⟨hm, g5 m hm⟩
        · simp at hm; exact .inl hm
      · intro m hm _; exact List.mem_append_left _ hm
      · rw [List.map_append, List.nodup_append]
        refine ⟨I.ndb, by simp, fun a ha b hb => ?_⟩
        simp at hb
        rw [hb, hen]
        intro e1
        rw [e1] at ha
        exact hnb ha
      · rw [List.map_append, List.nodup_append]
        refine ⟨I.ndi, by simp, fun a ha b hb => ?_⟩
        simp at hb
        rw [hb, hen]
        rintro rfl
        obtain ⟨m, h1, h2⟩ := List.mem_map.1 ha
        exact g5 m h1 h2
    · have hil : i < M.length := (List.getElem?_eq_some_iff.1 g1).1
      have hmi : M[i] = m := (List.getElem?_eq_some_iff.1 g1).2
      refine ⟨M.set i en, ?_, ?_, ?_, List.mem_set hil en, ?_, ?_⟩
      · rw [g5, List.map_set, hen]
      · intro m' hm'
        obtain ⟨j, hj, rfl⟩ := List.getElem_of_mem hm'
        rw [List.getElem_set]
        split
        · exact .inl rfl
        · rename_i hij
          refine .inr ⟨List.getElem_mem _, fun e1 => hij ?_⟩
          have hj' : j < M.length := by simpa using hj
          have := (List.getElem_inj (xs := M.map (·.id)) (i := i) (j := j) (h₀ := by simpa using hil) (h₁ := by simpa using hj') I.ndi).1 (by simp [hmi, g2, e1])
          exact this
      · intro m' hm' hne
        obtain ⟨j, hj, rfl⟩ := List.getElem_of_mem hm'
        have hij : i ≠ j := fun e1 => hne (by subst e1; rw [hmi, g2])
        have : (M.set i en)[j]'(by simpa using hj) = M[j] := by rw [List.getElem_set, if_neg hij]
        rw [← this]
        exact List.getElem_mem _
      · rw [List.map_set, hen]
        exact nodup_set I.ndb hnb i
      · have : (M.set i en).map (·.id) = M.map (·.id) := by
          rw [List.map_set, hen]
          apply List.ext_getElem (by simp)
          intro j h1 h2
          rw [List.getElem_set]
          split
          · rename_i e1; subst e1; simp [hmi, g2]
          · rfl
        rw [this]
        exact I.ndi
  -- what is kept of the memory
  have hBb : ∀ b, (∀ m, M[i]? = some m → hB = upd h2 m.b none → b ≠ m.b) → hB b = h2 b := by
    intro b hb
    rcases hBc with rfl | ⟨m, g1, rfl⟩
    · rfl
    · exact upd_ne _ _ _ _ (hb m g1 rfl)
  have hlowB : ∀ b, b ≤ 2 → hB b = h2 b := fun b hb => hBb b fun m g1 _ => by
    have := (I.ent m (List.mem_of_getElem? g1)).2.2.2.2.1
    omega
  have hkeepB : ∀ m ∈ M, m.id ≠ e.target → hB m.b = h2 m.b := by
    intro m hm hne
    refine hBb m.b fun m0 g1 _ hbb => hne ?_
    have h0 : m0 ∈ M := List.mem_of_getElem? g1
    have hidt : m0.id = e.target := by
      rcases hVc with ⟨_, _, _, g4, _⟩ | ⟨m1, g1', g2, _⟩
      · rw [g4] at g1; simp at g1
      · rw [g1] at g1'; cases g1'; exact g2
    have : m = m0 := by
      obtain ⟨j, hj, rfl⟩ := List.getElem_of_mem hm
      obtain ⟨j0, hj0, rfl⟩ := List.getElem_of_mem h0
      have := (List.getElem_inj (xs := M.map (·.b)) (i := j) (j := j0) (h₀ := by simpa using hj) (h₁ := by simpa using hj0) I.ndb).1 (by simpa using hbb)
      subst this; rfl
    rw [this]; exact hidt
  obtain ⟨pk, hpk⟩ : ∃ pk : Nat → Bool, pk = fun b => decide (b ≤ 2) || M'.any fun m => m.b == b := ⟨_, rfl⟩
  have hpM : ∀ m ∈ M', pk m.b = true := fun m hm => by rw [hpk]; simp; exact .inr ⟨m, hm, rfl⟩
  have hp2 : ∀ b, b ≤ 2 → pk b = true := fun b hb => by rw [hpk]; simp [hb]
  obtain ⟨H6, E6⟩ := H5.keepOnly pk
  generalize hhf : (fun b => if pk b then upd hB (n + 1) (some ⟨18, (Lo ++ [e]).map encE ++ sp, true⟩) b else none) = hf at *
  have hfp : ∀ b, pk b = true → hf b = upd hB (n + 1) (some ⟨18, (Lo ++ [e]).map encE ++ sp, true⟩) b := fun b hb => by rw [← hhf]; simp [hb]
  have hfr : ∀ k, okB c h μ W1 k → k ≠ bm → okB c hf μ4 w5 k ∧ w5.heap[k]? = W1.heap[k]? := by
    intro k hk hne
    obtain ⟨a1, a2⟩ := S2.ex.ok k hk
    have a3 := hk3 k hne
    obtain ⟨b1, b2⟩ := S4.ex.ok k ⟨a1.1, by rw [hsz3]; exact a1.2.1, a1.2.2⟩
    have b3 := hk5 k hne
    obtain ⟨c1, _⟩ := E6.ok k ⟨b1.1, by rw [hsz5]; exact b1.2.1, b1.2.2⟩
    exact ⟨c1, by rw [b3, b2, a3, a2]⟩
  have hbm6 : okB c hf μ4 w5 bm := (E6.ok bm ⟨hokb4.1, by rw [hsz5]; exact hokb4.2.1, hokb4.2.2⟩).1
  have hmu : ∀ b t, μ b = some t → μ4 b = some t := fun b t hb => S4.ex.mu b t (S2.ex.mu b t hb)
  have hidne : ∀ x, x ≠ e.target → idE e.target x = false := fun x hx => by
    cases hq : idE e.target x with
    | false => rfl
    | true => exact absurd (idE_eq.1 hq).symm hx
  have hoffn : ∀ x, x ≠ e.target → offL (st.2 ++ [e]) x = offL st.2 x := fun x hx => by
    unfold offL
    rw [List.filter_append]
    simp [hidne x hx]
  have hofft : offL (st.2 ++ [e]) e.target = offL st.2 e.target ++ [e] := by
    unfold offL
    rw [List.filter_append]
    have : idE e.target e.target = true := idE_eq.2 rfl
    simp [this]
  have hzz : W1.heap.size ≤ w5.heap.size := by
    have z1 : W1.heap.size ≤ w2.heap.size := S2.ex.sz
    have z2 : w3.heap.size ≤ w4.heap.size := S4.ex.sz
    omega
  refine hQ a4 w5 hf (n + 2) μ4 M' (inv_mk hKb hKlt hKbm I H6 hmu hfr hbm6 ?_ ?_ ?_ (by omega) (by rw [hmo5, hmapM]) ?_ hndb hndi ?_ hbs ?_ ?_ ?_) (fun k hk hne => (hfr k hk hne).2) hzz
  · rw [hfp 0 (hp2 0 (by omega)), upd_ne _ _ _ _ (by omega), hlowB 0 (by omega), ← hh2, upd_ne _ _ _ _ (by omega), upd_same]
  · rw [hfp 1 (hp2 1 (by omega)), upd_ne _ _ _ _ (by omega), hlowB 1 (by omega), h2b 1 (by omega) (by omega)]
  · rw [hfp 2 (hp2 2 (by omega)), upd_ne _ _ _ _ (by omega), hlowB 2 (by omega), h2b 2 (by omega) (by omega)]
  · intro m hm
    rcases hmem m hm with rfl | ⟨hmM, hne⟩
    · have hpe := hpM m hm
      rw [hen] at hpe ⊢
      refine ⟨loc_R (fun _ _ q => q) hRx, by rw [hfp _ hpe, upd_same], hc1, hc2, by show 2 < n + 1; omega, by simp, ?_⟩
      show Lo ++ [e] = _
      rw [hofft, hLo]
    · have hmI := I.ent m hmM
      have hbl := hbn m hmM
      have hb2 := hmI.2.2.2.2.1
      refine ⟨loc_R hmu hmI.1, ?_, hmI.2.2.1, hmI.2.2.2.1, hb2, hmI.2.2.2.2.2.1, ?_⟩
      · rw [hfp _ (hpM m hm), upd_ne _ _ _ _ (by omega), hkeepB m hmM hne, h2b m.b hbl (by omega)]
        exact hmI.2.1
      · rw [hoffn _ hne]; exact hmI.2.2.2.2.2.2
  · intro x hxn
    by_cases hxt : x = e.target
    · have := hxn en henM
      rw [hen] at this
      exact absurd hxt.symm this
    · show offL (st.2 ++ [e]) x = []
      rw [hoffn x hxt]
      refine I.non x fun m hm hmx => ?_
      exact hxn m (hcov m hm (by rw [hmx]; exact hxt)) hmx
  · intro u hu
    rcases List.mem_append.1 hu with hu | hu
    · exact I.sub u hu
    · simp at hu; rw [hu]; exact hee
  · show (st.2 ++ [e]).length ≤ p + 1
    have := I.o2
    simp; omega
  · intro b B hb
    by_cases hpb : pk b = true
    · rw [hpk] at hpb
      simp at hpb
      rcases hpb with h1 | ⟨m, h1, h2⟩
      · exact .inl h1
      · exact .inr ⟨m, h1, h2⟩
    · rw [← hhf] at hb
      simp [hpb] at hb
end
end Go.Proofs.Ytahgddfnbjpfiaa
