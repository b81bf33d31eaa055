/- Texts that the law's proof stands on: V45, V46, V47, V48, V49, V50, V60, V61, AmRow, AmOver, V33. -/
import Derived.Test.YtahgddfnbjpfiaaB8
import Derived.WalkKit
import Derived.Test.YtahgddfnbjpfiaaB4
import Derived.JoinedCond
import Derived.OpenShut
import Derived.Deep.Slices
import Derived.ProofKit
import Derived.Lib.Overlaps
import Derived.Laws.Externs
import Derived.Test.YtahgddfnbjpfiaaB5
import Derived.Laws.StructEq
set_option linter.unusedVariables false
set_option linter.unusedSimpArgs false
set_option maxRecDepth 100000
set_option maxHeartbeats 8000000
namespace Go.Proofs.Ytahgddfnbjpfiaa
open Go Go.RowKit Am

def subC : List Nat → Code → Code
  | 0 :: p, .seq x _ => subC p x
  | _ :: p, .seq _ y => subC p y
  | _ :: p, .block _ x => subC p x
  | 0 :: p, .rangeFunc _ _ x _ => subC p x
  | _ :: p, .rangeFunc _ _ _ y => subC p y
  | _, c => c
noncomputable def liveC : Code := (Try.f11.body).getD .skip
def qq6 (E : Env) (h : Hp) (bm : Nat) (M : List Ent) (op : Op) (e : Operand → Am.V) (v : Am.V) : Prop := match op with
  | .lookup T x k false => T = 42 ∧ e x = .mp bm ∧ ∃ id, e k = .agg (encId id) ∧ v = offV M id
  | op => qv E op e h v
theorem qq6_congr (E : Env) (h : Hp) (bm : Nat) (M : List Ent) : ∀ op e e' v, (∀ x ∈ op.operands, e x = e' x) → qq6 E h bm M op e v → qq6 E h bm M op e' v := by
  intro op e e' v he hq
  cases op <;> try exact qv_congr he hq
  case lookup T x k b =>
    cases b
    · obtain ⟨h1, h2, id, h3, h4⟩ := hq
      exact ⟨h1, by rw [← he x (by simp [Op.operands])]; exact h2, id, by rw [← he k (by simp [Op.operands])]; exact h3, h4⟩
    · exact qv_congr he hq
theorem agg_id {fv : Nat → Value} {w : World} {ok : Nat → Prop} {μ : Mu} {id : Idt} {x : Value} (h : Rp fv w ok μ (.agg (encId id)) x) : x = keyV id := by
  obtain ⟨xs, rfl, hl, hr⟩ := h.agg_inv
  have h0 := (hr 0 (by show 0 < 2; omega)).s_eq.1
  have h1 := (hr 1 (by show 1 < 2; omega)).s_eq.1
  unfold keyV
  congr 1
  apply Array.ext
  · simpa [encId] using hl
  · intro i g1 g2
    have : i = 0 ∨ i = 1 := by simp at g2; omega
    rcases this with rfl | rfl
    · simpa [g1] using h0
    · simpa [g1] using h1
/-- The map's look-up, as a quiet operation. -/
theorem look_sound {plain : TypeId → Bool} (hp : PlainOk Try.prog plain) (hpl : plain 29 = true) {c : Cx} (hc : c.P = Try.prog) {h : Hp} {μ : Mu} {w1 : World} {bm : Nat} {M : List Ent} (hmo : w1.heap[bm]? = some (mapO (M.map fun m => (m.id, m.x)))) (hent : ∀ m ∈ M, R c h μ w1 m.v m.x)
    {t : Nat → Am.V} {a : Act} (ht : ∀ i, R c h μ w1 (t i) (a.tmps.getD i undef)) {o : Oper} {x k : Operand} (ho : o.op = .lookup 42 x k false) (h1 : ev t x = .mp bm) {id : Idt} (h2 : ev t k = .agg (encId id)) : ∃ y, (execOp a.eval o).run c.P w1 = .ok (.value y) w1 ∧ R c h μ w1 (offV M id) y := by
  have e1 : a.eval x = .map (some bm) := by
    have := Rp.ev ht x
    rw [h1] at this
    generalize a.eval x = z at this
    cases this
    rfl
  have e2 : a.eval k = keyV id := by
    have := Rp.ev ht k
    rw [h2] at this
    exact agg_id this
  have hrun := run_look hp hpl hmo id
  refine ⟨match fnd id (M.map fun m => (m.id, m.x)) 0 with | some q => q.2 | none => .slice none 0 0, ?_, ?_⟩
  · rw [hc]
    simp only [execOp, ho, e1, e2]
    exact run_value hrun
  · cases hq : fnd id (M.map fun m => (m.id, m.x)) 0 with
    | some q =>
      obtain ⟨i, v⟩ := q
      obtain ⟨m, g1, _, _, g4, g5⟩ := offV_some hq
      rw [g5]
      show R c h μ w1 m.v v
      rw [← g4]
      exact hent m (List.mem_of_getElem? g1)
    | none =>
      rw [(offV_none hq).1]
      exact .cap0 none
theorem loc_R {c : Cx} {h h' : Hp} {μ μ' : Mu} {w w' : World} {b len cap : Nat} {x : Value} (hμ : ∀ b t, μ b = some t → μ' b = some t) (r : R c h μ w (.loc b 0 len cap) x) : R c h' μ' w' (.loc b 0 len cap) x := by
  obtain ⟨h1, h2⟩ := r.loc_inv
  rcases h2 with ⟨k, base, size, hm, rfl⟩ | ⟨rfl, rfl, A, t, hm, rfl⟩
  · exact .loc _ _ _ _ _ _ _ (hμ _ _ hm) h1
  · exact .loc0 _ _ _ t (hμ _ _ hm)
theorem astore_mk {P : Program} {T : TypeId} {p x : Am.V} {σ : St} {K : Am.V → St → Prop} {b r k z : Nat} {cs : List Am.V} {B : Blk} (hp : p = .ptr b r k) (hx : cellsV x = some cs) (hz : szo P T = some z) (hh : σ.h b = some B ∧ B.wr = true ∧ cs.length = z ∧ (∀ q ∈ cs, cellish q = true) ∧ r < B.rows.length ∧ k + z ≤ B.size)
    (hK : K .undef (σ.set b { B with rows := B.rows.set r (setAt (B.rows.getD r []) k cs) })) : astore P T p x σ K := by
  subst hp
  unfold astore
  simp only [hx, hz]
  exact ⟨B, hh.1, hh.2.1, hh.2.2.1, hh.2.2.2.1, hh.2.2.2.2.1, hh.2.2.2.2.2, hK⟩
section
variable {plain : TypeId → Bool} {Γ : FuncId → Option Fspec} {Δ : FuncId → Option Pt} {Φ : FvSpec} (hE : EnvOk ⟨Try.prog, plain, Γ, Δ, Φ, 44⟩) (hpl : plain 29 = true)
  (g_cf : Γ 20 = some (cfS encE)) (g_und : Γ 21 = some und1S)
  {c : Cx} (hc : c.P = Try.prog) (hΦ : FvOk c Φ) {es : List Edt} {w : World} {K : Nat → Prop} {bm : Nat} {v3 v4 : Value}
include hE hpl g_cf g_und hc hΦ
/-- The draw: is the edit undone? -/
theorem draw6 {st : List Bool × List Edt} {p : Nat} {h : Hp} {n : Nat} {μ : Mu} {M : List Ent} {W : World} (I : Inv c es w K bm v3 v4 st p h n μ M W) (hdp : ∀ u ∈ es, u.deps.length ≤ 1048576) (hel : es.length ≤ 1048576) (hpe : p ≤ es.length) {i : Nat} (hi : i < es.length)
    {t : Nat → Am.V} (q3 : t 3 = .ptr 1 0 0) (q4 : t 4 = .ptr 2 0 0) (q5 : t 5 = .s (.int .i64 i)) (q6 : t 6 = .pc (encE es[i])) {Q : Exit → Act → World → Prop} (hlo : ¬ LetsOut Q) {r : Option Nat} {m : Nat} {a : Act} (S : Sim (h, μ, W) ⟨Try.prog, plain, Γ, Δ, Φ, 44⟩ c ⟨t, h, n⟩ μ a W)
    (hQ : ∀ (t' : Nat → Am.V) μ' a' w', t' 3 = .ptr 1 0 0 → t' 4 = .ptr 2 0 0 → t' 5 = .s (.int .i64 i) → t' 6 = .pc (encE es[i]) → Sim (h, μ, W) ⟨Try.prog, plain, Γ, Δ, Φ, 44⟩ c ⟨t', upd h 0 (some ⟨1, ((st.1.set i (!(offL st.2 es[i].id).any fun u => undF u es[i])).map encBo), true⟩), n⟩ μ' a' w' → Q .normal a' w') :
    (subC [1, 1, 1, 0, 1, 0, 1, 0, 0] liveC).wpIn (Fw r) m c.P Q a W := by
  show (Code.region _ _ true).wpIn _ _ _ _ _ _
  refine draw_in (by rw [hc]; exact hE.mixed) hlo (by decide +kernel) ?_
  have hb := (Below.refl W.heap.size W).drew
  have H2 := S.hs.below hb
  have S2 : Sim (h, μ, W) ⟨Try.prog, plain, Γ, Δ, Φ, 44⟩ c ⟨t, h, n⟩ μ a { W with drawn := W.drawn + 1 } := ⟨H2.1, fun i => H2.2.R (S.tm i), S.nt, S.df, S.ex.trans H2.2⟩
  have hEx : ∀ k, okB c h μ W k → k < W.heap.size := fun k hk => hk.2.1
  -- the undos of this edit
  generalize hL : offL st.2 es[i].id = L at *
  have hLs : ∀ u ∈ L, u ∈ es := fun u hu => by rw [← hL] at hu; exact I.sub u (List.mem_filter.1 hu).1
  have hLn : L.length ≤ 1048576 := by rw [← hL]; have := List.length_filter_le (fun u => idE u.target es[i].id) st.2; have := I.o2; unfold offL; omega
  have hV : (offV M es[i].id = .cap0 ∧ L = []) ∨ ∃ b cap sp, offV M es[i].id = .loc b 0 L.length cap ∧ h b = some ⟨18, L.map encE ++ sp, true⟩ := by
    cases hq : fnd es[i].id (M.map fun m => (m.id, m.x)) 0 with
    | some q =>
      obtain ⟨j, v⟩ := q
      obtain ⟨m, g1, _, g3, g4, g5⟩ := offV_some hq
      obtain ⟨_, g6, _, _, _, _, g7⟩ := I.ent m (List.mem_of_getElem? g1)
      rw [g3, hL] at g7
      refine .inr ⟨m.b, m.cap, m.sp, ?_, ?_⟩
      · rw [g5, ← g7]
      · rw [← g7]; exact g6
    | none =>
      obtain ⟨g1, g2⟩ := offV_none hq
      exact .inl ⟨g1, by rw [← hL]; exact I.non _ g2⟩
  refine G_sound (ps := (h, μ, W)) hE hc hΦ (qq := qq6 ⟨Try.prog, plain, Γ, Δ, Φ, 44⟩ h bm M) (qq6_congr _ _ _ _) ?ok ?dst (l := _) (ol := _) (List.dropLast_concat_getLast (by exact List.cons_ne_nil _ _)).symm (K := fun σ' => σ'.t 3 = .ptr 1 0 0 ∧ σ'.t 4 = .ptr 2 0 0 ∧ σ'.t 5 = .s (.int .i64 i) ∧ σ'.t 6 = .pc (encE es[i]) ∧ σ'.h = upd h 0 (some ⟨1, (st.1.set i (!L.any fun u => undF u es[i])).map encBo, true⟩) ∧ σ'.n = n) ?hq ?hqq ?hk S2
  case ok => decide +kernel
  case dst =>
    show ∀ o ∈ _, dstOk 44 o = true
    decide +kernel
  case hq =>
    rintro ⟨t', h', n'⟩ μ' a' w' ⟨k3, k4, k5, k6, k7, k8⟩ S'
    simp only at k3 k4 k5 k6 k7 k8
    subst k7; subst k8
    exact hQ t' μ' a' w' k3 k4 k5 k6 S'
  case hqq =>
    intro t v a w1 o next hm H1 X1 R1 hq hn
    have hcs : (∃ x k, o.op = .lookup 42 x k false ∧ ev t x = .mp bm ∧ ∃ id, ev t k = .agg (encId id) ∧ v = offV M id) ∨ qv ⟨Try.prog, plain, Γ, Δ, Φ, 44⟩ o.op (ev t) h v := by
      revert hq
      generalize o.op = op
      intro hq
      cases op <;> try exact .inr hq
      case lookup T x k b =>
        cases b
        · obtain ⟨rfl, h2, id, h3, h4⟩ := hq
          exact .inl ⟨x, k, rfl, h2, id, h3, h4⟩
        · exact .inr hq
    rcases hcs with ⟨x, k, ho, h2, id, h3, h4⟩ | hq
    · have hmo := I.mo
      rw [← (X1.ok bm I.bm_ok).2] at hmo
      obtain ⟨y, hrun, hR⟩ := look_sound hE.plain hpl hc hmo (fun m hm => loc_R X1.mu (I.ent m hm).1) R1 ho h2 h3
      unfold Oper.wp
      rw [hrun]
      exact hn y w1 H1 (Ext.refl _ _ _ _) (by rw [h4]; exact hR)
    · exact q_sound hE hc hΦ H1 R1 hq hn
  case hk =>
    have hz42 : szo Try.prog 42 = some 1 := by kernel_rfl
    have ha42 : aggo Try.prog 42 = some false := by kernel_rfl
    have hb0 := I.b0
    have hb1 := I.b1
    have hb2 := I.b2
    have hst := I.len
    refine g_cons rfl rfl (show pval _ _ _ _ _ = some _ from sv (And.intro q3 hb1)) ?_
    refine g_cons rfl rfl (show pval _ _ _ _ _ = some _ from sv q5) ?_
    refine g_cons rfl rfl (show pval _ _ _ _ _ = some _ from sv (And.intro q4 (And.intro hb2 (And.intro hz42 ha42)))) ?_
    refine g_cons rfl rfl (show pval _ _ _ _ _ = some _ from sv (And.intro q6 (@encE.eq_1))) ?_
    refine g_cons rfl rfl (show pval _ _ _ _ _ = some _ from sv (And.intro q6 (@encE.eq_1))) ?_
    refine g_cons rfl rfl (v := offV M es[i].id) ⟨rfl, sx trivial, es[i].id, sx (@encId.eq_1), rfl⟩ ?_
    refine g_cons rfl rfl (show pval _ _ _ _ _ = some _ from sv (And.intro q6 (@encE.eq_1))) ?_
    have hcall : qcall ⟨Try.prog, plain, Γ, Δ, Φ, 44⟩ 20 [offV M es[i].id, .fn 21 [.pc (encE es[i])]] h (.s (.bool (L.any fun u => undF u es[i]))) := by
      have hS : ∀ u ∈ L, und1S (fun _ => none) ([.agg (encE u)] ++ [.pc (encE es[i])]) (.s (.bool (undF u es[i]))) := fun u hu => ⟨u, es[i], by have := hdp u (hLs u hu); omega, rfl, rfl⟩
      have hcl : closS ⟨Try.prog, plain, Γ, Δ, Φ, 44⟩ h 21 [.pc (encE es[i])] = some fun ds x => und1S (fun _ => none) (ds ++ [.pc (encE es[i])]) (.s x) := by
        unfold closS
        simp only [allO, expoA, g_und]
      have hargs : ∃ a1, expArg h 0 a1 = some (.sl (L.map encE)) ∧ offV M es[i].id = a1 := by
        rcases hV with ⟨g1, g2⟩ | ⟨b, cap, sp, g1, g2⟩
        · refine ⟨.cap0, ?_, g1⟩
          rw [g2]; rfl
        · refine ⟨.loc b 0 L.length cap, ?_, g1⟩
          have hall : allO (allO (expo h 1)) (L.map encE) = some (L.map encE) := allO_rows h 1 (deep_map encE L fun a => by simp [encE, deepc])
          show expoA h (.loc b 0 L.length cap) = _
          have hro : rowsOf h (.loc b 0 L.length cap) = some (L.map encE) := by
            unfold rowsOf
            simp [g2]
          show (match rowsOf h (.loc b 0 L.length cap) with | some rows => Option.map V.sl (allO (allO (expo h 1)) rows) | none => none) = _
          rw [hro]
          simp only [hall, Option.map_some]
      obtain ⟨a1, ha1, hoff⟩ := hargs
      rw [hoff]
      unfold qcall
      have hexp : expArgs h 0 [a1, .fn 21 [.pc (encE es[i])]] = some [.sl (L.map encE), .fv 1] := by
        unfold expArgs
        rw [ha1]; rfl
      simp only [g_cf, hexp]
      exact ⟨_, ⟨L, fun u => undF u es[i], _, by omega, rfl, hcl, hS, rfl⟩, .inl ⟨rfl, rfl⟩⟩
    refine g_cons rfl rfl (show qcall _ _ _ _ _ from hcall) ?_
    refine g_cons rfl rfl (show pval _ _ _ _ _ = some _ from sv trivial) ?_
    have hi2 : (i < es.length) = True := eq_true hi
    refine g_cons rfl rfl (show pval _ _ _ _ _ = some _ from sv (And.intro hb0 hi2)) ?_
    refine g_last rfl ?_
    have hil : i < st.1.length := by omega
    have hrow : setAt ((st.1.map encBo).getD i []) 0 [.s (.bool (!L.any fun u => undF u es[i]))] = encBo (!L.any fun u => undF u es[i]) := by
      rw [getD_map _ _ _ hil]; rfl
    unfold aop
    refine astore_mk (b := 0) (r := i) (k := 0) (cs := [.s (.bool (!L.any fun u => undF u es[i]))]) (z := 1) (B := ⟨1, st.1.map encBo, true⟩) (sx trivial) (sx trivial) (sx trivial) ⟨hb0, rfl, rfl, by simp [cellish], by simp; exact hil, Nat.le_refl _⟩ ?_
    refine ⟨?_, ?_, ?_, ?_, ?_, rfl⟩
    · exact q3
    · exact q4
    · exact q5
    · exact q6
    show upd h 0 (some ⟨1, (st.1.map encBo).set i (setAt ((st.1.map encBo).getD i []) 0 [.s (.bool (!L.any fun u => undF u es[i]))]), true⟩) = _
    rw [hrow, List.map_set]
end
end Go.Proofs.Ytahgddfnbjpfiaa

set_option linter.unusedVariables false
set_option linter.unusedSimpArgs false
set_option maxRecDepth 100000
set_option maxHeartbeats 8000000
namespace Go.Proofs.Ytahgddfnbjpfiaa
open Go Go.RowKit Am

theorem wpList_at (k : Nat) {P : Program} {ops : Array Oper} {Q : Exit → Act → World → Prop} (Q1 : Exit → Act → World → Prop) {l : List Oper} {a : Act} {w : World} (hQe : ∀ e a w, e ≠ .normal → Q1 e a w → Q e a w) (h : wpList P ops Q1 (l.take k) a w) (hQ1 : ∀ a w, Q1 .normal a w → wpList P ops Q (l.drop k) a w) : wpList P ops Q l a w := by
  have := wpList_app hQ1 hQe (l.take k) h
  rwa [List.take_append_drop] at this
section
variable {plain : TypeId → Bool} {Γ : FuncId → Option Fspec} {Δ : FuncId → Option Pt} {Φ : FvSpec} (hE : EnvOk ⟨Try.prog, plain, Γ, Δ, Φ, 44⟩)
  {c : Cx} (hc : c.P = Try.prog) (hΦ : FvOk c Φ)
include hE hc hΦ
/-- The test: is it a live undo? -/
theorem tst7 {ps : Hp × Mu × World} {h : Hp} {n : Nat} {μ : Mu} {bs : List Bool} {N i : Nat} {e : Edt} (hb0 : h 0 = some ⟨1, bs.map encBo, true⟩) (hb1 : h 1 = some ⟨1, [[.loc 0 0 N N]], true⟩) (hN : bs.length = N) (hi : i < bs.length) {b : Bool} (hbi : bs[i] = b)
    {t : Nat → Am.V} (q3 : t 3 = .ptr 1 0 0) (q4 : t 4 = .ptr 2 0 0) (q5 : t 5 = .s (.int .i64 i)) (q6 : t 6 = .pc (encE e)) {Q : Exit → Act → World → Prop} (hlo : ¬ LetsOut Q) {r : Option Nat} {m : Nat} {a : Act} {w0 : World} (S : Sim ps ⟨Try.prog, plain, Γ, Δ, Φ, 44⟩ c ⟨t, h, n⟩ μ a w0)
    (hQ : ∀ (t' : Nat → Am.V) μ' a' w', t' 4 = .ptr 2 0 0 → t' 6 = .pc (encE e) → t' 33 = .s (.bool (b && decide (e.kind = 4))) → Sim ps ⟨Try.prog, plain, Γ, Δ, Φ, 44⟩ c ⟨t', h, n⟩ μ' a' w' → Q .normal a' w') :
    (subC [1, 1, 1, 0, 1, 0, 1, 0, 1, 0] liveC).wpIn (Fw r) m c.P Q a w0 := by
  have hrow : (bs.map encBo).getD i [] = encBo b := by rw [getD_map _ _ _ hi, hbi]
  have hin : (i < N) = True := eq_true (by omega)
  have hil : i < bs.length := hi
  refine awp_soundIn hE hc hΦ (r := r) (m := m) _ (Q := fun ex σ' => ex = .normal ∧ σ'.t 4 = .ptr 2 0 0 ∧ σ'.t 6 = .pc (encE e) ∧ σ'.t 33 = .s (.bool (b && decide (e.kind = 4))) ∧ σ'.h = h ∧ σ'.n = n) (by show codeOk 44 _ = true; decide +kernel) (by decide +kernel) hlo (W.out (E := ⟨Try.prog, plain, Γ, Δ, Φ, 44⟩) ?_) S ?_
  · show W _ (Code.region _ _ false) _ _
    cases b
    · refine go (And.intro q3 (And.intro q5 (And.intro q6 (And.intro hb0 (And.intro hb1 (And.intro @encE.eq_1 (And.intro hin hrow))))))) ?_
      exact ⟨rfl, q4, q6, rfl, rfl, rfl⟩
    · refine go (And.intro q3 (And.intro q5 (And.intro q6 (And.intro hb0 (And.intro hb1 (And.intro @encE.eq_1 (And.intro hin hrow))))))) ?_
      have hk : (e.kind == 4) = (true && decide (e.kind = 4)) := by rw [beq_eq_decide, Bool.true_and]
      exact ⟨rfl, q4, q6, congrArg (fun z => V.s (.bool z)) hk, rfl, rfl⟩
  · rintro ex ⟨t', h', n'⟩ μ' a' w' ⟨rfl, k4, k6, k33, k7, k8⟩ S'
    simp only at k4 k6 k33 k7 k8
    subst k7; subst k8
    exact hQ t' μ' a' w' k4 k6 k33 S'
end
end Go.Proofs.Ytahgddfnbjpfiaa

set_option linter.unusedVariables false
set_option linter.unusedSimpArgs false
set_option maxRecDepth 100000
set_option maxHeartbeats 8000000
namespace Go.Proofs.Ytahgddfnbjpfiaa
open Go Go.RowKit Am

theorem val_wp {P : Program} {o : Oper} {a : Act} {w w' : World} {y : Value} {next : Act → World → Prop} {Q : Exit → Act → World → Prop} (h : (execOp a.eval o).run P w = .ok (.value y) w') (hn : next (a.put o.dst y) w') : o.wp P a w next Q := by
  unfold Oper.wp; rw [h]; exact hn
theorem ent_run {P : Program} {o : Oper} {x k : Operand} {a : Act} {w w' : World} {u v y : Value} (ho : o.op = .mapEntry 42 x k) (e1 : a.eval x = u) (e2 : a.eval k = v) (hr : (Instr.mapEntry 42 u v).run P w = .ok y w') : (execOp a.eval o).run P w = .ok (.value y) w' := by
  simp only [execOp, ho, e1, e2]; exact run_value hr
theorem sto_wp {P : Program} {o : Oper} {x k z : Operand} {a : Act} {w w' : World} {u v y : Value} {next : Act → World → Prop} {Q : Exit → Act → World → Prop} (ho : o.op = .entryStore 42 x k z) (hd : o.dst = none) (e1 : a.eval x = u) (e2 : a.eval k = v) (e3 : a.eval z = y) (hr : (Instr.entryStore 42 u v y).run P w = .ok () w') (hn : next a w') : o.wp P a w next Q := by
  have h : (execOp a.eval o).run P w = .ok .skip w' := by simp only [execOp, ho, e1, e2, e3, Sem.run_bind, hr, Result.andThen_ok, Sem.run_pure]
  unfold Oper.wp; rw [h]
  show next (a.put o.dst undef) w'
  rw [hd]; exact hn
theorem nodup_set {l : List Nat} {x : Nat} (h : l.Nodup) (hx : x ∉ l) (i : Nat) : (l.set i x).Nodup := by
  induction l generalizing i with
  | nil => exact h
  | cons a l ih =>
    have h1 := List.nodup_cons.1 h
    cases i with
    | zero => exact List.nodup_cons.2 ⟨fun hm => hx (List.mem_cons_of_mem _ hm), h1.2⟩
    | succ i =>
      refine List.nodup_cons.2 ⟨fun hm => ?_, ih h1.2 (fun hm => hx (List.mem_cons_of_mem _ hm)) i⟩
      rcases List.mem_or_eq_of_mem_set hm with hm | hm
      · exact h1.1 hm
      · exact hx (by rw [← hm]; exact List.mem_cons_self)
section
variable {plain : TypeId → Bool} {Γ : FuncId → Option Fspec} {Δ : FuncId → Option Pt} {Φ : FvSpec} (hE : EnvOk ⟨Try.prog, plain, Γ, Δ, Φ, 44⟩) (hpl : plain 29 = true)
  {c : Cx} (hc : c.P = Try.prog) (hΦ : FvOk c Φ) {es : List Edt} {w : World} {K : Nat → Prop} {bm : Nat} {v3 v4 : Value}
include hE hpl hc hΦ
/-- A map's block is turned: what AM knows stays. -/
theorem put_map {ps : Hp × Mu × World} {h : Hp} {n : Nat} {μ : Mu} {t : Nat → Am.V} {a : Act} {W1 : World} (S : Sim ps ⟨Try.prog, plain, Γ, Δ, Φ, 44⟩ c ⟨t, h, n⟩ μ a W1) (hw : c.w0.heap.size ≤ bm) {o : Obj} (ho : W1.heap[bm]? = some o) (hoc : o.isCells = false) (o' : Obj) :
    HS c h n μ (W1.putObj bm o') ∧ (∀ v x, R c h μ W1 v x → R c h μ (W1.putObj bm o') v x) ∧ ∀ k, k ≠ bm → (W1.putObj bm o').heap[k]? = W1.heap[k]? := by
  have g := grownBy_putObj' W1 bm o'
  obtain ⟨H, hR⟩ := S.hs.grown g fun r e => by cases e; exact ⟨hw, o, ho, hoc⟩
  exact ⟨H, hR, fun k hk => World.putObj_heap_other hk⟩
/-- A live undo is put into the map. -/
theorem sto8 (hKb : ∀ k, K k → c.ok0 k ∨ c.w0.heap.size ≤ k ∨ c.X k) (hKlt : ∀ k, K k → k < w.heap.size) (hKbm : ¬ K bm) (hbw : c.w0.heap.size ≤ bm) {st : List Bool × List Edt} {p : Nat} {h : Hp} {n : Nat} {μ : Mu} {M : List Ent} {W1 : World} (I : Inv c es w K bm v3 v4 st p h n μ M W1) (hel : es.length ≤ 1048576) (hpe : p ≤ es.length)
    {e : Edt} (hee : e ∈ es) {bs : List Bool} (hbs : bs.length = es.length) {t : Nat → Am.V} (q4 : t 4 = .ptr 2 0 0) (q6 : t 6 = .pc (encE e)) {Q : Exit → Act → World → Prop} (hlo : ¬ LetsOut Q) {r : Option Nat} {m : Nat} {a : Act} {μ1 : Mu} {w1 : World}
    (S : Sim (h, μ, W1) ⟨Try.prog, plain, Γ, Δ, Φ, 44⟩ c ⟨t, upd h 0 (some ⟨1, bs.map encBo, true⟩), n⟩ μ1 a w1)
    (hQ : ∀ a' w' h' n' μ' M', Inv c es w K bm v3 v4 (bs, st.2 ++ [e]) (p + 1) h' n' μ' M' w' → (∀ k, okB c h μ W1 k → k ≠ bm → w'.heap[k]? = W1.heap[k]?) → W1.heap.size ≤ w'.heap.size → Q .normal a' w') {id : Nat} {ops : Array Oper} (hops : (Code.region id ops false) = (match subC [1, 1, 1, 0, 1, 0, 1, 0, 1, 1] liveC with | .cond _ x _ => x | y => y)) :
    (Code.region id ops false).wpIn (Fw r) m c.P Q a w1 := by
  rw [hops]
  show (Code.region _ _ false).wpIn _ _ _ _ _ _
  have hz42 : szo Try.prog 42 = some 1 := by kernel_rfl
  have ha42 : aggo Try.prog 42 = some false := by kernel_rfl
  have hb2 := I.b2
  have hn2 := I.n2
  refine region_in hlo (by decide +kernel) ?_
  refine wpList_at 5 (fun ex a2 w2 => ex = .normal ∧ ∃ t2 μ2, Sim (h, μ, W1) ⟨Try.prog, plain, Γ, Δ, Φ, 44⟩ c ⟨t2, upd (upd h 0 (some ⟨1, bs.map encBo, true⟩)) n (some ⟨18, [encE e], true⟩), n + 1⟩ μ2 a2 w2 ∧ t2 34 = .mp bm ∧ t2 36 = .agg (encId e.target) ∧ t2 39 = .loc n 0 1 1) (fun ex a w he hq => absurd hq.1 he) ?_ ?_
  · refine ops_sound hE hc hΦ _ (K := fun σ' => σ'.t 34 = .mp bm ∧ σ'.t 36 = .agg (encId e.target) ∧ σ'.t 39 = .loc n 0 1 1 ∧ σ'.h = upd (upd h 0 (some ⟨1, bs.map encBo, true⟩)) n (some ⟨18, [encE e], true⟩) ∧ σ'.n = n + 1) ?_ _ (by show ∀ o ∈ _, dstOk 44 o = true; decide +kernel) ?_ S
    · rintro ⟨t2, h2, n2⟩ μ2 a2 w2 ⟨k1, k2, k3, k4, k5⟩ S2
      simp only at k1 k2 k3 k4 k5
      subst k4; subst k5
      exact ⟨rfl, t2, μ2, S2, k1, k2, k3⟩
    · have e02 : (2 = 0) = False := by simp
      refine (show WO ⟨Try.prog, plain, Γ, Δ, Φ, 44⟩ _ [_, _, _, _, _] (fun _ σ' => σ'.t 34 = .mp bm ∧ σ'.t 36 = .agg (encId e.target) ∧ σ'.t 39 = .loc n 0 1 1 ∧ σ'.h = upd (upd h 0 (some ⟨1, bs.map encBo, true⟩)) n (some ⟨18, [encE e], true⟩) ∧ σ'.n = n + 1) ⟨t, upd h 0 (some ⟨1, bs.map encBo, true⟩), n⟩ from ?_).out
      refine go (And.intro q4 (And.intro q6 (And.intro hb2 (And.intro hz42 (And.intro ha42 @encE.eq_1))))) ?_
      exact ⟨⟨rfl, rfl, rfl, rfl, rfl⟩⟩
  rintro a2 w2 ⟨_, t2, μ2, S2, k34, k36, k39⟩
  have hmo2 : w2.heap[bm]? = some (mapO (M.map fun m => (m.id, m.x))) := (S2.ex.ok bm I.bm_ok).2.trans I.mo
  have hokb2 := (S2.ex.ok bm I.bm_ok).1
  have e34 : a2.eval (.tmp 34) = .map (some bm) := by
    have := S2.tm 34
    simp only [k34] at this
    show a2.tmps.getD 34 undef = _
    generalize a2.tmps.getD 34 undef = z at this
    cases this
    rfl
  have e36 : a2.eval (.tmp 36) = keyV e.target := by
    have := S2.tm 36
    simp only [k36] at this
    exact agg_id this
  obtain ⟨M1, i, v, hrun, hM1, hcase⟩ := run_entry hE.plain hpl hmo2 e.target
  obtain ⟨H3, hR3, hk3⟩ := put_map hE hpl hc hΦ S2 hbw hmo2 rfl (mapO M1)
  generalize hw3 : w2.putObj bm (mapO M1) = w3 at *
  have hmo3 : w3.heap[bm]? = some (mapO M1) := by rw [← hw3]; exact World.putObj_heap_same hokb2.2.1
  have hsz3 : w3.heap.size = w2.heap.size := by rw [← hw3]; simp [World.putObj]
  have hokb3 : okB c (upd (upd h 0 (some ⟨1, bs.map encBo, true⟩)) n (some ⟨18, [encE e], true⟩)) μ2 w3 bm := ⟨hokb2.1, by rw [hsz3]; exact hokb2.2.1, hokb2.2.2⟩
  -- the entry, as AM sees it
  have hV : ∃ (V0 : Am.V) (Lo : List Edt), R c (upd (upd h 0 (some ⟨1, bs.map encBo, true⟩)) n (some ⟨18, [encE e], true⟩)) μ2 w3 V0 v ∧ Lo = offL st.2 e.target ∧ ((V0 = .cap0 ∧ Lo = [] ∧ M1 = (M.map fun m => (m.id, m.x)) ++ [(e.target, .slice none 0 0)] ∧ i = M.length ∧ (∀ m ∈ M, m.id ≠ e.target)) ∨ ∃ m, M[i]? = some m ∧ m.id = e.target ∧ V0 = m.v ∧ Lo = m.L ∧ M1 = (M.map fun m => (m.id, m.x))) := by
    rcases hcase with ⟨hf, hM⟩ | ⟨hf, rfl, hi, hM⟩
    · obtain ⟨m, g1, _, g3, g4, _⟩ := offV_some hf
      rw [Nat.sub_zero] at g1
      have hm := I.ent m (List.mem_of_getElem? g1)
      refine ⟨m.v, m.L, ?_, by rw [hm.2.2.2.2.2.2, g3], .inr ⟨m, g1, g3, rfl, rfl, hM⟩⟩
      rw [← g4]
      exact loc_R S2.ex.mu hm.1
    · obtain ⟨_, g2⟩ := offV_none hf
      exact ⟨.cap0, [], .cap0 none, (I.non _ g2).symm, .inl ⟨rfl, rfl, hM, by rw [hi, List.length_map], g2⟩⟩
  obtain ⟨V0, Lo, hRV, hLo, hVc⟩ := hV
  show wpList _ _ _ [_, _, _, _, _] _ _
  refine list_cons rfl (val_wp (by rw [hc]; exact ent_run rfl e34 e36 hrun) ?_)
  have hRt : R c (upd (upd h 0 (some ⟨1, bs.map encBo, true⟩)) n (some ⟨18, [encE e], true⟩)) μ2 w3 (.tup [V0, .s (.int .i64 i)]) (.tuple #[v, .int .i64 i]) := by
    refine .tup [V0, .s (.int .i64 i)] #[v, .int .i64 i] rfl fun j hj => ?_
    have : j = 0 ∨ j = 1 := by simp at hj; omega
    rcases this with rfl | rfl
    · exact hRV
    · exact .s _ rfl
  have hs40 : 40 < a2.tmps.size := by
    have h1 : a2.tmps.size = 44 := S2.nt
    omega
  have S3 : Sim (upd (upd h 0 (some ⟨1, bs.map encBo, true⟩)) n (some ⟨18, [encE e], true⟩), μ2, w3) ⟨Try.prog, plain, Γ, Δ, Φ, 44⟩ c ⟨upd t2 40 (.tup [V0, .s (.int .i64 i)]), upd (upd h 0 (some ⟨1, bs.map encBo, true⟩)) n (some ⟨18, [encE e], true⟩), n + 1⟩ μ2 (a2.put (some 40) (.tuple #[v, .int .i64 i])) w3 :=
    ⟨H3, put_R (fun i => hR3 _ _ (S2.tm i)) hs40 hRt, by simp only [Act.put]; rw [Array.size_setIfInBounds]; exact S2.nt, S2.df, Ext.refl _ _ _ _⟩
  generalize hh2 : upd (upd h 0 (some ⟨1, bs.map encBo, true⟩)) n (some ⟨18, [encE e], true⟩) = h2 at *
  have h2n : h2 n = some ⟨18, [encE e], true⟩ := by rw [← hh2, upd_same]
  have h2b : ∀ b, b < n → b ≠ 0 → h2 b = h b := fun b h1 h3 => by rw [← hh2, upd_ne _ _ _ _ (by omega), upd_ne _ _ _ _ h3]
  have hLn : Lo.length ≤ 1048576 := by
    rw [hLo]
    have h1 := List.length_filter_le (fun u => idE u.target e.target) st.2
    have h2 := I.o2
    unfold offL
    omega
  refine wpList_at 3 (fun ex a4 w4 => ex = .normal ∧ ∃ t4 μ4 hB cap' sp, Sim (h2, μ2, w3) ⟨Try.prog, plain, Γ, Δ, Φ, 44⟩ c ⟨t4, upd hB (n + 1) (some ⟨18, (Lo ++ [e]).map encE ++ sp, true⟩), n + 2⟩ μ4 a4 w4 ∧ t4 34 = .mp bm ∧ t4 42 = .s (.int .i64 i) ∧ t4 41 = .loc (n + 1) 0 (Lo ++ [e]).length cap' ∧ (Lo ++ [e]).length ≤ cap' ∧ cap' ≤ (Lo ++ [e]).length + sp.length ∧ (hB = h2 ∨ ∃ m, M[i]? = some m ∧ hB = upd h2 m.b none)) (fun ex a w he hq => absurd hq.1 he) ?_ ?_
  · refine ops_sound hE hc hΦ _ (K := fun σ' => ∃ hB cap' sp, σ'.t 34 = .mp bm ∧ σ'.t 42 = .s (.int .i64 i) ∧ σ'.t 41 = .loc (n + 1) 0 (Lo ++ [e]).length cap' ∧ (Lo ++ [e]).length ≤ cap' ∧ cap' ≤ (Lo ++ [e]).length + sp.length ∧ (hB = h2 ∨ ∃ m, M[i]? = some m ∧ hB = upd h2 m.b none) ∧ σ'.h = upd hB (n + 1) (some ⟨18, (Lo ++ [e]).map encE ++ sp, true⟩) ∧ σ'.n = n + 2) ?_ _ (by show ∀ o ∈ _, dstOk 44 o = true; decide +kernel) ?_ S3
    · rintro ⟨t4, h4, n4⟩ μ4 a4 w4 ⟨hB, cap', sp, k1, k2, k3, k4, k5, k6, k7, k8⟩ S4
      simp only at k1 k2 k3 k7 k8
      subst k7; subst k8
      exact ⟨rfl, t4, μ4, hB, cap', sp, S4, k1, k2, k3, k4, k5, k6⟩
    · refine (show WO ⟨Try.prog, plain, Γ, Δ, Φ, 44⟩ _ [_, _, _] (fun _ σ' => ∃ hB cap' sp, σ'.t 34 = .mp bm ∧ σ'.t 42 = .s (.int .i64 i) ∧ σ'.t 41 = .loc (n + 1) 0 (Lo ++ [e]).length cap' ∧ (Lo ++ [e]).length ≤ cap' ∧ cap' ≤ (Lo ++ [e]).length + sp.length ∧ (hB = h2 ∨ ∃ m, M[i]? = some m ∧ hB = upd h2 m.b none) ∧ σ'.h = upd hB (n + 1) (some ⟨18, (Lo ++ [e]).map encE ++ sp, true⟩) ∧ σ'.n = n + 2) ⟨upd t2 40 (.tup [V0, .s (.int .i64 i)]), h2, n + 1⟩ from ?_).out
      have okr : okRows 18 [encE e] := okRowsE [e]
      rcases hVc with ⟨rfl, rfl, _⟩ | ⟨m, g1, g2, rfl, rfl, _⟩
      · refine go (And.intro k34 (And.intro k36 k39)) ?_
        refine x_append0 rfl rfl rfl rfl rfl rfl (sv (And.intro h2n k39)) (by decide) (sc (And.intro h2n k39)) (sv (And.intro h2n k39)) (sx (And.intro h2n k39)) okr (by first | omega | (simp; done) | (simp [spare_len]; omega)) (fun cap' hcap' => ?_)
        refine go k34 ?_
        refine ⟨⟨h2, cap', spare 18 (cap' - 1), k34, rfl, rfl, by simpa using hcap', ?_, .inl rfl, rfl, rfl⟩⟩
        have := hcap'
        simp [spare_len] at this ⊢
        omega
      · have hm := I.ent m (List.mem_of_getElem? g1)
        have hbn : m.b < n := I.hs.id_lt hm.2.1
        have h2m : h2 m.b = some ⟨18, m.L.map encE ++ m.sp, true⟩ := by rw [h2b m.b hbn (by have := hm.2.2.2.2.1; omega)]; exact hm.2.1
        have hcap := hm.2.2.1
        have hcap2 := hm.2.2.2.1
        refine go (And.intro k34 (And.intro k36 k39)) ?_
        refine x_appendO rfl rfl rfl rfl rfl rfl (sv (And.intro h2m (And.intro h2n k39))) (by decide) (sc (And.intro h2m (And.intro h2n k39))) (sv (And.intro h2m (And.intro h2n k39))) (sx (And.intro h2m (And.intro h2n k39))) (by first | rfl | (simp; done) | (simp [spare_len]; omega)) (by first | omega | (simp; done) | (simp [spare_len]; omega)) (by first | omega | (simp; done) | (simp [spare_len]; omega)) (sx (And.intro h2m (And.intro h2n k39))) okr (by first | omega | (simp; done) | (simp [spare_len]; omega)) (fun cap' hcap' => ?_)
        refine go k34 ?_
        refine ⟨⟨upd h2 m.b none, cap', spare 18 (cap' - (m.L.length + 1)), k34, rfl, by rw [List.length_append]; rfl, by simpa using hcap', ?_, .inr ⟨m, g1, rfl⟩, by simp, rfl⟩⟩
        have := hcap'
        simp [spare_len] at this ⊢
        omega
  rintro a4 w4 ⟨_, t4, μ4, hB, cap', sp, S4, k34', k42, k41, hc1, hc2, hBc⟩
  have hs4 := S4.hs
  have mo4 : w4.heap[bm]? = some (mapO M1) := (S4.ex.ok bm hokb3).2.trans hmo3
  have hokb4 := (S4.ex.ok bm hokb3).1
  have e34' : a4.eval (.tmp 34) = .map (some bm) := by
    have := S4.tm 34
    simp only [k34'] at this
    show a4.tmps.getD 34 undef = _
    generalize a4.tmps.getD 34 undef = z at this
    cases this
    rfl
  have e42 : a4.eval (.tmp 42) = .int .i64 i := by
    have := S4.tm 42
    simp only [k42] at this
    exact this.s_eq.1
  obtain ⟨x, hx⟩ : ∃ x, a4.eval (.tmp 41) = x := ⟨_, rfl⟩
  have hRx : R c (upd hB (n + 1) (some ⟨18, (Lo ++ [e]).map encE ++ sp, true⟩)) μ4 w4 (.loc (n + 1) 0 (Lo ++ [e]).length cap') x := by
    have := S4.tm 41
    simp only [k41] at this
    rw [← hx]
    exact this
  have hrun5 := run_enter mo4 hM1 x
  obtain ⟨H5, hR5, hk5⟩ := put_map hE hpl hc hΦ S4 hbw mo4 rfl (mapO (M1.set i (e.target, x)))
  generalize hw5 : w4.putObj bm (mapO (M1.set i (e.target, x))) = w5 at *
  have hmo5 : w5.heap[bm]? = some (mapO (M1.set i (e.target, x))) := by rw [← hw5]; exact World.putObj_heap_same hokb4.2.1
  have hsz5 : w5.heap.size = w4.heap.size := by rw [← hw5]; simp [World.putObj]
  show wpList _ _ _ [_] _ _
  refine list_cons rfl (sto_wp rfl rfl e34' e42 hx (by rw [hc]; exact hrun5) ?_)
  show Q .normal a4 w5
  obtain ⟨en, hen⟩ : ∃ en : Ent, en = ⟨e.target, n + 1, cap', Lo ++ [e], sp, x⟩ := ⟨_, rfl⟩
  have hbn : ∀ m ∈ M, m.b < n := fun m hm => I.hs.id_lt (I.ent m hm).2.1
  obtain ⟨M', hmapM, hmem, hcov, henM, hndb, hndi⟩ : ∃ M' : List Ent, M1.set i (e.target, x) = M'.map (fun m => (m.id, m.x)) ∧ (∀ m ∈ M', m = en ∨ (m ∈ M ∧ m.id ≠ e.target)) ∧ (∀ m ∈ M, m.id ≠ e.target → m ∈ M') ∧ en ∈ M' ∧ (M'.map (·.b)).Nodup ∧ (M'.map (·.id)).Nodup := by
    have hnb : n + 1 ∉ M.map (·.b) := fun hm => by
      obtain ⟨m, h1, h2⟩ := List.mem_map.1 hm
      have := hbn m h1
      omega
    rcases hVc with ⟨_, _, g3, g4, g5⟩ | ⟨m, g1, g2, _, _, g5⟩
    · refine ⟨M ++ [en], ?_, ?_, ?_, by simp, ?_, ?_⟩
      · rw [g3, g4, List.map_append, hen]
        rw [List.set_append_right _ _ (by simp)]
        simp
      · intro m hm
        rcases List.mem_append.1 hm with hm | hm
        · exact .inr ⟨hm, g5 m hm⟩
        · simp at hm; exact .inl hm
      · intro m hm _; exact List.mem_append_left _ hm
      · rw [List.map_append, List.nodup_append]
        refine ⟨I.ndb, by simp, fun a ha b hb => ?_⟩
        simp at hb
        rw [hb, hen]
        intro e1
        rw [e1] at ha
        exact hnb ha
      · rw [List.map_append, List.nodup_append]
        refine ⟨I.ndi, by simp, fun a ha b hb => ?_⟩
        simp at hb
        rw [hb, hen]
        rintro rfl
        obtain ⟨m, h1, h2⟩ := List.mem_map.1 ha
        exact g5 m h1 h2
    · have hil : i < M.length := (List.getElem?_eq_some_iff.1 g1).1
      have hmi : M[i] = m := (List.getElem?_eq_some_iff.1 g1).2
      refine ⟨M.set i en, ?_, ?_, ?_, List.mem_set hil en, ?_, ?_⟩
      · rw [g5, List.map_set, hen]
      · intro m' hm'
        obtain ⟨j, hj, rfl⟩ := List.getElem_of_mem hm'
        rw [List.getElem_set]
        split
        · exact .inl rfl
        · rename_i hij
          refine .inr ⟨List.getElem_mem _, fun e1 => hij ?_⟩
          have hj' : j < M.length := by simpa using hj
          have := (List.getElem_inj (xs := M.map (·.id)) (i := i) (j := j) (h₀ := by simpa using hil) (h₁ := by simpa using hj') I.ndi).1 (by simp [hmi, g2, e1])
          exact this
      · intro m' hm' hne
        obtain ⟨j, hj, rfl⟩ := List.getElem_of_mem hm'
        have hij : i ≠ j := fun e1 => hne (by subst e1; rw [hmi, g2])
        have : (M.set i en)[j]'(by simpa using hj) = M[j] := by rw [List.getElem_set, if_neg hij]
        rw [← this]
        exact List.getElem_mem _
      · rw [List.map_set, hen]
        exact nodup_set I.ndb hnb i
      · have : (M.set i en).map (·.id) = M.map (·.id) := by
          rw [List.map_set, hen]
          apply List.ext_getElem (by simp)
          intro j h1 h2
          rw [List.getElem_set]
          split
          · rename_i e1; subst e1; simp [hmi, g2]
          · rfl
        rw [this]
        exact I.ndi
  -- what is kept of the memory
  have hBb : ∀ b, (∀ m, M[i]? = some m → hB = upd h2 m.b none → b ≠ m.b) → hB b = h2 b := by
    intro b hb
    rcases hBc with rfl | ⟨m, g1, rfl⟩
    · rfl
    · exact upd_ne _ _ _ _ (hb m g1 rfl)
  have hlowB : ∀ b, b ≤ 2 → hB b = h2 b := fun b hb => hBb b fun m g1 _ => by
    have := (I.ent m (List.mem_of_getElem? g1)).2.2.2.2.1
    omega
  have hkeepB : ∀ m ∈ M, m.id ≠ e.target → hB m.b = h2 m.b := by
    intro m hm hne
    refine hBb m.b fun m0 g1 _ hbb => hne ?_
    have h0 : m0 ∈ M := List.mem_of_getElem? g1
    have hidt : m0.id = e.target := by
      rcases hVc with ⟨_, _, _, g4, _⟩ | ⟨m1, g1', g2, _⟩
      · rw [g4] at g1; simp at g1
      · rw [g1] at g1'; cases g1'; exact g2
    have : m = m0 := by
      obtain ⟨j, hj, rfl⟩ := List.getElem_of_mem hm
      obtain ⟨j0, hj0, rfl⟩ := List.getElem_of_mem h0
      have := (List.getElem_inj (xs := M.map (·.b)) (i := j) (j := j0) (h₀ := by simpa using hj) (h₁ := by simpa using hj0) I.ndb).1 (by simpa using hbb)
      subst this; rfl
    rw [this]; exact hidt
  obtain ⟨pk, hpk⟩ : ∃ pk : Nat → Bool, pk = fun b => decide (b ≤ 2) || M'.any fun m => m.b == b := ⟨_, rfl⟩
  have hpM : ∀ m ∈ M', pk m.b = true := fun m hm => by rw [hpk]; simp; exact .inr ⟨m, hm, rfl⟩
  have hp2 : ∀ b, b ≤ 2 → pk b = true := fun b hb => by rw [hpk]; simp [hb]
  obtain ⟨H6, E6⟩ := H5.keepOnly pk
  generalize hhf : (fun b => if pk b then upd hB (n + 1) (some ⟨18, (Lo ++ [e]).map encE ++ sp, true⟩) b else none) = hf at *
  have hfp : ∀ b, pk b = true → hf b = upd hB (n + 1) (some ⟨18, (Lo ++ [e]).map encE ++ sp, true⟩) b := fun b hb => by rw [← hhf]; simp [hb]
  have hfr : ∀ k, okB c h μ W1 k → k ≠ bm → okB c hf μ4 w5 k ∧ w5.heap[k]? = W1.heap[k]? := by
    intro k hk hne
    obtain ⟨a1, a2⟩ := S2.ex.ok k hk
    have a3 := hk3 k hne
    obtain ⟨b1, b2⟩ := S4.ex.ok k ⟨a1.1, by rw [hsz3]; exact a1.2.1, a1.2.2⟩
    have b3 := hk5 k hne
    obtain ⟨c1, _⟩ := E6.ok k ⟨b1.1, by rw [hsz5]; exact b1.2.1, b1.2.2⟩
    exact ⟨c1, by rw [b3, b2, a3, a2]⟩
  have hbm6 : okB c hf μ4 w5 bm := (E6.ok bm ⟨hokb4.1, by rw [hsz5]; exact hokb4.2.1, hokb4.2.2⟩).1
  have hmu : ∀ b t, μ b = some t → μ4 b = some t := fun b t hb => S4.ex.mu b t (S2.ex.mu b t hb)
  have hidne : ∀ x, x ≠ e.target → idE e.target x = false := fun x hx => by
    cases hq : idE e.target x with
    | false => rfl
    | true => exact absurd (idE_eq.1 hq).symm hx
  have hoffn : ∀ x, x ≠ e.target → offL (st.2 ++ [e]) x = offL st.2 x := fun x hx => by
    unfold offL
    rw [List.filter_append]
    simp [hidne x hx]
  have hofft : offL (st.2 ++ [e]) e.target = offL st.2 e.target ++ [e] := by
    unfold offL
    rw [List.filter_append]
    have : idE e.target e.target = true := idE_eq.2 rfl
    simp [this]
  have hzz : W1.heap.size ≤ w5.heap.size := by
    have z1 : W1.heap.size ≤ w2.heap.size := S2.ex.sz
    have z2 : w3.heap.size ≤ w4.heap.size := S4.ex.sz
    omega
  refine hQ a4 w5 hf (n + 2) μ4 M' (inv_mk hKb hKlt hKbm I H6 hmu hfr hbm6 ?_ ?_ ?_ (by omega) (by rw [hmo5, hmapM]) ?_ hndb hndi ?_ hbs ?_ ?_ ?_) (fun k hk hne => (hfr k hk hne).2) hzz
  · rw [hfp 0 (hp2 0 (by omega)), upd_ne _ _ _ _ (by omega), hlowB 0 (by omega), ← hh2, upd_ne _ _ _ _ (by omega), upd_same]
  · rw [hfp 1 (hp2 1 (by omega)), upd_ne _ _ _ _ (by omega), hlowB 1 (by omega), h2b 1 (by omega) (by omega)]
  · rw [hfp 2 (hp2 2 (by omega)), upd_ne _ _ _ _ (by omega), hlowB 2 (by omega), h2b 2 (by omega) (by omega)]
  · intro m hm
    rcases hmem m hm with rfl | ⟨hmM, hne⟩
    · have hpe := hpM m hm
      rw [hen] at hpe ⊢
      refine ⟨loc_R (fun _ _ q => q) hRx, by rw [hfp _ hpe, upd_same], hc1, hc2, by show 2 < n + 1; omega, by simp, ?_⟩
      show Lo ++ [e] = _
      rw [hofft, hLo]
    · have hmI := I.ent m hmM
      have hbl := hbn m hmM
      have hb2 := hmI.2.2.2.2.1
      refine ⟨loc_R hmu hmI.1, ?_, hmI.2.2.1, hmI.2.2.2.1, hb2, hmI.2.2.2.2.2.1, ?_⟩
      · rw [hfp _ (hpM m hm), upd_ne _ _ _ _ (by omega), hkeepB m hmM hne, h2b m.b hbl (by omega)]
        exact hmI.2.1
      · rw [hoffn _ hne]; exact hmI.2.2.2.2.2.2
  · intro x hxn
    by_cases hxt : x = e.target
    · have := hxn en henM
      rw [hen] at this
      exact absurd hxt.symm this
    · show offL (st.2 ++ [e]) x = []
      rw [hoffn x hxt]
      refine I.non x fun m hm hmx => ?_
      exact hxn m (hcov m hm (by rw [hmx]; exact hxt)) hmx
  · intro u hu
    rcases List.mem_append.1 hu with hu | hu
    · exact I.sub u hu
    · simp at hu; rw [hu]; exact hee
  · show (st.2 ++ [e]).length ≤ p + 1
    have := I.o2
    simp; omega
  · intro b B hb
    by_cases hpb : pk b = true
    · rw [hpk] at hpb
      simp at hpb
      rcases hpb with h1 | ⟨m, h1, h2⟩
      · exact .inl h1
      · exact .inr ⟨m, h1, h2⟩
    · rw [← hhf] at hb
      simp [hpb] at hb
end
end Go.Proofs.Ytahgddfnbjpfiaa

set_option linter.unusedVariables false
set_option linter.unusedSimpArgs false
set_option maxRecDepth 100000
set_option maxHeartbeats 8000000
namespace Go.Proofs.Ytahgddfnbjpfiaa
open Go Go.RowKit Am

/-- What a round is handed: its activation. -/
def AxL (es : List Edt) (w : World) (K : Nat → Prop) (bm : Nat) (v3 v4 : Value) (q : El es w K) (a' : Act) (W : World) : Prop :=
  a'.tmps.size = 44 ∧ a'.defers = [] ∧ a'.tmps.getD 3 undef = v3 ∧ a'.tmps.getD 4 undef = v4 ∧ a'.tmps.getD 5 undef = .int .i64 (q.1.1 : Nat) ∧
  ∃ Bx base e, es[q.1.1]? = some e ∧ w.heap.size ≤ Bx ∧ Bx < W.heap.size ∧ a'.tmps.getD 6 undef = .pointer (some ⟨Bx, base, none⟩) ∧ (∀ j, j < 18 → ∃ y, W.cell? ⟨Bx, base + j, none⟩ = some y ∧ Dp W K ((encE e).getD j .undef) y) ∧
    ∀ M, W.heap[bm]? = some (mapO M) → ∀ m ∈ M, ∀ k off len cap, m.2 = .slice (some ⟨k, off, none⟩) len cap → k ≠ Bx
theorem ax_own {es : List Edt} {w : World} {K : Nat → Prop} {bm : Nat} {v3 v4 : Value} (hbm : bm < w.heap.size) (q : El es w K) (a' : Act) : OwnFrom w.heap.size (fun (_ : Unit) W => AxL es w K bm v3 v4 q a' W) := by
  rintro _ W W' row ⟨h1, h2, h3, h4, h5, Bx, base, e, h6, h7, h8, h9, h10, h11⟩ g hr
  have hc : ∀ p y, W.cell? p = some y → W'.cell? p = some y := fun p y hp => cell_kept hp g fun r e => (hr r e).2
  refine ⟨h1, h2, h3, h4, h5, Bx, base, e, h6, h7, Nat.lt_of_lt_of_le h8 g.size, h9, fun j hj => ?_, fun M hM => ?_⟩
  · obtain ⟨y, y1, y2⟩ := h10 j hj
    exact ⟨y, hc _ _ y1, y2.cells hc fun _ h => h⟩
  · by_cases hbl : bm < W.heap.size
    · refine h11 M ?_
      rw [← hM]
      exact (g.block bm hbl fun e => by have := (hr bm e.symm).1; omega).symm
    · exact absurd (Nat.lt_of_le_of_lt h7 h8) (by omega)
section
variable {plain : TypeId → Bool} {Γ : FuncId → Option Fspec} {Δ : FuncId → Option Pt} {Φ : FvSpec} (hE : EnvOk ⟨Try.prog, plain, Γ, Δ, Φ, 44⟩) (hpl : plain 29 = true)
  (g_cf : Γ 20 = some (cfS encE)) (g_und : Γ 21 = some und1S)
  {c : Cx} (hc : c.P = Try.prog) (hΦ : FvOk c Φ) {es : List Edt} {w : World} {K : Nat → Prop} {bm : Nat} {v3 v4 : Value}
include hE hpl g_cf g_und hc hΦ
theorem round_in (hKb : ∀ k, K k → c.ok0 k ∨ c.w0.heap.size ≤ k ∨ c.X k) (hKlt : ∀ k, K k → k < w.heap.size) (hKbm : ¬ K bm) (hw0 : c.w0.heap.size ≤ w.heap.size) (hbw : c.w0.heap.size ≤ bm) (hbm : bm < w.heap.size) (hdp : ∀ u ∈ es, u.deps.length ≤ 1048576) (hel : es.length ≤ 1048576)
    {r : Option Nat} {m : Nat} (pre : List (El es w K)) (q : El es w K) (a' : Act) (W : World) (hI : InvI c es w K bm v3 v4 pre W) (hA : AxL es w K bm v3 v4 q a' W) (hlen : pre.length < es.length) :
    (subC [1, 1, 1, 0, 1, 0, 1] liveC).wpIn (Fw r) m c.P (ownPostG w.heap.size (KpB K) (InvI c es w K bm v3 v4) (fun _ _ _ => False) (pre ++ [q]) W) a' W := by
  obtain ⟨h, n, μ, M, I⟩ := hI
  obtain ⟨g1, g2, g3, g4, g5, Bx, base, e, g6, g7, g8, g9, g10, g11⟩ := hA
  obtain ⟨hi, _⟩ := q.2
  generalize hst : runL es (pre.map fun q => q.1.1) = st at *
  have hei : es[q.1.1] = e := by rw [List.getElem?_eq_getElem hi] at g6; exact Option.some.inj g6
  have hrun : runL es ((pre ++ [q]).map fun q => q.1.1) = stp es st q.1.1 := by rw [List.map_append, ← hst]; exact runL_snoc _ _ _
  have hKok : ∀ k, K k → okB c h μ W k := fun k hk => ⟨hKb k hk, lt_of_heap (I.kp k hk) (hKlt k hk), I.k_ok k hk⟩
  -- the round's edit lies in no block of AM's
  have hBl : ¬ live h μ Bx := by
    rintro ⟨b, B, ba, sz, hB, hwr, hm⟩
    rcases I.liv b B hB with hb | ⟨mm, hmM, rfl⟩
    · have := I.low b hb _ _ _ hm
      omega
    · have hent := I.ent mm hmM
      obtain ⟨_, hl⟩ := hent.1.loc_inv
      rcases hl with ⟨k, ba2, sz2, hm2, hx⟩ | ⟨h0, _, _⟩
      · rw [hm] at hm2
        cases hm2
        exact g11 _ I.mo (mm.id, mm.x) (List.mem_map.2 ⟨mm, hmM, rfl⟩) _ _ _ _ hx rfl
      · have := hent.2.2.2.2.2.1
        exact this (List.eq_nil_of_length_eq_zero h0)
  have hBok : okB c h μ W Bx := ⟨.inr (.inl (by omega)), g8, hBl⟩
  have hpc : R c h μ W (.pc (encE e)) (.pointer (some ⟨Bx, base, none⟩)) := by
    have hex : ∀ j, ∃ y, j < 18 → W.cell? ⟨Bx, base + j, none⟩ = some y ∧ Dp W K ((encE e).getD j .undef) y := fun j => by
      by_cases hj : j < 18
      · obtain ⟨y, hy⟩ := g10 j hj; exact ⟨y, fun _ => hy⟩
      · exact ⟨undef, fun h => absurd h hj⟩
    obtain ⟨g, hg⟩ := Classical.axiomOfChoice hex
    refine .pc _ _ g hBok (fun j hj => ?_) (fun j hj => ?_)
    · rw [add_plain]; exact (hg j hj).1
    · exact (hg j hj).2.mono fun k hk => ⟨hKok k hk, rfl⟩
  have S : Sim (h, μ, W) ⟨Try.prog, plain, Γ, Δ, Φ, 44⟩ c ⟨fun i => if i = 3 then .ptr 1 0 0 else if i = 4 then .ptr 2 0 0 else if i = 5 then .s (.int .i64 (q.1.1 : Nat)) else if i = 6 then .pc (encE es[q.1.1]) else .any, h, n⟩ μ a' W := by
    refine ⟨I.hs, fun i => ?_, g1, g2, Ext.refl _ _ _ _⟩
    show R c h μ W (if i = 3 then _ else if i = 4 then _ else if i = 5 then _ else if i = 6 then _ else V.any) _
    split
    · rename_i e1; rw [e1, g3]; exact I.t3
    · split
      · rename_i e1; rw [e1, g4]; exact I.t4
      · split
        · rename_i e1; rw [e1, g5]; exact .s _ rfl
        · split
          · rename_i e1; rw [e1, g9, hei]; exact hpc
          · exact .any _
  have hfin : ∀ {a'' : Act} {w'' : World} {h' : Hp} {n' : Nat} {μ' : Mu} {M' : List Ent}, Inv c es w K bm v3 v4 (stp es st q.1.1) (pre.length + 1) h' n' μ' M' w'' → W.heap.size ≤ w''.heap.size → (∀ k, okB c h μ W k → k ≠ bm → w''.heap[k]? = W.heap[k]?) → KeepsFrom w.heap.size W w'' ∧ KpB K W w'' ∧ InvI c es w K bm v3 v4 (pre ++ [q]) w'' := by
    intro a'' w'' h' n' μ' M' I' hsz hfr
    refine ⟨⟨hsz, fun k o hk hko hoc => ?_⟩, fun k hk => hfr k (hKok k hk) (fun e1 => hKbm (e1 ▸ hk)), h', n', μ', M', ?_⟩
    · have hkl : k < W.heap.size := (Array.getElem?_eq_some_iff.1 hko).1
      rw [hfr k ⟨.inr (.inl (by omega)), hkl, fun hl => ?_⟩ (by omega)]
      · exact hko
      · have := I.cel (by omega) k hl o hko
        rw [this] at hoc; cases hoc
    · rw [hrun, List.length_append]
      exact I'
  show Code.wpIn _ _ _ (Code.block 1 (Code.seq _ (Code.seq _ _))) _ _ _
  refine wpIn_block (wpIn_seq ?_)
  refine draw6 hE hpl g_cf g_und hc hΦ I hdp hel (by omega) hi rfl rfl rfl rfl ?_ S ?_
  · rintro ⟨a, w, hq⟩; exact hq
  rintro t1 μ1 a1 w1 q3 q4 q5 q6 S1
  show Code.wpIn _ _ _ (Code.seq _ _) _ _ _
  generalize hb : (!(offL st.2 es[q.1.1].id).any fun u => undF u es[q.1.1]) = b at *
  have hbl : (st.1.set q.1.1 b).length = es.length := by rw [List.length_set]; exact I.len
  have hstp : stp es st q.1.1 = (st.1.set q.1.1 b, if b && decide (e.kind = 4) then st.2 ++ [e] else st.2) := by
    unfold stp
    rw [g6]
    simp only
    rw [← hei, hb]
  rw [hei] at q6
  refine wpIn_seq ?_
  refine tst7 hE hc hΦ (bs := st.1.set q.1.1 b) (N := es.length) (i := q.1.1) (e := e) (b := b) (upd_same _ _ _) (by rw [upd_ne _ _ _ _ (by omega)]; exact I.b1) hbl (by omega) (List.getElem_set_self _) q3 q4 q5 q6 ?_ S1 ?_
  · rintro ⟨a, w, hq⟩; exact hq
  rintro t2 μ2 a2 w2 r4 r6 r33 S2
  show Code.wpIn _ _ _ (Code.cond _ _ _) _ _ _
  have h33 : a2.eval (.tmp 33) = .bool (b && decide (e.kind = 4)) := by
    have := S2.tm 33
    simp only [r33] at this
    exact this.s_eq.1
  have hee : e ∈ es := by rw [← hei]; exact List.getElem_mem _
  cases hk : (b && decide (e.kind = 4)) with
  | true =>
    rw [hk] at h33
    refine wpIn_cond_true h33 ?_
    refine sto8 hE hpl hc hΦ hKb hKlt hKbm hbw I hel (by omega) hee hbl r4 r6 (by rintro ⟨a, w, hq⟩; exact hq) S2 ?_ rfl
    intro a'' w'' h' n' μ' M' I' hfr hsz
    rw [hk] at hstp
    have hst2 : stp es st q.1.1 = (st.1.set q.1.1 b, st.2 ++ [e]) := by rw [hstp]; rfl
    rw [← hst2] at I'
    exact hfin (a'' := a'') I' hsz hfr
  | false =>
    rw [hk] at h33
    refine wpIn_cond_false h33 (wpIn_skip ?_)
    have hst2 : stp es st q.1.1 = (st.1.set q.1.1 b, st.2) := by rw [hstp, hk]; rfl
    have hfr : ∀ k, okB c h μ W k → okB c (upd h 0 (some ⟨1, (st.1.set q.1.1 b).map encBo, true⟩)) μ2 w2 k ∧ w2.heap[k]? = W.heap[k]? := fun k hk => S2.ex.ok k hk
    have I' : Inv c es w K bm v3 v4 (stp es st q.1.1) (pre.length + 1) (upd h 0 (some ⟨1, (st.1.set q.1.1 b).map encBo, true⟩)) n μ2 M w2 := by
      rw [hst2]
      refine inv_mk hKb hKlt hKbm I S2.hs S2.ex.mu (fun k hk _ => hfr k hk) (hfr bm I.bm_ok).1 (upd_same _ _ _) (upd_ne _ _ _ _ (by omega)) (upd_ne _ _ _ _ (by omega)) (Nat.le_refl _) (by rw [(hfr bm I.bm_ok).2]; exact I.mo) (fun m hm => ?_) I.ndb I.ndi I.non hbl I.sub (by have := I.o2; show st.2.length ≤ _; omega) (fun b2 B2 hB2 => ?_)
      · have hmI := I.ent m hm
        refine ⟨loc_R S2.ex.mu hmI.1, ?_, hmI.2.2⟩
        rw [upd_ne _ _ _ _ (by have := hmI.2.2.2.2.1; omega)]
        exact hmI.2.1
      · by_cases h0 : b2 = 0
        · exact .inl (by omega)
        · rw [upd_ne _ _ _ _ h0] at hB2
          exact I.liv b2 B2 hB2
    exact hfin (a'' := a2) I' S2.ex.sz fun k hk _ => (hfr k hk).2
end
end Go.Proofs.Ytahgddfnbjpfiaa

set_option linter.unusedVariables false
set_option linter.unusedSimpArgs false
set_option maxRecDepth 100000
set_option maxHeartbeats 8000000
namespace Go.Proofs.Ytahgddfnbjpfiaa
open Go Go.RowKit Am

theorem esOf_vals : ∀ (M : List (Idt × Value)) (k : Nat), (esOf M k).map (·.val) = M.map (·.2)
  | [], _ => rfl
  | m :: M, k => by simp [esOf, esOf_vals M]
theorem mapO_vals {M M' : List (Idt × Value)} (h : mapO M = mapO M') : M.map (·.2) = M'.map (·.2) := by
  unfold mapO at h
  injection h with h1 h2
  rw [← esOf_vals M 0, ← esOf_vals M' 0]
  have := congrArg Array.toList h1
  simpa using congrArg (List.map (·.val)) this
theorem dp_one {w : World} {ok : Nat → Prop} {v : Am.V} {x : Value} (h : Dp w ok v x) : x.oneCell' = true := by
  cases h with
  | s _ h => cases x <;> first | rfl | cases h
  | sl => rfl
section
variable {c : Cx} (hc : c.P = Try.prog) {es : List Edt} {w : World} {K : Nat → Prop} {bm : Nat} {v3 v4 : Value}
include hc
theorem assign_in (hKlt : ∀ k, K k → k < w.heap.size) (hw0 : c.w0.heap.size ≤ w.heap.size) (hbm : bm < w.heap.size) (hwW : ∀ W, KpB K w W → w.heap.size ≤ W.heap.size) {r : Option Nat} {m : Nat} (pre : List (El es w K)) (q : El es w K) (aq : Act) (W : World) (hI : InvI c es w K bm v3 v4 pre W)
    (hs : aq.tmps.size = 44) (hdf : aq.defers = []) (h3 : aq.tmps.getD 3 undef = v3) (h4 : aq.tmps.getD 4 undef = v4) (h13 : aq.tmps.getD 13 undef = .int .i64 (q.1.1 : Nat)) (h14 : aq.tmps.getD 14 undef = q.1.2) {Kc : Act → World → Prop}
    (hK : ∀ a' W', KeepsFrom w.heap.size W W' → KpB K W W' → InvI c es w K bm v3 v4 pre W' → AxL es w K bm v3 v4 q a' W' → Kc a' W') :
    (subC [1, 1, 1, 0, 1, 0, 0] liveC).wpIn (Fw r) m c.P (Exit.then Kc (fun _ _ _ => False)) aq W := by
  obtain ⟨h, n, μ, M, I⟩ := hI
  obtain ⟨hi, xs, hx, hxs, hxd⟩ := q.2
  show Code.wpIn _ _ _ (Code.seq _ _) _ _ _
  have hlo : ∀ {Q : Exit → Act → World → Prop}, (∀ a w, ¬ Q .outgrown a w) → ¬ LetsOut Q := fun h ⟨a, w, q⟩ => h a w q
  refine wpIn_seq (region_in (hlo fun a w hq => hq) (by decide +kernel) ?_)
  show wpList _ _ _ [_] _ _
  refine list_cons rfl (val_wp (y := .int .i64 (q.1.1 : Nat)) (w' := W) ?_ ?_)
  · have : aq.eval (.tmp 13) = .int .i64 (q.1.1 : Nat) := h13
    simp [execOp, this, Sem.run, pure]
  show Code.wpIn _ _ _ (Code.region _ _ _) _ _ _
  refine region_in (hlo fun a w hq => hq) (by decide +kernel) ?_
  show wpList _ _ _ [_, _] _ _
  obtain ⟨z, hz, hzs⟩ : ∃ z, zro Try.prog 34 = some z ∧ z.cells.size = 18 := by
    have : (zro Try.prog 34).map (fun z => z.cells.size) = some 18 := by kernel_rfl
    simpa only [Option.map_eq_some_iff] using this
  have hsz : szo Try.prog 34 = some 18 := by kernel_rfl
  obtain ⟨W1, hW1⟩ : ∃ W1, W1 = W.alloc (.cells z.cells 34 (0, 0)) := ⟨_, rfl⟩
  have hs1 : W1.heap.size = W.heap.size + 1 := by rw [hW1]; simp
  have hb1 : Below W.heap.size W W1 := by rw [hW1]; exact (Below.refl _ W).alloc (Nat.le_refl _) _
  have hn1 : W1.heap[W.heap.size]? = some (.cells z.cells 34 (0, 0)) := by rw [hW1]; exact World.alloc_heap_new W _
  refine list_cons rfl (val_wp (y := .pointer (some ⟨W.heap.size, 0, none⟩)) (w' := W1) ?_ ?_)
  · rw [hc, hW1]
    simp only [execOp]
    refine run_value ?_
    simp [Instr.alloc, run_zero hz, newVar, newRow, newObj, Sem.run, pure]
  show wpList _ _ _ [_] _ _
  have hxc : (Value.agg xs).cells = xs := rfl
  have hone : ∀ v ∈ xs.toList, v.oneCell' = true := by
    intro v hv
    obtain ⟨j, hj, rfl⟩ := List.getElem_of_mem hv
    have hj2 : j < xs.size := by simpa using hj
    have hd := hxd j (by omega)
    have h1 : xs.getD j undef = xs.toList[j] := by simp [hj2]
    rw [h1] at hd
    exact dp_one hd
  have hcell1 : ∀ j, j < 18 → (W1.cell? ⟨W.heap.size, j, none⟩).isSome = true ∧ W1.frozen? ⟨W.heap.size, j, none⟩ = false := by
    intro j hj
    unfold World.cell? World.frozen?
    rw [hn1]
    refine ⟨?_, by simp⟩
    simp [hzs, hj]
  have hrun := run_storeCells_cells (P := Try.prog) W.heap.size 0 xs.toList 0 W1 (fun j hj => by
    rw [show 0 + 0 + j = j by omega]
    exact (hcell1 j (by simp at hj; omega)).1) (fun j hj => by
    rw [show 0 + 0 + j = j by omega]
    exact (hcell1 j (by simp at hj; omega)).2) hone
  obtain ⟨W2, hW2⟩ : ∃ W2, W2 = W1.setCells W.heap.size (0 + 0) xs.toList := ⟨_, rfl⟩
  rw [← hW2] at hrun
  obtain ⟨f1, f2⟩ := setCells_fr W.heap.size xs.toList (0 + 0) W1
  rw [← hW2] at f1 f2
  have hcell2 : ∀ j, j < 18 → W2.cell? ⟨W.heap.size, 0 + j, none⟩ = some (xs.getD j undef) := by
    intro j hj
    have hj2 : j < xs.toList.length := by simp; omega
    have hin := World.cell?_setCells_in W.heap.size xs.toList (0 + 0) W1 (fun j hj => by
      rw [show 0 + 0 + j = j by omega]
      exact (hcell1 j (by simp at hj; omega)).1) j hj2
    rw [← hW2] at hin
    rw [show 0 + j = 0 + 0 + j by omega, hin]
    have : j < xs.size := by omega
    simp [this]
  have g2 : W.grownBy W2 none := by
    refine ⟨f1.os.trans hb1.os, f1.tape.trans hb1.tape, f1.output.trans hb1.output, by omega, fun k hk _ => ?_⟩
    rw [f1.block k (by omega) (by omega)]
    exact hb1.block k hk
  have hWk : ∀ k, k < W.heap.size → W2.heap[k]? = W.heap[k]? := fun k hk => g2.block k hk (by simp)
  have I2 := I.grown hw0 hKlt hbm g2 (fun r e => by cases e)
  obtain ⟨a1, ha1⟩ : ∃ a1, a1 = ((aq.put (some 5) (.int .i64 (q.1.1 : Nat))).put (some 6) (.pointer (some ⟨W.heap.size, 0, none⟩))) := ⟨_, rfl⟩
  show wpList _ _ _ _ ((aq.put (some 5) (.int .i64 (q.1.1 : Nat))).put (some 6) (.pointer (some ⟨W.heap.size, 0, none⟩))) W1
  rw [← ha1]
  have e6 : a1.eval (.tmp 6) = .pointer (some ⟨W.heap.size, 0, none⟩) := by rw [ha1]; simp [Act.eval, Act.put, hs]
  have e14 : a1.eval (.tmp 14) = .agg xs := by
    show a1.tmps.getD 14 undef = _
    rw [← hx, ← h14, ha1]
    simp [Act.put]
  have hst : (Instr.storeAt 34 (.pointer (some ⟨W.heap.size, 0, none⟩)) (.agg xs)).run Try.prog W1 = .ok () W2 := by
    simp [Instr.storeAt, Instr.sureAddr, storeVar, run_size hsz, hxc, hxs, hrun, Sem.run, pure]
  refine list_cons rfl ?_
  unfold Oper.wp
  rw [show (execOp a1.eval _).run c.P W1 = .ok .skip W2 by rw [hc]; simp only [execOp, e6, e14, Sem.run_bind, hst, Result.andThen_ok, Sem.run_pure]]
  show Kc a1 W2
  refine hK a1 W2 ⟨by omega, fun k o hk hko hoc => by rw [hWk k (Array.getElem?_eq_some_iff.1 hko).1]; exact hko⟩ (fun k hk => hWk k (lt_of_heap (I.kp k hk) (hKlt k hk))) ⟨h, n, μ, M, I2⟩ ?_
  have hg : ∀ j, j ≠ 5 → j ≠ 6 → a1.tmps.getD j undef = aq.tmps.getD j undef := by
    intro j h5 h6
    rw [ha1]
    simp only [Act.put, Array.getD_eq_getD_getElem?, Array.getElem?_setIfInBounds]
    rw [if_neg (by omega), if_neg (by omega)]
  refine ⟨by rw [ha1]; simp [Act.put, hs], by rw [ha1]; exact hdf, by rw [hg 3 (by omega) (by omega)]; exact h3, by rw [hg 4 (by omega) (by omega)]; exact h4, by rw [ha1]; simp [Act.put, hs], W.heap.size, 0, es[q.1.1], List.getElem?_eq_getElem hi, hwW W I.kp, by omega, e6, fun j hj => ⟨_, hcell2 j hj, (hxd j hj).mono fun k hk => ⟨hk, ?_⟩⟩, fun M2 hM2 m2 hm2 k off len cap hx2 => ?_⟩
  · rw [hWk k (lt_of_heap (I.kp k hk) (hKlt k hk))]
    exact I.kp k hk
  · rw [hWk bm I.bm_ok.2.1, I.mo] at hM2
    have hv := mapO_vals (Option.some.inj hM2)
    have : m2.2 ∈ (M.map fun m => (m.id, m.x)).map (·.2) := by rw [hv]; exact List.mem_map.2 ⟨m2, hm2, rfl⟩
    obtain ⟨p1, hp1, hp2⟩ := List.mem_map.1 this
    obtain ⟨mm, hmm, rfl⟩ := List.mem_map.1 hp1
    simp only at hp2
    have hent := I.ent mm hmm
    obtain ⟨_, hl⟩ := hent.1.loc_inv
    rcases hl with ⟨k2, ba2, sz2, hm3, hx3⟩ | ⟨h0, _, _⟩
    · rw [hp2, hx2] at hx3
      cases hx3
      have := I.hs.real_lt hent.2.1 hm3
      omega
    · exact absurd (List.eq_nil_of_length_eq_zero h0) hent.2.2.2.2.2.1
end
end Go.Proofs.Ytahgddfnbjpfiaa

set_option linter.unusedVariables false
set_option linter.unusedSimpArgs false
set_option maxRecDepth 100000
set_option maxHeartbeats 8000000
namespace Go.Proofs.Ytahgddfnbjpfiaa
open Go Go.RowKit Am

def liveS : Fspec := fun _ ds r => ∃ es : List Edt, es.length ≤ 1048576 ∧ (∀ u ∈ es, u.deps.length ≤ 1048576) ∧ ds = [.sl (es.map encE)] ∧ r = .own 1 ((liveB es).map encBo)
theorem back_run (w : World) (A : Option Addr) (len cap : Nat) : Calls Try.prog 19 #[.slice A len cap] w fun e w' => e = .returned (.func (.func 32) #[] #[.pointer (some ⟨w.heap.size, 0, none⟩)]) ∧ w' = w.alloc (.cells #[.slice A len cap] 22 (0, 0)) := by
  go_enter Try.func19, Try.ntmps19
  go_wp2
  go_ret
  exact ⟨rfl, rfl⟩
theorem live_sound {plain : TypeId → Bool} {Γ : FuncId → Option Fspec} {Δ : FuncId → Option Pt} (hE : EnvOk ⟨Try.prog, plain, Γ, Δ, fun _ => none, 0⟩) (hpl : plain 29 = true) (g_cf : Γ 20 = some (cfS encE)) (g_und : Γ 21 = some und1S) : Sound Try.prog 11 liveS := by
  rintro ⟨P, w0, ok0, X, fv, inv⟩ Φ ds r vals hc hok0 hX hΦ ⟨es, hel, hdp, rfl, rfl⟩ hargs
  obtain rfl : P = Try.prog := hc
  have hE' : EnvOk ⟨Try.prog, plain, Γ, Δ, Φ, 44⟩ := ⟨hE.plain, hE.sound, hE.fn, hE.mixed, hE.soundT⟩
  obtain ⟨sl0, rfl, hsl⟩ : ∃ sl0, vals = #[sl0] ∧ Rp fv w0 ok0 noMu (.sl (es.map encE)) sl0 := by
    have h1 := hargs.1
    have h2 := hargs.2 0 (by simp)
    refine ⟨vals.getD 0 undef, ?_, h2⟩
    apply Array.ext
    · simpa using h1
    · intro i g1 g2
      have : i = 0 := by simp at g2; omega
      subst this
      simp [g1]
  have hsd : Dp w0 ok0 (.sl (es.map encE)) sl0 := Rp_dp rfl hsl
  obtain ⟨cap, size, A, g, rfl, hcap, _⟩ := hsl.sl_inv
  refine (callsIn_wide (n := 10)).1 ?_
  refine callsIn_of_wp_marks Try.func11 rfl trivial ?_ rfl
  have nt := Try.ntmps11
  rw [nt]
  generalize ha0 : ({ tmps := _, defers := [] } : Act) = a0
  have hs0 : a0.tmps.size = 44 := by rw [← ha0]; simp
  have hd0 : a0.defers = [] := by rw [← ha0]
  have g0 : a0.tmps.getD 0 undef = .slice A (es.map encE).length cap := by rw [← ha0]; simp
  clear ha0
  have hokB : ∀ q, ok0 q → okB ⟨Try.prog, w0, ok0, X, fv, inv⟩ h00 m00 w0 q := fun q hq => ⟨.inl hq, hok0 q hq, fun ⟨b, B, _, _, h, _⟩ => by cases h⟩
  have H0 : HS ⟨Try.prog, w0, ok0, X, fv, inv⟩ h00 0 m00 w0 := ⟨Fr.refl _ _, fun _ _ => rfl, fun _ _ => rfl, fun b B h => (by cases h), fun b b' B B' k base size base' size' h => (by cases h)⟩
  have S0 : Sim (h00, m00, w0) ⟨Try.prog, plain, Γ, Δ, Φ, 44⟩ ⟨Try.prog, w0, ok0, X, fv, inv⟩ ⟨fun i => if i = 0 then .sl (es.map encE) else .any, h00, 0⟩ m00 a0 w0 := by
    refine ⟨H0, fun i => ?_, hs0, hd0, Ext.refl _ _ _ _⟩
    show R _ _ _ _ (if i = 0 then _ else V.any) _
    split
    · rename_i e; rw [e, g0]; exact hsl.mono (fun q hq => ⟨hokB q hq, rfl⟩) (fun _ _ h => h)
    · exact .any _
  show Code.wpIn (Fw none) 10 Try.prog (Code.seq (Code.region _ _ _) (Code.seq (Code.region _ _ _) (Code.seq (Code.region _ _ _) (Code.seq (Code.seq (Code.region _ _ _) (Code.block _ _)) (Code.seq (Code.region _ _ _) Code.ret))))) _ _ _
  have hlo : ∀ {K : Act → World → Prop} {R' : Ending → World → Prop}, (∀ w, ¬ R' .outgrown w) → ¬ LetsOut (Exit.then K (bodyPostM (Fw none) 10 Try.prog Try.f11 R')) := fun h ⟨a, w, hq⟩ => h w hq
  have hR' : ∀ w, ¬ (∃ x, (Ending.outgrown : Ending) = .returned x ∧ Below w0.heap.size w0 w ∧ Res ⟨Try.prog, w0, ok0, X, fv, inv⟩ w (.own 1 ((liveB es).map encBo)) x) := fun w ⟨x, h, _⟩ => by cases h
  have hlo2 : ∀ {Q' : Exit → Act → World → Prop}, (∀ a w, ¬ Q' .outgrown a w) → ¬ LetsOut Q' := fun h ⟨a, w, hq⟩ => h a w hq
  refine wpIn_seq (region_in (hlo2 fun a w hq => hR' w hq) (by decide +kernel) (ops_soundX hE' rfl hΦ _ (fun d => d = 0) (K := fun σ' => σ'.t 0 = .sl (es.map encE) ∧ σ'.h = h00 ∧ σ'.n = 0) _ (by show ∀ o ∈ _, dstOk 44 o = true; decide +kernel) (by rintro o ho d hd rfl; revert hd; revert ho; revert o; decide +kernel) ?_ S0 ?_))
  · refine (show WO ⟨Try.prog, plain, Γ, Δ, Φ, 44⟩ _ [_] (fun _ σ' => σ'.t 0 = .sl (es.map encE) ∧ σ'.h = h00 ∧ σ'.n = 0) ⟨fun i => if i = 0 then .sl (es.map encE) else .any, h00, 0⟩ from ?_).out
    refine go trivial ?_
    exact ⟨⟨rfl, rfl, rfl⟩⟩
  rintro ⟨t1, h1, n1⟩ μ1 a1 w1 ⟨q0, rfl, rfl⟩ S1 hx1
  simp only at q0
  show Code.wpIn _ _ _ (Code.seq _ _) _ _ _
  refine wpIn_seq (region_in (hlo2 fun a w hq => hR' w hq) (by decide +kernel) (ops_soundX hE' rfl hΦ _ (fun d => d = 0) (K := fun σ' => σ'.t 0 = .sl (es.map encE) ∧ σ'.t 3 = .ptr 1 0 0 ∧ σ'.h 0 = some ⟨1, (List.replicate es.length false).map encBo, true⟩ ∧ σ'.h 1 = some ⟨1, [[.loc 0 0 es.length es.length]], true⟩ ∧ (∀ b, 2 ≤ b → σ'.h b = none) ∧ σ'.n = 2) _ (by show ∀ o ∈ _, dstOk 44 o = true; decide +kernel) (by rintro o ho d hd rfl; revert hd; revert ho; revert o; decide +kernel) ?_ S1 ?_))
  · refine (show WO ⟨Try.prog, plain, Γ, Δ, Φ, 44⟩ _ [_, _, _, _, _] (fun _ σ' => σ'.t 0 = .sl (es.map encE) ∧ σ'.t 3 = .ptr 1 0 0 ∧ σ'.h 0 = some ⟨1, (List.replicate es.length false).map encBo, true⟩ ∧ σ'.h 1 = some ⟨1, [[.loc 0 0 es.length es.length]], true⟩ ∧ (∀ b, 2 ≤ b → σ'.h b = none) ∧ σ'.n = 2) ⟨t1, h00, 0⟩ from ?_).out
    refine go q0 ?_
    refine x_mslice (m := es.length) (m' := es.length) rfl rfl rfl (sv trivial) (sv trivial) (sv trivial) (sv trivial) (by simp [cellsZ, cellOf, flat]; omega) ?_
    have hcz : List.replicate es.length (cellsZ (.bool false)) = (List.replicate es.length false).map encBo := by simp [cellsZ, ofVal, flat]
    rw [hcz]
    refine go trivial ?_
    refine ⟨⟨q0, rfl, rfl, rfl, fun b hb => ?_, rfl⟩⟩
    show upd (upd (upd h00 0 _) 1 _) 1 _ b = none
    rw [upd_ne _ _ _ _ (by omega), upd_ne _ _ _ _ (by omega), upd_ne _ _ _ _ (by omega)]
    rfl
  rintro ⟨t2, h2, n2⟩ μ2 a2 w2 ⟨r0, r3, r5, r6, r7, rfl⟩ S2 hx2
  simp only at r0 r3 r5 r6 r7
  show Code.wpIn _ _ _ (Code.seq _ _) _ _ _
  refine wpIn_seq (region_in (hlo2 fun a w hq => hR' w hq) (by decide +kernel) ?_)
  show wpList _ _ _ [_, _, _] _ _
  -- the map
  obtain ⟨bm, hbm⟩ : ∃ bm, bm = w2.heap.size := ⟨_, rfl⟩
  obtain ⟨w3, hw3⟩ : ∃ w3, w3 = w2.alloc (.map #[] 0) := ⟨_, rfl⟩
  have hb3 : Below w2.heap.size w2 w3 := by rw [hw3]; exact (Below.refl _ w2).alloc (Nat.le_refl _) _
  have hs3 : w3.heap.size = w2.heap.size + 1 := by rw [hw3]; simp
  have hm3 : w3.heap[bm]? = some (mapO []) := by rw [hw3, hbm]; exact World.alloc_heap_new w2 _
  refine list_cons rfl (val_wp (y := .map (some bm)) (w' := w3) (by simp only [execOp]; refine run_value ?_; rw [hw3, hbm]; rfl) ?_)
  have H3 := S2.hs.below hb3
  have hsz2 : 10 < a2.tmps.size := by
    have h1 : a2.tmps.size = 44 := S2.nt
    omega
  have S3 : Sim (h2, μ2, w3) ⟨Try.prog, plain, Γ, Δ, Φ, 44⟩ ⟨Try.prog, w0, ok0, X, fv, inv⟩ ⟨upd t2 10 (.mp bm), h2, 2⟩ μ2 (a2.put (some 10) (.map (some bm))) w3 :=
    ⟨H3.1, put_R (fun i => H3.2.R (S2.tm i)) hsz2 (.mp bm), by simp only [Act.put]; rw [Array.size_setIfInBounds]; exact S2.nt, S2.df, Ext.refl _ _ _ _⟩
  have hokb3 : okB ⟨Try.prog, w0, ok0, X, fv, inv⟩ h2 μ2 w3 bm := by
    have hz : w0.heap.size ≤ w2.heap.size := S2.hs.fr.size
    refine ⟨.inr (.inl (by show w0.heap.size ≤ bm; omega)), by omega, fun hl => ?_⟩
    have := (S2.hs.wr_block hl).2
    omega
  have hx3 : (a2.put (some 10) (.map (some bm))).tmps.getD 0 undef = .slice A (es.map encE).length cap := by
    have h1 := hx2 0 rfl
    have h2 := hx1 0 rfl
    rw [show (a2.put (some 10) (.map (some bm))).tmps.getD 0 undef = a2.tmps.getD 0 undef by simp [Act.put], h1, h2, g0]
  refine ops_soundX hE' rfl hΦ _ (fun d => d = 0) (K := fun σ' => σ'.t 0 = .sl (es.map encE) ∧ σ'.t 3 = .ptr 1 0 0 ∧ σ'.t 4 = .ptr 2 0 0 ∧ σ'.h 0 = h2 0 ∧ σ'.h 1 = h2 1 ∧ σ'.h 2 = some ⟨1, [[.mp bm]], true⟩ ∧ (∀ b, 3 ≤ b → σ'.h b = none) ∧ σ'.n = 3) _ (by show ∀ o ∈ _, dstOk 44 o = true; decide +kernel) (by rintro o ho d hd rfl; revert hd; revert ho; revert o; decide +kernel) ?_ S3 ?_
  · have hz42 : szo Try.prog 42 = some 1 := by kernel_rfl
    have ha42 : zro Try.prog 42 = some (.map none) := by kernel_rfl
    refine (show WO ⟨Try.prog, plain, Γ, Δ, Φ, 44⟩ _ [_, _] (fun _ σ' => σ'.t 0 = .sl (es.map encE) ∧ σ'.t 3 = .ptr 1 0 0 ∧ σ'.t 4 = .ptr 2 0 0 ∧ σ'.h 0 = h2 0 ∧ σ'.h 1 = h2 1 ∧ σ'.h 2 = some ⟨1, [[.mp bm]], true⟩ ∧ (∀ b, 3 ≤ b → σ'.h b = none) ∧ σ'.n = 3) ⟨upd t2 10 (.mp bm), h2, 2⟩ from ?_).out
    refine go (And.intro hz42 ha42) ?_
    refine ⟨⟨r0, r3, rfl, rfl, rfl, rfl, fun b hb => ?_, rfl⟩⟩
    show upd (upd h2 2 _) 2 _ b = none
    rw [upd_ne _ _ _ _ (by omega), upd_ne _ _ _ _ (by omega)]
    exact r7 b (by omega)
  rintro ⟨t4, h4, n4⟩ μ4 a4 w4 ⟨q0, q3, q4, e0, e1, e2, e3, rfl⟩ S4 hx4
  simp only at q0 q3 q4 e0 e1 e2 e3
  have hx4 : a4.tmps.getD 0 undef = .slice A (es.map encE).length cap := (hx4 0 rfl).trans hx3
  show Code.wpIn _ _ _ (Code.seq (Code.seq _ _) _) _ _ _
  -- region 3: the iterator
  obtain ⟨w5, hw5⟩ : ∃ w5, w5 = w4.alloc (.cells #[.slice A (es.map encE).length cap] 22 (0, 0)) := ⟨_, rfl⟩
  obtain ⟨k0, hk0⟩ : ∃ k0, k0 = w4.heap.size := ⟨_, rfl⟩
  refine wpIn_seq (wpIn_seq (region_in (hlo2 fun a w hq => hR' w hq) (by decide +kernel) ?_))
  show wpList _ _ _ [_, _] _ _
  refine list_cons rfl (val_wp (y := .slice A (es.map encE).length cap) (w' := w4) (by
    have : a4.eval (.tmp 0) = .slice A (es.map encE).length cap := hx4
    simp [execOp, this, Sem.run, pure]) ?_)
  refine list_cons rfl ?_
  have hs4 : a4.tmps.size = 44 := S4.nt
  have h11 : (a4.put (some 11) (.slice A (es.map encE).length cap)).eval (.tmp 11) = .slice A (es.map encE).length cap := by simp [Act.eval, Act.put, hs4]
  unfold Oper.wp
  rw [run_callv (g := 19) (xs := #[]) rfl rfl rfl (by decide +kernel)]
  simp only [Oper.upon]
  rw [show (#[Operand.tmp 11].map (a4.put (some 11) (.slice A (es.map encE).length cap)).eval ++ #[] : Array Value) = #[.slice A (es.map encE).length cap] by
    rw [List.map_toArray, List.map_cons, h11]; rfl]
  refine (back_run w4 A (es.map encE).length cap).mono ?_
  rintro e w' ⟨rfl, hw'⟩
  rw [← hw5] at hw'
  subst w'
  rw [← hk0]
  show wpList _ _ _ [] _ _
  show Code.wpIn _ _ _ (Code.block _ _) _ _ _
  obtain ⟨a5, ha5⟩ : ∃ a5, a5 = ((a4.put (some 11) (.slice A (es.map encE).length cap)).put (some 12) (.func (.func 32) #[] #[.pointer (some ⟨k0, 0, none⟩)])) := ⟨_, rfl⟩
  show Code.wpIn _ _ _ (Code.block _ _) _ ((a4.put (some 11) (.slice A (es.map encE).length cap)).put (some 12) (.func (.func 32) #[] #[.pointer (some ⟨k0, 0, none⟩)])) _
  rw [← ha5]
  have hs5 : a5.tmps.size = 44 := by rw [ha5]; simp [Act.put, hs4]
  have hd5 : a5.defers = [] := by rw [ha5]; exact S4.df
  have g12 : a5.eval (.tmp 12) = .func (.func 32) #[] #[.pointer (some ⟨k0, 0, none⟩)] := by rw [ha5]; simp [Act.eval, Act.put, hs4]
  have g5 : ∀ j, j < 11 → a5.tmps.getD j undef = a4.tmps.getD j undef := by
    intro j hj
    rw [ha5]
    simp only [Act.put, Array.getD_eq_getD_getElem?, Array.getElem?_setIfInBounds]
    rw [if_neg (by omega), if_neg (by omega)]
  have hb5 : Below w4.heap.size w4 w5 := by rw [hw5]; exact (Below.refl _ w4).alloc (Nat.le_refl _) _
  have hs5w : w5.heap.size = w4.heap.size + 1 := by rw [hw5]; simp
  have hn5 : w5.heap[k0]? = some (.cells #[.slice A (es.map encE).length cap] 22 (0, 0)) := by rw [hw5, hk0]; exact World.alloc_heap_new w4 _
  have H5 := S4.hs.below hb5
  have hw05 : w0.heap.size ≤ w5.heap.size := H5.1.fr.size
  have hw04 : w0.heap.size ≤ w4.heap.size := S4.hs.fr.size
  have hKlt : ∀ k, (ok0 k ∨ k = k0) → k < w5.heap.size := by
    rintro k (hk | rfl)
    · exact Nat.lt_of_lt_of_le (hok0 k hk) hw05
    · omega
  have hbm4 : bm < w4.heap.size := Nat.lt_of_lt_of_le hokb3.2.1 S4.ex.sz
  have hsv : Dp w5 (fun k => ok0 k ∨ k = k0) (.sl (es.map encE)) (.slice A (es.map encE).length cap) :=
    hsd.mono fun k hk => ⟨.inl hk, (hb5.block k (Nat.lt_of_lt_of_le (hok0 k hk) hw04)).trans (S4.hs.fr.block k (hok0 k hk) (hX k))⟩
  have hcell : w5.cell? ⟨k0, 0, none⟩ = some (.slice A (es.map encE).length cap) := by
    unfold World.cell?
    rw [hn5]; rfl
  have hKp : ∀ W, KpB (fun k => ok0 k ∨ k = k0) w5 W → w5.heap.size ≤ W.heap.size := by
    intro W hW
    have := lt_of_heap (hW k0 (.inr rfl)) (by omega)
    omega
  have hbm5 : w5.heap[bm]? = some (mapO []) := by
    rw [hb5.block bm hbm4, (S4.ex.ok bm hokb3).2]
    exact hm3
  have hIxo : ∀ c : Code, OwnFrom w5.heap.size ((fun _ _ _ => False) c : List (El es w5 (fun k => ok0 k ∨ k = k0)) → World → Prop) := fun _ _ _ _ _ h _ _ => h.elim
  refine wpIn_block (wpIn_rangeFunc_ownH (F := Fw none) rfl (by decide) (gf := 32) (lb := #[.pointer (some ⟨k0, 0, none⟩)]) g12 trivial (fun args w => Am.run_enter (by decide +kernel) args)
    (w0 := w5) (Kp := KpB (fun k => ok0 k ∨ k = k0)) (backIt hE.plain 9 es (w := w5) (K := fun k => ok0 k ∨ k = k0) (k0 := k0) (.inr rfl) hKlt hcell hsv (by omega))
    (fun {A B C} h1 h2 k hk => (h2 k hk).trans (h1 k hk)) (fun W l o o' hl _ _ _ k hk => ?hKb) (Below.refl _ _) (fun _ => rfl)
    (InvI ⟨Try.prog, w0, ok0, X, fv, inv⟩ es w5 (fun k => ok0 k ∨ k = k0) bm (a5.tmps.getD 3 undef) (a5.tmps.getD 4 undef)) (fun _ _ _ => False)
    (inv_own hw05 hKlt (by omega)) hIxo ?h0
    (AxL es w5 (fun k => ok0 k ∨ k = k0) bm (a5.tmps.getD 3 undef) (a5.tmps.getD 4 undef)) (ax_own (by omega)) ?assign ?body ?done ?stop)
  case hKb =>
    have : k ≠ l := by have := hKlt k hk; omega
    simp [World.putObj, Array.getElem?_setIfInBounds, Ne.symm this]
  case h0 =>
    refine ⟨h4, 3, μ4, [], H5.1, fun k hk => rfl, (H5.2.ok bm (S4.ex.ok bm hokb3).1).1, ?_, ?_, ?_, ?_, ?_, e2, by omega, by rw [hbm5]; rfl, fun m hm => (by cases hm), List.nodup_nil, List.nodup_nil, fun x _ => rfl, by show (List.replicate _ _).length = _; simp, fun u hu => (by cases hu), Nat.le_refl _, ?_, ?_, ?_⟩
    · rintro k (hk | rfl) hl
      · rcases (S4.hs.wr_block hl).1 with h1 | h1
        · have h1 : w0.heap.size ≤ k := h1
          have := hok0 k hk; omega
        · exact hX k h1
      · have := (S4.hs.wr_block hl).2
        omega
    · have := H5.2.R (S4.tm 3)
      rw [g5 3 (by omega)]
      rw [show (⟨t4, h4, 3⟩ : St).t 3 = .ptr 1 0 0 from q3] at this
      exact this
    · have := H5.2.R (S4.tm 4)
      rw [g5 4 (by omega)]
      rw [show (⟨t4, h4, 3⟩ : St).t 4 = .ptr 2 0 0 from q4] at this
      exact this
    · exact e0.trans r5
    · exact e1.trans r6
    · intro b hb k base size hm
      have hB : ∃ B, h4 b = some B := by
        have : b = 0 ∨ b = 1 ∨ b = 2 := by omega
        rcases this with rfl | rfl | rfl
        · exact ⟨_, e0.trans r5⟩
        · exact ⟨_, e1.trans r6⟩
        · exact ⟨_, e2⟩
      obtain ⟨B, hB⟩ := hB
      exact H5.1.real_lt hB hm
    · intro b B hB
      by_cases hb : b ≤ 2
      · exact .inl hb
      · rw [e3 b (by omega)] at hB; cases hB
    · rintro hN k ⟨b, B, base, size, hB, hwr, hm⟩ o ho
      have hne : B.rows ≠ [] ∧ 0 < B.size := by
        by_cases hb : b ≤ 2
        · have : b = 0 ∨ b = 1 ∨ b = 2 := by omega
          rcases this with rfl | rfl | rfl
          · rw [e0, r5] at hB
            cases hB
            refine ⟨fun e => ?_, Nat.one_pos⟩
            have := congrArg List.length e
            simp at this
            rw [this] at hN
            simp at hN
          · rw [e1, r6] at hB; cases hB; exact ⟨by simp, Nat.one_pos⟩
          · rw [e2] at hB; cases hB; exact ⟨by simp, Nat.one_pos⟩
        · rw [e3 b (by omega)] at hB; cases hB
      exact cells_of_live H5.1 hB hm hne.1 hne.2 ho
  case assign =>
    intro l pre q W Kc hI hK
    have hps : ∀ (t : Array Value), ((#[13, 14] : Array Tmp).zip (#[.int .i64 (q.1.1 : Nat), q.1.2] : Array Value)).foldl (fun t (p, v) => t.setIfInBounds p v) t = (t.setIfInBounds 13 (.int .i64 (q.1.1 : Nat))).setIfInBounds 14 q.1.2 := fun t => by simp
    rw [hps]
    have hgt : ∀ j, j ≠ 13 → j ≠ 14 → ((a5.tmps.setIfInBounds 13 (.int .i64 (q.1.1 : Nat))).setIfInBounds 14 q.1.2).getD j undef = a5.tmps.getD j undef := by
      intro j h1 h2
      simp only [Array.getD_eq_getD_getElem?, Array.getElem?_setIfInBounds]
      rw [if_neg (by omega), if_neg (by omega)]
    exact assign_in (c := ⟨Try.prog, w0, ok0, X, fv, inv⟩) rfl hKlt hw05 (by omega) hKp (r := some l) pre q _ W hI (by simp [hs5]) rfl (hgt 3 (by decide) (by decide)) (hgt 4 (by decide) (by decide)) (by simp [hs5]) (by simp [hs5]) hK
  case body =>
    intro l pre q a' W hl hr hI hA hlen
    exact round_in (c := ⟨Try.prog, w0, ok0, X, fv, inv⟩) hE' hpl g_cf g_und rfl hΦ (by
      rintro k (hk | rfl)
      · exact .inl hk
      · exact .inr (.inl (by show w0.heap.size ≤ k; omega))) hKlt (by
      rintro (hk | hk)
      · have := hok0 bm hk
        have h2 := S2.hs.fr.size
        have h2 : w0.heap.size ≤ w2.heap.size := h2
        omega
      · omega) hw05 (by
      have h2 : w0.heap.size ≤ w2.heap.size := S2.hs.fr.size
      show w0.heap.size ≤ bm
      omega) (by omega) hdp hel (r := some l) pre q a' W hI hA hlen
  case stop =>
    intro D c pre W _ _ h _
    exact h.elim
  case done =>
    rintro D xs W hD hxs ⟨hf, nf, μf, M, I⟩ hKD
    rw [hxs] at I
    obtain ⟨hL, hl2⟩ : ∃ L, L = (runL es (downs es.length es.length)).1 := ⟨_, rfl⟩
    show Code.wpIn _ _ _ (Code.seq _ _) _ _ _
    have hp3 : ∀ i, R ⟨Try.prog, w0, ok0, X, fv, inv⟩ hf μf W ((fun i => if i = 3 then .ptr 1 0 0 else .any) i) (a5.tmps.getD i undef) := by
      intro i
      show R _ _ _ _ (if i = 3 then _ else V.any) _
      split
      · rename_i e; rw [e]; exact I.t3
      · exact .any _
    have hz25 : szo Try.prog 25 = some 1 := by kernel_rfl
    have hb1 := I.b1
    refine wpIn_seq (pure_regionIn (E := ⟨Try.prog, plain, Γ, Δ, Φ, 44⟩) hE.plain (c := ⟨Try.prog, w0, ok0, X, fv, inv⟩) rfl rfl I.hs (nt := 44) (fun t' => t' 2 = .loc 0 0 es.length es.length) (by decide +kernel) hs5 hp3 ?_ ?_)
    · refine pw_cons rfl rfl rfl (sv (And.intro hz25 hb1)) (pw_cons rfl rfl rfl (sv trivial) ?_)
      show upd _ 2 _ 2 = _
      exact sx trivial
    rintro t6 a6 q2 hs6 hd6 hR6
    show Code.wpIn _ _ _ Code.ret _ _ _
    refine wpIn_ret ?_
    have g := grownBy_putObj' W D (.deferred none)
    have hfin := I.hs.grown g (fun r e => by cases e; exact ⟨Nat.le_trans hw05 hD, _, hKD, rfl⟩)
    have h2 := hfin.2 _ _ (hR6 2)
    rw [q2] at h2
    show LeavesInM _ _ _ _ _ _ _ _ _
    rw [show a6.defers = { target := .collected D, args := #[] } :: a5.defers from hd6, hd5]
    refine ⟨by simp, .inl ⟨D, _, rfl, run_takeDeferred hKD, _, results_tmp rfl _ _ _, _, rfl, ?_, ?_⟩⟩
    · have hf := hfin.1.fr
      exact ⟨hf.os, hf.tape, hf.output, hf.size, fun k hk => hf.block k hk (hX k)⟩
    · refine handed_sound hfin.1 h2 (.inr ⟨0, es.length, es.length, _, rfl, I.b0, rfl, rfl, Nat.le_refl _, ?_, ?_, ?_, ?_⟩)
      · show _ ≤ ((runL es _).1.map encBo).length
        rw [List.length_map, I.len]; exact Nat.le_refl _
      · show ((runL es _).1.map encBo).length = _
        rw [List.length_map, I.len]
      · show allO (allO (expo hf 2)) (((runL es _).1.map encBo).take es.length) = some ((runL es _).1.map encBo)
        rw [List.take_of_length_le (by rw [List.length_map, I.len]; exact Nat.le_refl _)]
        refine allO_rows _ _ ?_
        intro r hr v hv
        obtain ⟨b, _, rfl⟩ := List.mem_map.1 hr
        simp at hv
        rw [hv]; rfl
      · intro hm
        obtain ⟨q, hq, hq2⟩ := List.mem_flatMap.1 hm
        have hq := List.mem_of_mem_take hq
        obtain ⟨b, _, rfl⟩ := List.mem_map.1 hq
        simp [touch] at hq2
end Go.Proofs.Ytahgddfnbjpfiaa

set_option linter.unusedVariables false
set_option linter.unusedSimpArgs false
set_option maxRecDepth 100000
set_option maxHeartbeats 16000000
namespace Go.Proofs.Ytahgddfnbjpfiaa
open Go Go.RowKit Am

/-- Rows of one's own that hold plain cells read as data. -/
theorem own_sl {c : Cx} {w : World} {z : Nat} {rows : List (List Am.V)} {x : Value} (h : OwnRes c w z rows x) : Res c w (.sl rows) x := by
  intro fv
  rcases h with ⟨rfl, A, rfl⟩ | ⟨k, base, cap, rfl, h1, h2, h3, h4, h5⟩
  · exact .sl [] 0 0 z A (fun _ _ => Go.undef) rfl (Nat.le_refl _) (fun r hr => by cases hr) (fun h => absurd rfl h) (fun i j hi _ => by omega)
  · have hex : ∀ i j, ∃ y, i < rows.length → j < z → w.cell? ⟨k, base + (i * z + j), none⟩ = some y ∧ Dp w (fun q => AllB c w q ∧ q ≠ k) (cellAt rows i j) y := fun i j => by
      by_cases hi : i < rows.length
      · by_cases hj : j < z
        · obtain ⟨y, y1, _, y2⟩ := h5 i j (by omega) hj
          exact ⟨y, fun _ _ => ⟨y1, y2 hi⟩⟩
        · exact ⟨Go.undef, fun _ h => absurd h hj⟩
      · exact ⟨Go.undef, fun h => absurd h hi⟩
    have hg := fun i j => Classical.choose_spec (hex i j)
    refine .sl rows rows.length cap z _ (fun i j => Classical.choose (hex i j)) rfl h1 h4 (fun _ => ⟨⟨k, base, none⟩, rfl, ⟨h2.elim (fun h => .inr (.inl h)) (fun h => .inr (.inr h)), h3⟩, fun i j hi hj => ?_⟩) (fun i j hi hj => (hg i j hi hj).2.mono fun q hq => ⟨hq.1, rfl⟩)
    rw [add_plain]
    exact (hg i j hi hj).1
def live2S : Fspec := fun _ ds r => ∃ es : List Edt, smL es ∧ ds = [.sl (es.map encE)] ∧ r = .sl ((allL unF es).map encBo)
theorem live2_sound {Γ : FuncId → Option Fspec} (h : Sound Try.prog 11 liveS) : Sound Try.prog 11 live2S := by
  rintro c Φ ds r vals h1 h2 h3 h4 ⟨es, hs, rfl, rfl⟩ ha
  refine (h c Φ _ _ vals h1 h2 h3 h4 ⟨es, hs.1, hs.2, rfl, rfl⟩ ha).mono ?_
  rintro e w' ⟨x, rfl, g1, g2⟩
  rw [liveB_all] at g2
  exact ⟨x, rfl, g1, own_sl g2⟩
theorem live3_sound {plain : TypeId → Bool} {Γ : FuncId → Option Fspec} {Δ : FuncId → Option Pt} (hE : EnvOk ⟨Try.prog, plain, Γ, Δ, fun _ => none, 0⟩) (hpl : plain 29 = true) (g_cf : Γ 20 = some (cfS encE)) (g_und : Γ 21 = some und1S) : Sound Try.prog 11 live2S := live2_sound (Γ := Γ) (live_sound hE hpl g_cf g_und)
def demA : ByteArray := ⟨#[97, 110, 110]⟩
def demI (n : Int) : Idt := ⟨demA, n⟩
def idL0 : Idt := ⟨⟨#[]⟩, 0⟩
def dem1 : Edt := ⟨demI 1, 1, 0, [], 1, idL0, idL0, false, ⟨#[]⟩, ⟨#[]⟩, ⟨#[]⟩, ⟨#[103, 114, 111, 117, 112]⟩, idL0, ⟨#[]⟩⟩
def dem2 : Edt := ⟨demI 2, 2, 0, [demI 1], 4, idL0, idL0, false, ⟨#[]⟩, ⟨#[]⟩, ⟨#[]⟩, ⟨#[]⟩, demI 1, ⟨#[]⟩⟩
def dem3 : Edt := ⟨demI 3, 3, 0, [demI 2], 4, idL0, idL0, false, ⟨#[]⟩, ⟨#[]⟩, ⟨#[]⟩, ⟨#[]⟩, demI 2, ⟨#[]⟩⟩
def ed1S : Fspec := fun _ ds r => ∃ n : Int, ds = [.s (.int .i64 n)] ∧ r = .agg (encId (demI n))
theorem ed1_sound {plain : TypeId → Bool} {Γ : FuncId → Option Fspec} {Δ : FuncId → Option Pt} (hE : EnvOk ⟨Try.prog, plain, Γ, Δ, fun _ => none, 0⟩) : Sound Try.prog 26 ed1S := by
  refine sound_of_awp hE Try.func26 rfl (by kernel_rfl) ?_
  rintro Φ ds r ⟨n, rfl, rfl⟩
  refine ⟨by simp [Try.f26], ?_⟩
  unfold st0 encId demI demA
  refine W.out (E := ⟨Try.prog, plain, Γ, Δ, Φ, _⟩) ?_
  refine go trivial ?_
  refine x_done (x_out (sr @Try.f26.eq_1) (by simp) (by simp) rfl)
def editsS : Fspec := fun _ ds r => ds = [] ∧ r = .sl [encE dem1, encE dem2, encE dem3]
theorem edits_sound {plain : TypeId → Bool} {Γ : FuncId → Option Fspec} {Δ : FuncId → Option Pt} (hE : EnvOk ⟨Try.prog, plain, Γ, Δ, fun _ => none, 0⟩) (g_ed1 : Γ 26 = some ed1S) : Sound Try.prog 16 editsS := by
  refine sound_of_awp hE Try.func16 rfl (by kernel_rfl) ?_
  rintro Φ ds r ⟨rfl, rfl⟩
  refine ⟨by simp [Try.f16], ?_⟩
  unfold st0
  refine W.out (E := ⟨Try.prog, plain, Γ, Δ, Φ, _⟩) ?_
  have ue : ∀ n, encId (demI n) = [.s (.string ⟨#[97, 110, 110]⟩), .s (.int .i64 n)] := fun _ => rfl
  refine go trivial ?_
  refine x_callS rfl rfl rfl rfl (sv trivial) g_ed1 (sv trivial) (se trivial) ⟨1, rfl, rfl⟩ (by simp) (by simp [touchA, touch]) ?_
  refine go ue ?_
  refine x_callS rfl rfl rfl rfl (sv trivial) g_ed1 (sv trivial) (se trivial) ⟨2, rfl, rfl⟩ (by simp) (by simp [touchA, touch]) ?_
  refine go ue ?_
  refine x_callS rfl rfl rfl rfl (sv trivial) g_ed1 (sv trivial) (se trivial) ⟨1, rfl, rfl⟩ (by simp) (by simp [touchA, touch]) ?_
  refine go ue ?_
  refine x_callS rfl rfl rfl rfl (sv trivial) g_ed1 (sv trivial) (se trivial) ⟨1, rfl, rfl⟩ (by simp) (by simp [touchA, touch]) ?_
  refine go ue ?_
  refine x_callS rfl rfl rfl rfl (sv trivial) g_ed1 (sv trivial) (se trivial) ⟨3, rfl, rfl⟩ (by simp) (by simp [touchA, touch]) ?_
  refine go ue ?_
  refine x_callS rfl rfl rfl rfl (sv trivial) g_ed1 (sv trivial) (se trivial) ⟨2, rfl, rfl⟩ (by simp) (by simp [touchA, touch]) ?_
  refine go ue ?_
  refine x_callS rfl rfl rfl rfl (sv trivial) g_ed1 (sv trivial) (se trivial) ⟨2, rfl, rfl⟩ (by simp) (by simp [touchA, touch]) ?_
  refine go ue ?_
  refine x_done ⟨_, (sr @Try.f16.eq_1), ?_⟩
  show expoA _ _ = some _
  rfl
end Go.Proofs.Ytahgddfnbjpfiaa

set_option linter.unusedVariables false
set_option linter.unusedSimpArgs false
set_option maxRecDepth 100000
set_option maxHeartbeats 16000000
namespace Go.Proofs.Ytahgddfnbjpfiaa
open Go Go.RowKit Am

theorem dem_val (n : Int) (h : 1 ≤ n) : Val [demI n] := ⟨fun x hx => by
  simp at hx
  subst hx
  exact ⟨(by decide +kernel : authF demA = true), h⟩, by simp⟩
theorem dem21 : unF dem2 dem1 = true := by
  rw [un_r (dem_val 1 (by decide))]
  simp [rUn, dem1, dem2, demI, idE, hasF, uptoF]
theorem dem32 : unF dem3 dem2 = true := by
  rw [un_r (dem_val 2 (by decide))]
  simp [rUn, dem3, dem2, demI, idE, hasF, uptoF]
theorem dem31 : unF dem3 dem1 = false := by
  simp [unF, dem3, dem1, demI, idE]
theorem dem_all3 : allL unF [dem1, dem2, dem3] = [true, false, true] := by simp [allL, aliveF, dem21, dem32, dem31]
theorem dem_all2 : allL unF [dem1, dem2] = [false, true] := by simp [allL, aliveF, dem21]
def aliveS : Fspec := fun _ ds r => ds = [] ∧ r = .s (.bool true)
theorem alive_sound {plain : TypeId → Bool} {Γ : FuncId → Option Fspec} {Δ : FuncId → Option Pt} (hE : EnvOk ⟨Try.prog, plain, Γ, Δ, fun _ => none, 0⟩) (g_edits : Γ 16 = some editsS) (g_live : Γ 11 = some live2S) : Sound Try.prog 9 aliveS := by
  refine sound_of_awp hE Try.func9 rfl (by kernel_rfl) ?_
  rintro Φ ds r ⟨rfl, rfl⟩
  refine ⟨by simp [Try.f9], ?_⟩
  unfold st0
  refine W.out (E := ⟨Try.prog, plain, Γ, Δ, Φ, _⟩) ?_
  have sm3 : smL [dem1, dem2, dem3] := ⟨by decide, fun u hu => by
    simp at hu
    rcases hu with rfl | rfl | rfl <;> simp [dem1, dem2, dem3]⟩
  have sm2 : smL [dem1, dem2] := ⟨by decide, fun u hu => by
    simp at hu
    rcases hu with rfl | rfl <;> simp [dem1, dem2]⟩
  have r1 : ∀ a b c : Bool, [a, b, c].map encBo = [[.s (.bool a)], [.s (.bool b)], [.s (.bool c)]] := fun _ _ _ => rfl
  have r2 : ∀ a b : Bool, [a, b].map encBo = [[.s (.bool a)], [.s (.bool b)]] := fun _ _ => rfl
  have l1 : ∀ e : Edt, (encE e).length = 18 := fun _ => rfl
  refine go trivial ?_
  refine x_callS rfl rfl rfl rfl (sv trivial) g_edits (sv trivial) (se trivial) ⟨rfl, rfl⟩ (by simp) (by simp [touchA, touch]) ?_
  refine go trivial ?_
  refine x_callS rfl rfl rfl rfl (sv trivial) g_live (sv trivial) (se trivial) ⟨[dem1, dem2, dem3], sm3, rfl, rfl⟩ (by simp) (by simp [touchA, touch]) ?_
  rw [dem_all3, r1]
  refine go trivial ?_
  refine x_callS rfl rfl rfl rfl (sv trivial) g_edits (sv trivial) (se trivial) ⟨rfl, rfl⟩ (by simp) (by simp [touchA, touch]) ?_
  refine go l1 ?_
  refine x_callS rfl rfl rfl rfl (sv trivial) g_live (sv trivial) (se trivial) ⟨[dem1, dem2], sm2, rfl, rfl⟩ (by simp) (by simp [touchA, touch]) ?_
  rw [dem_all2, r2]
  have z3 : (((0 + 1 + 1 + 1 : Nat) : Int) == 3) = true := rfl
  have z2 : (((0 + 1 + 1 : Nat) : Int) == 2) = true := rfl
  have y3 : (((3 : Nat) : Int) == 3) = true := rfl
  have y2 : (((2 : Nat) : Int) == 2) = true := rfl
  refine go (And.intro z3 (And.intro z2 (And.intro y3 y2))) ?_
  trace_state
  refine x_done (x_out (sr @Try.f9.eq_1) (by simp) (by simp) rfl)
end Go.Proofs.Ytahgddfnbjpfiaa

/- What an argument of a law reads as, as a value of the abstract machine; what a law's statement asks for behind its contract. -/
set_option linter.unusedVariables false
set_option linter.unusedSimpArgs false
namespace Go.Proofs.Ytahgddfnbjpfiaa.Am
open Go Go.RowKit Go.ChangeShapes Go.WideShapes

/-- A measure of readings. -/
structure Bulk where
  bk : {H : Type} → DataW H → Nat
  bks : {H : Type} → List (DataW H) → Nat
  str : ∀ {H : Type} (b : List UInt8), bk (.lit (.string b) : DataW H) = b.length + 1
  sl : ∀ {H : Type} (e s : List (DataW H)), bk (.slice e s) = bks e + bks s + 1
  agg : ∀ {H : Type} (e : List (DataW H)), bk (.agg e) = bks e + 1
  pos : ∀ {H : Type} (d : DataW H), 1 ≤ bk d
  nil : ∀ {H : Type}, bks ([] : List (DataW H)) = 0
  cons : ∀ {H : Type} (d : DataW H) (r : List (DataW H)), bks (d :: r) = bk d + bks r
theorem Bulk.len (B : Bulk) {H : Type} : ∀ l : List (DataW H), l.length ≤ B.bks l
  | [] => by simp
  | d :: r => by have := B.len r; have := B.pos d; rw [B.cons]; simp; omega
theorem Bulk.mem (B : Bulk) {H : Type} : ∀ (l : List (DataW H)) (d : DataW H), d ∈ l → B.bk d ≤ B.bks l
  | [], d, h => by cases h
  | e :: r, d, h => by
    rw [B.cons]
    rcases List.mem_cons.1 h with rfl | h
    · omega
    · have := B.mem r d h; omega

def okAll (w : World) (k : Nat) : Prop := k < w.heap.size
/-- A type whose readings are values a, laid out by enc; bd: what their measure bounds. -/
def Opn {α : Type} (B : Bulk) (P : Program) (t : TypeId) (enc : α → List V) (bd : α → Nat → Prop) : Prop :=
  (∀ a m m', m ≤ m' → bd a m → bd a m') ∧
  ∀ {H : Type} (en : TypeId × Value → H) (w : World) (base fuel : Nat) (cs : List Value) (x : DataW H × List MemPlace), DataW.trod en P w base (fun _ => true) true fuel t cs = some x →
    ∃ a : α, (enc a).length = cs.length ∧ (∀ j, j < cs.length → Dp w (okAll w) ((enc a).getD j .undef) (cs.getD j Go.undef)) ∧ bd a (B.bk x.1)
section
variable {B : Bulk} {P : Program} {t : TypeId} {α β : Type}
theorem one_cell {w : World} {v : V} {x : Value} (h : Dp w (okAll w) v x) : ∀ j, j < [x].length → Dp w (okAll w) ([v].getD j .undef) ([x].getD j Go.undef) := by
  intro j hj
  have : j = 0 := by simpa using hj
  subst this
  exact h
def encInt (k : IntKind) (n : Int) : List V := [.s (.int k n)]
def bdInt (k : IntKind) (n : Int) (_ : Nat) : Prop := (Lit.int k n).wf = true
theorem Opn.int {k : IntKind} (ht : P.underlying t = some (.int k)) : Opn B P t (encInt k) (bdInt k) := by
  refine ⟨fun _ _ _ _ h => h, fun en w base fuel cs x h => ?_⟩
  obtain ⟨n, rfl, rfl, hw⟩ := DataW.trod_int ht h
  exact ⟨n, rfl, one_cell (.s _ rfl), hw⟩
def encStr (s : ByteArray) : List V := [.s (.string s)]
def bdStr (s : ByteArray) (m : Nat) : Prop := s.size < m
theorem Opn.str (ht : P.underlying t = some .string) : Opn B P t encStr bdStr := by
  refine ⟨fun _ _ _ hm h => Nat.lt_of_lt_of_le h hm, fun en w base fuel cs x h => ?_⟩
  obtain ⟨s, rfl, rfl, hw⟩ := DataW.trod_string ht h
  refine ⟨s, rfl, one_cell (.s _ rfl), ?_⟩
  show s.size < B.bk (.lit (.string s.data.toList))
  rw [B.str, Array.length_toList]
  exact Nat.lt_succ_self _
def encBool (b : Bool) : List V := [.s (.bool b)]
def bdBool (_ : Bool) (_ : Nat) : Prop := True
theorem Opn.bool (ht : P.underlying t = some .bool) : Opn B P t encBool bdBool := by
  refine ⟨fun _ _ _ _ h => h, fun en w base fuel cs x h => ?_⟩
  obtain ⟨b, rfl, rfl⟩ := DataW.trod_bool ht h
  exact ⟨b, rfl, one_cell (.s _ rfl), trivial⟩
def encSl (enc : α → List V) (l : List α) : List V := [.sl (l.map enc)]
def bdSl (bd : α → Nat → Prop) (l : List α) (m : Nat) : Prop := l.length < m ∧ ∀ a ∈ l, bd a m
theorem Opn.slice {e z : Nat} {enc : α → List V} {bd : α → Nat → Prop} [Inhabited α] (ht : P.underlying t = some (.slice e)) (hc : P.cellsOf e = z) (hz : 0 < z) (hl : ∀ a, (enc a).length = z) (ho : Opn B P e enc bd) : Opn B P t (encSl enc) (bdSl bd) := by
  refine ⟨fun l m m' hm h => ⟨Nat.lt_of_lt_of_le h.1 hm, fun a ha => ho.1 a m m' hm (h.2 a ha)⟩, fun en w base fuel cs x h => ?_⟩
  rcases Go.Deep.open_slice ht h with ⟨rfl, rfl⟩ | ⟨a, len, cap, m, n, D, Pl, rfl, hb, hlc, hm, hmm, rfl, hel⟩
  · exact ⟨[], rfl, one_cell (Dp.nil _ _), B.pos _, by simp⟩
  · simp only [if_true] at hmm
    obtain rfl : cap = m := hmm.symm
    have hex : ∀ i, i < len → ∃ q : List Value × α, w.cells? base (a.add (i * z)) z = some q.1 ∧ (enc q.2).length = q.1.length ∧ (∀ j, j < q.1.length → Dp w (okAll w) ((enc q.2).getD j .undef) (q.1.getD j Go.undef)) ∧ bd q.2 (B.bk (D i)) := by
      intro i hi
      obtain ⟨cs', h1, h2⟩ := hel i (by omega)
      rw [hc] at h1
      obtain ⟨b, h3, h4, h5⟩ := ho.2 en w base n cs' _ h2
      exact ⟨(cs', b), h1, h3, h4, h5⟩
    obtain ⟨f, hf⟩ := Go.Deep.choose_lt (α := List Value × α) hex
    have hlen : ∀ i, i < len → (f i).1.length = z := fun i hi => by have := (hf i hi).2.1; rw [hl] at this; exact this.symm
    have hcell : ∀ i j, i < len → j < z → w.cell? (a.add (i * z + j)) = some ((f i).1.getD j Go.undef) := by
      intro i j hi hj
      obtain ⟨_, g1, g2⟩ := World.cells?_some (hf i hi).1
      have := g2 j hj
      rw [Go.Deep.add_add] at this
      rw [this]
      have hj' : j < (f i).1.length := by rw [hlen i hi]; exact hj
      simp [hj']
    refine ⟨(List.range len).map fun i => (f i).2, rfl, one_cell ?_, ?_⟩
    · refine .sl _ len cap z (some a) (fun i j => (f i).1.getD j Go.undef) (by simp) hlc ?_ ?_ ?_
      · intro r hr
        simp only [List.mem_map] at hr
        obtain ⟨q, _, rfl⟩ := hr
        exact hl q
      · intro hn
        refine ⟨a, rfl, ?_, hcell⟩
        have := hcell 0 0 (by omega) hz
        have := World.block_lt_of_cell? w _ this
        rwa [add_block] at this
      · intro i j hi hj
        have h1 : (((List.range len).map fun i => (f i).2).map enc).getD i [] = enc (f i).2 := by simp [List.getD_eq_getElem?_getD, hi]
        rw [h1]
        exact (hf i hi).2.2.1 j (by rw [hlen i hi]; exact hj)
    · have hbk : ∀ i, i < len → B.bk (D i) ≤ B.bk (.slice ((List.range len).map D) ((List.range (cap - len)).map fun j => D (len + j))) := by
        intro i hi
        rw [B.sl]
        have := B.mem ((List.range len).map D) (D i) (List.mem_map.2 ⟨i, List.mem_range.2 hi, rfl⟩)
        omega
      refine ⟨?_, fun b hb => ?_⟩
      · have := B.len ((List.range len).map D)
        show _ < B.bk (.slice ((List.range len).map D) _)
        rw [B.sl]
        simp at this ⊢
        omega
      · simp only [List.mem_map, List.mem_range] at hb
        obtain ⟨i, hi, rfl⟩ := hb
        exact ho.1 _ _ _ (hbk i hi) (hf i hi).2.2.2
/-- Fields from a place on. -/
def OpnF {α : Type} (B : Bulk) (P : Program) (fs : List Field) (off tot : Nat) (enc : α → List V) (bd : α → Nat → Prop) : Prop :=
  (∀ a m m', m ≤ m' → bd a m → bd a m') ∧
  ∀ {H : Type} (en : TypeId × Value → H) (w : World) (base n : Nat) (cs : List Value) (xs : List (DataW H × List MemPlace)), cs.length = tot → xs.length = fs.length →
    (∀ (i : Nat) (f : Field), fs[i]? = some f → DataW.trod en P w base (fun _ => true) true n f.type ((cs.drop f.offset).take (P.cellsOf f.type)) = xs[i]?) →
    ∃ a : α, off + (enc a).length = tot ∧ (∀ j, j < (enc a).length → Dp w (okAll w) ((enc a).getD j .undef) (cs.getD (off + j) Go.undef)) ∧ bd a (B.bks (xs.map (·.1)))
theorem OpnF.nil {off : Nat} : OpnF B P [] off off (fun _ : Unit => []) (fun _ _ => True) :=
  ⟨fun _ _ _ _ h => h, fun en w base n cs xs _ _ _ => ⟨(), by simp, by simp, trivial⟩⟩
theorem OpnF.cons {f : Field} {fs : List Field} {off tot z : Nat} {enc : α → List V} {bd : α → Nat → Prop} {enc2 : β → List V} {bd2 : β → Nat → Prop} (hoff : f.offset = off) (hz : P.cellsOf f.type = z) (hl : ∀ a, (enc a).length = z)
    (h1 : Opn B P f.type enc bd) (h2 : OpnF B P fs (off + z) tot enc2 bd2) : OpnF B P (f :: fs) off tot (fun p : α × β => enc p.1 ++ enc2 p.2) (fun p m => bd p.1 m ∧ bd2 p.2 m) := by
  refine ⟨fun a m m' hm h => ⟨h1.1 _ _ _ hm h.1, h2.1 _ _ _ hm h.2⟩, fun en w base n cs xs hcs hxs hel => ?_⟩
  cases xs with
  | nil => simp at hxs
  | cons x xs =>
    have e0 := hel 0 f rfl
    simp only [List.getElem?_cons_zero] at e0
    rw [hoff, hz] at e0
    obtain ⟨a, a1, a2, a3⟩ := h1.2 en w base n _ _ e0
    obtain ⟨b, b1, b2, b3⟩ := h2.2 en w base n cs xs hcs (by simpa using hxs) (fun i g hg => by
      have := hel (i + 1) g (by simpa using hg)
      simpa using this)
    have hlen : z = min z (cs.length - off) := by rw [hl] at a1; simpa using a1
    refine ⟨(a, b), by simp [hl]; omega, fun j hj => ?_, ?_⟩
    · by_cases hjz : j < z
      · have g1 : (enc a ++ enc2 b).getD j .undef = (enc a).getD j .undef := by simp [List.getD_eq_getElem?_getD, List.getElem?_append_left (show j < (enc a).length by rw [hl]; exact hjz)]
        have g2 := a2 j (by simp; omega)
        have g3 : ((cs.drop off).take z).getD j Go.undef = cs.getD (off + j) Go.undef := by simp [List.getD_eq_getElem?_getD, List.getElem?_take, hjz]
        rw [g3] at g2
        show Dp w (okAll w) ((enc a ++ enc2 b).getD j .undef) _
        rw [g1]; exact g2
      · have hj' : j - z < (enc2 b).length := by simp [hl] at hj; omega
        have g1 : (enc a ++ enc2 b).getD j .undef = (enc2 b).getD (j - z) .undef := by simp [List.getD_eq_getElem?_getD, List.getElem?_append_right (show (enc a).length ≤ j by rw [hl]; omega), hl]
        have g2 := b2 (j - z) hj'
        rw [show off + z + (j - z) = off + j by omega] at g2
        show Dp w (okAll w) ((enc a ++ enc2 b).getD j .undef) _
        rw [g1]; exact g2
    · simp only [List.map_cons, B.cons]
      exact ⟨h1.1 _ _ _ (by omega) a3, h2.1 _ _ _ (by omega) b3⟩
theorem Opn.struct {fs : Array Field} {enc : α → List V} {bd : α → Nat → Prop} (ht : P.underlying t = some (.struct fs)) (h : OpnF B P fs.toList 0 (P.cellsOf t) enc bd) : Opn B P t enc bd := by
  refine ⟨h.1, fun en w base fuel cs x hx => ?_⟩
  obtain ⟨xs, n, rfl, rfl, hlen, hxs, hel⟩ := DataW.trod_struct ht hx
  obtain ⟨a, a1, a2, a3⟩ := h.2 en w base n cs xs hlen (by simpa using hxs) (fun i f hf => hel i f (by simpa using hf))
  refine ⟨a, by omega, fun j hj => ?_, ?_⟩
  · have := a2 j (by omega)
    simpa using this
  · show bd a (B.bk (.agg (xs.map (·.1))))
    rw [B.agg]
    exact h.1 _ _ _ (by omega) a3
theorem Opn.map {enc : α → List V} {bd : α → Nat → Prop} {enc2 : β → List V} {bd2 : β → Nat → Prop} (f : α → β) (h : Opn B P t enc bd) (he : ∀ a, enc2 (f a) = enc a) (hb : ∀ a m, bd a m → bd2 (f a) m) (hm : ∀ b m m', m ≤ m' → bd2 b m → bd2 b m') : Opn B P t enc2 bd2 := by
  refine ⟨hm, fun en w base fuel cs x hx => ?_⟩
  obtain ⟨a, a1, a2, a3⟩ := h.2 en w base fuel cs x hx
  exact ⟨f a, by rw [he]; exact a1, by rw [he]; exact a2, hb _ _ a3⟩

/-- One argument. -/
theorem Opn.one {H : Type} {en : TypeId × Value → H} {w : World} {base : Nat} {d : DataW H} {ps : List MemPlace} {fv : Nat → Value} {v : Value} {enc : α → List V} {bd : α → Nat → Prop} (h : Opn B P t enc bd) (hl : ∀ a, (enc a).length = 1) (hv : v.cells = #[v])
    (ht : DataW.Trod en P w base (fun _ => true) true t v d ps) : ∃ a, Rp fv w (okAll w) noMu ((enc a).getD 0 .undef) v ∧ bd a (B.bk d) := by
  obtain ⟨fuel, ht⟩ := ht
  rw [hv] at ht
  obtain ⟨a, a1, a2, a3⟩ := h.2 en w base fuel _ _ ht
  exact ⟨a, (a2 0 (by simp)).R, a3⟩
theorem Opn.arg {H : Type} {en : TypeId × Value → H} {w : World} {base : Nat} {d : DataW H} {ps : List MemPlace} {fv : Nat → Value} {v : Value} {cs : Array Value} {enc : α → List V} {bd : α → Nat → Prop} (h : Opn B P t enc bd) (hv : v = .agg cs)
    (ht : DataW.Trod en P w base (fun _ => true) true t v d ps) : ∃ a, Rp fv w (okAll w) noMu (.agg (enc a)) v ∧ bd a (B.bk d) := by
  obtain ⟨fuel, ht⟩ := ht
  subst hv
  obtain ⟨a, a1, a2, a3⟩ := h.2 en w base fuel _ _ ht
  refine ⟨a, .agg _ _ (by rw [a1]; simp [Value.cells]) fun i hi => ?_, a3⟩
  have hi' : i < cs.size := by rw [a1] at hi; simpa [Value.cells] using hi
  have := (a2 i (by rw [a1] at hi; exact hi)).R (fvals := fv) (μ := noMu)
  simpa [Value.cells] using this
theorem okWide_agg {w : World} {r : Go.Reach} {b0 : Nat} {fs : Array Field} {v : Value} (ht : P.underlying t = some (.struct fs)) (h : Value.okWide P w r b0 t v) : ∃ cs, v = .agg cs := by
  unfold Value.okWide at h
  rw [ht] at h
  obtain ⟨cs, rfl, _⟩ := h
  exact ⟨cs, rfl⟩
theorem okWide_one {w : World} {r : Go.Reach} {b0 : Nat} {v : Value} (ht : (∃ k, P.underlying t = some (.int k)) ∨ P.underlying t = some .string ∨ P.underlying t = some .bool ∨ ∃ e, P.underlying t = some (.slice e)) (h : Value.okWide P w r b0 t v) : v.cells = #[v] := by
  unfold Value.okWide at h
  rcases ht with ⟨k, ht⟩ | ht | ht | ⟨e, ht⟩ <;> (rw [ht] at h; simp only [Cell.okWide, ht, Cell.ok] at h; cases v <;> simp_all [Value.cells])
end

section
variable {H : Type} {en : TypeId × Value → H} {P : Program} {W W' : World}
theorem trodAll_below (hl : laidOutB P = true) (hb : Below W.heap.size W W') : ∀ {ts : List TypeId} {vs : List Value} {ds : List (DataW H)} {ps : List MemPlace}, (∀ t ∈ ts, P.readableRec t = true ∧ t < P.types.size) →
    DataW.TrodAll en P W 0 (fun _ => true) true ts vs ds ps → DataW.TrodAll en P W' 0 (fun b => decide (b < W.heap.size)) true ts vs ds ps
  | [], vs, ds, ps, _, h => by
    obtain ⟨rfl, rfl, rfl⟩ := trodAll_nil h
    exact trodAll_mk0
  | t :: ts, vs, ds, ps, ht, h => by
    obtain ⟨v, vs1, d, ds1, a, b, rfl, rfl, rfl, h1, h2⟩ := trodAll_cons h
    have g := ht t (by simp)
    exact trodAll_cons_mk (Below.trod hl g.1 g.2 h1 hb (by obtain ⟨m, hm⟩ := h1; exact DataW.trod_lt m _ _ _ hm)) (trodAll_below hl hb (fun t' ht' => ht t' (by simp [ht'])) h2)
/-- What a law's statement asks for behind the call: it returned true and turned nothing that was there. -/
theorem row_post {fn : Func} {s : ChangeSpec} {args : Array Value} {ds gs : List (DataW H)} {before : List MemPlace} {tb : TypeId} (hl : laidOutB P = true) (hts : ∀ t ∈ fn.params.toList, P.readableRec t = true ∧ t < P.types.size)
    (hW : DataW.Whole en P fn.params.toList s.vars false W args.toList ds gs before) (hv : s.vars = []) (hb : Below W.heap.size W W') (hr : fn.resultTypes = #[tb]) (htb : P.underlying tb = some .bool)
    (hs : s.fn H (ds ++ gs) = { results := [.lit (.bool true)], args := ds }) : s.post en P fn false true false false W args (.bool true) W' := by
  have hW' := hW
  obtain ⟨p, q, hA, hV, rfl, hfz, hnd⟩ := hW
  rw [hv] at hV
  obtain ⟨rfl, rfl⟩ := trodVars_none hV
  refine ⟨ds, [], _, [], p, [], hW', ?_, ?_, ?_, hb.frame _, fun h => by cases h⟩
  · rw [hr, hs]
    exact trodAll_mk1 (shut_bool htb _)
  · rw [hs]
    exact trodAll_below hl hb hts hA
  · rw [hs, hv]
    rfl
theorem Sound.row {f : FuncId} {fn : Func} {s : ChangeSpec} {args : Array Value} {ds gs : List (DataW H)} {before : List MemPlace} {tb : TypeId} {F : Fspec} {vs : List V} (hS : Sound P f F) (hl : laidOutB P = true) (hI : ∀ w1, Fr W w1 (fun _ => False) → WInv P w1) (hts : ∀ t ∈ fn.params.toList, P.readableRec t = true ∧ t < P.types.size)
    (hW : DataW.Whole en P fn.params.toList s.vars false W args.toList ds gs before) (hv : s.vars = []) (hr : fn.resultTypes = #[tb]) (htb : P.underlying tb = some .bool)
    (hs : s.fn H (ds ++ gs) = { results := [.lit (.bool true)], args := ds }) (ha : ArgsR (fun _ => Go.undef) W (okAll W) vs args) (hF : F (fun _ => none) vs (.s (.bool true))) :
    Calls P f args W fun e W' => ∃ v, e = .returned v ∧ s.post en P fn false true false false W args v W' := by
  refine (hS ⟨P, W, okAll W, fun _ => False, fun _ => Go.undef, hI⟩ (fun _ => none) vs (.s (.bool true)) args rfl (fun _ h => h) (fun _ h => h) (fun k S h => by cases h) hF ha).mono ?_
  rintro e W' ⟨x, rfl, hb, hR⟩
  have := (hR fun _ => Go.undef).s_eq.1
  subst this
  exact ⟨_, rfl, row_post hl hts hW hv hb hr htb hs⟩
end
end Go.Proofs.Ytahgddfnbjpfiaa.Am

/- slices.overlaps at two blocks of the call's own: it answers no. -/
set_option linter.unusedVariables false
set_option linter.unusedSimpArgs false
namespace Go.Proofs.Ytahgddfnbjpfiaa.Am
open Go Go.RowKit

def overT (z : Nat) : Pt := fun _ args σ K => ∃ (b off len cap b2 off2 len2 cap2 : Nat) (B B2 : Blk), args = [.loc b off len cap, .loc b2 off2 len2 cap2] ∧ b ≠ b2 ∧ σ.h b = some B ∧ σ.h b2 = some B2 ∧ B.wr = true ∧ B.size = z ∧ B2.size = z ∧ off < B.rows.length ∧ off2 < B2.rows.length ∧ 0 < len ∧ 0 < len2 ∧ K (.s (.bool false)) σ
theorem shape_of_cell {w : World} {k o : Nat} {x : Value} (h : w.cell? ⟨k, o, none⟩ = some x) : ∃ t n, w.shape? k = some (t, n) ∧ n ≠ 0 := by
  unfold World.cell? at h
  unfold World.shape?
  simp only at h
  split at h
  · rename_i cs t fr hh
    refine ⟨t, cs.size, by simp [hh], fun e => ?_⟩
    have : cs = #[] := Array.eq_empty_of_size_eq_zero e
    subst this
    simp at h
  · cases h
theorem overT_sound {P : Program} {f : FuncId} {fn : Func} {tS tR e : TypeId} {z : Nat} (hf : P.funcs[f]? = some fn) (hname : (fn.name == "runtime.NumGoroutine") = false)
    (hb : fn.body.isNone = true) (hn : Extern.findNext fn = none) (he : Extern.find fn = some (Extern.SlicesOverlaps.overlaps #[tS, tS] #[tR])) (ht : P.underlying tS = some (.slice e)) (hz : szo P e = some z) (h0 : 0 < z) (h1 : z ≠ 1) : SoundT P f (overT z) := by
  rintro c Φ h n μ w args vals t K hc hΦ H hl ha ⟨b, off, len, cap, b2, off2, len2, cap2, B, B2, rfl, hne, hB, hB2, hw, hs, hs2, ho, ho2, hlen, hlen2, hK⟩
  have g0 := ha 0 (by simp)
  have g1 := ha 1 (by simp)
  have r0 : R c h μ w (.loc b off len cap) (vals.getD 0 Go.undef) := g0
  have r1 : R c h μ w (.loc b2 off2 len2 cap2) (vals.getD 1 Go.undef) := g1
  obtain ⟨_, ⟨k, base, size, m1, e1⟩ | ⟨q0, _⟩⟩ := r0.loc_inv
  case inr => omega
  obtain ⟨_, ⟨k2, base2, size2, m2, e2⟩ | ⟨q0, _⟩⟩ := r1.loc_inv
  case inr => omega
  have hv : vals = #[vals.getD 0 Go.undef, vals.getD 1 Go.undef] := by
    apply Array.ext
    · simpa using hl
    · intro i g1 g2
      have g3 : i < 2 := by simpa using g2
      have : i = 0 ∨ i = 1 := by omega
      rcases this with rfl | rfl <;> simp [g1]
  rw [e1, e2] at hv
  obtain ⟨a1, x1, c1, f1, _⟩ := H.at hB m1 ho (show 0 < B.size by omega)
  obtain ⟨a2, x2, c2, f2, _⟩ := H.at hB2 m2 ho2 (show 0 < B2.size by omega)
  have hk : k ≠ k2 := fun e => by
    subst e
    exact hne (H.inj b b2 B B2 k base size base2 size2 hB hB2 hw m1 m2)
  obtain ⟨tA, nA, s1, n1⟩ := shape_of_cell c1
  obtain ⟨tB, nB, s2, n2⟩ := shape_of_cell c2
  subst hv
  refine .inr ⟨.bool false, w, ?_, _, h, n, μ, hK, H, Ext.refl _ _ _ _, .s _ rfl⟩
  rw [run_callFunc_extern hf hname hb hn he, Lib.run_overlaps_apart w tS tR e ht z (fun w => run_size hz) ⟨k, base + off * size, none⟩ ⟨k2, base2 + off2 * size2, none⟩ len cap len2 cap2 hk tA tB nA nB s1 s2 n2 (f1 _ (.inl (by omega))) (f1 _ (.inl (by omega)))]
  rfl
end Go.Proofs.Ytahgddfnbjpfiaa.Am

set_option linter.unusedVariables false
set_option linter.unusedSimpArgs false
set_option maxRecDepth 100000
namespace Go.Proofs.Ytahgddfnbjpfiaa
open Go Go.RowKit Am

theorem eqf_cons {P : Program} {d : Nat} {xs ys : Array Value} {f : Field} {fs : List Field} {a b : Value} {r s : Bool} {w : World} (hn : (f.name == "_") = false) (ha : (part f.type xs f.offset).run P w = .ok a w) (hb : (part f.type ys f.offset).run P w = .ok b w) (he : (Op.equalIn d f.type a b).run P w = .ok r w)
    (hr : (Op.eqFields d xs ys fs).run P w = .ok s w) : (Op.eqFields d xs ys (f :: fs)).run P w = .ok (r && s) w := by
  have hn' : f.name ≠ "_" := by simpa using hn
  rw [Op.eqFields]
  simp only [if_pos hn', Sem.run_bind, ha, hb, he, Result.andThen_ok]
  cases r
  · simp
  · simpa using hr
theorem eqf_nil {P : Program} {d : Nat} {xs ys : Array Value} {w : World} : (Op.eqFields d xs ys []).run P w = .ok true w := by simp [Op.eqFields]
theorem eq_str {P : Program} {d T : Nat} {a b : ByteArray} {w : World} (hu : P.underlying T = some .string) : (Op.equalIn (d + 1) T (.string a) (.string b)).run P w = .ok (a.toList == b.toList) w := by
  rw [← beq_toListBytes]
  simp [Op.equalIn, run_under hu, Sem.run, pure]
theorem eq_int {P : Program} {d T : Nat} {k : IntKind} {a b : Int} {w : World} (hu : P.underlying T = some (.int k)) : (Op.equalIn (d + 1) T (.int k a) (.int k b)).run P w = .ok (a == b) w := by
  simp [Op.equalIn, run_under hu, Sem.run, pure]
theorem agS : aggo Try.prog 9 = some false := by kernel_rfl
theorem agI : aggo Try.prog 3 = some false := by kernel_rfl
theorem agD : aggo Try.prog 29 = some true := by kernel_rfl
theorem szD : szo Try.prog 29 = some 2 := by kernel_rfl
theorem unS : Program.underlying Try.prog 9 = some .string := by kernel_rfl
theorem unI : Program.underlying Try.prog 3 = some (.int .i64) := by kernel_rfl
theorem p0 {P : Program} {T : Nat} {x : Value} {xs : Array Value} {o : Nat} {w : World} (hg : aggo P T = some false) (ho : xs[o]? = some x) : (part T xs o).run P w = .ok x w := by
  obtain ⟨h1, h2⟩ := Array.getElem?_eq_some_iff.1 ho
  rw [run_part_one hg h1]
  simp [h1, h2]
theorem idFields {P : Program} (h9 : aggo P 9 = some false) (h3 : aggo P 3 = some false) (u9 : P.underlying 9 = some .string) (u3 : P.underlying 3 = some (.int .i64)) (f0 f1 : Field) (n0 : (f0.name == "_") = false) (n1 : (f1.name == "_") = false) (t0 : f0.type = 9) (t1 : f1.type = 3) (o0 : f0.offset = 0) (o1 : f1.offset = 1) (d : Nat) (a b : ByteArray) (m n : Int) (w : World) :
    (Op.eqFields (d + 1) #[.string a, .int .i64 m] #[.string b, .int .i64 n] [f0, f1]).run P w = .ok ((a.toList == b.toList) && ((m == n) && true)) w := by
  refine eqf_cons (a := .string a) (b := .string b) n0 (by rw [t0, o0]; exact p0 h9 rfl) (by rw [t0, o0]; exact p0 h9 rfl) (by rw [t0]; exact eq_str u9) ?_
  refine eqf_cons (a := .int .i64 m) (b := .int .i64 n) n1 (by rw [t1, o1]; exact p0 h3 rfl) (by rw [t1, o1]; exact p0 h3 rfl) (by rw [t1]; exact eq_int u3) ?_
  exact eqf_nil
theorem eqId_run (d : Nat) (a b : ByteArray) (m n : Int) (w : World) : (Op.equalIn (d + 2) 29 (.agg #[.string a, .int .i64 m]) (.agg #[.string b, .int .i64 n])).run Try.prog w = .ok ((a.toList == b.toList) && ((m == n) && true)) w := by
  have hu := Try.underlying29
  rw [run_equalIn_struct (P := Try.prog) (w := w) (d + 1) 29 _ _ (by kernel_rfl) (by kernel_rfl)]
  simp only [Program.fieldsOf, hu]
  exact idFields agS agI unS unI _ _ rfl rfl rfl rfl rfl rfl d a b m n w
theorem eq_bool {P : Program} {d T : Nat} {a b : Bool} {w : World} (hu : P.underlying T = some .bool) : (Op.equalIn (d + 1) T (.bool a) (.bool b)).run P w = .ok (a == b) w := by
  simp [Op.equalIn, run_under hu, Sem.run, pure]
theorem agB : aggo Try.prog 4 = some false := by kernel_rfl
theorem unB : Program.underlying Try.prog 4 = some .bool := by kernel_rfl
theorem ratFields {P : Program} (h4 : aggo P 4 = some false) (h9 : aggo P 9 = some false) (u4 : P.underlying 4 = some .bool) (u9 : P.underlying 9 = some .string) (f0 f1 f2 : Field) (n0 : (f0.name == "_") = false) (n1 : (f1.name == "_") = false) (n2 : (f2.name == "_") = false) (t0 : f0.type = 4) (t1 : f1.type = 9) (t2 : f2.type = 9) (o0 : f0.offset = 0) (o1 : f1.offset = 1) (o2 : f2.offset = 2) (d : Nat) (p q : Bool) (a b x y : ByteArray) (w : World) :
    (Op.eqFields (d + 1) #[.bool p, .string a, .string x] #[.bool q, .string b, .string y] [f0, f1, f2]).run P w = .ok ((p == q) && ((a.toList == b.toList) && ((x.toList == y.toList) && true))) w := by
  refine eqf_cons (a := .bool p) (b := .bool q) n0 (by rw [t0, o0]; exact p0 h4 rfl) (by rw [t0, o0]; exact p0 h4 rfl) (by rw [t0]; exact eq_bool u4) ?_
  refine eqf_cons (a := .string a) (b := .string b) n1 (by rw [t1, o1]; exact p0 h9 rfl) (by rw [t1, o1]; exact p0 h9 rfl) (by rw [t1]; exact eq_str u9) ?_
  refine eqf_cons (a := .string x) (b := .string y) n2 (by rw [t2, o2]; exact p0 h9 rfl) (by rw [t2, o2]; exact p0 h9 rfl) (by rw [t2]; exact eq_str u9) ?_
  exact eqf_nil
theorem eqRat_run (d : Nat) (p q : Bool) (a b x y : ByteArray) (w : World) : (Op.equalIn (d + 2) 32 (.agg #[.bool p, .string a, .string x]) (.agg #[.bool q, .string b, .string y])).run Try.prog w = .ok ((p == q) && ((a.toList == b.toList) && ((x.toList == y.toList) && true))) w := by
  have hu := Try.underlying32
  rw [run_equalIn_struct (P := Try.prog) (w := w) (d + 1) 32 _ _ (by kernel_rfl) (by kernel_rfl)]
  simp only [Program.fieldsOf, hu]
  exact ratFields agB agS unB unS _ _ _ rfl rfl rfl rfl rfl rfl rfl rfl rfl d p q a b x y w
theorem intFields {P : Program} (h4 : aggo P 4 = some false) (h9 : aggo P 9 = some false) (u4 : P.underlying 4 = some .bool) (u9 : P.underlying 9 = some .string) (f0 f1 : Field) (n0 : (f0.name == "_") = false) (n1 : (f1.name == "_") = false) (t0 : f0.type = 4) (t1 : f1.type = 9) (o0 : f0.offset = 0) (o1 : f1.offset = 1) (d : Nat) (p q : Bool) (a b : ByteArray) (w : World) :
    (Op.eqFields (d + 1) #[.bool p, .string a] #[.bool q, .string b] [f0, f1]).run P w = .ok ((p == q) && ((a.toList == b.toList) && true)) w := by
  refine eqf_cons (a := .bool p) (b := .bool q) n0 (by rw [t0, o0]; exact p0 h4 rfl) (by rw [t0, o0]; exact p0 h4 rfl) (by rw [t0]; exact eq_bool u4) ?_
  refine eqf_cons (a := .string a) (b := .string b) n1 (by rw [t1, o1]; exact p0 h9 rfl) (by rw [t1, o1]; exact p0 h9 rfl) (by rw [t1]; exact eq_str u9) ?_
  exact eqf_nil
theorem eqInt_run (d : Nat) (p q : Bool) (a b : ByteArray) (w : World) : (Op.equalIn (d + 2) 75 (.agg #[.bool p, .string a]) (.agg #[.bool q, .string b])).run Try.prog w = .ok ((p == q) && ((a.toList == b.toList) && true)) w := by
  have hu := Try.underlying75
  rw [run_equalIn_struct (P := Try.prog) (w := w) (d + 1) 75 _ _ (by kernel_rfl) (by kernel_rfl)]
  simp only [Program.fieldsOf, hu]
  exact intFields agB agS unB unS _ _ rfl rfl rfl rfl rfl rfl d p q a b w
def plainT (T : TypeId) : Bool := T == 29 || T == 32 || T == 75
theorem fit_s {a : ByteArray} {x : Value} (h : fit1 (.string a) x = true) : ∃ s, x = .string s := by
  cases x <;> simp [fit1] at h
  exact ⟨_, rfl⟩
theorem fit_i {k : IntKind} {a : Int} {x : Value} (h : fit1 (.int k a) x = true) : ∃ s, x = .int k s := by
  cases x <;> simp [fit1] at h
  subst h
  exact ⟨_, rfl⟩
theorem fits2 {a : ByteArray} {m : Int} {k : IntKind} : ∀ {X : List Value}, fits [.string a, .int k m] X = true → ∃ s n, X = [.string s, .int k n]
  | [], h => by simp [fits] at h
  | [x], h => by simp [fits] at h
  | x :: y :: z :: l, h => by simp [fits] at h
  | [x, y], h => by
    simp only [fits, Bool.and_eq_true] at h
    obtain ⟨s, rfl⟩ := fit_s h.1
    obtain ⟨n, rfl⟩ := fit_i h.2.1
    exact ⟨_, _, rfl⟩
theorem fit_b {a : Bool} {x : Value} (h : fit1 (.bool a) x = true) : ∃ s, x = .bool s := by
  cases x <;> simp [fit1] at h
  exact ⟨_, rfl⟩
theorem fitsI {p : Bool} {a : ByteArray} : ∀ {X : List Value}, fits [.bool p, .string a] X = true → ∃ q s, X = [.bool q, .string s]
  | [], h => by simp [fits] at h
  | [x], h => by simp [fits] at h
  | x :: y :: z :: l, h => by simp [fits] at h
  | [x, y], h => by
    simp only [fits, Bool.and_eq_true] at h
    obtain ⟨s, rfl⟩ := fit_b h.1
    obtain ⟨n, rfl⟩ := fit_s h.2.1
    exact ⟨_, _, rfl⟩
theorem fits3 {p : Bool} {a b : ByteArray} : ∀ {X : List Value}, fits [.bool p, .string a, .string b] X = true → ∃ q s t, X = [.bool q, .string s, .string t]
  | [], h => by simp [fits] at h
  | [x], h => by simp [fits] at h
  | [x, y], h => by simp [fits] at h
  | x :: y :: z :: u :: l, h => by simp [fits] at h
  | [x, y, z], h => by
    simp only [fits, Bool.and_eq_true] at h
    obtain ⟨s, rfl⟩ := fit_b h.1
    obtain ⟨n, rfl⟩ := fit_s h.2.1
    obtain ⟨t, rfl⟩ := fit_s h.2.2.1
    exact ⟨_, _, _, rfl⟩
theorem plain_ok : PlainOk Try.prog plainT := by
  refine ⟨fun T hT zs X Y b hz hX hY hb w => ?_, fun T hT => ?_⟩
  · simp only [plainT, Bool.or_eq_true, beq_iff_eq] at hT
    rcases hT with (rfl | rfl) | rfl
    · rw [zr29] at hz
      cases hz
      obtain ⟨s, n, rfl⟩ := fits2 hX
      obtain ⟨t, m, rfl⟩ := fits2 hY
      simp only [eqL, if_true, Option.map_some, Option.some.injEq] at hb
      subst hb
      have h := eqId_run 9998 s t n m w
      generalize (s.toList == t.toList && (n == m && true)) = q at *
      exact h
    · rw [zr32] at hz
      cases hz
      obtain ⟨p, s, u, rfl⟩ := fits3 hX
      obtain ⟨q, t, v, rfl⟩ := fits3 hY
      simp only [eqL, if_true, Option.map_some, Option.some.injEq] at hb
      subst hb
      have h := eqRat_run 9998 p q s t u v w
      generalize (p == q && (s.toList == t.toList && (u.toList == v.toList && true))) = q at *
      exact h
    · rw [zr75] at hz
      cases hz
      obtain ⟨p, s, rfl⟩ := fitsI hX
      obtain ⟨q, t, rfl⟩ := fitsI hY
      simp only [eqL, if_true, Option.map_some, Option.some.injEq] at hb
      subst hb
      have h := eqInt_run 9998 p q s t w
      generalize (p == q && (s.toList == t.toList && true)) = q at *
      exact h
  · simp only [plainT, Bool.or_eq_true, beq_iff_eq] at hT
    rcases hT with (rfl | rfl) | rfl <;> kernel_rfl
end Go.Proofs.Ytahgddfnbjpfiaa
