/- Texts that the law's proof stands on: V48, V49, V50, V60. -/
import Derived.Test.YtahgddfnbjpfiaaB26
import Derived.WalkKit
import Derived.Test.YtahgddfnbjpfiaaB25
set_option linter.unusedVariables false
set_option linter.unusedSimpArgs false
set_option maxRecDepth 100000
set_option maxHeartbeats 8000000
namespace Go.Proofs.Ytahgddfnbjpfiaa
open Go Go.RowKit Am

/-- What a round is handed: its activation. -/
def AxL (es : List Edt) (w : World) (K : Nat → Prop) (bm : Nat) (v3 v4 : Value) (q : El es w K) (a' : Act) (W : World) : Prop :=
  a'.tmps.size = 44 ∧ a'.defers = [] ∧ a'.tmps.getD 3 undef = v3 ∧ a'.tmps.getD 4 undef = v4 ∧ a'.tmps.getD 5 undef = .int .i64 (q.1.1 : Nat) ∧
  ∃ Bx base e, es[q.1.1]? = some e ∧ w.heap.size ≤ Bx ∧ Bx < W.heap.size ∧ a'.tmps.getD 6 undef = .pointer (some ⟨Bx, base, none⟩) ∧ (∀ j, j < 18 → ∃ y, W.cell? ⟨Bx, base + j, none⟩ = some y ∧ Dp W K ((encE e).getD j .undef) y) ∧
    ∀ M, W.heap[bm]? = some (mapO M) → ∀ m ∈ M, ∀ k off len cap, m.2 = .slice (some ⟨k, off, none⟩) len cap → k ≠ Bx
theorem ax_own {es : List Edt} {w : World} {K : Nat → Prop} {bm : Nat} {v3 v4 : Value} (hbm : bm < w.heap.size) (q : El es w K) (a' : Act) : OwnFrom w.heap.size (fun (_ : Unit) W => AxL es w K bm v3 v4 q a' W) := by
  rintro _ W W' row ⟨h1, h2, h3, h4, h5, Bx, base, e, h6, h7, h8, h9, h10, h11⟩ g hr
  have hc : ∀ p y, W.cell? p = some y → W'.cell? p = some y := fun p y hp => cell_kept hp g fun r e => (hr r e).2
  refine ⟨h1, h2, h3, h4, h5, Bx, base, e, h6, h7, Nat.lt_of_lt_of_le h8 g.size, h9, fun j hj => ?_, fun M hM => ?_⟩
  · obtain ⟨y, y1, y2⟩ := h10 j hj
    exact ⟨y, hc _ _ y1, y2.cells hc fun _ h => h⟩
  · by_cases hbl : bm < W.heap.size
    · refine h11 M ?_
      rw [← hM]
      exact (g.block bm hbl fun e => by have := (hr bm e.symm).1; omega).symm
    · exact absurd (Nat.lt_of_le_of_lt h7 h8) (by omega)
section
variable {plain : TypeId → Bool} {Γ : FuncId → Option Fspec} {Δ : FuncId → Option Pt} {Φ : FvSpec} (hE : EnvOk ⟨Try.prog, plain, Γ, Δ, Φ, 44⟩) (hpl : plain 29 = true)
  (g_cf : Γ 20 = some (cfS encE)) (g_und : Γ 21 = some und1S)
  {c : Cx} (hc : c.P = Try.prog) (hΦ : FvOk c Φ) {es : List Edt} {w : World} {K : Nat → Prop} {bm : Nat} {v3 v4 : Value}
include hE hpl g_cf g_und hc hΦ
theorem round_in (hKb : ∀ k, K k → c.ok0 k ∨ c.w0.heap.size ≤ k ∨ c.X k) (hKlt : ∀ k, K k → k < w.heap.size) (hKbm : ¬ K bm) (hw0 : c.w0.heap.size ≤ w.heap.size) (hbw : c.w0.heap.size ≤ bm) (hbm : bm < w.heap.size) (hdp : ∀ u ∈ es, u.deps.length ≤ 1048576) (hel : es.length ≤ 1048576)
    {r : Option Nat} {m : Nat} (pre : List (El es w K)) (q : El es w K) (a' : Act) (W : World) (hI : InvI c es w K bm v3 v4 pre W) (hA : AxL es w K bm v3 v4 q a' W) (hlen : pre.length < es.length) :
    (subC [1, 1, 1, 0, 1, 0, 1] liveC).wpIn (Fw r) m c.P (ownPostG w.heap.size (KpB K) (InvI c es w K bm v3 v4) (fun _ _ _ => False) (pre ++ [q]) W) a' W := by
  obtain ⟨h, n, μ, M, I⟩ := hI
  obtain ⟨g1, g2, g3, g4, g5, Bx, base, e, g6, g7, g8, g9, g10, g11⟩ := hA
  obtain ⟨hi, _⟩ := q.2
  generalize hst : runL es (pre.map fun q => q.1.1) = st at *
  have hei : es[q.1.1] = e := by rw [List.getElem?_eq_getElem hi] at g6; exact Option.some.inj g6
  have hrun : runL es ((pre ++ [q]).map fun q => q.1.1) = stp es st q.1.1 := by rw [List.map_append, ← hst]; exact runL_snoc _ _ _
  have hKok : ∀ k, K k → okB c h μ W k := fun k hk => ⟨hKb k hk, lt_of_heap (I.kp k hk) (hKlt k hk), I.k_ok k hk⟩
  -- the round's edit lies in no block of AM's
  have hBl : ¬ live h μ Bx := by
    rintro ⟨b, B, ba, sz, hB, hwr, hm⟩
    rcases I.liv b B hB with hb | ⟨mm, hmM, rfl⟩
    · have := I.low b hb _ _ _ hm
      omega
    · have hent := I.ent mm hmM
      obtain ⟨_, hl⟩ := hent.1.loc_inv
      rcases hl with ⟨k, ba2, sz2, hm2, hx⟩ | ⟨h0, _, _⟩
      · rw [hm] at hm2
        cases hm2
        exact g11 _ I.mo (mm.id, mm.x) (List.mem_map.2 ⟨mm, hmM, rfl⟩) _ _ _ _ hx rfl
      · have := hent.2.2.2.2.2.1
        exact this (List.eq_nil_of_length_eq_zero h0)
  have hBok : okB c h μ W Bx := ⟨.inr (.inl (by omega)), g8, hBl⟩
  have hpc : R c h μ W (.pc (encE e)) (.pointer (some ⟨Bx, base, none⟩)) := by
    have hex : ∀ j, ∃ y, j < 18 → W.cell? ⟨Bx, base + j, none⟩ = some y ∧ Dp W K ((encE e).getD j .undef) y := fun j => by
      by_cases hj : j < 18
      · obtain ⟨y, hy⟩ := g10 j hj; exact ⟨y, fun _ => hy⟩
      · exact ⟨undef, fun h => absurd h hj⟩
    obtain ⟨g, hg⟩ := Classical.axiomOfChoice hex
    refine .pc _ _ g hBok (fun j hj => ?_) (fun j hj => ?_)
    · rw [add_plain]; exact (hg j hj).1
    · exact (hg j hj).2.mono fun k hk => ⟨hKok k hk, rfl⟩
  have S : Sim (h, μ, W) ⟨Try.prog, plain, Γ, Δ, Φ, 44⟩ c ⟨fun i => if i = 3 then .ptr 1 0 0 else if i = 4 then .ptr 2 0 0 else if i = 5 then .s (.int .i64 (q.1.1 : Nat)) else if i = 6 then .pc (encE es[q.1.1]) else .any, h, n⟩ μ a' W := by
    refine ⟨I.hs, fun i => ?_, g1, g2, Ext.refl _ _ _ _⟩
    show R c h μ W (if i = 3 then _ else if i = 4 then _ else if i = 5 then _ else if i = 6 then _ else V.any) _
    split
    · rename_i e1; rw [e1, g3]; exact I.t3
    · split
      · rename_i e1; rw [e1, g4]; exact I.t4
      · split
        · rename_i e1; rw [e1, g5]; exact .s _ rfl
        · split
          · rename_i e1; rw [e1, g9, hei]; exact hpc
          · exact .any _
  have hfin : ∀ {a'' : Act} {w'' : World} {h' : Hp} {n' : Nat} {μ' : Mu} {M' : List Ent}, Inv c es w K bm v3 v4 (stp es st q.1.1) (pre.length + 1) h' n' μ' M' w'' → W.heap.size ≤ w''.heap.size → (∀ k, okB c h μ W k → k ≠ bm → w''.heap[k]? = W.heap[k]?) → KeepsFrom w.heap.size W w'' ∧ KpB K W w'' ∧ InvI c es w K bm v3 v4 (pre ++ [q]) w'' := by
    intro a'' w'' h' n' μ' M' I' hsz hfr
    refine ⟨⟨hsz, fun k o hk hko hoc => ?_⟩, fun k hk => hfr k (hKok k hk) (fun e1 => hKbm (e1 ▸ hk)), h', n', μ', M', ?_⟩
    · have hkl : k < W.heap.size := (Array.getElem?_eq_some_iff.1 hko).1
      rw [hfr k ⟨.inr (.inl (by omega)), hkl, fun hl => ?_⟩ (by omega)]
      · exact hko
      · have := I.cel (by omega) k hl o hko
        rw [this] at hoc; cases hoc
    · rw [hrun, List.length_append]
      exact I'
  show Code.wpIn _ _ _ (Code.block 1 (Code.seq _ (Code.seq _ _))) _ _ _
  refine wpIn_block (wpIn_seq ?_)
  refine draw6 hE hpl g_cf g_und hc hΦ I hdp hel (by omega) hi rfl rfl rfl rfl ?_ S ?_
  · rintro ⟨a, w, hq⟩; exact hq
  rintro t1 μ1 a1 w1 q3 q4 q5 q6 S1
  show Code.wpIn _ _ _ (Code.seq _ _) _ _ _
  generalize hb : (!(offL st.2 es[q.1.1].id).any fun u => undF u es[q.1.1]) = b at *
  have hbl : (st.1.set q.1.1 b).length = es.length := by rw [List.length_set]; exact I.len
  have hstp : stp es st q.1.1 = (st.1.set q.1.1 b, if b && decide (e.kind = 4) then st.2 ++ [e] else st.2) := by
    unfold stp
    rw [g6]
    simp only
    rw [← hei, hb]
  rw [hei] at q6
  refine wpIn_seq ?_
  refine tst7 hE hc hΦ (bs := st.1.set q.1.1 b) (N := es.length) (i := q.1.1) (e := e) (b := b) (upd_same _ _ _) (by rw [upd_ne _ _ _ _ (by omega)]; exact I.b1) hbl (by omega) (List.getElem_set_self _) q3 q4 q5 q6 ?_ S1 ?_
  · rintro ⟨a, w, hq⟩; exact hq
  rintro t2 μ2 a2 w2 r4 r6 r33 S2
  show Code.wpIn _ _ _ (Code.cond _ _ _) _ _ _
  have h33 : a2.eval (.tmp 33) = .bool (b && decide (e.kind = 4)) := by
    have := S2.tm 33
    simp only [r33] at this
    exact this.s_eq.1
  have hee : e ∈ es := by rw [← hei]; exact List.getElem_mem _
  cases hk : (b && decide (e.kind = 4)) with
  | true =>
    rw [hk] at h33
    refine wpIn_cond_true h33 ?_
    refine sto8 hE hpl hc hΦ hKb hKlt hKbm hbw I hel (by omega) hee hbl r4 r6 (by rintro ⟨a, w, hq⟩; exact hq) S2 ?_ rfl
    intro a'' w'' h' n' μ' M' I' hfr hsz
    rw [hk] at hstp
    have hst2 : stp es st q.1.1 = (st.1.set q.1.1 b, st.2 ++ [e]) := by rw [hstp]; rfl
    rw [← hst2] at I'
    exact hfin (a'' := a'') I' hsz hfr
  | false =>
    rw [hk] at h33
    refine wpIn_cond_false h33 (wpIn_skip ?_)
    have hst2 : stp es st q.1.1 = (st.1.set q.1.1 b, st.2) := by rw [hstp, hk]; rfl
    have hfr : ∀ k, okB c h μ W k → okB c (upd h 0 (some ⟨1, (st.1.set q.1.1 b).map encBo, true⟩)) μ2 w2 k ∧ w2.heap[k]? = W.heap[k]? := fun k hk => S2.ex.ok k hk
    have I' : Inv c es w K bm v3 v4 (stp es st q.1.1) (pre.length + 1) (upd h 0 (some ⟨1, (st.1.set q.1.1 b).map encBo, true⟩)) n μ2 M w2 := by
      rw [hst2]
      refine inv_mk hKb hKlt hKbm I S2.hs S2.ex.mu (fun k hk _ => hfr k hk) (hfr bm I.bm_ok).1 (upd_same _ _ _) (upd_ne _ _ _ _ (by omega)) (upd_ne _ _ _ _ (by omega)) (Nat.le_refl _) (by rw [(hfr bm I.bm_ok).2]; exact I.mo) (fun m hm => ?_) I.ndb I.ndi I.non hbl I.sub (by have := I.o2; show st.2.length ≤ _; omega) (fun b2 B2 hB2 => ?_)
      · have hmI := I.ent m hm
        refine ⟨loc_R S2.ex.mu hmI.1, ?_, hmI.2.2⟩
        rw [upd_ne _ _ _ _ (by have := hmI.2.2.2.2.1; omega)]
        exact hmI.2.1
      · by_cases h0 : b2 = 0
        · exact .inl (by omega)
        · rw [upd_ne _ _ _ _ h0] at hB2
          exact I.liv b2 B2 hB2
    exact hfin (a'' := a2) I' S2.ex.sz fun k hk _ => (hfr k hk).2
end
end Go.Proofs.Ytahgddfnbjpfiaa

set_option linter.unusedVariables false
set_option linter.unusedSimpArgs false
set_option maxRecDepth 100000
set_option maxHeartbeats 8000000
namespace Go.Proofs.Ytahgddfnbjpfiaa
open Go Go.RowKit Am

theorem esOf_vals : ∀ (M : List (Idt × Value)) (k : Nat), (esOf M k).map (·.val) = M.map (·.2)
  | [], _ => rfl
  | m :: M, k => by simp [esOf, esOf_vals M]
theorem mapO_vals {M M' : List (Idt × Value)} (h : mapO M = mapO M') : M.map (·.2) = M'.map (·.2) := by
  unfold mapO at h
  injection h with h1 h2
  rw [← esOf_vals M 0, ← esOf_vals M' 0]
  have := congrArg Array.toList h1
  simpa using congrArg (List.map (·.val)) this
theorem dp_one {w : World} {ok : Nat → Prop} {v : Am.V} {x : Value} (h : Dp w ok v x) : x.oneCell' = true := by
  cases h with
  | s _ h => cases x <;> first | rfl | cases h
  | sl => rfl
section
variable {c : Cx} (hc : c.P = Try.prog) {es : List Edt} {w : World} {K : Nat → Prop} {bm : Nat} {v3 v4 : Value}
include hc
theorem assign_in (hKlt : ∀ k, K k → k < w.heap.size) (hw0 : c.w0.heap.size ≤ w.heap.size) (hbm : bm < w.heap.size) (hwW : ∀ W, KpB K w W → w.heap.size ≤ W.heap.size) {r : Option Nat} {m : Nat} (pre : List (El es w K)) (q : El es w K) (aq : Act) (W : World) (hI : InvI c es w K bm v3 v4 pre W)
    (hs : aq.tmps.size = 44) (hdf : aq.defers = []) (h3 : aq.tmps.getD 3 undef = v3) (h4 : aq.tmps.getD 4 undef = v4) (h13 : aq.tmps.getD 13 undef = .int .i64 (q.1.1 : Nat)) (h14 : aq.tmps.getD 14 undef = q.1.2) {Kc : Act → World → Prop}
    (hK : ∀ a' W', KeepsFrom w.heap.size W W' → KpB K W W' → InvI c es w K bm v3 v4 pre W' → AxL es w K bm v3 v4 q a' W' → Kc a' W') :
    (subC [1, 1, 1, 0, 1, 0, 0] liveC).wpIn (Fw r) m c.P (Exit.then Kc (fun _ _ _ => False)) aq W := by
  obtain ⟨h, n, μ, M, I⟩ := hI
  obtain ⟨hi, xs, hx, hxs, hxd⟩ := q.2
  show Code.wpIn _ _ _ (Code.seq _ _) _ _ _
  have hlo : ∀ {Q : Exit → Act → World → Prop}, (∀ a w, ¬ Q .outgrown a w) → ¬ LetsOut Q := fun h ⟨a, w, q⟩ => h a w q
  refine wpIn_seq (region_in (hlo fun a w hq => hq) (by decide +kernel) ?_)
  show wpList _ _ _ [_] _ _
  refine list_cons rfl (val_wp (y := .int .i64 (q.1.1 : Nat)) (w' := W) ?_ ?_)
  · have : aq.eval (.tmp 13) = .int .i64 (q.1.1 : Nat) := h13
    simp [execOp, this, Sem.run, pure]
  show Code.wpIn _ _ _ (Code.region _ _ _) _ _ _
  refine region_in (hlo fun a w hq => hq) (by decide +kernel) ?_
  show wpList _ _ _ [_, _] _ _
  obtain ⟨z, hz, hzs⟩ : ∃ z, zro Try.prog 34 = some z ∧ z.cells.size = 18 := by
    have : (zro Try.prog 34).map (fun z => z.cells.size) = some 18 := by kernel_rfl
    simpa only [Option.map_eq_some_iff] using this
  have hsz : szo Try.prog 34 = some 18 := by kernel_rfl
  obtain ⟨W1, hW1⟩ : ∃ W1, W1 = W.alloc (.cells z.cells 34 (0, 0)) := ⟨_, rfl⟩
  have hs1 : W1.heap.size = W.heap.size + 1 := by rw [hW1]; simp
  have hb1 : Below W.heap.size W W1 := by rw [hW1]; exact (Below.refl _ W).alloc (Nat.le_refl _) _
  have hn1 : W1.heap[W.heap.size]? = some (.cells z.cells 34 (0, 0)) := by rw [hW1]; exact World.alloc_heap_new W _
  refine list_cons rfl (val_wp (y := .pointer (some ⟨W.heap.size, 0, none⟩)) (w' := W1) ?_ ?_)
  · rw [hc, hW1]
    simp only [execOp]
    refine run_value ?_
    simp [Instr.alloc, run_zero hz, newVar, newRow, newObj, Sem.run, pure]
  show wpList _ _ _ [_] _ _
  have hxc : (Value.agg xs).cells = xs := rfl
  have hone : ∀ v ∈ xs.toList, v.oneCell' = true := by
    intro v hv
    obtain ⟨j, hj, rfl⟩ := List.getElem_of_mem hv
    have hj2 : j < xs.size := by simpa using hj
    have hd := hxd j (by omega)
    have h1 : xs.getD j undef = xs.toList[j] := by simp [hj2]
    rw [h1] at hd
    exact dp_one hd
  have hcell1 : ∀ j, j < 18 → (W1.cell? ⟨W.heap.size, j, none⟩).isSome = true ∧ W1.frozen? ⟨W.heap.size, j, none⟩ = false := by
    intro j hj
    unfold World.cell? World.frozen?
    rw [hn1]
    refine ⟨?_, by simp⟩
    simp [hzs, hj]
  have hrun := run_storeCells_cells (P := Try.prog) W.heap.size 0 xs.toList 0 W1 (fun j hj => by
    rw [show 0 + 0 + j = j by omega]
    exact (hcell1 j (by simp at hj; omega)).1) (fun j hj => by
    rw [show 0 + 0 + j = j by omega]
    exact (hcell1 j (by simp at hj; omega)).2) hone
  obtain ⟨W2, hW2⟩ : ∃ W2, W2 = W1.setCells W.heap.size (0 + 0) xs.toList := ⟨_, rfl⟩
  rw [← hW2] at hrun
  obtain ⟨f1, f2⟩ := setCells_fr W.heap.size xs.toList (0 + 0) W1
  rw [← hW2] at f1 f2
  have hcell2 : ∀ j, j < 18 → W2.cell? ⟨W.heap.size, 0 + j, none⟩ = some (xs.getD j undef) := by
    intro j hj
    have hj2 : j < xs.toList.length := by simp; omega
    have hin := World.cell?_setCells_in W.heap.size xs.toList (0 + 0) W1 (fun j hj => by
      rw [show 0 + 0 + j = j by omega]
      exact (hcell1 j (by simp at hj; omega)).1) j hj2
    rw [← hW2] at hin
    rw [show 0 + j = 0 + 0 + j by omega, hin]
    have : j < xs.size := by omega
    simp [this]
  have g2 : W.grownBy W2 none := by
    refine ⟨f1.os.trans hb1.os, f1.tape.trans hb1.tape, f1.output.trans hb1.output, by omega, fun k hk _ => ?_⟩
    rw [f1.block k (by omega) (by omega)]
    exact hb1.block k hk
  have hWk : ∀ k, k < W.heap.size → W2.heap[k]? = W.heap[k]? := fun k hk => g2.block k hk (by simp)
  have I2 := I.grown hw0 hKlt hbm g2 (fun r e => by cases e)
  obtain ⟨a1, ha1⟩ : ∃ a1, a1 = ((aq.put (some 5) (.int .i64 (q.1.1 : Nat))).put (some 6) (.pointer (some ⟨W.heap.size, 0, none⟩))) := ⟨_, rfl⟩
  show wpList _ _ _ _ ((aq.put (some 5) (.int .i64 (q.1.1 : Nat))).put (some 6) (.pointer (some ⟨W.heap.size, 0, none⟩))) W1
  rw [← ha1]
  have e6 : a1.eval (.tmp 6) = .pointer (some ⟨W.heap.size, 0, none⟩) := by rw [ha1]; simp [Act.eval, Act.put, hs]
  have e14 : a1.eval (.tmp 14) = .agg xs := by
    show a1.tmps.getD 14 undef = _
    rw [← hx, ← h14, ha1]
    simp [Act.put]
  have hst : (Instr.storeAt 34 (.pointer (some ⟨W.heap.size, 0, none⟩)) (.agg xs)).run Try.prog W1 = .ok () W2 := by
    simp [Instr.storeAt, Instr.sureAddr, storeVar, run_size hsz, hxc, hxs, hrun, Sem.run, pure]
  refine list_cons rfl ?_
  unfold Oper.wp
  rw [show (execOp a1.eval _).run c.P W1 = .ok .skip W2 by rw [hc]; simp only [execOp, e6, e14, Sem.run_bind, hst, Result.andThen_ok, Sem.run_pure]]
  show Kc a1 W2
  refine hK a1 W2 ⟨by omega, fun k o hk hko hoc => by rw [hWk k (Array.getElem?_eq_some_iff.1 hko).1]; exact hko⟩ (fun k hk => hWk k (lt_of_heap (I.kp k hk) (hKlt k hk))) ⟨h, n, μ, M, I2⟩ ?_
  have hg : ∀ j, j ≠ 5 → j ≠ 6 → a1.tmps.getD j undef = aq.tmps.getD j undef := by
    intro j h5 h6
    rw [ha1]
    simp only [Act.put, Array.getD_eq_getD_getElem?, Array.getElem?_setIfInBounds]
    rw [if_neg (by omega), if_neg (by omega)]
  refine ⟨by rw [ha1]; simp [Act.put, hs], by rw [ha1]; exact hdf, by rw [hg 3 (by omega) (by omega)]; exact h3, by rw [hg 4 (by omega) (by omega)]; exact h4, by rw [ha1]; simp [Act.put, hs], W.heap.size, 0, es[q.1.1], List.getElem?_eq_getElem hi, hwW W I.kp, by omega, e6, fun j hj => ⟨_, hcell2 j hj, (hxd j hj).mono fun k hk => ⟨hk, ?_⟩⟩, fun M2 hM2 m2 hm2 k off len cap hx2 => ?_⟩
  · rw [hWk k (lt_of_heap (I.kp k hk) (hKlt k hk))]
    exact I.kp k hk
  · rw [hWk bm I.bm_ok.2.1, I.mo] at hM2
    have hv := mapO_vals (Option.some.inj hM2)
    have : m2.2 ∈ (M.map fun m => (m.id, m.x)).map (·.2) := by rw [hv]; exact List.mem_map.2 ⟨m2, hm2, rfl⟩
    obtain ⟨p1, hp1, hp2⟩ := List.mem_map.1 this
    obtain ⟨mm, hmm, rfl⟩ := List.mem_map.1 hp1
    simp only at hp2
    have hent := I.ent mm hmm
    obtain ⟨_, hl⟩ := hent.1.loc_inv
    rcases hl with ⟨k2, ba2, sz2, hm3, hx3⟩ | ⟨h0, _, _⟩
    · rw [hp2, hx2] at hx3
      cases hx3
      have := I.hs.real_lt hent.2.1 hm3
      omega
    · exact absurd (List.eq_nil_of_length_eq_zero h0) hent.2.2.2.2.2.1
end
end Go.Proofs.Ytahgddfnbjpfiaa

set_option linter.unusedVariables false
set_option linter.unusedSimpArgs false
set_option maxRecDepth 100000
set_option maxHeartbeats 8000000
namespace Go.Proofs.Ytahgddfnbjpfiaa
open Go Go.RowKit Am

def liveS : Fspec := fun _ ds r => ∃ es : List Edt, es.length ≤ 1048576 ∧ (∀ u ∈ es, u.deps.length ≤ 1048576) ∧ ds = [.sl (es.map encE)] ∧ r = .own 1 ((liveB es).map encBo)
theorem back_run (w : World) (A : Option Addr) (len cap : Nat) : Calls Try.prog 19 #[.slice A len cap] w fun e w' => e = .returned (.func (.func 32) #[] #[.pointer (some ⟨w.heap.size, 0, none⟩)]) ∧ w' = w.alloc (.cells #[.slice A len cap] 22 (0, 0)) := by
  go_enter Try.func19, Try.ntmps19
  go_wp2
  go_ret
  exact ⟨rfl, rfl⟩
theorem live_sound {plain : TypeId → Bool} {Γ : FuncId → Option Fspec} {Δ : FuncId → Option Pt} (hE : EnvOk ⟨Try.prog, plain, Γ, Δ, fun _ => none, 0⟩) (hpl : plain 29 = true) (g_cf : Γ 20 = some (cfS encE)) (g_und : Γ 21 = some und1S) : Sound Try.prog 11 liveS := by
  rintro ⟨P, w0, ok0, X, fv, inv⟩ Φ ds r vals hc hok0 hX hΦ ⟨es, hel, hdp, rfl, rfl⟩ hargs
  obtain rfl : P = Try.prog := hc
  have hE' : EnvOk ⟨Try.prog, plain, Γ, Δ, Φ, 44⟩ := ⟨hE.plain, hE.sound, hE.fn, hE.mixed, hE.soundT⟩
  obtain ⟨sl0, rfl, hsl⟩ : ∃ sl0, vals = #[sl0] ∧ Rp fv w0 ok0 noMu (.sl (es.map encE)) sl0 := by
    have h1 := hargs.1
    have h2 := hargs.2 0 (by simp)
    refine ⟨vals.getD 0 undef, ?_, h2⟩
    apply Array.ext
    · simpa using h1
    · intro i g1 g2
      have : i = 0 := by simp at g2; omega
      subst this
      simp [g1]
  have hsd : Dp w0 ok0 (.sl (es.map encE)) sl0 := Rp_dp rfl hsl
  obtain ⟨cap, size, A, g, rfl, hcap, _⟩ := hsl.sl_inv
  refine (callsIn_wide (n := 10)).1 ?_
  refine callsIn_of_wp_marks Try.func11 rfl trivial ?_ rfl
  have nt := Try.ntmps11
  rw [nt]
  generalize ha0 : ({ tmps := _, defers := [] } : Act) = a0
  have hs0 : a0.tmps.size = 44 := by rw [← ha0]; simp
  have hd0 : a0.defers = [] := by rw [← ha0]
  have g0 : a0.tmps.getD 0 undef = .slice A (es.map encE).length cap := by rw [← ha0]; simp
  clear ha0
  have hokB : ∀ q, ok0 q → okB ⟨Try.prog, w0, ok0, X, fv, inv⟩ h00 m00 w0 q := fun q hq => ⟨.inl hq, hok0 q hq, fun ⟨b, B, _, _, h, _⟩ => by cases h⟩
  have H0 : HS ⟨Try.prog, w0, ok0, X, fv, inv⟩ h00 0 m00 w0 := ⟨Fr.refl _ _, fun _ _ => rfl, fun _ _ => rfl, fun b B h => (by cases h), fun b b' B B' k base size base' size' h => (by cases h)⟩
  have S0 : Sim (h00, m00, w0) ⟨Try.prog, plain, Γ, Δ, Φ, 44⟩ ⟨Try.prog, w0, ok0, X, fv, inv⟩ ⟨fun i => if i = 0 then .sl (es.map encE) else .any, h00, 0⟩ m00 a0 w0 := by
    refine ⟨H0, fun i => ?_, hs0, hd0, Ext.refl _ _ _ _⟩
    show R _ _ _ _ (if i = 0 then _ else V.any) _
    split
    · rename_i e; rw [e, g0]; exact hsl.mono (fun q hq => ⟨hokB q hq, rfl⟩) (fun _ _ h => h)
    · exact .any _
  show Code.wpIn (Fw none) 10 Try.prog (Code.seq (Code.region _ _ _) (Code.seq (Code.region _ _ _) (Code.seq (Code.region _ _ _) (Code.seq (Code.seq (Code.region _ _ _) (Code.block _ _)) (Code.seq (Code.region _ _ _) Code.ret))))) _ _ _
  have hlo : ∀ {K : Act → World → Prop} {R' : Ending → World → Prop}, (∀ w, ¬ R' .outgrown w) → ¬ LetsOut (Exit.then K (bodyPostM (Fw none) 10 Try.prog Try.f11 R')) := fun h ⟨a, w, hq⟩ => h w hq
  have hR' : ∀ w, ¬ (∃ x, (Ending.outgrown : Ending) = .returned x ∧ Below w0.heap.size w0 w ∧ Res ⟨Try.prog, w0, ok0, X, fv, inv⟩ w (.own 1 ((liveB es).map encBo)) x) := fun w ⟨x, h, _⟩ => by cases h
  have hlo2 : ∀ {Q' : Exit → Act → World → Prop}, (∀ a w, ¬ Q' .outgrown a w) → ¬ LetsOut Q' := fun h ⟨a, w, hq⟩ => h a w hq
  refine wpIn_seq (region_in (hlo2 fun a w hq => hR' w hq) (by decide +kernel) (ops_soundX hE' rfl hΦ _ (fun d => d = 0) (K := fun σ' => σ'.t 0 = .sl (es.map encE) ∧ σ'.h = h00 ∧ σ'.n = 0) _ (by show ∀ o ∈ _, dstOk 44 o = true; decide +kernel) (by rintro o ho d hd rfl; revert hd; revert ho; revert o; decide +kernel) ?_ S0 ?_))
  · refine (show WO ⟨Try.prog, plain, Γ, Δ, Φ, 44⟩ _ [_] (fun _ σ' => σ'.t 0 = .sl (es.map encE) ∧ σ'.h = h00 ∧ σ'.n = 0) ⟨fun i => if i = 0 then .sl (es.map encE) else .any, h00, 0⟩ from ?_).out
    refine go trivial ?_
    exact ⟨⟨rfl, rfl, rfl⟩⟩
  rintro ⟨t1, h1, n1⟩ μ1 a1 w1 ⟨q0, rfl, rfl⟩ S1 hx1
  simp only at q0
  show Code.wpIn _ _ _ (Code.seq _ _) _ _ _
  refine wpIn_seq (region_in (hlo2 fun a w hq => hR' w hq) (by decide +kernel) (ops_soundX hE' rfl hΦ _ (fun d => d = 0) (K := fun σ' => σ'.t 0 = .sl (es.map encE) ∧ σ'.t 3 = .ptr 1 0 0 ∧ σ'.h 0 = some ⟨1, (List.replicate es.length false).map encBo, true⟩ ∧ σ'.h 1 = some ⟨1, [[.loc 0 0 es.length es.length]], true⟩ ∧ (∀ b, 2 ≤ b → σ'.h b = none) ∧ σ'.n = 2) _ (by show ∀ o ∈ _, dstOk 44 o = true; decide +kernel) (by rintro o ho d hd rfl; revert hd; revert ho; revert o; decide +kernel) ?_ S1 ?_))
  · refine (show WO ⟨Try.prog, plain, Γ, Δ, Φ, 44⟩ _ [_, _, _, _, _] (fun _ σ' => σ'.t 0 = .sl (es.map encE) ∧ σ'.t 3 = .ptr 1 0 0 ∧ σ'.h 0 = some ⟨1, (List.replicate es.length false).map encBo, true⟩ ∧ σ'.h 1 = some ⟨1, [[.loc 0 0 es.length es.length]], true⟩ ∧ (∀ b, 2 ≤ b → σ'.h b = none) ∧ σ'.n = 2) ⟨t1, h00, 0⟩ from ?_).out
    refine go q0 ?_
    refine x_mslice (m := es.length) (m' := es.length) rfl rfl rfl (sv trivial) (sv trivial) (sv trivial) (sv trivial) (by simp [cellsZ, cellOf, flat]; omega) ?_
    have hcz : List.replicate es.length (cellsZ (.bool false)) = (List.replicate es.length false).map encBo := by simp [cellsZ, ofVal, flat]
    rw [hcz]
    refine go trivial ?_
    refine ⟨⟨q0, rfl, rfl, rfl, fun b hb => ?_, rfl⟩⟩
    show upd (upd (upd h00 0 _) 1 _) 1 _ b = none
    rw [upd_ne _ _ _ _ (by omega), upd_ne _ _ _ _ (by omega), upd_ne _ _ _ _ (by omega)]
    rfl
  rintro ⟨t2, h2, n2⟩ μ2 a2 w2 ⟨r0, r3, r5, r6, r7, rfl⟩ S2 hx2
  simp only at r0 r3 r5 r6 r7
  show Code.wpIn _ _ _ (Code.seq _ _) _ _ _
  refine wpIn_seq (region_in (hlo2 fun a w hq => hR' w hq) (by decide +kernel) ?_)
  show wpList _ _ _ [_, _, _] _ _
  -- the map
  obtain ⟨bm, hbm⟩ : ∃ bm, bm = w2.heap.size := ⟨_, rfl⟩
  obtain ⟨w3, hw3⟩ : ∃ w3, w3 = w2.alloc (.map #[] 0) := ⟨_, rfl⟩
  have hb3 : Below w2.heap.size w2 w3 := by rw [hw3]; exact (Below.refl _ w2).alloc (Nat.le_refl _) _
  have hs3 : w3.heap.size = w2.heap.size + 1 := by rw [hw3]; simp
  have hm3 : w3.heap[bm]? = some (mapO []) := by rw [hw3, hbm]; exact World.alloc_heap_new w2 _
  refine list_cons rfl (val_wp (y := .map (some bm)) (w' := w3) (by simp only [execOp]; refine run_value ?_; rw [hw3, hbm]; rfl) ?_)
  have H3 := S2.hs.below hb3
  have hsz2 : 10 < a2.tmps.size := by
    have h1 : a2.tmps.size = 44 := S2.nt
    omega
  have S3 : Sim (h2, μ2, w3) ⟨Try.prog, plain, Γ, Δ, Φ, 44⟩ ⟨Try.prog, w0, ok0, X, fv, inv⟩ ⟨upd t2 10 (.mp bm), h2, 2⟩ μ2 (a2.put (some 10) (.map (some bm))) w3 :=
    ⟨H3.1, put_R (fun i => H3.2.R (S2.tm i)) hsz2 (.mp bm), by simp only [Act.put]; rw [Array.size_setIfInBounds]; exact S2.nt, S2.df, Ext.refl _ _ _ _⟩
  have hokb3 : okB ⟨Try.prog, w0, ok0, X, fv, inv⟩ h2 μ2 w3 bm := by
    have hz : w0.heap.size ≤ w2.heap.size := S2.hs.fr.size
    refine ⟨.inr (.inl (by show w0.heap.size ≤ bm; omega)), by omega, fun hl => ?_⟩
    have := (S2.hs.wr_block hl).2
    omega
  have hx3 : (a2.put (some 10) (.map (some bm))).tmps.getD 0 undef = .slice A (es.map encE).length cap := by
    have h1 := hx2 0 rfl
    have h2 := hx1 0 rfl
    rw [show (a2.put (some 10) (.map (some bm))).tmps.getD 0 undef = a2.tmps.getD 0 undef by simp [Act.put], h1, h2, g0]
  refine ops_soundX hE' rfl hΦ _ (fun d => d = 0) (K := fun σ' => σ'.t 0 = .sl (es.map encE) ∧ σ'.t 3 = .ptr 1 0 0 ∧ σ'.t 4 = .ptr 2 0 0 ∧ σ'.h 0 = h2 0 ∧ σ'.h 1 = h2 1 ∧ σ'.h 2 = some ⟨1, [[.mp bm]], true⟩ ∧ (∀ b, 3 ≤ b → σ'.h b = none) ∧ σ'.n = 3) _ (by show ∀ o ∈ _, dstOk 44 o = true; decide +kernel) (by rintro o ho d hd rfl; revert hd; revert ho; revert o; decide +kernel) ?_ S3 ?_
  · have hz42 : szo Try.prog 42 = some 1 := by kernel_rfl
    have ha42 : zro Try.prog 42 = some (.map none) := by kernel_rfl
    refine (show WO ⟨Try.prog, plain, Γ, Δ, Φ, 44⟩ _ [_, _] (fun _ σ' => σ'.t 0 = .sl (es.map encE) ∧ σ'.t 3 = .ptr 1 0 0 ∧ σ'.t 4 = .ptr 2 0 0 ∧ σ'.h 0 = h2 0 ∧ σ'.h 1 = h2 1 ∧ σ'.h 2 = some ⟨1, [[.mp bm]], true⟩ ∧ (∀ b, 3 ≤ b → σ'.h b = none) ∧ σ'.n = 3) ⟨upd t2 10 (.mp bm), h2, 2⟩ from ?_).out
    refine go (And.intro hz42 ha42) ?_
    refine ⟨⟨r0, r3, rfl, rfl, rfl, rfl, fun b hb => ?_, rfl⟩⟩
    show upd (upd h2 2 _) 2 _ b = none
    rw [upd_ne _ _ _ _ (by omega), upd_ne _ _ _ _ (by omega)]
    exact r7 b (by omega)
  rintro ⟨t4, h4, n4⟩ μ4 a4 w4 ⟨q0, q3, q4, e0, e1, e2, e3, rfl⟩ S4 hx4
  simp only at q0 q3 q4 e0 e1 e2 e3
  have hx4 : a4.tmps.getD 0 undef = .slice A (es.map encE).length cap := (hx4 0 rfl).trans hx3
  show Code.wpIn _ _ _ (Code.seq (Code.seq _ _) _) _ _ _
  -- region 3: the iterator
  obtain ⟨w5, hw5⟩ : ∃ w5, w5 = w4.alloc (.cells #[.slice A (es.map encE).length cap] 22 (0, 0)) := ⟨_, rfl⟩
  obtain ⟨k0, hk0⟩ : ∃ k0, k0 = w4.heap.size := ⟨_, rfl⟩
  refine wpIn_seq (wpIn_seq (region_in (hlo2 fun a w hq => hR' w hq) (by decide +kernel) ?_))
  show wpList _ _ _ [_, _] _ _
  refine list_cons rfl (val_wp (y := .slice A (es.map encE).length cap) (w' := w4) (by
    have : a4.eval (.tmp 0) = .slice A (es.map encE).length cap := hx4
    simp [execOp, this, Sem.run, pure]) ?_)
  refine list_cons rfl ?_
  have hs4 : a4.tmps.size = 44 := S4.nt
  have h11 : (a4.put (some 11) (.slice A (es.map encE).length cap)).eval (.tmp 11) = .slice A (es.map encE).length cap := by simp [Act.eval, Act.put, hs4]
  unfold Oper.wp
  rw [run_callv (g := 19) (xs := #[]) rfl rfl rfl (by decide +kernel)]
  simp only [Oper.upon]
  rw [show (#[Operand.tmp 11].map (a4.put (some 11) (.slice A (es.map encE).length cap)).eval ++ #[] : Array Value) = #[.slice A (es.map encE).length cap] by
    rw [List.map_toArray, List.map_cons, h11]; rfl]
  refine (back_run w4 A (es.map encE).length cap).mono ?_
  rintro e w' ⟨rfl, hw'⟩
  rw [← hw5] at hw'
  subst w'
  rw [← hk0]
  show wpList _ _ _ [] _ _
  show Code.wpIn _ _ _ (Code.block _ _) _ _ _
  obtain ⟨a5, ha5⟩ : ∃ a5, a5 = ((a4.put (some 11) (.slice A (es.map encE).length cap)).put (some 12) (.func (.func 32) #[] #[.pointer (some ⟨k0, 0, none⟩)])) := ⟨_, rfl⟩
  show Code.wpIn _ _ _ (Code.block _ _) _ ((a4.put (some 11) (.slice A (es.map encE).length cap)).put (some 12) (.func (.func 32) #[] #[.pointer (some ⟨k0, 0, none⟩)])) _
  rw [← ha5]
  have hs5 : a5.tmps.size = 44 := by rw [ha5]; simp [Act.put, hs4]
  have hd5 : a5.defers = [] := by rw [ha5]; exact S4.df
  have g12 : a5.eval (.tmp 12) = .func (.func 32) #[] #[.pointer (some ⟨k0, 0, none⟩)] := by rw [ha5]; simp [Act.eval, Act.put, hs4]
  have g5 : ∀ j, j < 11 → a5.tmps.getD j undef = a4.tmps.getD j undef := by
    intro j hj
    rw [ha5]
    simp only [Act.put, Array.getD_eq_getD_getElem?, Array.getElem?_setIfInBounds]
    rw [if_neg (by omega), if_neg (by omega)]
  have hb5 : Below w4.heap.size w4 w5 := by rw [hw5]; exact (Below.refl _ w4).alloc (Nat.le_refl _) _
  have hs5w : w5.heap.size = w4.heap.size + 1 := by rw [hw5]; simp
  have hn5 : w5.heap[k0]? = some (.cells #[.slice A (es.map encE).length cap] 22 (0, 0)) := by rw [hw5, hk0]; exact World.alloc_heap_new w4 _
  have H5 := S4.hs.below hb5
  have hw05 : w0.heap.size ≤ w5.heap.size := H5.1.fr.size
  have hw04 : w0.heap.size ≤ w4.heap.size := S4.hs.fr.size
  have hKlt : ∀ k, (ok0 k ∨ k = k0) → k < w5.heap.size := by
    rintro k (hk | rfl)
    · exact Nat.lt_of_lt_of_le (hok0 k hk) hw05
    · omega
  have hbm4 : bm < w4.heap.size := Nat.lt_of_lt_of_le hokb3.2.1 S4.ex.sz
  have hsv : Dp w5 (fun k => ok0 k ∨ k = k0) (.sl (es.map encE)) (.slice A (es.map encE).length cap) :=
    hsd.mono fun k hk => ⟨.inl hk, (hb5.block k (Nat.lt_of_lt_of_le (hok0 k hk) hw04)).trans (S4.hs.fr.block k (hok0 k hk) (hX k))⟩
  have hcell : w5.cell? ⟨k0, 0, none⟩ = some (.slice A (es.map encE).length cap) := by
    unfold World.cell?
    rw [hn5]; rfl
  have hKp : ∀ W, KpB (fun k => ok0 k ∨ k = k0) w5 W → w5.heap.size ≤ W.heap.size := by
    intro W hW
    have := lt_of_heap (hW k0 (.inr rfl)) (by omega)
    omega
  have hbm5 : w5.heap[bm]? = some (mapO []) := by
    rw [hb5.block bm hbm4, (S4.ex.ok bm hokb3).2]
    exact hm3
  have hIxo : ∀ c : Code, OwnFrom w5.heap.size ((fun _ _ _ => False) c : List (El es w5 (fun k => ok0 k ∨ k = k0)) → World → Prop) := fun _ _ _ _ _ h _ _ => h.elim
  refine wpIn_block (wpIn_rangeFunc_ownH (F := Fw none) rfl (by decide) (gf := 32) (lb := #[.pointer (some ⟨k0, 0, none⟩)]) g12 trivial (fun args w => Am.run_enter (by decide +kernel) args)
    (w0 := w5) (Kp := KpB (fun k => ok0 k ∨ k = k0)) (backIt hE.plain 9 es (w := w5) (K := fun k => ok0 k ∨ k = k0) (k0 := k0) (.inr rfl) hKlt hcell hsv (by omega))
    (fun {A B C} h1 h2 k hk => (h2 k hk).trans (h1 k hk)) (fun W l o o' hl _ _ _ k hk => ?hKb) (Below.refl _ _) (fun _ => rfl)
    (InvI ⟨Try.prog, w0, ok0, X, fv, inv⟩ es w5 (fun k => ok0 k ∨ k = k0) bm (a5.tmps.getD 3 undef) (a5.tmps.getD 4 undef)) (fun _ _ _ => False)
    (inv_own hw05 hKlt (by omega)) hIxo ?h0
    (AxL es w5 (fun k => ok0 k ∨ k = k0) bm (a5.tmps.getD 3 undef) (a5.tmps.getD 4 undef)) (ax_own (by omega)) ?assign ?body ?done ?stop)
  case hKb =>
    have : k ≠ l := by have := hKlt k hk; omega
    simp [World.putObj, Array.getElem?_setIfInBounds, Ne.symm this]
  case h0 =>
    refine ⟨h4, 3, μ4, [], H5.1, fun k hk => rfl, (H5.2.ok bm (S4.ex.ok bm hokb3).1).1, ?_, ?_, ?_, ?_, ?_, e2, by omega, by rw [hbm5]; rfl, fun m hm => (by cases hm), List.nodup_nil, List.nodup_nil, fun x _ => rfl, by show (List.replicate _ _).length = _; simp, fun u hu => (by cases hu), Nat.le_refl _, ?_, ?_, ?_⟩
    · rintro k (hk | rfl) hl
      · rcases (S4.hs.wr_block hl).1 with h1 | h1
        · have h1 : w0.heap.size ≤ k := h1
          have := hok0 k hk; omega
        · exact hX k h1
      · have := (S4.hs.wr_block hl).2
        omega
    · have := H5.2.R (S4.tm 3)
      rw [g5 3 (by omega)]
      rw [show (⟨t4, h4, 3⟩ : St).t 3 = .ptr 1 0 0 from q3] at this
      exact this
    · have := H5.2.R (S4.tm 4)
      rw [g5 4 (by omega)]
      rw [show (⟨t4, h4, 3⟩ : St).t 4 = .ptr 2 0 0 from q4] at this
      exact this
    · exact e0.trans r5
    · exact e1.trans r6
    · intro b hb k base size hm
      have hB : ∃ B, h4 b = some B := by
        have : b = 0 ∨ b = 1 ∨ b = 2 := by omega
        rcases this with rfl | rfl | rfl
        · exact ⟨_, e0.trans r5⟩
        · exact ⟨_, e1.trans r6⟩
        · exact ⟨_, e2⟩
      obtain ⟨B, hB⟩ := hB
      exact H5.1.real_lt hB hm
    · intro b B hB
      by_cases hb : b ≤ 2
      · exact .inl hb
      · rw [e3 b (by omega)] at hB; cases hB
    · rintro hN k ⟨b, B, base, size, hB, hwr, hm⟩ o ho
      have hne : B.rows ≠ [] ∧ 0 < B.size := by
        by_cases hb : b ≤ 2
        · have : b = 0 ∨ b = 1 ∨ b = 2 := by omega
          rcases this with rfl | rfl | rfl
          · rw [e0, r5] at hB
            cases hB
            refine ⟨fun e => ?_, Nat.one_pos⟩
            have := congrArg List.length e
            simp at this
            rw [this] at hN
            simp at hN
          · rw [e1, r6] at hB; cases hB; exact ⟨by simp, Nat.one_pos⟩
          · rw [e2] at hB; cases hB; exact ⟨by simp, Nat.one_pos⟩
        · rw [e3 b (by omega)] at hB; cases hB
      exact cells_of_live H5.1 hB hm hne.1 hne.2 ho
  case assign =>
    intro l pre q W Kc hI hK
    have hps : ∀ (t : Array Value), ((#[13, 14] : Array Tmp).zip (#[.int .i64 (q.1.1 : Nat), q.1.2] : Array Value)).foldl (fun t (p, v) => t.setIfInBounds p v) t = (t.setIfInBounds 13 (.int .i64 (q.1.1 : Nat))).setIfInBounds 14 q.1.2 := fun t => by simp
    rw [hps]
    have hgt : ∀ j, j ≠ 13 → j ≠ 14 → ((a5.tmps.setIfInBounds 13 (.int .i64 (q.1.1 : Nat))).setIfInBounds 14 q.1.2).getD j undef = a5.tmps.getD j undef := by
      intro j h1 h2
      simp only [Array.getD_eq_getD_getElem?, Array.getElem?_setIfInBounds]
      rw [if_neg (by omega), if_neg (by omega)]
    exact assign_in (c := ⟨Try.prog, w0, ok0, X, fv, inv⟩) rfl hKlt hw05 (by omega) hKp (r := some l) pre q _ W hI (by simp [hs5]) rfl (hgt 3 (by decide) (by decide)) (hgt 4 (by decide) (by decide)) (by simp [hs5]) (by simp [hs5]) hK
  case body =>
    intro l pre q a' W hl hr hI hA hlen
    exact round_in (c := ⟨Try.prog, w0, ok0, X, fv, inv⟩) hE' hpl g_cf g_und rfl hΦ (by
      rintro k (hk | rfl)
      · exact .inl hk
      · exact .inr (.inl (by show w0.heap.size ≤ k; omega))) hKlt (by
      rintro (hk | hk)
      · have := hok0 bm hk
        have h2 := S2.hs.fr.size
        have h2 : w0.heap.size ≤ w2.heap.size := h2
        omega
      · omega) hw05 (by
      have h2 : w0.heap.size ≤ w2.heap.size := S2.hs.fr.size
      show w0.heap.size ≤ bm
      omega) (by omega) hdp hel (r := some l) pre q a' W hI hA hlen
  case stop =>
    intro D c pre W _ _ h _
    exact h.elim
  case done =>
    rintro D xs W hD hxs ⟨hf, nf, μf, M, I⟩ hKD
    rw [hxs] at I
    obtain ⟨hL, hl2⟩ : ∃ L, L = (runL es (downs es.length es.length)).1 := ⟨_, rfl⟩
    show Code.wpIn _ _ _ (Code.seq _ _) _ _ _
    have hp3 : ∀ i, R ⟨Try.prog, w0, ok0, X, fv, inv⟩ hf μf W ((fun i => if i = 3 then .ptr 1 0 0 else .any) i) (a5.tmps.getD i undef) := by
      intro i
      show R _ _ _ _ (if i = 3 then _ else V.any) _
      split
      · rename_i e; rw [e]; exact I.t3
      · exact .any _
    have hz25 : szo Try.prog 25 = some 1 := by kernel_rfl
    have hb1 := I.b1
    refine wpIn_seq (pure_regionIn (E := ⟨Try.prog, plain, Γ, Δ, Φ, 44⟩) hE.plain (c := ⟨Try.prog, w0, ok0, X, fv, inv⟩) rfl rfl I.hs (nt := 44) (fun t' => t' 2 = .loc 0 0 es.length es.length) (by decide +kernel) hs5 hp3 ?_ ?_)
    · refine pw_cons rfl rfl rfl (sv (And.intro hz25 hb1)) (pw_cons rfl rfl rfl (sv trivial) ?_)
      show upd _ 2 _ 2 = _
      exact sx trivial
    rintro t6 a6 q2 hs6 hd6 hR6
    show Code.wpIn _ _ _ Code.ret _ _ _
    refine wpIn_ret ?_
    have g := grownBy_putObj' W D (.deferred none)
    have hfin := I.hs.grown g (fun r e => by cases e; exact ⟨Nat.le_trans hw05 hD, _, hKD, rfl⟩)
    have h2 := hfin.2 _ _ (hR6 2)
    rw [q2] at h2
    show LeavesInM _ _ _ _ _ _ _ _ _
    rw [show a6.defers = { target := .collected D, args := #[] } :: a5.defers from hd6, hd5]
    refine ⟨by simp, .inl ⟨D, _, rfl, run_takeDeferred hKD, _, results_tmp rfl _ _ _, _, rfl, ?_, ?_⟩⟩
    · have hf := hfin.1.fr
      exact ⟨hf.os, hf.tape, hf.output, hf.size, fun k hk => hf.block k hk (hX k)⟩
    · refine handed_sound hfin.1 h2 (.inr ⟨0, es.length, es.length, _, rfl, I.b0, rfl, rfl, Nat.le_refl _, ?_, ?_, ?_, ?_⟩)
      · show _ ≤ ((runL es _).1.map encBo).length
        rw [List.length_map, I.len]; exact Nat.le_refl _
      · show ((runL es _).1.map encBo).length = _
        rw [List.length_map, I.len]
      · show allO (allO (expo hf 2)) (((runL es _).1.map encBo).take es.length) = some ((runL es _).1.map encBo)
        rw [List.take_of_length_le (by rw [List.length_map, I.len]; exact Nat.le_refl _)]
        refine allO_rows _ _ ?_
        intro r hr v hv
        obtain ⟨b, _, rfl⟩ := List.mem_map.1 hr
        simp at hv
        rw [hv]; rfl
      · intro hm
        obtain ⟨q, hq, hq2⟩ := List.mem_flatMap.1 hm
        have hq := List.mem_of_mem_take hq
        obtain ⟨b, _, rfl⟩ := List.mem_map.1 hq
        simp [touch] at hq2
end Go.Proofs.Ytahgddfnbjpfiaa

set_option linter.unusedVariables false
set_option linter.unusedSimpArgs false
set_option maxRecDepth 100000
set_option maxHeartbeats 16000000
namespace Go.Proofs.Ytahgddfnbjpfiaa
open Go Go.RowKit Am

/-- Rows of one's own that hold plain cells read as data. -/
theorem own_sl {c : Cx} {w : World} {z : Nat} {rows : List (List Am.V)} {x : Value} (h : OwnRes c w z rows x) : Res c w (.sl rows) x := by
  intro fv
  rcases h with ⟨rfl, A, rfl⟩ | ⟨k, base, cap, rfl, h1, h2, h3, h4, h5⟩
  · exact .sl [] 0 0 z A (fun _ _ => Go.undef) rfl (Nat.le_refl _) (fun r hr => by cases hr) (fun h => absurd rfl h) (fun i j hi _ => by omega)
  · have hex : ∀ i j, ∃ y, i < rows.length → j < z → w.cell? ⟨k, base + (i * z + j), none⟩ = some y ∧ Dp w (fun q => AllB c w q ∧ q ≠ k) (cellAt rows i j) y := fun i j => by
      by_cases hi : i < rows.length
      · by_cases hj : j < z
        · obtain ⟨y, y1, _, y2⟩ := h5 i j (by omega) hj
          exact ⟨y, fun _ _ => ⟨y1, y2 hi⟩⟩
        · exact ⟨Go.undef, fun _ h => absurd h hj⟩
      · exact ⟨Go.undef, fun h => absurd h hi⟩
    have hg := fun i j => Classical.choose_spec (hex i j)
    refine .sl rows rows.length cap z _ (fun i j => Classical.choose (hex i j)) rfl h1 h4 (fun _ => ⟨⟨k, base, none⟩, rfl, ⟨h2.elim (fun h => .inr (.inl h)) (fun h => .inr (.inr h)), h3⟩, fun i j hi hj => ?_⟩) (fun i j hi hj => (hg i j hi hj).2.mono fun q hq => ⟨hq.1, rfl⟩)
    rw [add_plain]
    exact (hg i j hi hj).1
def live2S : Fspec := fun _ ds r => ∃ es : List Edt, smL es ∧ ds = [.sl (es.map encE)] ∧ r = .sl ((allL unF es).map encBo)
theorem live2_sound {Γ : FuncId → Option Fspec} (h : Sound Try.prog 11 liveS) : Sound Try.prog 11 live2S := by
  rintro c Φ ds r vals h1 h2 h3 h4 ⟨es, hs, rfl, rfl⟩ ha
  refine (h c Φ _ _ vals h1 h2 h3 h4 ⟨es, hs.1, hs.2, rfl, rfl⟩ ha).mono ?_
  rintro e w' ⟨x, rfl, g1, g2⟩
  rw [liveB_all] at g2
  exact ⟨x, rfl, g1, own_sl g2⟩
theorem live3_sound {plain : TypeId → Bool} {Γ : FuncId → Option Fspec} {Δ : FuncId → Option Pt} (hE : EnvOk ⟨Try.prog, plain, Γ, Δ, fun _ => none, 0⟩) (hpl : plain 29 = true) (g_cf : Γ 20 = some (cfS encE)) (g_und : Γ 21 = some und1S) : Sound Try.prog 11 live2S := live2_sound (Γ := Γ) (live_sound hE hpl g_cf g_und)
def demA : ByteArray := ⟨#[97, 110, 110]⟩
def demI (n : Int) : Idt := ⟨demA, n⟩
def idL0 : Idt := ⟨⟨#[]⟩, 0⟩
def dem1 : Edt := ⟨demI 1, 1, 0, [], 1, idL0, idL0, false, ⟨#[]⟩, ⟨#[]⟩, ⟨#[]⟩, ⟨#[103, 114, 111, 117, 112]⟩, idL0, ⟨#[]⟩⟩
def dem2 : Edt := ⟨demI 2, 2, 0, [demI 1], 4, idL0, idL0, false, ⟨#[]⟩, ⟨#[]⟩, ⟨#[]⟩, ⟨#[]⟩, demI 1, ⟨#[]⟩⟩
def dem3 : Edt := ⟨demI 3, 3, 0, [demI 2], 4, idL0, idL0, false, ⟨#[]⟩, ⟨#[]⟩, ⟨#[]⟩, ⟨#[]⟩, demI 2, ⟨#[]⟩⟩
def ed1S : Fspec := fun _ ds r => ∃ n : Int, ds = [.s (.int .i64 n)] ∧ r = .agg (encId (demI n))
theorem ed1_sound {plain : TypeId → Bool} {Γ : FuncId → Option Fspec} {Δ : FuncId → Option Pt} (hE : EnvOk ⟨Try.prog, plain, Γ, Δ, fun _ => none, 0⟩) : Sound Try.prog 26 ed1S := by
  refine sound_of_awp hE Try.func26 rfl (by kernel_rfl) ?_
  rintro Φ ds r ⟨n, rfl, rfl⟩
  refine ⟨by simp [Try.f26], ?_⟩
  unfold st0 encId demI demA
  refine W.out (E := ⟨Try.prog, plain, Γ, Δ, Φ, _⟩) ?_
  refine go trivial ?_
  refine x_done (x_out (sr @Try.f26.eq_1) (by simp) (by simp) rfl)
def editsS : Fspec := fun _ ds r => ds = [] ∧ r = .sl [encE dem1, encE dem2, encE dem3]
theorem edits_sound {plain : TypeId → Bool} {Γ : FuncId → Option Fspec} {Δ : FuncId → Option Pt} (hE : EnvOk ⟨Try.prog, plain, Γ, Δ, fun _ => none, 0⟩) (g_ed1 : Γ 26 = some ed1S) : Sound Try.prog 16 editsS := by
  refine sound_of_awp hE Try.func16 rfl (by kernel_rfl) ?_
  rintro Φ ds r ⟨rfl, rfl⟩
  refine ⟨by simp [Try.f16], ?_⟩
  unfold st0
  refine W.out (E := ⟨Try.prog, plain, Γ, Δ, Φ, _⟩) ?_
  have ue : ∀ n, encId (demI n) = [.s (.string ⟨#[97, 110, 110]⟩), .s (.int .i64 n)] := fun _ => rfl
  refine go trivial ?_
  refine x_callS rfl rfl rfl rfl (sv trivial) g_ed1 (sv trivial) (se trivial) ⟨1, rfl, rfl⟩ (by simp) (by simp [touchA, touch]) ?_
  refine go ue ?_
  refine x_callS rfl rfl rfl rfl (sv trivial) g_ed1 (sv trivial) (se trivial) ⟨2, rfl, rfl⟩ (by simp) (by simp [touchA, touch]) ?_
  refine go ue ?_
  refine x_callS rfl rfl rfl rfl (sv trivial) g_ed1 (sv trivial) (se trivial) ⟨1, rfl, rfl⟩ (by simp) (by simp [touchA, touch]) ?_
  refine go ue ?_
  refine x_callS rfl rfl rfl rfl (sv trivial) g_ed1 (sv trivial) (se trivial) ⟨1, rfl, rfl⟩ (by simp) (by simp [touchA, touch]) ?_
  refine go ue ?_
  refine x_callS rfl rfl rfl rfl (sv trivial) g_ed1 (sv trivial) (se trivial) ⟨3, rfl, rfl⟩ (by simp) (by simp [touchA, touch]) ?_
  refine go ue ?_
  refine x_callS rfl rfl rfl rfl (sv trivial) g_ed1 (sv trivial) (se trivial) ⟨2, rfl, rfl⟩ (by simp) (by simp [touchA, touch]) ?_
  refine go ue ?_
  refine x_callS rfl rfl rfl rfl (sv trivial) g_ed1 (sv trivial) (se trivial) ⟨2, rfl, rfl⟩ (by simp) (by simp [touchA, touch]) ?_
  refine go ue ?_
  refine x_done ⟨_, (sr @Try.f16.eq_1), ?_⟩
  show expoA _ _ = some _
  rfl
end Go.Proofs.Ytahgddfnbjpfiaa
