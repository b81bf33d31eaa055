/- Texts that the law's proof stands on: V42, V43, V44. -/
import Derived.Test.YtahgddfnbjpfiaaB23
import Derived.Test.YtahgddfnbjpfiaaB21
set_option linter.unusedVariables false
set_option linter.unusedSimpArgs false
set_option maxRecDepth 100000
set_option maxHeartbeats 4000000
namespace Go.Proofs.Ytahgddfnbjpfiaa
open Go Go.RowKit Am

def esOf : List (Idt × Value) → Nat → List MapEntry
  | [], _ => []
  | m :: l, k => ⟨keyV m.1, m.2, k⟩ :: esOf l (k + 1)
def mapO (M : List (Idt × Value)) : Obj := .map (esOf M 0).toArray M.length
def fnd (x : Idt) : List (Idt × Value) → Nat → Option (Nat × Value)
  | [], _ => none
  | m :: l, i => if idE x m.1 then some (i, m.2) else fnd x l (i + 1)
theorem esOf_len : ∀ (M : List (Idt × Value)) (k : Nat), (esOf M k).length = M.length
  | [], _ => rfl
  | m :: l, k => by simp [esOf, esOf_len l]
theorem esOf_get : ∀ (M : List (Idt × Value)) (k i : Nat), (esOf M k)[i]? = M[i]?.map fun m => ⟨keyV m.1, m.2, k + i⟩
  | [], k, i => by simp [esOf]
  | m :: l, k, 0 => by simp [esOf]
  | m :: l, k, i + 1 => by simp only [esOf, List.getElem?_cons_succ, esOf_get l]; congr 1; funext m; rw [show k + 1 + i = k + (i + 1) by omega]
theorem esOf_app : ∀ (M : List (Idt × Value)) (k : Nat) (m : Idt × Value), esOf (M ++ [m]) k = esOf M k ++ [⟨keyV m.1, m.2, k + M.length⟩]
  | [], k, m => by simp [esOf]
  | m0 :: l, k, m => by simp only [List.cons_append, esOf, esOf_app l, List.length_cons]; rw [show k + 1 + l.length = k + (l.length + 1) by omega]
theorem idE_eq {x y : Idt} : idE x y = true ↔ x = y := by
  unfold idE
  rw [Bool.and_eq_true, beq_iff_eq, beq_iff_eq]
  constructor
  · rintro ⟨h1, h2⟩
    cases x; cases y
    have := Go.WideShapes.bytes_inj (by simpa only [ByteArray.toList_eq] using h1)
    simp only at this h2
    subst this; subst h2; rfl
  · rintro rfl; exact ⟨rfl, rfl⟩
theorem fnd_some {x : Idt} : ∀ {M : List (Idt × Value)} {k i : Nat} {v : Value}, fnd x M k = some (i, v) → k ≤ i ∧ M[i - k]? = some (x, v)
  | m :: l, k, i, v, h => by
    unfold fnd at h
    split at h
    · rename_i he
      cases h
      refine ⟨Nat.le_refl _, ?_⟩
      rw [Nat.sub_self, List.getElem?_cons_zero, idE_eq.1 he]
    · obtain ⟨h1, h2⟩ := fnd_some h
      refine ⟨by omega, ?_⟩
      rw [show i - k = (i - (k + 1)) + 1 by omega, List.getElem?_cons_succ]
      exact h2
theorem fnd_none {x : Idt} : ∀ {M : List (Idt × Value)} {k : Nat}, fnd x M k = none → ∀ m ∈ M, m.1 ≠ x
  | m :: l, k, h, m', hm => by
    unfold fnd at h
    split at h
    · cases h
    · rename_i he
      rcases List.mem_cons.1 hm with rfl | hm
      · exact fun e => he (idE_eq.2 e.symm)
      · exact fnd_none h m' hm
theorem run_getMap {bm : Nat} {M : List (Idt × Value)} {w : World} (hb : w.heap[bm]? = some (mapO M)) : (getObj bm).run Try.prog w = .ok (mapO M) w := by
  simp only [getObj, Sem.run, hb]; rfl
theorem run_setMap {bm : Nat} {o : Obj} {M : List (Idt × Value)} {w : World} (hb : w.heap[bm]? = some (mapO M)) : (setObj bm o).run Try.prog w = .ok () (w.putObj bm o) := by
  simp [setObj, Sem.run, hb, mapO, World.putObj]
theorem esOf_modify {M : List (Idt × Value)} {i : Nat} {x : Idt} {v : Value} (hi : M[i]? = some (x, v)) : (esOf M 0).toArray.modify i (fun e => { e with key := keyV x }) = (esOf M 0).toArray := by
  apply Array.ext'
  rw [Array.toList_modify]
  apply List.ext_getElem?
  intro j
  rw [List.getElem?_modify, esOf_get]
  by_cases hj : i = j
  · subst hj; rw [hi]; simp
  · simp [hj]
theorem esOf_store {M : List (Idt × Value)} {i : Nat} {x : Idt} {v u : Value} (hi : M[i]? = some (x, v)) : (esOf M 0).toArray.modify i (fun e => { e with val := u }) = (esOf (M.set i (x, u)) 0).toArray := by
  apply Array.ext'
  rw [Array.toList_modify]
  apply List.ext_getElem?
  intro j
  rw [List.getElem?_modify, esOf_get, esOf_get, List.getElem?_set]
  by_cases hj : i = j
  · subst hj
    have hl : i < M.length := (List.getElem?_eq_some_iff.1 hi).1
    rw [hi]; simp [hl]
  · simp [hj]
theorem mapU : Try.prog.underlying 42 = some (.map 29 22) := by kernel_rfl
section
variable {plain : TypeId → Bool} (hp : PlainOk Try.prog plain) (hpl : plain 29 = true)
include hp hpl
theorem run_ask (x : Idt) (w : World) : ∀ (M : List (Idt × Value)) (k i : Nat), (Instr.findAsking 29 (keyV x) (esOf M k) i).run Try.prog w = .ok (fnd x M i) w
  | [], k, i => by simp [esOf, Instr.findAsking, fnd, Sem.run, pure]
  | m :: l, k, i => by
    rw [esOf, Instr.findAsking, fnd]
    simp only [Sem.run_bind, run_eqKey hp hpl, Result.andThen_ok]
    split
    · rfl
    · exact run_ask x w l _ _
theorem run_fnd (x : Idt) (w : World) (M : List (Idt × Value)) : (Instr.findKey 29 (keyV x) (esOf M 0)).run Try.prog w = .ok (fnd x M 0) w := by
  rw [run_findKey_eq w (by kernel_rfl) (keyV x) (esOf M 0)]
  exact run_ask hp hpl x w M 0 0
theorem run_look {bm : Nat} {M : List (Idt × Value)} {w : World} (hb : w.heap[bm]? = some (mapO M)) (x : Idt) : (Instr.lookup 42 (.map (some bm)) (keyV x) false).run Try.prog w = .ok (match fnd x M 0 with | some q => q.2 | none => .slice none 0 0) w := by
  have hu := mapU
  have hg := run_getMap (M := M) hb
  unfold Instr.lookup
  simp only [Sem.run_bind, run_underlying hu, Result.andThen_ok, hg, mapO, Sem.run_pure, run_checkId, run_fnd hp hpl]
  cases hq : fnd x M 0 with
  | some q => rfl
  | none => simp only [Sem.run_bind, Result.andThen_ok, run_zero (P := Try.prog) (T := 22) (z := .slice none 0 0) (by kernel_rfl), Sem.run_pure]; rfl
/-- A map's entry is asked for: it is there, or it is laid. -/
theorem run_entry {bm : Nat} {M : List (Idt × Value)} {w : World} (hb : w.heap[bm]? = some (mapO M)) (x : Idt) :
    ∃ (M' : List (Idt × Value)) (i : Nat) (v : Value), (Instr.mapEntry 42 (.map (some bm)) (keyV x)).run Try.prog w = .ok (.tuple #[v, .int .i64 i]) (w.putObj bm (mapO M')) ∧ M'[i]? = some (x, v) ∧
      ((fnd x M 0 = some (i, v) ∧ M' = M) ∨ (fnd x M 0 = none ∧ v = .slice none 0 0 ∧ i = M.length ∧ M' = M ++ [(x, .slice none 0 0)])) := by
  have hu := mapU
  have hg := run_getMap (M := M) hb
  cases hq : fnd x M 0 with
  | some q =>
    obtain ⟨i, v⟩ := q
    obtain ⟨_, hi⟩ := fnd_some hq
    rw [Nat.sub_zero] at hi
    refine ⟨M, i, v, ?_, hi, .inl ⟨rfl, rfl⟩⟩
    have he : (((esOf M 0).toArray[i]?).map (·.key)).getD (keyV x) = keyV x := by
      rw [List.getElem?_toArray, esOf_get, hi]; rfl
    have hbn : (((esOf M 0).toArray[i]?).map (fun e => (e.born : Int))).getD 0 = i := by
      rw [List.getElem?_toArray, esOf_get, hi]; simp
    unfold Instr.mapEntry
    simp only [Sem.run_bind, run_underlying hu, Result.andThen_ok, hg, mapO, run_checkId, run_fnd hp hpl, hq, he, keep_key, run_setMap hb, esOf_modify hi, hbn, Sem.run_pure]
    rfl
  | none =>
    refine ⟨M ++ [(x, .slice none 0 0)], M.length, .slice none 0 0, ?_, by simp, .inr ⟨rfl, rfl, rfl, rfl⟩⟩
    have hpush : mapO (M ++ [(x, .slice none 0 0)]) = .map ((esOf M 0).toArray.push ⟨keyV x, .slice none 0 0, M.length⟩) (M.length + 1) := by
      unfold mapO
      rw [esOf_app, Nat.zero_add, List.length_append]
      simp
    unfold Instr.mapEntry
    simp only [Sem.run_bind, run_underlying hu, Result.andThen_ok, hg, mapO, run_checkId, run_fnd hp hpl, hq, run_setMap hb, run_zero (P := Try.prog) (T := 22) (z := .slice none 0 0) (by kernel_rfl), Sem.run_pure]
    rw [← hpush]
    rfl
omit hp hpl in
theorem run_enter {bm : Nat} {M : List (Idt × Value)} {w : World} (hb : w.heap[bm]? = some (mapO M)) {i : Nat} {x : Idt} {v : Value} (hi : M[i]? = some (x, v)) (u : Value) :
    (Instr.entryStore 42 (.map (some bm)) (.int .i64 i) u).run Try.prog w = .ok () (w.putObj bm (mapO (M.set i (x, u)))) := by
  have hg := run_getMap (M := M) hb
  have hl : i < M.length := (List.getElem?_eq_some_iff.1 hi).1
  have hfi : (esOf M 0).toArray.findIdx? (fun e => (e.born : Int) == (i : Int)) = some i := by
    rw [List.findIdx?_toArray, List.findIdx?_eq_some_iff_getElem]
    refine ⟨by rw [esOf_len]; exact hl, ?_, fun j hj => ?_⟩
    · have := esOf_get M 0 i
      rw [List.getElem?_eq_getElem (by rw [esOf_len]; exact hl), hi] at this
      simp only [Option.map_some, Option.some.injEq, Nat.zero_add] at this
      rw [this]; simp
    · have := esOf_get M 0 j
      rw [List.getElem?_eq_getElem (by rw [esOf_len]; omega), List.getElem?_eq_getElem (by omega : j < M.length)] at this
      simp only [Option.map_some, Option.some.injEq, Nat.zero_add] at this
      rw [this]; simp; omega
  unfold Instr.entryStore
  simp only [Sem.run_bind, Result.andThen_ok, hg, mapO, asInt, Sem.run_pure, run_getInt, hfi, run_setMap hb, esOf_store hi]
  rw [List.length_set]
end
end Go.Proofs.Ytahgddfnbjpfiaa

set_option linter.unusedVariables false
set_option linter.unusedSimpArgs false
set_option maxRecDepth 100000
set_option maxHeartbeats 4000000
namespace Go.Proofs.Ytahgddfnbjpfiaa
open Go Go.RowKit Am

/-- A callee that only reads. -/
noncomputable def cI (W : World) (K : Nat → Prop) (y : Value) : Cx := ⟨Try.prog, W, K, fun _ => False, fun _ => y, fun w1 _ => ⟨trivial, fun g vs h => by cases h⟩⟩
def h00 : Hp := fun _ => none
def m00 : Mu := fun _ => none
theorem cI_HS (W : World) (K : Nat → Prop) (y : Value) : HS (cI W K y) h00 0 m00 W := ⟨Fr.refl _ _, fun _ _ => rfl, fun _ _ => rfl, fun b B hb => (nomatch hb), fun b b' B B' k base size base' size' hb => (nomatch hb)⟩
theorem cI_ok {W : World} {K : Nat → Prop} {y : Value} {k : Nat} (h : okB (cI W K y) h00 m00 W k) : K k ∧ k < W.heap.size := by
  obtain ⟨h1, h2, _⟩ := h
  rcases h1 with h1 | h1 | h1
  · exact ⟨h1, h2⟩
  · exact absurd h2 (by have : W.heap.size ≤ k := h1; omega)
  · exact h1.elim
theorem cI_mk {W : World} {K : Nat → Prop} {y : Value} {k : Nat} (h1 : K k) (h2 : k < W.heap.size) : okB (cI W K y) h00 m00 W k := ⟨.inl h1, h2, fun ⟨b, B, base, size, hb, _⟩ => (nomatch hb)⟩
/-- What was to be read stays. -/
def KpB (K : Nat → Prop) (A C : World) : Prop := ∀ k, K k → C.heap[k]? = A.heap[k]?
theorem lt_of_heap {A C : World} {k : Nat} (h : C.heap[k]? = A.heap[k]?) (hk : k < A.heap.size) : k < C.heap.size := by
  rw [Array.getElem?_eq_getElem hk] at h
  exact (Array.getElem?_eq_some_iff.1 h).1
theorem cI_mono {W W' : World} {K : Nat → Prop} {y : Value} (hk : KpB K W W') {v : Am.V} {x : Value} (h : R (cI W K y) h00 m00 W v x) : R (cI W' K y) h00 m00 W' v x :=
  Rp.mono h (fun k hok => ⟨cI_mk (cI_ok hok).1 (lt_of_heap (hk k (cI_ok hok).1) (cI_ok hok).2), hk k (cI_ok hok).1⟩) (fun _ _ q => q)
theorem Rp_dp {fv : Nat → Value} {w : World} {ok : Nat → Prop} {μ : Mu} {v : Am.V} {x : Value} (hv : deepc v = true) (h : Rp fv w ok μ v x) : Dp w ok v x := by
  cases h with
  | s _ h => exact .s _ h
  | sl rows n c size A g hn hc hs hA hr => exact .sl rows n c size A g hn hc hs hA hr
  | _ => cases hv
/-- A value is the edit's, its memory in K as w has it. -/
def GoodE (w : World) (K : Nat → Prop) (e : Edt) (x : Value) : Prop := ∃ xs : Array Value, x = .agg xs ∧ xs.size = 18 ∧ ∀ j, j < 18 → Dp w K ((encE e).getD j .undef) (xs.getD j Go.undef)
def El (es : List Edt) (w : World) (K : Nat → Prop) : Type := { q : Nat × Value // ∃ h : q.1 < es.length, GoodE w K es[q.1] q.2 }
def downs (N p : Nat) : List Nat := (List.range p).map fun j => N - 1 - j
theorem downs_succ (N p : Nat) : downs N (p + 1) = downs N p ++ [N - 1 - p] := by simp [downs, List.range_succ]
theorem pw_cons {E : Env} {h : Hp} {o : Oper} {rest : List Oper} {K : (Nat → Am.V) → Prop} {t : Nat → Am.V} {d : Nat} {v : Am.V} (hg : o.guard = none) (hn : noDefer o = true) (hd : o.dst = some d) (hv : pval E.P E.plain h (ev t) o.op = some v) (k : pwL E h rest K (upd t d v)) : pwL E h (o :: rest) K t :=
  ⟨⟨hg, hn⟩, d, v, hd, hv, k⟩
theorem encE_deep (e : Edt) (j : Nat) (hj : j < 18) : deepc ((encE e).getD j .undef) = true := by
  have : ∀ q ∈ encE e, deepc q = true := by simp [encE, deepc]
  refine this _ ?_
  rw [List.getD_eq_getElem?_getD, List.getElem?_eq_getElem (by exact hj)]
  exact List.getElem_mem _
theorem goodE_of {W w : World} {K : Nat → Prop} {y : Value} {e : Edt} {x : Value} (hk : KpB K w W) (h : R (cI W K y) h00 m00 W (.agg (encE e)) x) : GoodE w K e x := by
  obtain ⟨xs, rfl, hl, hr⟩ := h.agg_inv
  refine ⟨xs, rfl, hl, fun j hj => ?_⟩
  exact (Rp_dp (encE_deep e j hj) (hr j hj)).mono fun k hok => ⟨(cI_ok hok).1, (hk k (cI_ok hok).1).symm⟩
section
variable {plain : TypeId → Bool} (hp : PlainOk Try.prog plain)
include hp
theorem backIt (n : Nat) (es : List Edt) {w : World} {K : Nat → Prop} {k0 : Nat} {sl0 : Value} (hk0 : K k0) (hKlt : ∀ k, K k → k < w.heap.size) (hcell : w.cell? ⟨k0, 0, none⟩ = some sl0) (hsv : Dp w K (.sl (es.map encE)) sl0) (hN : es.length ≤ 1099511627776) :
    SeqStopsK (α := El es w K) Fence.wide n Try.prog 32 #[.pointer (some ⟨k0, 0, none⟩)] (fun q => #[.int .i64 (q.1.1 : Nat), q.1.2]) (KpB K) (fun xs => xs.map (fun q => q.1.1) = downs es.length es.length) (fun _ => True) es.length w := by
  intro l J Jx W hW hJ hJx hY h0
  have hKW : KpB K w W := fun k hk => hW.block k (hKlt k hk)
  obtain ⟨y, hy⟩ : ∃ y : Value, y = .func (.yield l) #[] #[] := ⟨_, rfl⟩
  have hr := encE_rows es
  refine callsIn_of_wp Try.func32 rfl trivial ?_ rfl
  -- what the captured slice is
  have hpc : R (cI W K y) h00 m00 W (.pc [.sl (es.map encE)]) (.pointer (some ⟨k0, 0, none⟩)) := by
    refine .pc [.sl (es.map encE)] ⟨k0, 0, none⟩ (fun _ => sl0) (cI_mk hk0 (lt_of_heap (hKW k0 hk0) (hKlt _ hk0))) (fun j hj => ?_) (fun j hj => ?_)
    · obtain rfl : j = 0 := by simp at hj; exact hj
      have : ((⟨k0, 0, none⟩ : Addr).add 0) = ⟨k0, 0, none⟩ := rfl
      rw [this, ← hcell]
      exact cell_same (hKW k0 hk0)
    · obtain rfl : j = 0 := by simp at hj; exact hj
      exact hsv.mono fun k hk => ⟨cI_mk hk (lt_of_heap (hKW k hk) (hKlt _ hk)), hKW k hk⟩
  obtain ⟨tt, htt⟩ : ∃ tt : Int → Nat → Am.V, tt = fun z i => if i = 0 then .fv 0 else if i = 1 then .pc [.sl (es.map encE)] else if i = 3 then .s (.int .i64 z) else .any := ⟨_, rfl⟩
  have tt0 : ∀ z, tt z 0 = .fv 0 := fun z => by rw [htt]; rfl
  have tt1 : ∀ z, tt z 1 = .pc [.sl (es.map encE)] := fun z => by rw [htt]; rfl
  have tt3 : ∀ z, tt z 3 = .s (.int .i64 z) := fun z => by rw [htt]; rfl
  have ttR : ∀ (z : Int) (W' : World) (a : Act), R (cI W' K y) h00 m00 W' (.fv 0) (a.tmps.getD 0 Go.undef) → R (cI W' K y) h00 m00 W' (.pc [.sl (es.map encE)]) (a.tmps.getD 1 Go.undef) → R (cI W' K y) h00 m00 W' (.s (.int .i64 z)) (a.tmps.getD 3 Go.undef) → ∀ i, R (cI W' K y) h00 m00 W' (tt z i) (a.tmps.getD i Go.undef) := by
    intro z W' a r0 r1 r3 i
    rw [htt]
    show R _ _ _ _ (if i = 0 then V.fv 0 else if i = 1 then _ else if i = 3 then _ else V.any) _
    split
    · rename_i e; rw [e]; exact r0
    · split
      · rename_i e; rw [e]; exact r1
      · split
        · rename_i e; rw [e]; exact r3
        · exact .any _
  have r0 : ∀ W', R (cI W' K y) h00 m00 W' (.fv 0) y := fun W' => .fv 0
  have rz : ∀ (z : Int) W', R (cI W' K y) h00 m00 W' (.s (.int .i64 z)) (.int .i64 z) := fun z W' => .s _ rfl
  have nt := Try.ntmps32
  rw [nt]
  generalize ha0 : ({ tmps := _, defers := [] } : Act) = a0
  have hsz0 : a0.tmps.size = 19 := by rw [← ha0]; simp
  have hdf0 : a0.defers = [] := by rw [← ha0]
  have g0 : a0.tmps.getD 0 undef = y := by rw [← ha0, hy]; simp
  have g1 : a0.tmps.getD 1 undef = .pointer (some ⟨k0, 0, none⟩) := by rw [← ha0]; simp
  clear ha0
  have hR0 : ∀ i, R (cI W K y) h00 m00 W ((fun i => if i = 0 then V.fv 0 else if i = 1 then .pc [.sl (es.map encE)] else .any) i) (a0.tmps.getD i undef) := by
    intro i
    show R _ _ _ _ (if i = 0 then V.fv 0 else if i = 1 then _ else V.any) _
    split
    · rename_i e; rw [e, g0]; exact r0 W
    · split
      · rename_i e; rw [e, g1]; exact hpc
      · exact .any _
  refine wpIn_seq (pure_regionIn (r := none) (E := ⟨Try.prog, plain, fun _ => none, fun _ => none, fun _ => none, 19⟩) hp (c := cI W K y) rfl rfl (cI_HS W K y) (nt := 19) (fun t' => t' 0 = .fv 0 ∧ t' 1 = .pc [.sl (es.map encE)] ∧ t' 3 = .s (.int .i64 ((es.length : Int) - 1))) (by decide +kernel) hsz0 hR0 ?_ ?_)
  · refine pw_cons rfl rfl rfl (sv hr) (pw_cons rfl rfl rfl (sv hr) (pw_cons rfl rfl rfl (sv hr) (pw_cons rfl rfl rfl (sv hr) ?_)))
    exact ⟨sx trivial, sx trivial, sx trivial⟩
  rintro t1 a1 ⟨q0, q1, q3⟩ hs1 hd1 hR1
  show Code.wpIn _ _ _ _ _ _ _
  refine wpIn_block (wpIn_loop (fun a wr => ∃ pre : List (El es w K), pre.map (fun q => q.1.1) = downs es.length pre.length ∧ pre.length ≤ es.length ∧ J pre wr ∧ KpB K w wr ∧ a.tmps.size = 19 ∧ a.defers = [] ∧ R (cI wr K y) h00 m00 wr (.fv 0) (a.tmps.getD 0 undef) ∧ R (cI wr K y) h00 m00 wr (.pc [.sl (es.map encE)]) (a.tmps.getD 1 undef) ∧ R (cI wr K y) h00 m00 wr (.s (.int .i64 ((es.length : Int) - 1 - pre.length))) (a.tmps.getD 3 undef)) (fun a _ => match a.tmps.getD 3 undef with | .int _ z => (z + 1).toNat | _ => 0) ⟨[], rfl, Nat.zero_le _, h0, hKW, hs1, by rw [hd1, hdf0], by rw [← q0]; exact hR1 0, by rw [← q1]; exact hR1 1, ?_⟩ ?_)
  · rw [List.length_nil, show ((es.length : Int) - 1 - ((0 : Nat) : Int)) = (es.length : Int) - 1 by omega, ← q3]; exact hR1 3
  rintro a wr ⟨pre, hpre, hlen, hJp, hKp, hs, hdf, e0, e1, e3⟩
  have ha3 : a.tmps.getD 3 undef = .int .i64 ((es.length : Int) - 1 - pre.length) := e3.s_eq.1
  have hRt : ∀ i, R (cI wr K y) h00 m00 wr ((fun i => if i = 0 then V.fv 0 else if i = 1 then .pc [.sl (es.map encE)] else if i = 3 then .s (.int .i64 ((es.length : Int) - 1 - pre.length)) else .any) i) (a.tmps.getD i undef) := by
    intro i
    show R _ _ _ _ (if i = 0 then V.fv 0 else if i = 1 then _ else if i = 3 then _ else V.any) _
    split
    · rename_i e; rw [e]; exact e0
    · split
      · rename_i e; rw [e]; exact e1
      · split
        · rename_i e; rw [e]; exact e3
        · exact .any _
  by_cases hlt : pre.length < es.length
  · -- a round
    obtain ⟨k, hk⟩ : ∃ k : Nat, (es.length : Int) - 1 - pre.length = (k : Int) := ⟨es.length - 1 - pre.length, by omega⟩
    rw [hk] at hRt ha3
    have hkl : k < es.length := by omega
    have hge : ((0 : Int) ≤ (k : Int)) = True := eq_true (by omega)
    refine wpIn_seq (wpIn_seq (pure_regionIn (r := none) (E := ⟨Try.prog, plain, fun _ => none, fun _ => none, fun _ => none, 19⟩) hp (c := cI wr K y) rfl rfl (cI_HS wr K y) (nt := 19) (fun t' => t' 0 = .fv 0 ∧ t' 1 = .pc [.sl (es.map encE)] ∧ t' 3 = .s (.int .i64 k) ∧ t' 8 = .s (.bool true)) (by decide +kernel) hs hRt ?_ ?_))
    · refine pw_cons rfl rfl rfl (sv hge) (pw_cons rfl rfl rfl (sv hge) ?_)
      exact ⟨sx trivial, sx trivial, sx trivial, sx trivial⟩
    rintro t2 a2 ⟨q0, q1, q3, q8⟩ hs2 hd2 hR2
    show Code.wpIn _ _ _ _ _ _ _
    have hb8 : R (cI wr K y) h00 m00 wr (t2 8) (a2.eval (.tmp 8)) := hR2 8
    rw [q8] at hb8
    refine wpIn_cond_true hb8.s_eq.1 (wpIn_skip ?_)
    show Code.wpIn _ _ _ _ _ _ _
    have hrow : ((es.map encE).getD k []) = encE es[k] := getD_map _ _ _ hkl
    refine wpIn_seq (wpIn_block (wpIn_seq (pure_headIn (r := none) (E := ⟨Try.prog, plain, fun _ => none, fun _ => none, fun _ => none, 19⟩) hp (c := cI wr K y) rfl rfl (cI_HS wr K y) (nt := 19) 6 (fun t' => t' 0 = .fv 0 ∧ t' 1 = .pc [.sl (es.map encE)] ∧ t' 3 = .s (.int .i64 k) ∧ t' 11 = .fv 0 ∧ t' 12 = .s (.int .i64 k) ∧ t' 16 = .agg (encE es[k])) (by decide +kernel) hs2 hR2 ?_ ?_)))
    · refine pw_cons rfl rfl rfl (sv (And.intro q0 (And.intro q1 (And.intro q3 hr)))) ?_
      refine pw_cons rfl rfl rfl (sv (And.intro q0 (And.intro q1 (And.intro q3 hr)))) ?_
      refine pw_cons rfl rfl rfl (sv (And.intro q0 (And.intro q1 (And.intro q3 hr)))) ?_
      refine pw_cons rfl rfl rfl (sv (And.intro q0 (And.intro q1 (And.intro q3 hr)))) ?_
      refine pw_cons rfl rfl rfl (sv (And.intro q0 (And.intro q1 (And.intro q3 hr)))) ?_
      refine pw_cons rfl rfl rfl (sv (And.intro q0 (And.intro q1 (And.intro q3 (And.intro hr (@encE.eq_1)))))) ?_
      refine ⟨sx (And.intro q0 (And.intro q1 q3)), sx (And.intro q0 (And.intro q1 q3)), sx (And.intro q0 (And.intro q1 q3)), sx (And.intro q0 (And.intro q1 q3)), sx (And.intro q0 (And.intro q1 q3)), ?_⟩
      exact sx (And.intro hr (And.intro hkl (@encE.eq_1)))
    rintro t3 a3 ⟨q0, q1, q3, q11, q12, q16⟩ hs3 hd3 hR3
    have f11 : R (cI wr K y) h00 m00 wr (t3 11) (a3.eval (.tmp 11)) := hR3 11
    have f12 : R (cI wr K y) h00 m00 wr (t3 12) (a3.eval (.tmp 12)) := hR3 12
    have f16 : R (cI wr K y) h00 m00 wr (t3 16) (a3.eval (.tmp 16)) := hR3 16
    rw [q11] at f11
    rw [q12] at f12
    rw [q16] at f16
    have v11 : a3.eval (.tmp 11) = .func (.yield l) #[] #[] := by rw [← hy]; generalize a3.eval (.tmp 11) = z at f11; cases f11; rfl
    have v12 := f12.s_eq.1
    obtain ⟨x, hx⟩ : ∃ x, a3.eval (.tmp 16) = x := ⟨_, rfl⟩
    rw [hx] at f16
    obtain ⟨qe, g1, g2⟩ : ∃ qe : El es w K, qe.1.1 = k ∧ qe.1.2 = x := ⟨⟨(k, x), ⟨hkl, goodE_of hKp f16⟩⟩, rfl, rfl⟩
    have hY1 := hY pre qe wr hJp hlt
    simp only [g1, g2] at hY1
    have hdl : (pre ++ [qe]).map (fun q => q.1.1) = downs es.length (pre ++ [qe]).length := by
      rw [List.length_append, List.map_append, hpre]
      show _ ++ [qe.1.1] = downs es.length (pre.length + 1)
      rw [downs_succ, g1, show es.length - 1 - pre.length = k by omega]
    refine listIn_cons rfl (yield_in (r := none) rfl rfl v11 (by simp [v12, hx]) hY1 ?_)
    have hR3' : ∀ (W' : World), KpB K wr W' → ∀ b : Bool, ∀ i, R (cI W' K y) h00 m00 W' ((fun i => if i = 17 then V.s (.bool b) else if i = 0 then .fv 0 else if i = 1 then .pc [.sl (es.map encE)] else if i = 3 then .s (.int .i64 k) else .any) i) ((a3.put (some 17) (.bool b)).tmps.getD i undef) := by
      intro W' hW' b i
      have h0 := hR3 0
      have h1 := hR3 1
      have h3 := hR3 3
      rw [q0] at h0
      rw [q1] at h1
      rw [q3] at h3
      show R _ _ _ _ (if i = 17 then V.s (.bool b) else if i = 0 then .fv 0 else if i = 1 then .pc [.sl (es.map encE)] else if i = 3 then .s (.int .i64 k) else .any) _
      have hne : i ≠ 17 → (a3.put (some 17) (.bool b)).tmps.getD i undef = a3.tmps.getD i undef := by
        intro hi
        simp only [Act.put, Array.getD_eq_getD_getElem?, Array.getElem?_setIfInBounds]
        rw [if_neg (by omega)]
      split
      · rename_i e
        subst e
        have : (a3.put (some 17) (.bool b)).tmps.getD 17 undef = .bool b := by simp [Act.put, hs3]
        rw [this]; exact .s _ rfl
      · rename_i hi
        rw [hne hi]
        split
        · rename_i e; subst e; exact cI_mono hW' h0
        · split
          · rename_i e; subst e; exact cI_mono hW' h1
          · split
            · rename_i e; subst e; exact cI_mono hW' h3
            · exact .any _
    have hs4 : ∀ b : Bool, (a3.put (some 17) (.bool b)).tmps.size = 19 := fun b => by simp [Act.put, hs3]
    have hd4 : ∀ b : Bool, (a3.put (some 17) (.bool b)).defers = [] := fun b => by simp only [Act.put]; rw [hd3, hd2, hdf]
    rintro e W' (⟨rfl, hJ', hK'⟩ | ⟨rfl, hJx'⟩)
    · refine ⟨_, rfl, ?_⟩
      have hRR := hR3' W' hK' true
      refine listIn_cons rfl (one_in (r := none) (E := ⟨Try.prog, plain, fun _ => none, fun _ => none, fun _ => none, 19⟩) hp (c := cI W' K y) rfl rfl (cI_HS W' K y) hRR rfl (sv trivial) ?_)
      intro x5 hx5
      have e18 : x5 = .bool false := by have := hx5.s_eq.1; simpa using this
      subst e18
      have hRR2 := put_R hRR (d := 18) (by rw [hs4]; decide) hx5
      generalize ha5 : ((a3.put (some 17) (.bool true)).put (some 18) (.bool false)) = a5 at *
      have hs5 : a5.tmps.size = 19 := by rw [← ha5]; simp [Act.put, hs3]
      have hd5 : a5.defers = [] := by rw [← ha5]; exact hd4 true
      have h18 : a5.eval (.tmp 18) = .bool false := by
        have h1 : R (cI W' K y) h00 m00 W' _ (a5.eval (.tmp 18)) := hRR2 18
        rw [upd_same] at h1
        have := h1.s_eq.1
        simpa using this
      show Code.wpIn _ _ _ _ _ _ _
      refine wpIn_cond_false h18 (wpIn_skip ?_)
      show Code.wpIn _ _ _ _ _ _ _
      refine pure_regionIn (r := none) (E := ⟨Try.prog, plain, fun _ => none, fun _ => none, fun _ => none, 19⟩) hp (c := cI W' K y) rfl rfl (cI_HS W' K y) (nt := 19) (fun t' => t' 0 = .fv 0 ∧ t' 1 = .pc [.sl (es.map encE)] ∧ t' 3 = .s (.int .i64 ((k : Int) - 1))) (by decide +kernel) hs5 hRR2 ?_ ?_
      · refine pw_cons rfl rfl rfl (sv trivial) (pw_cons rfl rfl rfl (sv trivial) (pw_cons rfl rfl rfl (sv trivial) ?_))
        exact ⟨sx trivial, sx trivial, sx trivial⟩
      rintro t6 a6 ⟨q0, q1, q3⟩ hs6 hd6 hR6
      have e30 := hR6 0
      have e31 := hR6 1
      have e33 := hR6 3
      rw [q0] at e30
      rw [q1] at e31
      rw [q3] at e33
      refine ⟨⟨pre ++ [qe], hdl, by simp; omega, hJ', fun z hz => (hK' z hz).trans (hKp z hz), hs6, by rw [hd6, hd5], e30, e31, ?_⟩, ?_⟩
      · have : (es.length : Int) - 1 - ((pre ++ [qe]).length : Nat) = (k : Int) - 1 := by simp; omega
        rw [this]
        exact e33
      · simp only [e33.s_eq.1, ha3]
        omega
    · refine ⟨_, rfl, ?_⟩
      have hRR := cI_HS W' K y
      have hx17 : ∀ i, R (cI W' K y) h00 m00 W' ((fun i => if i = 17 then V.s (.bool false) else .any) i) ((a3.put (some 17) (.bool false)).tmps.getD i undef) := by
        intro i
        show R _ _ _ _ (if i = 17 then V.s (.bool false) else .any) _
        split
        · rename_i e
          subst e
          have : (a3.put (some 17) (.bool false)).tmps.getD 17 undef = .bool false := by simp [Act.put, hs3]
          rw [this]; exact .s _ rfl
        · exact .any _
      refine listIn_cons rfl (one_in (r := none) (E := ⟨Try.prog, plain, fun _ => none, fun _ => none, fun _ => none, 19⟩) hp (c := cI W' K y) rfl rfl (cI_HS W' K y) hx17 rfl (sv trivial) ?_)
      intro x5 hx5
      have e18 : x5 = .bool true := by have := hx5.s_eq.1; simpa using this
      subst e18
      have h18 : ((a3.put (some 17) (.bool false)).put (some 18) (.bool true)).eval (.tmp 18) = .bool true := by simp [Act.eval, Act.put, hs3]
      show Code.wpIn _ _ _ _ _ _ _
      refine wpIn_cond_true h18 (wpIn_ret ?_)
      exact ⟨show ((a3.put (some 17) (.bool false)).put (some 18) (.bool true)).defers = [] from hd4 false, _, results_none rfl _ _ _, ⟨_, rfl⟩, .inr ⟨_, trivial, hJx'⟩⟩
  · -- all have come
    have hle : pre.length = es.length := by omega
    have hlt0 : ((0 : Int) ≤ (es.length : Int) - 1 - pre.length) = False := eq_false (by omega)
    refine wpIn_seq (wpIn_seq (pure_regionIn (r := none) (E := ⟨Try.prog, plain, fun _ => none, fun _ => none, fun _ => none, 19⟩) hp (c := cI wr K y) rfl rfl (cI_HS wr K y) (nt := 19) (fun t' => t' 8 = .s (.bool false)) (by decide +kernel) hs hRt ?_ ?_))
    · refine pw_cons rfl rfl rfl (sv hlt0) (pw_cons rfl rfl rfl (sv hlt0) ?_)
      show upd _ 8 _ 8 = _
      exact sx trivial
    rintro t2 a2 q8 hs2 hd2 hR2
    show Code.wpIn _ _ _ _ _ _ _
    have hb8 : R (cI wr K y) h00 m00 wr (t2 8) (a2.eval (.tmp 8)) := hR2 8
    rw [q8] at hb8
    refine wpIn_cond_false hb8.s_eq.1 (wpIn_exit ?_)
    rw [hle] at hpre
    exact ⟨by rw [hd2, hdf], _, results_none rfl _ _ _, ⟨_, rfl⟩, .inl ⟨pre, hpre, hJp⟩⟩
end
end Go.Proofs.Ytahgddfnbjpfiaa

set_option linter.unusedVariables false
set_option linter.unusedSimpArgs false
set_option maxRecDepth 100000
set_option maxHeartbeats 4000000
namespace Go.Proofs.Ytahgddfnbjpfiaa
open Go Go.RowKit Am

/-- The undos of an edit among some live undos. -/
def offL (o : List Edt) (x : Idt) : List Edt := o.filter fun u => idE u.target x
/-- One edit is judged: the edits' state so far, the live undos so far. -/
def stp (es : List Edt) (st : List Bool × List Edt) (i : Nat) : List Bool × List Edt := match es[i]? with
  | none => st
  | some e => (st.1.set i (!(offL st.2 e.id).any fun u => undF u e), if (!(offL st.2 e.id).any fun u => undF u e) && decide (e.kind = 4) then st.2 ++ [e] else st.2)
def runL (es : List Edt) (l : List Nat) : List Bool × List Edt := l.foldl (stp es) (List.replicate es.length false, [])
theorem runL_snoc (es : List Edt) (l : List Nat) (i : Nat) : runL es (l ++ [i]) = stp es (runL es l) i := by simp [runL]
def liveB (es : List Edt) : List Bool := (runL es (downs es.length es.length)).1
abbrev encBo (b : Bool) : List Am.V := [.s (.bool b)]
/-- An entry of the map: its key, the block where its undos lie. -/
structure Ent where
  id : Idt
  b : Nat
  cap : Nat
  L : List Edt
  sp : List (List Am.V)
  x : Value
abbrev Ent.v (m : Ent) : Am.V := .loc m.b 0 m.L.length m.cap
/-- What holds between two rounds. -/
structure Inv (c : Cx) (es : List Edt) (w : World) (K : Nat → Prop) (bm : Nat) (v3 v4 : Value) (st : List Bool × List Edt) (p : Nat) (h : Hp) (n : Nat) (μ : Mu) (M : List Ent) (W : World) : Prop where
  hs : HS c h n μ W
  kp : KpB K w W
  bm_ok : okB c h μ W bm
  k_ok : ∀ k, K k → ¬ live h μ k
  t3 : R c h μ W (.ptr 1 0 0) v3
  t4 : R c h μ W (.ptr 2 0 0) v4
  b0 : h 0 = some ⟨1, st.1.map encBo, true⟩
  b1 : h 1 = some ⟨1, [[.loc 0 0 es.length es.length]], true⟩
  b2 : h 2 = some ⟨1, [[.mp bm]], true⟩
  n2 : 2 < n
  mo : W.heap[bm]? = some (mapO (M.map fun m => (m.id, m.x)))
  ent : ∀ m ∈ M, R c h μ W m.v m.x ∧ h m.b = some ⟨18, m.L.map encE ++ m.sp, true⟩ ∧ m.L.length ≤ m.cap ∧ m.cap ≤ m.L.length + m.sp.length ∧ 2 < m.b ∧ m.L ≠ [] ∧ m.L = offL st.2 m.id
  ndb : (M.map (·.b)).Nodup
  ndi : (M.map (·.id)).Nodup
  non : ∀ x, (∀ m ∈ M, m.id ≠ x) → offL st.2 x = []
  len : st.1.length = es.length
  sub : ∀ u ∈ st.2, u ∈ es
  o2 : st.2.length ≤ p
  low : ∀ b, b ≤ 2 → ∀ k base size, μ b = some (.real k base size) → k < w.heap.size
  liv : ∀ b B, h b = some B → b ≤ 2 ∨ ∃ m ∈ M, m.b = b
  cel : 0 < es.length → ∀ k, live h μ k → ∀ o, W.heap[k]? = some o → o.isCells = true
def InvI (c : Cx) (es : List Edt) (w : World) (K : Nat → Prop) (bm : Nat) (v3 v4 : Value) (pre : List (El es w K)) (W : World) : Prop := ∃ h n μ M, Inv c es w K bm v3 v4 (runL es (pre.map fun q => q.1.1)) pre.length h n μ M W
section
variable {c : Cx} {es : List Edt} {w : World} {K : Nat → Prop} {bm : Nat} {v3 v4 : Value}
theorem Inv.grown {st : List Bool × List Edt} {p : Nat} {h : Hp} {n : Nat} {μ : Mu} {M : List Ent} {W W' : World} (hw : c.w0.heap.size ≤ w.heap.size) (hKlt : ∀ k, K k → k < w.heap.size) (hbm : bm < w.heap.size) (I : Inv c es w K bm v3 v4 st p h n μ M W) {row : Option Nat} (g : W.grownBy W' row) (hr : ∀ r, row = some r → w.heap.size ≤ r ∧ ∃ o : Obj, W.heap[r]? = some o ∧ o.isCells = false) :
    Inv c es w K bm v3 v4 st p h n μ M W' := by
  obtain ⟨H, hR⟩ := I.hs.grown g fun r e => ⟨Nat.le_trans hw (hr r e).1, (hr r e).2⟩
  have hkeep : ∀ k, k < w.heap.size → k < W.heap.size → W'.heap[k]? = W.heap[k]? := fun k h1 h2 => g.block k h2 fun e => by have := (hr k e.symm).1; omega
  refine ⟨H, fun k hk => ?_, ⟨I.bm_ok.1, Nat.lt_of_lt_of_le I.bm_ok.2.1 g.size, I.bm_ok.2.2⟩, I.k_ok, hR _ _ I.t3, hR _ _ I.t4, I.b0, I.b1, I.b2, I.n2, by rw [hkeep bm hbm I.bm_ok.2.1]; exact I.mo, fun m hm => ⟨hR _ _ (I.ent m hm).1, (I.ent m hm).2⟩, I.ndb, I.ndi, I.non, I.len, I.sub, I.o2, I.low, I.liv, fun hN k hl o ho => ?_⟩
  · rw [hkeep k (hKlt k hk) (lt_of_heap (I.kp k hk) (hKlt k hk))]
    exact I.kp k hk
  · have hks := (I.hs.wr_block hl).2
    have hne : some k ≠ row := fun e => by
      obtain ⟨_, o2, h2, h3⟩ := hr k e.symm
      have := I.cel hN k hl o2 h2
      rw [this] at h3
      cases h3
    rw [g.block k hks hne] at ho
    exact I.cel hN k hl o ho
theorem inv_own (hw : c.w0.heap.size ≤ w.heap.size) (hKlt : ∀ k, K k → k < w.heap.size) (hbm : bm < w.heap.size) : OwnFrom w.heap.size (InvI c es w K bm v3 v4) := by
  rintro pre W W' row ⟨h, n, μ, M, I⟩ g hr
  exact ⟨h, n, μ, M, I.grown hw hKlt hbm g hr⟩
end
/-- What the map hands back for a key. -/
def offV : List Ent → Idt → Am.V
  | [], _ => .cap0
  | m :: M, x => if idE x m.id then m.v else offV M x
theorem offV_some {x : Idt} : ∀ {M : List Ent} {k i : Nat} {v : Value}, fnd x (M.map fun m => (m.id, m.x)) k = some (i, v) → ∃ m, M[i - k]? = some m ∧ k ≤ i ∧ m.id = x ∧ m.x = v ∧ offV M x = m.v
  | m :: M, k, i, v, h => by
    rw [List.map_cons] at h
    unfold fnd at h
    split at h
    · rename_i he
      cases h
      refine ⟨m, by simp, Nat.le_refl _, (idE_eq.1 he).symm, rfl, ?_⟩
      rw [offV, if_pos he]
    · rename_i he
      obtain ⟨m', h1, h2, h3, h4, h5⟩ := offV_some h
      refine ⟨m', ?_, by omega, h3, h4, ?_⟩
      · rw [show i - k = (i - (k + 1)) + 1 by omega, List.getElem?_cons_succ]; exact h1
      · rw [offV, if_neg he]; exact h5
theorem offV_none {x : Idt} : ∀ {M : List Ent} {k : Nat}, fnd x (M.map fun m => (m.id, m.x)) k = none → offV M x = .cap0 ∧ ∀ m ∈ M, m.id ≠ x
  | [], k, h => ⟨rfl, fun m hm => by cases hm⟩
  | m :: M, k, h => by
    rw [List.map_cons] at h
    unfold fnd at h
    split at h
    · cases h
    · rename_i he
      obtain ⟨h1, h2⟩ := offV_none h
      refine ⟨by rw [offV, if_neg he]; exact h1, fun m' hm => ?_⟩
      rcases List.mem_cons.1 hm with rfl | hm
      · exact fun e => he (idE_eq.2 e.symm)
      · exact h2 m' hm
theorem cells_of_live {c : Cx} {h : Hp} {n : Nat} {μ : Mu} {W : World} (H : HS c h n μ W) {b : Nat} {B : Blk} {k base size : Nat} (hb : h b = some B) (hm : μ b = some (.real k base size)) (hr : B.rows ≠ []) (hz : 0 < B.size) {o : Obj} (ho : W.heap[k]? = some o) : o.isCells = true := by
  rcases H.blk b B hb with ⟨h1, _⟩ | ⟨k2, base2, h1, h2, h3, h4, h5⟩
  · rw [hm] at h1; cases h1
  · rw [hm] at h1
    cases h1
    obtain ⟨x, hx, _⟩ := h5 0 0 (by cases hB : B.rows with
      | nil => exact absurd hB hr
      | cons r l => simp) hz
    unfold World.cell? at hx
    rw [ho] at hx
    cases o <;> first | rfl | cases hx
section
variable {c : Cx} {es : List Edt} {w : World} {K : Nat → Prop} {bm : Nat} {v3 v4 : Value}
theorem inv_mk (hKb : ∀ k, K k → c.ok0 k ∨ c.w0.heap.size ≤ k ∨ c.X k) (hKlt : ∀ k, K k → k < w.heap.size) (hKbm : ¬ K bm) {st st' : List Bool × List Edt} {p p' : Nat} {h hf : Hp} {n nf : Nat} {μ μf : Mu} {M M' : List Ent} {W W' : World} (I : Inv c es w K bm v3 v4 st p h n μ M W)
    (H : HS c hf nf μf W') (hmu : ∀ b t, μ b = some t → μf b = some t) (hfr : ∀ k, okB c h μ W k → k ≠ bm → okB c hf μf W' k ∧ W'.heap[k]? = W.heap[k]?) (hbm : okB c hf μf W' bm)
    (hb0 : hf 0 = some ⟨1, st'.1.map encBo, true⟩) (hb1 : hf 1 = h 1) (hb2 : hf 2 = h 2) (hn : n ≤ nf)
    (mo : W'.heap[bm]? = some (mapO (M'.map fun m => (m.id, m.x))))
    (ent : ∀ m ∈ M', R c hf μf W' m.v m.x ∧ hf m.b = some ⟨18, m.L.map encE ++ m.sp, true⟩ ∧ m.L.length ≤ m.cap ∧ m.cap ≤ m.L.length + m.sp.length ∧ 2 < m.b ∧ m.L ≠ [] ∧ m.L = offL st'.2 m.id)
    (ndb : (M'.map (·.b)).Nodup) (ndi : (M'.map (·.id)).Nodup) (non : ∀ x, (∀ m ∈ M', m.id ≠ x) → offL st'.2 x = []) (len : st'.1.length = es.length) (sub : ∀ u ∈ st'.2, u ∈ es) (o2 : st'.2.length ≤ p') (liv : ∀ b B, hf b = some B → b ≤ 2 ∨ ∃ m ∈ M', m.b = b) :
    Inv c es w K bm v3 v4 st' p' hf nf μf M' W' := by
  have hK : ∀ k, K k → okB c hf μf W' k ∧ W'.heap[k]? = W.heap[k]? := fun k hk => hfr k ⟨hKb k hk, lt_of_heap (I.kp k hk) (hKlt k hk), I.k_ok k hk⟩ (fun e => hKbm (e ▸ hk))
  have hptr : ∀ {b : Nat} {v : Value}, R c h μ W (.ptr b 0 0) v → R c hf μf W' (.ptr b 0 0) v := fun r => by
    obtain ⟨q, base, size, hm, rfl⟩ := r.ptr_inv
    exact .ptr _ _ _ _ _ _ (hmu _ _ hm)
  have hlow : ∀ b, b ≤ 2 → ∃ t, μ b = some t := by
    intro b hb
    have hh : ∃ B, h b = some B := by
      have : b = 0 ∨ b = 1 ∨ b = 2 := by omega
      rcases this with rfl | rfl | rfl
      · exact ⟨_, I.b0⟩
      · exact ⟨_, I.b1⟩
      · exact ⟨_, I.b2⟩
    obtain ⟨B, hB⟩ := hh
    rcases I.hs.blk b B hB with ⟨h1, _⟩ | ⟨k, base, h1, _⟩
    · exact ⟨_, h1⟩
    · exact ⟨_, h1⟩
  refine ⟨H, fun k hk => (hK k hk).2.trans (I.kp k hk), hbm, fun k hk => (hK k hk).1.2.2, hptr I.t3, hptr I.t4, hb0, by rw [hb1]; exact I.b1, by rw [hb2]; exact I.b2, Nat.lt_of_lt_of_le I.n2 hn, mo, ent, ndb, ndi, non, len, sub, o2, fun b hb k base size hm => ?_, liv, fun hN k hl o ho => ?_⟩
  · obtain ⟨t, ht⟩ := hlow b hb
    have := hmu b t ht
    rw [hm] at this
    cases this
    exact I.low b hb k base size ht
  · obtain ⟨b, B, base, size, hB, hwr, hm⟩ := hl
    have hne : B.rows ≠ [] ∧ 0 < B.size := by
      rcases liv b B hB with hb | ⟨m, hmM, rfl⟩
      · have : b = 0 ∨ b = 1 ∨ b = 2 := by omega
        rcases this with rfl | rfl | rfl
        · rw [hb0] at hB
          cases hB
          refine ⟨fun e => ?_, Nat.one_pos⟩
          have := congrArg List.length e
          simp at this
          rw [this] at len
          simp at len
          omega
        · rw [hb1, I.b1] at hB; cases hB; exact ⟨by simp, Nat.one_pos⟩
        · rw [hb2, I.b2] at hB; cases hB; exact ⟨by simp, Nat.one_pos⟩
      · obtain ⟨_, e2, _, _, _, e6, _⟩ := ent m hmM
        rw [e2] at hB
        cases hB
        exact ⟨by simp [e6], by show 0 < 18; decide⟩
    exact cells_of_live H hB hm hne.1 hne.2 ho
end
end Go.Proofs.Ytahgddfnbjpfiaa
