/- Texts that the law's proof stands on: AmEff. -/
import Derived.Test.YtahgddfnbjpfiaaB4
/- An abstract machine over values: operations that turn memory. -/
set_option linter.unusedVariables false
set_option linter.unusedSimpArgs false
namespace Go.Proofs.Ytahgddfnbjpfiaa.Am
open Go Go.RowKit

def chunks (z len : Nat) (cs : List V) : List (List V) := (List.range len).map fun i => (cs.drop (i * z)).take z
def repCells (zs : List V) (m : Nat) : List V := (List.replicate m zs).flatten

def astore (P : Program) (T : TypeId) (p x : V) (σ : St) (K : V → St → Prop) : Prop :=
  match p, cellsV x, szo P T with
  | .ptr b r k, some cs, some z => ∃ B, σ.h b = some B ∧ B.wr = true ∧ cs.length = z ∧ (∀ q ∈ cs, cellish q = true) ∧ r < B.rows.length ∧ k + z ≤ B.size ∧
      K .undef (σ.set b { B with rows := B.rows.set r (setAt (B.rows.getD r []) k cs) })
  | _, _, _ => False
def aalloc (P : Program) (T : TypeId) (σ : St) (K : V → St → Prop) : Prop :=
  match zro P T with
  | some z => K (.ptr σ.n 0 0) (σ.new ⟨(cellsZ z).length, [cellsZ z], true⟩)
  | none => False
def abox (x : V) (σ : St) (K : V → St → Prop) : Prop :=
  match cellsV x with
  | some cs => K (.ptr σ.n 0 0) (σ.new ⟨cs.length, [cs], true⟩)
  | none => False
def abuildSlice (P : Program) (e : Operand → V) (T : TypeId) (len : Nat) (parts : List (Nat × Operand)) (σ : St) (K : V → St → Prop) : Prop :=
  match seqo P T with
  | .slice el z _ => match zro P el with
    | some zv => match afill (fun i => some (i * z, z)) (repCells (cellsZ zv) len) (parts.map fun q => (q.1, e q.2)) with
      | some cs => len * z ≤ 16777216 ∧ 0 < z ∧ (cellsZ zv).length = z ∧ K (.loc σ.n 0 len len) (σ.new ⟨z, chunks z len cs, true⟩)
      | none => False
    | none => False
  | _ => False
def amakeSlice (P : Program) (T : TypeId) (l k : V) (σ : St) (K : V → St → Prop) : Prop :=
  match seqo P T with
  | .slice el z b8 => match zro P el, asN l, asN k with
    | some zv, some m, some m' => m ≤ m' ∧ m' * b8 ≤ 281474976710656 ∧ m' ≤ 281474976710656 ∧ (cellsZ zv).length = z ∧ K (.loc σ.n 0 m m') (σ.new ⟨z, List.replicate m' (cellsZ zv), true⟩)
    | _, _, _ => False
  | _ => False
def atoBytes (P : Program) (src dst : TypeId) (x : V) (σ : St) (K : V → St → Prop) : Prop :=
  match P.underlying src, P.underlying dst, x with
  | some .string, some (.slice e), .s (.string s) => P.underlying e = some (.int .u8) ∧ ∀ cap, s.size ≤ cap → K (.loc σ.n 0 s.size cap) (σ.new ⟨1, brows s ++ spare 1 (cap - s.size), true⟩)
  | _, _, _ => False

section
variable {c : Cx} {h : Hp} {n : Nat} {μ : Mu} {w : World}
theorem getD_map_range (f : Nat → List V) (m i : Nat) (hi : i < m) : ((List.range m).map f).getD i [] = f i := by simp [List.getD_eq_getElem?_getD, hi]
theorem cellAt_one (cs : List V) (i j : Nat) (hi : i < 1) : cellAt [cs] i j = cs.getD j .undef := by
  obtain rfl : i = 0 := by omega
  simp [cellAt]

theorem store_sound (H : HS c h n μ w) {T : TypeId} {p x : V} {pv xv : Value} {t : Nat → V} {K : V → St → Prop} (hp : R c h μ w p pv) (hx : R c h μ w x xv) (hk : astore c.P T p x ⟨t, h, n⟩ K) :
    ∃ h' w', (Instr.storeAt T pv xv).run c.P w = .ok () w' ∧ K .undef ⟨t, h', n⟩ ∧ HS c h' n μ w' ∧ Ext c h μ w h' μ w' := by
  unfold astore at hk
  split at hk
  · rename_i b r k cs z hcs hz
    obtain ⟨B, hB, hwr, hl, hce, hr, hkz, hK⟩ := hk
    obtain ⟨q, base, size, hmu, rfl⟩ := hp.ptr_inv
    obtain ⟨s1, s2, s3⟩ := cellsV_sound hx hcs
    have s4 := s3 hce
    by_cases hz0 : z = 0
    · subst hz0
      have hcs0 : cs = [] := List.eq_nil_of_length_eq_zero hl
      subst hcs0
      have hx0 : xv.cells = #[] := Array.eq_empty_of_size_eq_zero (by simpa using s1)
      have hset : setAt (B.rows.getD r []) k [] = B.rows.getD r [] := by simp [setAt]
      have hB' : { B with rows := B.rows.set r (setAt (B.rows.getD r []) k []) } = B := by
        rw [hset]
        have : B.rows.set r (B.rows.getD r []) = B.rows := by
          apply List.ext_getElem?
          intro i
          rw [List.getElem?_set]
          split
          · rename_i e; subst e; simp [List.getD_eq_getElem?_getD, hr]
          · rfl
        rw [this]
      refine ⟨upd h b (some B), w, ?_, by have := hK; simp only [St.set] at this; rw [hB'] at this; exact this, ?_, ?_⟩
      · simp [Instr.storeAt, Instr.sureAddr, storeVar, run_size hz, hx0, storeCells, Sem.run, pure]
      · have : upd h b (some B) = h := by funext j; unfold upd; split <;> simp_all
        rw [this]; exact H
      · have : upd h b (some B) = h := by funext j; unfold upd; split <;> simp_all
        rw [this]; exact Ext.refl _ _ _ _
    · obtain ⟨hs, _⟩ := H.at hB hmu hr (show 0 < B.size by omega)
      subst hs
      have hst : ∀ j, j < xv.cells.toList.length → ∃ y, w.cell? ⟨q, base + (r * B.size + k) + 0 + j, none⟩ = some y ∧ w.frozen? ⟨q, base + (r * B.size + k) + 0 + j, none⟩ = false := by
        intro j hj
        have hj' : j < z := by simp [s1, hl] at hj; omega
        obtain ⟨_, y, g1, g2, _⟩ := H.at (j := k + j) hB hmu hr (by omega)
        rw [show base + (r * B.size + k) + 0 + j = base + (r * B.size + (k + j)) by omega]
        exact ⟨y, g1, g2 _ (.inr rfl)⟩
      have hrun := run_storeCells_cells (P := c.P) q (base + (r * B.size + k)) xv.cells.toList 0 w (fun j hj => by obtain ⟨y, g1, _⟩ := hst j hj; rw [g1]; rfl) (fun j hj => by obtain ⟨y, _, g2⟩ := hst j hj; exact g2) s4
      generalize hw' : w.setCells q (base + (r * B.size + k) + 0) xv.cells.toList = w' at hrun
      obtain ⟨f1, f2⟩ := setCells_fr q xv.cells.toList (base + (r * B.size + k) + 0) w
      rw [hw'] at f1 f2
      have hrows : ∀ r ∈ B.rows, r.length = B.size := by
        rcases H.blk b B hB with ⟨g1, _⟩ | ⟨k', base', g1, g2, g3, g4, g5⟩
        · rw [hmu] at g1; cases g1
        · exact g4
      have hrow : (B.rows.getD r []).length = B.size := hrows _ (by rw [List.getD_eq_getElem?_getD, List.getElem?_eq_getElem hr]; exact List.getElem_mem _)
      have H2 := H.write (B' := { B with rows := B.rows.set r (setAt (B.rows.getD r []) k cs) }) hB hwr hmu f1 f2.symm rfl
        (fun r' hr' => by
          rcases List.mem_or_eq_of_mem_set hr' with h1 | h1
          · exact hrows _ h1
          · rw [h1, setAt_length _ _ _ (by omega)]; exact hrow)
        (fun i j hi hj => by
          simp only [List.length_set] at hi
          obtain ⟨_, y, g1, g2, g3⟩ := H.at (r := i) (j := j) hB hmu hi hj
          have hfz : ∀ o, (B.size ≠ 1 ∨ o = base + (i * B.size + j)) → w'.frozen? ⟨q, o, none⟩ = false := fun o ho => by rw [← hw', World.frozen?_setCells]; exact g2 o (by first | exact ho | (rw [hBz]; exact ho))
          by_cases hir : i = r
          · subst hir
            have hc1 : cellAt (B.rows.set i (setAt (B.rows.getD i []) k cs)) i j = (setAt (B.rows.getD i []) k cs).getD j .undef := by
              unfold cellAt
              rw [List.getD_eq_getElem?_getD (l := B.rows.set _ _), List.getElem?_set_self hi]
              rfl
            rw [hc1, setAt_get _ _ _ (by omega)]
            by_cases c1 : k ≤ j ∧ j < k + cs.length
            · rw [if_pos c1]
              have hj2 : j - k < xv.cells.toList.length := by simp [s1]; omega
              have hin := World.cell?_setCells_in q xv.cells.toList (base + (i * B.size + k) + 0) w (fun j hj => by obtain ⟨y, g1, _⟩ := hst j hj; rw [g1]; rfl) _ hj2
              rw [show base + (i * B.size + k) + 0 + (j - k) = base + (i * B.size + j) by omega, hw'] at hin
              refine ⟨_, hin, hfz, fun e => e.R ?_⟩
              have := s2 (j - k) (by omega)
              have h3 : xv.cells.getD (j - k) Go.undef = xv.cells.toList[j - k] := by
                have : j - k < xv.cells.size := by omega
                simp [this]
              rw [h3] at this
              exact this
            · rw [if_neg c1]
              refine ⟨y, ?_, hfz, fun e => e.R g3⟩
              rw [← hw', World.cell?_setCells_out _ _ _ _ _ (fun _ _ => by simp [s1]; omega)]
              exact g1
          · have hc1 : cellAt (B.rows.set r (setAt (B.rows.getD r []) k cs)) i j = cellAt B.rows i j := by
              unfold cellAt
              rw [List.getD_eq_getElem?_getD (l := B.rows.set _ _), List.getElem?_set_ne (by omega)]
              rfl
            rw [hc1]
            refine ⟨y, ?_, hfz, fun e => e.R g3⟩
            rw [← hw', World.cell?_setCells_out _ _ _ _ _ (fun _ _ => by
              simp [s1]
              rcases Nat.lt_or_ge i r with h1 | h1
              · have : (i + 1) * B.size ≤ r * B.size := Nat.mul_le_mul_right _ h1
                rw [Nat.add_mul] at this
                omega
              · have : (r + 1) * B.size ≤ i * B.size := Nat.mul_le_mul_right _ (by omega)
                rw [Nat.add_mul] at this
                omega)]
            exact g1)
      refine ⟨_, w', ?_, hK, H2.1, H2.2⟩
      simp [Instr.storeAt, Instr.sureAddr, storeVar, run_size hz, s1, hl, hrun, Sem.run, pure]
  · exact hk.elim

/-- A new block, at the operation. -/
theorem fresh_row (H : HS c h n μ w) {w1 : World} (hw : Below w.heap.size w w1) (hsz : w1.heap.size = w.heap.size) (B : Blk) (cells : Array Value) (e : TypeId) (fr : Nat × Nat) (hl : ∀ r ∈ B.rows, r.length = B.size)
    (hfr : ∀ j, (B.size ≠ 1 ∨ j < B.rows.length * B.size) → ¬ (fr.1 ≤ j ∧ j < fr.2))
    (hc : ∀ i j, i < B.rows.length → j < B.size → ∃ x, cells[i * B.size + j]? = some x ∧ R c h μ w (cellAt B.rows i j) x) (m cap : Nat) (hm : m ≤ cap) :
    ∃ μ', HS c (upd h n (some B)) (n + 1) μ' (w1.alloc (.cells cells e fr)) ∧ Ext c h μ w (upd h n (some B)) μ' (w1.alloc (.cells cells e fr)) ∧
      R c (upd h n (some B)) μ' (w1.alloc (.cells cells e fr)) (.ptr n 0 0) (.pointer (some ⟨w.heap.size, 0, none⟩)) ∧
      R c (upd h n (some B)) μ' (w1.alloc (.cells cells e fr)) (.loc n 0 m cap) (.slice (some ⟨w.heap.size, 0, none⟩) m cap) := by
  have H2 := H.newRow B cells e fr hw hsz hl hfr hc
  refine ⟨_, H2.1, H2.2, ?_, ?_⟩
  · have := Rp.ptr (fvals := c.fvals) (w := w1.alloc (.cells cells e fr)) (ok := okB c (upd h n (some B)) (upd μ n (some (.real w.heap.size 0 B.size))) (w1.alloc (.cells cells e fr))) (μ := upd μ n (some (.real w.heap.size 0 B.size))) n 0 0 w.heap.size 0 B.size (upd_same _ _ _)
    simpa using this
  · have := Rp.loc (fvals := c.fvals) (w := w1.alloc (.cells cells e fr)) (ok := okB c (upd h n (some B)) (upd μ n (some (.real w.heap.size 0 B.size))) (w1.alloc (.cells cells e fr))) (μ := upd μ n (some (.real w.heap.size 0 B.size))) n 0 m cap w.heap.size 0 B.size (upd_same _ _ _) hm
    simpa using this

theorem alloc_sound (H : HS c h n μ w) {T : TypeId} {t : Nat → V} {K : V → St → Prop} (hk : aalloc c.P T ⟨t, h, n⟩ K) (old : Value) :
    ∃ v y h' n' μ' w', (Instr.alloc T true old).run c.P w = .ok y w' ∧ K v ⟨t, h', n'⟩ ∧ HS c h' n' μ' w' ∧ Ext c h μ w h' μ' w' ∧ R c h' μ' w' v y := by
  unfold aalloc at hk
  split at hk
  · rename_i z hz
    obtain ⟨z1, z2⟩ := cellsZ_sound (c := c) (h := h) (μ := μ) (w := w) z
    obtain ⟨μ', H1, H2, H3, _⟩ := fresh_row H (Below.refl _ _) rfl ⟨(cellsZ z).length, [cellsZ z], true⟩ z.cells T (0, 0) (by simp) (fun j _ => by simp) (fun i j hi hj => by
      simp at hi
      rw [cellAt_one _ _ _ (by simp [hi])]
      subst hi
      simp only [Nat.zero_mul, Nat.zero_add] at *
      have := z2 j hj
      have h1 : j < z.cells.size := by omega
      rw [show z.cells.getD j Go.undef = z.cells[j] by simp [h1]] at this
      exact ⟨_, Array.getElem?_eq_getElem h1, this⟩) 0 0 (Nat.le_refl _)
    refine ⟨_, _, _, _, _, _, ?_, hk, H1, H2, H3⟩
    simp [Instr.alloc, run_zero hz, newVar, newRow, newObj, Sem.run, pure]
  · exact hk.elim
theorem box_sound (H : HS c h n μ w) {T : TypeId} {x : V} {xv : Value} {t : Nat → V} {K : V → St → Prop} (hx : R c h μ w x xv) (hk : abox x ⟨t, h, n⟩ K) :
    ∃ v y h' n' μ' w', (Instr.box T xv).run c.P w = .ok y w' ∧ K v ⟨t, h', n'⟩ ∧ HS c h' n' μ' w' ∧ Ext c h μ w h' μ' w' ∧ R c h' μ' w' v y := by
  unfold abox at hk
  split at hk
  · rename_i cs hcs
    obtain ⟨z1, z2, _⟩ := cellsV_sound hx hcs
    obtain ⟨μ', H1, H2, H3, _⟩ := fresh_row H (Below.refl _ _) rfl ⟨cs.length, [cs], true⟩ xv.cells T (0, 0) (by simp) (fun j _ => by simp) (fun i j hi hj => by
      simp at hi
      rw [cellAt_one _ _ _ (by simp [hi])]
      subst hi
      simp only [Nat.zero_mul, Nat.zero_add] at *
      have := z2 j hj
      have h1 : j < xv.cells.size := by omega
      rw [show xv.cells.getD j Go.undef = xv.cells[j] by simp [h1]] at this
      exact ⟨_, Array.getElem?_eq_getElem h1, this⟩) 0 0 (Nat.le_refl _)
    refine ⟨_, _, _, _, _, _, ?_, hk, H1, H2, H3⟩
    simp [Instr.box, newVar, newRow, newObj, Sem.run, pure]
  · exact hk.elim

theorem getD_flatten_rep (zs : List V) : ∀ (m i j : Nat), i < m → j < zs.length → (repCells zs m).getD (i * zs.length + j) .undef = zs.getD j .undef := by
  intro m
  induction m with
  | zero => intro i j hi; omega
  | succ m ih =>
    intro i j hi hj
    unfold repCells at ih ⊢
    rw [List.replicate_succ, List.flatten_cons]
    cases i with
    | zero =>
      rw [Nat.zero_mul, Nat.zero_add]
      simp only [List.getD_eq_getElem?_getD]
      rw [List.getElem?_append_left hj]
    | succ i =>
      have h1 : (i + 1) * zs.length + j = zs.length + (i * zs.length + j) := by rw [Nat.add_mul]; omega
      simp only [List.getD_eq_getElem?_getD] at ih ⊢
      rw [h1, List.getElem?_append_right (by omega), Nat.add_sub_cancel_left]
      exact ih i j (by omega) hj
theorem repCells_length (zs : List V) (m : Nat) : (repCells zs m).length = m * zs.length := by
  unfold repCells
  simp
theorem zero_cells (zv : Value) (m : Nat) (hz : 0 < zv.cells.size) : ((Array.range (m * zv.cells.size)).map (zv.cells[· % zv.cells.size]!)).size = m * zv.cells.size ∧
    ∀ i j, i < m → j < zv.cells.size → ((Array.range (m * zv.cells.size)).map (zv.cells[· % zv.cells.size]!)).getD (i * zv.cells.size + j) Go.undef = zv.cells.getD j Go.undef := by
  refine ⟨by simp, fun i j hi hj => ?_⟩
  have h1 := idx_lt hi hj
  have h2 : ((Array.range (m * zv.cells.size)).map (zv.cells[· % zv.cells.size]!)).getD (i * zv.cells.size + j) Go.undef = zv.cells[(i * zv.cells.size + j) % zv.cells.size]! := by
    simp [h1]
  rw [h2, (idx_div hj).2]
  simp [hj]
theorem afill_length (pl : Nat → Option (Nat × Nat)) : ∀ (parts : List (Nat × V)) (cs cs' : List V), afill pl cs parts = some cs' → cs'.length = cs.length := by
  intro parts
  induction parts with
  | nil => intro cs cs' h; simp [afill] at h; rw [h]
  | cons p parts ih =>
    intro cs cs' h
    obtain ⟨i, v⟩ := p
    simp only [afill] at h
    split at h
    · split at h
      · rename_i hb
        rw [ih _ _ h, setAt_length _ _ _ (by simp; omega)]
      · cases h
    · cases h

theorem arange0 : Array.range 0 = #[] := rfl
theorem run_buildSlice {P : Program} {w : World} {T el len z b8 : Nat} {zv : Value} {ps : Array (Nat × Value)} {cells' : Array Value} (hs : seqo P T = .slice el z b8) (hzv : zro P el = some zv) (h24 : len * z ≤ 16777216)
    (hf : Instr.fill (fun i => some (i * z, z)) ((Array.range (len * z)).map (zv.cells[· % zv.cells.size]!)) ps.toList = some cells') :
    (Instr.buildSlice T len ps).run P w = .ok (.slice (some ⟨w.heap.size, 0, none⟩) len len) (w.alloc (.cells cells' el)) := by
  obtain ⟨hu, hz, hb⟩ := seqo_slice hs
  have h24' : ¬ (len * z > 2 ^ 24) := by omega
  unfold Instr.buildSlice
  simp only [Sem.run_bind, run_under hu, run_size hz, Result.andThen_ok, if_neg h24']
  by_cases h0 : len * z = 0
  · rw [if_pos h0]
    rw [h0, arange0] at hf ⊢
    simp only [Sem.run_bind, Sem.run_pure, Result.andThen_ok, Array.map_empty] at hf ⊢
    rw [hf]
    simp [newRow, newObj, Sem.run, pure]
  · rw [if_neg h0]
    simp only [Sem.run_bind, run_zero hzv, Sem.run_pure, Result.andThen_ok] at hf ⊢
    rw [hf]
    simp [newRow, newObj, Sem.run, pure]
theorem buildSlice_sound (H : HS c h n μ w) {T : TypeId} {len : Nat} {parts : Array (Nat × Operand)} {e : Operand → V} {ρ : Operand → Value} {t : Nat → V} {K : V → St → Prop} (he : ∀ x, R c h μ w (e x) (ρ x)) (hk : abuildSlice c.P e T len parts.toList ⟨t, h, n⟩ K) :
    ∃ v y h' n' μ' w', (Instr.buildSlice T len (parts.map fun q => (q.1, ρ q.2))).run c.P w = .ok y w' ∧ K v ⟨t, h', n'⟩ ∧ HS c h' n' μ' w' ∧ Ext c h μ w h' μ' w' ∧ R c h' μ' w' v y := by
  unfold abuildSlice at hk
  split at hk
  · rename_i el z b8 hs
    obtain ⟨hu, hz, hb⟩ := seqo_slice hs
    split at hk
    · rename_i zv hzv
      split at hk
      · rename_i cs hcs
        obtain ⟨h24, hz0, hzl, hK⟩ := hk
        obtain ⟨z1, z2⟩ := cellsZ_sound (c := c) (h := h) (μ := μ) (w := w) zv
        have hzs : zv.cells.size = z := by omega
        have hparts : ∀ (i : Nat) (p : Nat × V) (q : Nat × Value), (parts.toList.map fun q => (q.1, e q.2))[i]? = some p → (parts.toList.map fun q => (q.1, ρ q.2))[i]? = some q → p.1 = q.1 ∧ R c h μ w p.2 q.2 := by
          intro i p q h1 h2
          simp only [List.getElem?_map, Option.map_eq_some_iff] at h1 h2
          obtain ⟨a, ha, rfl⟩ := h1
          obtain ⟨b, hb, rfl⟩ := h2
          rw [ha] at hb
          cases hb
          exact ⟨rfl, he _⟩
        obtain ⟨i1, i2⟩ := zero_cells zv len (by omega)
        obtain ⟨cells', e1, e2, e3⟩ := fill_sound _ _ (parts.toList.map fun q => (q.1, ρ q.2)) _ cs ((Array.range (len * z)).map (zv.cells[· % zv.cells.size]!)) (by simp) hparts (by rw [repCells_length, hzl, ← hzs]; exact i1)
          (fun q hq => by
            rw [repCells_length, hzl] at hq
            have h1 : q / z < len := Nat.div_lt_of_lt_mul (by rw [Nat.mul_comm]; exact hq)
            have h2 := Nat.mod_lt q hz0
            have h3 : q / z * z + q % z = q := by rw [Nat.mul_comm]; exact Nat.div_add_mod q z
            have h4 := getD_flatten_rep (cellsZ zv) len (q / z) (q % z) h1 (by omega)
            have h5 := i2 (q / z) (q % z) h1 (by omega)
            rw [hzl, h3] at h4
            rw [hzs, h3] at h5
            rw [hzs, h4, h5]
            exact z2 _ (by omega)) hcs
        have hcl : cs.length = len * z := by rw [afill_length _ _ _ _ hcs, repCells_length, hzl]
        have hchunk : ∀ i j, i < len → j < z → cellAt (chunks z len cs) i j = cs.getD (i * z + j) .undef := by
          intro i j hi hj
          unfold cellAt chunks
          rw [getD_map_range _ _ _ hi]
          simp [List.getD_eq_getElem?_getD, List.getElem?_take, hj, List.getElem?_drop]
        have hlen : (chunks z len cs).length = len := by simp [chunks]
        obtain ⟨μ', H1, H2, _, H3⟩ := fresh_row H (Below.refl _ _) rfl ⟨z, chunks z len cs, true⟩ cells' el (0, 0) (fun r hr => by
            simp [chunks] at hr
            obtain ⟨i, hi, rfl⟩ := hr
            have := idx_lt (z := z) hi (show z - 1 < z by omega)
            simp; omega) (fun j _ => by simp) (fun i j hi hj => by
            simp only [hlen] at hi
            simp only at hj ⊢
            rw [hchunk i j hi hj]
            have h1 := idx_lt hi hj
            have := e3 (i * z + j) (by omega)
            have h2 : i * z + j < cells'.size := by omega
            rw [show cells'.getD (i * z + j) Go.undef = cells'[i * z + j] by simp [h2]] at this
            exact ⟨_, Array.getElem?_eq_getElem h2, this⟩) len len (Nat.le_refl _)
        refine ⟨_, _, _, _, _, _, ?_, hK, H1, H2, H3⟩
        exact run_buildSlice hs hzv h24 (by simpa using e1)
      · exact hk.elim
    · exact hk.elim
  · exact hk.elim

end
end Go.Proofs.Ytahgddfnbjpfiaa.Am
