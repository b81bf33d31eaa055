/- Texts that the law's proof stands on: AmApp, AmAppZ. -/
import Derived.Test.YtahgddfnbjpfiaaB3
import Derived.Lib.AppendStr
/- An abstract machine over values: append. -/
set_option linter.unusedVariables false
set_option linter.unusedSimpArgs false
namespace Go.Proofs.Ytahgddfnbjpfiaa.Am
open Go Go.RowKit

def brows (s : ByteArray) : List (List V) := s.data.toList.map fun q => [.s (.int .u8 q.toNat)]
/-- What is appended: a slice's rows, or a string's bytes. -/
def srcRows (P : Program) (h : Hp) (U : TypeId) (x : V) : Option (List (List V)) :=
  match P.underlying U, x with
  | some .string, .s (.string b) => some (brows b)
  | some (.slice _), x => rowsOf h x
  | _, _ => none
def okRows (z : Nat) (rows : List (List V)) : Prop := ∀ r ∈ rows, r.length = z ∧ ∀ q ∈ r, cellish q = true

/-- The zero value is as wide as the type. -/
def zok (P : Program) (e z : Nat) : Bool := (zro P e).any fun v => v.cells.size == z
def aappend (P : Program) (T U : TypeId) (s x : V) (σ : St) (K : V → St → Prop) : Prop :=
  match seqo P T with
  | .slice e z b8 => 0 < z ∧ 0 < b8 ∧ zok P e z = true ∧ ∃ nr, srcRows P σ.h U x = some nr ∧ okRows z nr ∧
      match s with
      | .cap0 => nr.length * b8 ≤ 140737488355328 ∧ ∀ cap, nr.length ≤ cap → K (.loc σ.n 0 nr.length cap) (σ.new ⟨z, nr ++ spare z (cap - nr.length), true⟩)
      | .loc b 0 len cap => ∃ B, σ.h b = some B ∧ B.wr = true ∧ B.size = z ∧ len ≤ cap ∧ cap ≤ B.rows.length ∧ (len + nr.length) * b8 ≤ 140737488355328 ∧
          ((∀ cap', len + nr.length ≤ cap' → K (.loc σ.n 0 (len + nr.length) cap') (σ.ren b ⟨z, B.rows.take len ++ nr ++ spare z (cap' - (len + nr.length)), true⟩)) ∨
           (cap < len + nr.length ∧ ∀ cap', len + nr.length ≤ cap' → K (.loc σ.n 0 (len + nr.length) cap') (σ.new ⟨z, B.rows.take len ++ nr ++ spare z (cap' - (len + nr.length)), true⟩)))
      | _ => False
  | _ => False

section
variable {c : Cx} {h : Hp} {n : Nat} {μ : Mu} {w : World}
theorem idx_lt {m z i j : Nat} (hi : i < m) (hj : j < z) : i * z + j < m * z := by
  have : (i + 1) * z ≤ m * z := Nat.mul_le_mul_right _ hi
  rw [Nat.add_mul] at this
  omega
theorem idx_div {z i j : Nat} (hj : j < z) : (i * z + j) / z = i ∧ (i * z + j) % z = j := by
  constructor
  · rw [Nat.add_comm, Nat.add_mul_div_right _ _ (by omega), Nat.div_eq_of_lt hj, Nat.zero_add]
  · rw [Nat.add_comm, Nat.add_mul_mod_self_right, Nat.mod_eq_of_lt hj]

theorem rows_load {P : Program} {rows : List (List V)} {A : Option Addr} {cp z : Nat} (hlen : rows.length ≠ 0 → ∀ r ∈ rows, r.length = z)
    (hA : rows.length ≠ 0 → ∃ ad : Addr, A = some ad ∧ ∀ i j, i < rows.length → j < z → ∃ y, w.cell? (ad.add (i * z + j)) = some y ∧ R c h μ w (cellAt rows i j) y) :
    ∃ vals : Array Value, (∀ w', (∀ a, w'.cell? a = w.cell? a) → (Builtin.firstCells z rows.length (.slice A rows.length cp)).run P w' = .ok vals w') ∧ vals.size = rows.length * z ∧
      ∀ i j, i < rows.length → j < z → R c h μ w (cellAt rows i j) (vals.getD (i * z + j) Go.undef) := by
  by_cases hn : rows.length = 0
  · refine ⟨#[], fun w' _ => ?_, by simp [hn], fun i j hi => by omega⟩
    cases A with
    | none => simp [Builtin.firstCells, Sem.run, pure]
    | some ad => simp [Builtin.firstCells, hn, loadCells, loadCellsFrom, Sem.run, pure]
  · obtain ⟨ad, rfl, hcell⟩ := hA hn
    have hex : ∀ q, ∃ y, q < rows.length * z → w.cell? (ad.add q) = some y ∧ R c h μ w (cellAt rows (q / z) (q % z)) y := by
      intro q
      by_cases hq : q < rows.length * z
      · have hz : 0 < z := by
          rcases Nat.eq_zero_or_pos z with h0 | h0
          · subst h0; simp at hq
          · exact h0
        obtain ⟨y, h1, h2⟩ := hcell (q / z) (q % z) (Nat.div_lt_of_lt_mul (by rw [Nat.mul_comm]; exact hq)) (Nat.mod_lt _ hz)
        refine ⟨y, fun _ => ⟨?_, h2⟩⟩
        rw [show q = q / z * z + q % z by rw [Nat.mul_comm]; exact (Nat.div_add_mod q z).symm]
        exact h1
      · exact ⟨Go.undef, fun h => absurd h hq⟩
    obtain ⟨f, hf⟩ := Classical.axiomOfChoice hex
    refine ⟨((List.range (rows.length * z)).map f).toArray, fun w' hw' => ?_, by simp, fun i j hi hj => ?_⟩
    · have := run_loadCells (P := P) w' ad (rows.length * z) f (fun j hj => by rw [hw']; exact (hf j hj).1)
      simp only [Builtin.firstCells, this]
    · have h1 := (hf _ (idx_lt hi hj)).2
      rw [(idx_div hj).1, (idx_div hj).2] at h1
      simpa [idx_lt hi hj] using h1

theorem lenOf_slice {P : Program} {A : Option Addr} {m cp : Nat} (w' : World) : (Builtin.lenOf (.slice A m cp)).run P w' = .ok m w' := by simp [Builtin.lenOf, Sem.run, pure]

theorem src_sound (H : HS c h n μ w) {U : TypeId} {x : V} {xv : Value} {nr : List (List V)} {z : Nat} (hx : R c h μ w x xv) (hs : srcRows c.P h U x = some nr) (hok : okRows z nr) :
    (∃ d, c.P.underlying U = some (.slice d) ∨ c.P.underlying U = some .string) ∧ ∃ news : Array Value, (∀ w', (Builtin.lenOf xv).run c.P w' = .ok nr.length w') ∧ (∀ w', (∀ a, w'.cell? a = w.cell? a) → (Builtin.firstCells z nr.length xv).run c.P w' = .ok news w') ∧ news.size = nr.length * z ∧
      (∀ i j, i < nr.length → j < z → R c h μ w (cellAt nr i j) (news.getD (i * z + j) Go.undef)) ∧ ∀ u ∈ news.toList, u.oneCell' = true := by
  have one : ∀ {news : Array Value}, news.size = nr.length * z → (∀ i j, i < nr.length → j < z → R c h μ w (cellAt nr i j) (news.getD (i * z + j) Go.undef)) → ∀ u ∈ news.toList, u.oneCell' = true := by
    intro news hsz hr u hu
    obtain ⟨q, hq, rfl⟩ := List.getElem_of_mem hu
    have hq' : q < news.size := by simpa using hq
    have hz : 0 < z := by
      rcases Nat.eq_zero_or_pos z with h0 | h0
      · subst h0; simp at hsz; subst hsz; simp at hq'
      · exact h0
    have hi : q / z < nr.length := Nat.div_lt_of_lt_mul (by rw [Nat.mul_comm, ← hsz]; exact hq')
    have hj := Nat.mod_lt q hz
    have h1 := hr (q / z) (q % z) hi hj
    rw [show q / z * z + q % z = q by rw [Nat.mul_comm]; exact Nat.div_add_mod q z] at h1
    have hmem : nr.getD (q / z) [] ∈ nr := by rw [List.getD_eq_getElem?_getD, List.getElem?_eq_getElem hi]; exact List.getElem_mem _
    have h2 : cellish (cellAt nr (q / z) (q % z)) = true := by
      refine (hok _ hmem).2 _ ?_
      unfold cellAt
      rw [List.getD_eq_getElem?_getD (l := nr.getD (q / z) []), List.getElem?_eq_getElem (by rw [(hok _ hmem).1]; exact hj)]
      exact List.getElem_mem _
    have h3 : news.getD q Go.undef = news[q] := by simp [hq']
    rw [h3] at h1
    simpa using (cellish_sound h1 h2).2
  unfold srcRows at hs
  split at hs
  · rename_i b hu
    cases hs
    obtain ⟨rfl, _⟩ := hx.s_eq
    have hlen : (brows b).length = b.size := by simp only [brows, List.length_map, Array.length_toList]; rfl
    refine ⟨⟨0, .inr hu⟩, b.data.map (fun q => .int .u8 q.toNat), fun w' => by simp [Builtin.lenOf, Sem.run, pure, hlen], fun w' _ => ?_, ?_, ?_, ?_⟩
    · rw [hlen, Lib.run_firstCells_string]
      congr 1
      rw [Lib.strCells]
      apply Array.ext'
      simp [Array.toList_map]
    · by_cases hb : (brows b).length = 0
      · rw [hb, Nat.zero_mul, Array.size_map]; rw [hlen] at hb; exact hb
      · have := (hok ((brows b).getD 0 []) (by rw [List.getD_eq_getElem?_getD, List.getElem?_eq_getElem (by omega)]; exact List.getElem_mem _)).1
        have hq : ((brows b).getD 0 []).length = 1 := by
          rw [List.getD_eq_getElem?_getD, List.getElem?_eq_getElem (by omega)]
          simp [brows]
        rw [hq] at this
        subst this
        rw [hlen, Nat.mul_one, Array.size_map]; rfl
    · intro i j hi hj
      have hmem : (brows b).getD i [] ∈ brows b := by rw [List.getD_eq_getElem?_getD, List.getElem?_eq_getElem hi]; exact List.getElem_mem _
      have h1 := (hok _ hmem).1
      have hi' : i < b.data.size := by rw [hlen] at hi; exact hi
      have h2 : (brows b).getD i [] = [.s (.int .u8 b.data[i].toNat)] := by
        simp [brows, List.getD_eq_getElem?_getD, List.getElem?_eq_getElem (show i < b.data.toList.length by simpa using hi')]
      rw [h2] at h1
      simp at h1
      subst h1
      obtain rfl : j = 0 := by omega
      unfold cellAt
      rw [h2]
      rw [show (b.data.map (fun q => Value.int .u8 q.toNat)).getD (i * 1 + 0) Go.undef = .int .u8 b.data[i].toNat by simp [Array.getElem?_eq_getElem hi']]
      exact .s _ rfl
    · intro u hu
      simp at hu
      obtain ⟨q, _, rfl⟩ := hu
      rfl
  · rename_i d hu
    obtain ⟨A, cp, size, rfl, hc, hA⟩ := rows_sound H hx hs
    have hsz : nr.length ≠ 0 → size = z := by
      intro hn
      obtain ⟨ad, _, h1, _⟩ := hA hn
      have hmem : nr.getD 0 [] ∈ nr := by rw [List.getD_eq_getElem?_getD, List.getElem?_eq_getElem (by omega)]; exact List.getElem_mem _
      rw [← h1 _ hmem, (hok _ hmem).1]
    obtain ⟨vals, v1, v2, v3⟩ := rows_load (P := c.P) (c := c) (h := h) (μ := μ) (w := w) (rows := nr) (A := A) (cp := cp) (z := z) (fun _ r hr => (hok r hr).1) (fun hn => by
      obtain ⟨ad, h0, _, h2⟩ := hA hn
      rw [hsz hn] at h2
      exact ⟨ad, h0, h2⟩)
    exact ⟨⟨d, .inl hu⟩, vals, fun w' => lenOf_slice w', v1, v2, v3, one v2 v3⟩
  · cases hs

theorem spare_length (z m : Nat) : (spare z m).length = m := by simp [spare]
theorem spare_rows (z m : Nat) : ∀ r ∈ spare z m, r.length = z := by
  intro r hr
  simp [spare] at hr
  rw [hr.2]; simp
theorem cellAt_append (a b : List (List V)) (i j : Nat) : cellAt (a ++ b) i j = if i < a.length then cellAt a i j else cellAt b (i - a.length) j := by
  unfold cellAt
  simp only [List.getD_eq_getElem?_getD]
  split
  · rename_i h; rw [List.getElem?_append_left h]
  · rename_i h; rw [List.getElem?_append_right (by omega)]
theorem cellAt_take (a : List (List V)) (m i j : Nat) (h : i < m) : cellAt (a.take m) i j = cellAt a i j := by
  unfold cellAt
  simp [List.getD_eq_getElem?_getD, List.getElem?_take, h]
theorem cellAt_spare (z m i j : Nat) (hi : i < m) (hj : j < z) : cellAt (spare z m) i j = .any := by
  unfold cellAt spare
  simp [List.getD_eq_getElem?_getD, hi, hj]

theorem okRows_len {z : Nat} {rows : List (List V)} (h : okRows z rows) : ∀ r ∈ rows, r.length = z := fun r hr => (h r hr).1

/-- What a row of old rows, new rows and spare room holds. -/
theorem grown_cells {olds news : List (List V)} {z cap : Nat} {ov nv zc : Array Value} (ho : ov.size = olds.length * z) (hn : nv.size = news.length * z) (hz : zc.size = (cap - (olds.length + news.length)) * z) (hcap : olds.length + news.length ≤ cap)
    (hro : ∀ i j, i < olds.length → j < z → R c h μ w (cellAt olds i j) (ov.getD (i * z + j) Go.undef)) (hrn : ∀ i j, i < news.length → j < z → R c h μ w (cellAt news i j) (nv.getD (i * z + j) Go.undef)) :
    ∀ i j, i < (olds ++ news ++ spare z (cap - (olds.length + news.length))).length → j < z → ∃ x, (ov ++ nv ++ zc)[i * z + j]? = some x ∧ R c h μ w (cellAt (olds ++ news ++ spare z (cap - (olds.length + news.length))) i j) x := by
  intro i j hi hj
  simp only [List.length_append, spare_length] at hi
  have hsz : (ov ++ nv ++ zc).size = cap * z := by
    simp only [Array.size_append, ho, hn, hz, ← Nat.add_mul]
    congr 1
    omega
  have hlt : i * z + j < cap * z := idx_lt (by omega) hj
  refine ⟨(ov ++ nv ++ zc)[i * z + j]'(by omega), Array.getElem?_eq_getElem _, ?_⟩
  rw [List.append_assoc, cellAt_append]
  split
  · rename_i h1
    have h2 := idx_lt (z := z) h1 hj
    have h3 := hro i j h1 hj
    have h4 : ov.getD (i * z + j) Go.undef = (ov ++ nv ++ zc)[i * z + j]'(by omega) := by
      have h5 : i * z + j < ov.size := by omega
      have h6 : i * z + j < (ov ++ nv).size := by simp; omega
      rw [Array.getElem_append_left h6, Array.getElem_append_left h5]
      simp [h5]
    rw [← h4]; exact h3
  · rename_i h1
    rw [cellAt_append]
    split
    · rename_i h2
      have h3 := hrn _ j h2 hj
      have h7 := idx_lt (z := z) h2 hj
      have h8 : i * z + j - ov.size = (i - olds.length) * z + j := by rw [ho, Nat.sub_mul]; have : olds.length * z ≤ i * z := Nat.mul_le_mul_right _ (by omega); omega
      have h9 : ov.size ≤ i * z + j := by rw [ho]; have : olds.length * z ≤ i * z := Nat.mul_le_mul_right _ (by omega); omega
      have h4 : nv.getD ((i - olds.length) * z + j) Go.undef = (ov ++ nv ++ zc)[i * z + j]'(by omega) := by
        have h5 : (i - olds.length) * z + j < nv.size := by omega
        have h6 : i * z + j < (ov ++ nv).size := by simp; omega
        rw [Array.getElem_append_left h6, Array.getElem_append_right h9]
        simp only [h8]
        simp [h5]
      rw [← h4]; exact h3
    · rename_i h2
      rw [cellAt_spare _ _ _ _ (by omega) hj]
      exact .any _

theorem setCells_fr (q : Nat) : ∀ (vs : List Value) (o : Nat) (w : World), Fr w (w.setCells q o vs) (fun k => k = q) ∧ (w.setCells q o vs).heap.size = w.heap.size
  | [], _, w => ⟨Fr.refl _ _, rfl⟩
  | v :: vs, o, w => by
    obtain ⟨h1, h2⟩ := setCells_fr q vs (o + 1) (w.setCell ⟨q, o, none⟩ v)
    have h3 : (w.setCell ⟨q, o, none⟩ v).heap.size = w.heap.size := by simp [World.setCell]
    refine ⟨⟨h1.os, h1.tape, h1.output, ?_, fun k hk hne => ?_⟩, by rw [World.setCells, h2, h3]⟩
    · have := h1.size; rw [h3] at this; exact this
    · rw [World.setCells, h1.block k (by omega) hne]
      exact Below.heap_setCell w ⟨q, o, none⟩ v k hne
theorem cells_drew (w : World) (a : Addr) : w.drew.cell? a = w.cell? a := rfl
theorem append_sound (H : HS c h n μ w) {T U ty : TypeId} {s x : V} {sv xv : Value} {t : Nat → V} {K : V → St → Prop} (hs : R c h μ w s sv) (hx : R c h μ w x xv) (hk : aappend c.P T U s x ⟨t, h, n⟩ K) :
    ∃ v y h' n' μ' w', (Builtin.append_ #[T, U] ty #[sv, xv]).run c.P w = .ok y w' ∧ K v ⟨t, h', n'⟩ ∧ HS c h' n' μ' w' ∧ Ext c h μ w h' μ' w' ∧ R c h' μ' w' v y := by
  unfold aappend at hk
  split at hk
  · rename_i e z b8 hseq
    obtain ⟨hT, hze, hbe⟩ := seqo_slice hseq
    obtain ⟨hz0, hb0, hzero, nr, hsrc, hok, hk⟩ := hk
    obtain ⟨i, hi, hiz⟩ := Option.map_eq_some_iff.1 hze
    obtain ⟨i', hi', hib⟩ := Option.map_eq_some_iff.1 hbe
    rw [hi] at hi'; cases hi'
    obtain ⟨zv, hzv, hzvs⟩ : ∃ zv, zro c.P e = some zv ∧ zv.cells.size = z := by
      unfold zok at hzero
      cases hq : zro c.P e with
      | none => rw [hq] at hzero; cases hzero
      | some zv => rw [hq] at hzero; exact ⟨zv, rfl, by simpa using hzero⟩
    obtain ⟨i', hi', hzv⟩ := Option.bind_eq_some_iff.1 hzv
    rw [hi] at hi'; cases hi'
    obtain ⟨⟨d, hU⟩, news, n1, n2, n3, n4, n5⟩ := src_sound H hx hsrc hok
    have grow : ∀ (h1 : Hp) (H1 : HS c h1 n μ w) (E1 : Ext c h μ w h1 μ w) (A : Option Addr) (sLen sCap : Nat) (olds : List (List V)) (ov : Array Value), sv = .slice A sLen sCap → olds.length = sLen → (∀ r ∈ olds, r.length = z) → ov.size = olds.length * z →
        (∀ w', (∀ a, w'.cell? a = w.cell? a) → (Builtin.firstCells z sLen (.slice A sLen sCap)).run c.P w' = .ok ov w') → (∀ i j, i < olds.length → j < z → R c h μ w (cellAt olds i j) (ov.getD (i * z + j) Go.undef)) →
        sCap < sLen + nr.length → (sLen + nr.length) * b8 ≤ 140737488355328 →
        (∀ cap', sLen + nr.length ≤ cap' → K (.loc n 0 (sLen + nr.length) cap') ⟨t, upd h1 n (some ⟨z, olds ++ nr ++ spare z (cap' - (sLen + nr.length)), true⟩), n + 1⟩) →
        ∃ v y h' n' μ' w', (Builtin.append_ #[T, U] ty #[sv, xv]).run c.P w = .ok y w' ∧ K v ⟨t, h', n'⟩ ∧ HS c h' n' μ' w' ∧ Ext c h μ w h' μ' w' ∧ R c h' μ' w' v y := by
      intro h1 H1 E1 A sLen sCap olds ov hsv hol hor hov hof hoc hlt hby hK
      subst hsv
      have hge := grownCap_ge w (sLen + nr.length) sCap e
      have h63 : sLen + nr.length ≤ 9223372036854775807 := by
        have : (sLen + nr.length) * 1 ≤ (sLen + nr.length) * b8 := Nat.mul_le_mul_left _ hb0
        omega
      have hrun := grow_gen (ty := ty) hT hU hi hzv (w := w) (b := A) (sLen := sLen) (sCap := sCap) (m := nr.length) (olds := ov) (news := news) (x := xv) (by rw [hiz]; exact hof w.drew (cells_drew w)) n1 (by rw [hiz]; exact n2 w.drew (cells_drew w)) hlt h63 (by rw [hib]; exact growslice_fits hlt hby)
      generalize grownCap w (sLen + nr.length) sCap e = cap at hrun hge
      have hzs : (Builtin.zeroCells zv.cells (cap - (sLen + nr.length))).size = (cap - (olds.length + nr.length)) * z := by rw [size_zeroCells, hzvs, hol]
      have hcells := grown_cells (c := c) (h := h) (μ := μ) (w := w) (cap := cap) hov n3 hzs (by omega) hoc n4
      have hE : ∀ v y, R c h μ w v y → R c h1 μ w v y := fun v y hr => E1.R hr
      have H2 := H1.newRow ⟨z, olds ++ nr ++ spare z (cap - (sLen + nr.length)), true⟩ (ov ++ news ++ Builtin.zeroCells zv.cells (cap - (sLen + nr.length))) e (0, 0) (w1 := w.drew) (Below.refl _ _).drew rfl
        (fun r hr => by
          simp only [List.mem_append] at hr
          rcases hr with (hr | hr) | hr
          · exact hor r hr
          · exact okRows_len hok r hr
          · exact spare_rows _ _ r hr) (fun j _ => by simp) (fun i j hi hj => by
          rw [hol] at hcells
          obtain ⟨x, h1, h2⟩ := hcells i j hi hj
          exact ⟨x, h1, hE _ _ h2⟩)
      refine ⟨_, _, _, _, _, _, hrun, hK cap hge, H2.1, E1.trans H2.2, ?_⟩
      have := Rp.loc (fvals := c.fvals) (w := w.drew.alloc (.cells (ov ++ news ++ Builtin.zeroCells zv.cells (cap - (sLen + nr.length))) e)) (ok := okB c (upd h1 n (some ⟨z, olds ++ nr ++ spare z (cap - (sLen + nr.length)), true⟩)) (upd μ n (some (.real w.heap.size 0 z))) (w.drew.alloc (.cells (ov ++ news ++ Builtin.zeroCells zv.cells (cap - (sLen + nr.length))) e)))
        (μ := upd μ n (some (.real w.heap.size 0 z))) n 0 (sLen + nr.length) cap w.heap.size 0 z (upd_same _ _ _) hge
      simpa using this
    split at hk
    · -- no room
      obtain ⟨hby, hK⟩ := hk
      obtain ⟨A, rfl⟩ := hs.cap0_inv
      by_cases hn : nr.length = 0
      · have hnr : nr = [] := List.eq_nil_of_length_eq_zero hn
        subst hnr
        have hnews : news = #[] := by apply Array.eq_empty_of_size_eq_zero; simpa using n3
        subst hnews
        have hrun := room_gen (ty := ty) hT hU hi (w := w) (w' := w) (b := A) (sLen := 0) (sCap := 0) (m := 0) (news := #[]) (x := xv) n1 (by rw [hiz]; exact n2 w (fun _ => rfl)) (Nat.le_refl _) (by cases A <;> rfl)
        have H2 := H.virt z
        have hK0 := hK 0 (Nat.le_refl _)
        refine ⟨_, _, _, _, _, _, hrun, hK0, H2.1, H2.2, ?_⟩
        exact .loc0 _ _ _ _ (upd_same _ _ _)
      · refine grow h H (Ext.refl _ _ _ _) A 0 0 [] #[] rfl rfl (fun r hr => by cases hr) (by simp) (fun w' _ => ?_) (fun i j hi => by simp at hi) (by omega) (by simpa using hby) (fun cap hc => by
          have := hK cap (by omega)
          simpa [St.new] using this)
        cases A <;> simp [Builtin.firstCells, loadCells, loadCellsFrom, Sem.run, pure]
    · -- a row of one's own
      rename_i b len cap
      obtain ⟨B, hB, hwr, hBz, hlc, hcl, hby, hK | ⟨hlt, hK⟩⟩ := hk
      case inr =>
        obtain ⟨_, ⟨q, base, size, hmu, rfl⟩ | ⟨h0, h00, A, t', hmu, rfl⟩⟩ := hs.loc_inv
        · have hsize : size = z := by
            rcases H.blk b B hB with ⟨g1, _⟩ | ⟨k', base', g1, _⟩
            · rw [hmu] at g1; cases g1
            · rw [hmu] at g1; cases g1; exact hBz
          subst hsize
          have hrows : ∀ r ∈ B.rows, r.length = size := by
            rcases H.blk b B hB with ⟨g1, _⟩ | ⟨k', base', g1, g2, g3, g4, g5⟩
            · rw [hmu] at g1; cases g1
            · rw [← hBz]; exact g4
          simp only [Nat.zero_mul, Nat.add_zero] at *
          have hro : rowsOf h (.loc b 0 len cap) = some (B.rows.take len) := by simp [rowsOf, hB]; omega
          have hlen : (B.rows.take len).length = len := by simp; omega
          obtain ⟨A', cp', size', heq, hc', hA'⟩ := rows_sound H hs hro
          rw [hlen] at heq
          cases heq
          obtain ⟨ov, o1, o2, o3⟩ := rows_load (P := c.P) (c := c) (h := h) (μ := μ) (w := w) (rows := B.rows.take len) (A := some ⟨q, base, none⟩) (cp := cap) (z := size) (fun _ r hr => hrows r (List.mem_of_mem_take hr)) (fun hn => by
            obtain ⟨ad, g0, g1, g2⟩ := hA' hn
            cases g0
            have hmem : (B.rows.take len).getD 0 [] ∈ B.rows.take len := by rw [List.getD_eq_getElem?_getD, List.getElem?_eq_getElem (by omega)]; exact List.getElem_mem _
            have hss : size' = size := by rw [← g1 _ hmem, hrows _ (List.mem_of_mem_take hmem)]
            subst hss
            exact ⟨_, rfl, g2⟩)
          rw [hlen] at o1
          exact grow h H (Ext.refl _ _ _ _) (some ⟨q, base, none⟩) len cap (B.rows.take len) ov rfl hlen (fun r hr => hrows r (List.mem_of_mem_take hr)) o2 o1 o3 (by omega) hby (fun cap' hc => hK cap' hc)
        · subst h0 h00
          refine grow h H (Ext.refl _ _ _ _) A 0 0 [] #[] rfl rfl (fun r hr => by cases hr) (by simp) (fun w' _ => ?_) (fun i j hi => by simp at hi) (by omega) (by simpa using hby) (fun cap hc => by
              have := hK cap hc
              simpa [St.new] using this)
          cases A <;> simp [Builtin.firstCells, loadCells, loadCellsFrom, Sem.run, pure]
      obtain ⟨_, ⟨q, base, size, hmu, rfl⟩ | ⟨h0, h00, A, t', hmu, rfl⟩⟩ := hs.loc_inv
      · have hsize : size = z := by
          rcases H.blk b B hB with ⟨g1, _⟩ | ⟨k', base', g1, _⟩
          · rw [hmu] at g1; cases g1
          · rw [hmu] at g1; cases g1; exact hBz
        subst hsize
        have hrows : ∀ r ∈ B.rows, r.length = size := by
          rcases H.blk b B hB with ⟨g1, _⟩ | ⟨k', base', g1, g2, g3, g4, g5⟩
          · rw [hmu] at g1; cases g1
          · rw [← hBz]; exact g4
        simp only [Nat.zero_mul, Nat.add_zero] at *
        by_cases hroom : len + nr.length ≤ cap
        · -- there is room
          have hst : ∀ j, j < news.toList.length → ∃ y, w.cell? ⟨q, base + len * size + 0 + j, none⟩ = some y ∧ w.frozen? ⟨q, base + len * size + 0 + j, none⟩ = false := by
            intro j hj
            have hj' : j < nr.length * size := by simpa [n3] using hj
            have hi' : j / size < nr.length := Nat.div_lt_of_lt_mul (by rw [Nat.mul_comm]; exact hj')
            obtain ⟨_, y, g1, g2, _⟩ := H.at (r := len + j / size) (j := j % size) hB hmu (by omega) (by rw [hBz]; exact Nat.mod_lt _ hz0)
            rw [hBz] at g1 g2
            have e1 : base + len * size + 0 + j = base + ((len + j / size) * size + j % size) := by
              rw [Nat.add_mul]
              have := Nat.div_add_mod j size
              rw [Nat.mul_comm] at this
              omega
            rw [e1]
            exact ⟨y, g1, g2 _ (.inr rfl)⟩
          have hrunst := run_storeCells_cells (P := c.P) q (base + len * size) news.toList 0 w (fun j hj => by obtain ⟨y, g1, _⟩ := hst j hj; rw [g1]; rfl) (fun j hj => by obtain ⟨y, _, g2⟩ := hst j hj; exact g2) n5
          have hrun := room_gen (ty := ty) hT hU hi (w := w) (w' := w.setCells q (base + len * size + 0) news.toList) (b := some ⟨q, base, none⟩) (sLen := len) (sCap := cap) (m := nr.length) (news := news) (x := xv) n1 (by rw [hiz]; exact n2 w (fun _ => rfl)) hroom (by simp only [add_plain, hiz]; exact hrunst)
          generalize hw' : w.setCells q (base + len * size + 0) news.toList = w' at hrun
          obtain ⟨f1, f2⟩ := setCells_fr q news.toList (base + len * size + 0) w
          rw [hw'] at f1 f2
          have hlen : (B.rows.take len).length = len := by simp; omega
          have H2 := H.rename (B' := ⟨size, B.rows.take len ++ nr ++ spare size (cap - (len + nr.length)), true⟩) (base' := base) hB hwr (by rw [hBz]; exact hmu) f1
            (fun r hr => by
              simp only [List.mem_append] at hr
              rcases hr with (hr | hr) | hr
              · exact hrows r (List.mem_of_mem_take hr)
              · exact okRows_len hok r hr
              · exact spare_rows _ _ r hr)
            (fun i j hi hj => by
              simp only [List.length_append, hlen, spare_length] at hi
              obtain ⟨_, y, g1, g2, g3⟩ := H.at (r := i) (j := j) hB hmu (by omega) (by rw [hBz]; exact hj)
              rw [hBz] at g1 g2
              have hfz : ∀ o, (size ≠ 1 ∨ o = base + (i * size + j)) → w'.frozen? ⟨q, o, none⟩ = false := fun o ho => by rw [← hw', World.frozen?_setCells]; exact g2 o (by first | exact ho | (rw [hBz]; exact ho))
              simp only at hj ⊢
              by_cases c1 : i < len
              · refine ⟨y, ?_, hfz, fun e => e.R ?_⟩
                · rw [← hw', World.cell?_setCells_out _ _ _ _ _ (fun _ _ => .inl (by have := idx_lt c1 hj; simp; omega))]
                  exact g1
                · rw [List.append_assoc, cellAt_append, if_pos (by omega), cellAt_take _ _ _ _ c1]
                  exact g3
              · by_cases c2 : i < len + nr.length
                · have hidx := idx_lt (show i - len < nr.length by omega) hj
                  have hj2 : (i - len) * size + j < news.toList.length := by simpa [n3] using hidx
                  have hin := World.cell?_setCells_in q news.toList (base + len * size + 0) w (fun j hj => by obtain ⟨y, g1, _⟩ := hst j hj; rw [g1]; rfl) _ hj2
                  have e1 : base + len * size + 0 + ((i - len) * size + j) = base + (i * size + j) := by
                    have : len * size ≤ i * size := Nat.mul_le_mul_right _ (by omega)
                    rw [Nat.sub_mul]; omega
                  rw [e1, hw'] at hin
                  refine ⟨_, hin, hfz, fun e => e.R ?_⟩
                  rw [List.append_assoc, cellAt_append, if_neg (by omega), hlen, cellAt_append, if_pos (by omega)]
                  have := n4 (i - len) j (by omega) hj
                  have h3 : news.getD ((i - len) * size + j) Go.undef = news.toList[(i - len) * size + j] := by
                    have : (i - len) * size + j < news.size := by omega
                    simp [this]
                  rw [h3] at this
                  exact this
                · refine ⟨y, ?_, hfz, fun e => ?_⟩
                  · rw [← hw', World.cell?_setCells_out _ _ _ _ _ (fun _ _ => .inr (by
                      have : (len + nr.length) * size ≤ i * size := Nat.mul_le_mul_right _ (by omega)
                      rw [Nat.add_mul] at this
                      simp [n3]; omega))]
                    exact g1
                  · rw [List.append_assoc, cellAt_append, if_neg (by omega), hlen, cellAt_append, if_neg (by omega), cellAt_spare _ _ _ _ (by omega) hj]
                    exact .any _)
          refine ⟨_, _, _, _, _, _, hrun, hK cap hroom, H2.1, H2.2, ?_⟩
          have := Rp.loc (fvals := c.fvals) (w := w') (ok := okB c (upd (upd h b none) n (some ⟨size, B.rows.take len ++ nr ++ spare size (cap - (len + nr.length)), true⟩)) (upd μ n (some (.real q base size))) w')
            (μ := upd μ n (some (.real q base size))) n 0 (len + nr.length) cap q base size (upd_same _ _ _) hroom
          simpa using this
        · have hro : rowsOf h (.loc b 0 len cap) = some (B.rows.take len) := by simp [rowsOf, hB]; omega
          have hlen : (B.rows.take len).length = len := by simp; omega
          obtain ⟨A', cp', size', heq, hc', hA'⟩ := rows_sound H hs hro
          rw [hlen] at heq
          cases heq
          obtain ⟨ov, o1, o2, o3⟩ := rows_load (P := c.P) (c := c) (h := h) (μ := μ) (w := w) (rows := B.rows.take len) (A := some ⟨q, base, none⟩) (cp := cap) (z := size) (fun _ r hr => hrows r (List.mem_of_mem_take hr)) (fun hn => by
            obtain ⟨ad, g0, g1, g2⟩ := hA' hn
            cases g0
            have hmem : (B.rows.take len).getD 0 [] ∈ B.rows.take len := by rw [List.getD_eq_getElem?_getD, List.getElem?_eq_getElem (by omega)]; exact List.getElem_mem _
            have hss : size' = size := by rw [← g1 _ hmem, hrows _ (List.mem_of_mem_take hmem)]
            subst hss
            exact ⟨_, rfl, g2⟩)
          rw [hlen] at o1
          refine grow (upd h b none) (H.drop b).1 (H.drop b).2 (some ⟨q, base, none⟩) len cap (B.rows.take len) ov rfl hlen (fun r hr => hrows r (List.mem_of_mem_take hr)) o2 o1 o3 (by omega) hby (fun cap' hc => ?_)
          exact hK cap' hc
      · subst h0 h00
        by_cases hn : nr.length = 0
        · have hnr : nr = [] := List.eq_nil_of_length_eq_zero hn
          subst hnr
          have hnews : news = #[] := by apply Array.eq_empty_of_size_eq_zero; simpa using n3
          subst hnews
          have hrun := room_gen (ty := ty) hT hU hi (w := w) (w' := w) (b := A) (sLen := 0) (sCap := 0) (m := 0) (news := #[]) (x := xv) n1 (by rw [hiz]; exact n2 w (fun _ => rfl)) (Nat.le_refl _) (by cases A <;> rfl)
          have H1 := H.drop b
          have H2 := H1.1.virt z
          have hK0 := hK 0 (Nat.le_refl _)
          refine ⟨_, _, _, _, _, _, hrun, hK0, ?_, H1.2.trans H2.2, ?_⟩
          · simpa [spare] using H2.1
          · exact .loc0 _ _ _ _ (upd_same _ _ _)
        · refine grow (upd h b none) (H.drop b).1 (H.drop b).2 A 0 0 [] #[] rfl rfl (fun r hr => by cases hr) (by simp) (fun w' _ => ?_) (fun i j hi => by simp at hi) (by omega) (by simpa using hby) (fun cap hc => by
            have := hK cap hc
            simpa [St.ren] using this)
          cases A <;> simp [Builtin.firstCells, loadCells, loadCellsFrom, Sem.run, pure]
    · exact hk.elim
  · exact hk.elim
end
end Go.Proofs.Ytahgddfnbjpfiaa.Am

/- An abstract machine over values: append of a made row, where the row has no room for it: what is made is not told (it is written over). -/
set_option linter.unusedVariables false
set_option linter.unusedSimpArgs false
namespace Go.Proofs.Ytahgddfnbjpfiaa.Am
open Go Go.RowKit

def isIntT (P : Program) (T : TypeId) : Bool := match P.underlying T with
  | some (.int _) => true
  | _ => false
def aappendZ (P : Program) (T U : TypeId) (s x : V) (σ : St) (K : V → St → Prop) : Prop :=
  match seqo P T, s, asN x with
  | .slice e z b8, .loc b 0 len cap, some m => isIntT P U = true ∧ 0 < z ∧ 0 < b8 ∧ zok P e z = true ∧ ∃ B, σ.h b = some B ∧ B.wr = true ∧ B.size = z ∧ len ≤ cap ∧ cap ≤ B.rows.length ∧ (len + m) * b8 ≤ 140737488355328 ∧ cap < len + m ∧
      ∀ cap', len + m ≤ cap' → K (.loc σ.n 0 (len + m) cap') (σ.new ⟨z, B.rows.take len ++ spare z m ++ spare z (cap' - (len + m)), true⟩)
  | _, _, _ => False

section
variable {c : Cx} {h : Hp} {n : Nat} {μ : Mu} {w : World}
theorem grow_genZ {P : Program} {t u e : TypeId} {k k' : IntKind} {i : TypeInfo} {z : Value} {ty : TypeId} (ht : P.underlying t = some (.slice e)) (hu : P.underlying u = some (.int k)) (hi : P.info? e = some i) (hz : i.zero = some z)
    {w : World} {b : Option Addr} {sLen sCap m : Nat} {olds : Array Value}
    (ho : (Builtin.firstCells i.size sLen (.slice b sLen sCap)).run P w.drew = .ok olds w.drew) (hm : m ≤ 281474976710656) (hb : (m : Int) * i.bytes ≤ 281474976710656) (hn0 : m * i.size ≠ 0)
    (hg : sCap < sLen + m) (h63 : sLen + m ≤ 9223372036854775807) (hfit : Builtin.nextslicecap (sLen + m) sCap * i.bytes ≤ 281474976710656) :
    (Builtin.append_ #[t, u] ty #[.slice b sLen sCap, .int k' m]).run P w = .ok (.slice (some ⟨w.heap.size, 0, none⟩) (sLen + m) (grownCap w (sLen + m) sCap e))
      (w.drew.alloc (.cells (olds ++ Builtin.zeroCells z.cells m ++ Builtin.zeroCells z.cells (grownCap w (sLen + m) sCap e - (sLen + m))) e)) := by
  have hn' : ¬ (sLen + m ≤ sCap) := by omega
  have h63' : ¬ (9223372036854775807 < ((sLen : Int) + (m : Int))) := by omega
  have hfit' : ¬ (281474976710656 < Builtin.nextslicecap (sLen + m) sCap * i.bytes) := by omega
  have hd : { w with drawn := w.drawn + 1 } = w.drew := rfl
  have hw : IntKind.i64.wrap (m : Int) = m := by
    have h1 : (m : Int) % 18446744073709551616 = m := by omega
    have h2 : ¬ (9223372036854775808 ≤ (m : Int)) := by omega
    simp [IntKind.wrap, IntKind.bits, IntKind.signed, h1, h2]
  have hl : ¬ ((m : Int) < 0) := by omega
  have hb' : ¬ (281474976710656 < (m : Int) * i.bytes) := by omega
  have hi1 : ∀ w : World, (asInt (.int k' (m : Int))).run P w = .ok (m : Int) w := fun w => by simp [asInt, asIntOf, Sem.run, pure]
  simp [Builtin.append_, run_underlying ht, run_underlying hu, sizeOf, typeInfo, zeroValue, hi, hz, hi1, hw, hl, hb', hn', h63', hfit', hn0, Question.forced, newRow, grownCap, IntKind.max, IntKind.signed, IntKind.bits, ho, hd]
theorem appendZ_sound (H : HS c h n μ w) {T U ty : TypeId} {s x : V} {sv xv : Value} {t : Nat → V} {K : V → St → Prop} (hs : R c h μ w s sv) (hx : R c h μ w x xv) (hk : aappendZ c.P T U s x ⟨t, h, n⟩ K) :
    ∃ v y h' n' μ' w', (Builtin.append_ #[T, U] ty #[sv, xv]).run c.P w = .ok y w' ∧ K v ⟨t, h', n'⟩ ∧ HS c h' n' μ' w' ∧ Ext c h μ w h' μ' w' ∧ R c h' μ' w' v y := by
  unfold aappendZ at hk
  split at hk
  · rename_i e z b8 b len cap m hseq hm
    obtain ⟨hT, hze, hbe⟩ := seqo_slice hseq
    obtain ⟨hU, hz0, hb0, hzero, B, hB, hwr, hBz, hlc, hcl, hby, hlt, hK⟩ := hk
    obtain ⟨i, hi, hiz⟩ := Option.map_eq_some_iff.1 hze
    obtain ⟨i', hi', hib⟩ := Option.map_eq_some_iff.1 hbe
    rw [hi] at hi'; cases hi'
    obtain ⟨zv, hzv, hzvs⟩ : ∃ zv, zro c.P e = some zv ∧ zv.cells.size = z := by
      unfold zok at hzero
      cases hq : zro c.P e with
      | none => rw [hq] at hzero; cases hzero
      | some zv => rw [hq] at hzero; exact ⟨zv, rfl, by simpa using hzero⟩
    obtain ⟨i', hi', hzv⟩ := Option.bind_eq_some_iff.1 hzv
    rw [hi] at hi'; cases hi'
    obtain ⟨k, hUk⟩ : ∃ k, c.P.underlying U = some (.int k) := by
      unfold isIntT at hU
      split at hU
      · rename_i k hk; exact ⟨k, hk⟩
      · cases hU
    obtain ⟨k', rfl⟩ := hx.asN_eq hm
    have hm0 : 0 < m := by omega
    have hm1 : (len + m) * 1 ≤ (len + m) * b8 := Nat.mul_le_mul_left _ hb0
    have hm2 : m * b8 ≤ (len + m) * b8 := Nat.mul_le_mul_right _ (by omega)
    have fin : ∀ (A : Option Addr) (olds : List (List V)) (ov : Array Value), sv = .slice A len cap → olds = B.rows.take len → olds.length = len → (∀ r ∈ olds, r.length = z) → ov.size = olds.length * z →
        (∀ w', (∀ a, w'.cell? a = w.cell? a) → (Builtin.firstCells z len (.slice A len cap)).run c.P w' = .ok ov w') → (∀ i j, i < olds.length → j < z → R c h μ w (cellAt olds i j) (ov.getD (i * z + j) Go.undef)) →
        ∃ v y h' n' μ' w', (Builtin.append_ #[T, U] ty #[sv, .int k' m]).run c.P w = .ok y w' ∧ K v ⟨t, h', n'⟩ ∧ HS c h' n' μ' w' ∧ Ext c h μ w h' μ' w' ∧ R c h' μ' w' v y := by
      intro A olds ov hsv hoe hol hor hov hof hoc
      subst hsv
      have hge := grownCap_ge w (len + m) cap e
      have hrun := grow_genZ (ty := ty) (k' := k') hT hUk hi hzv (w := w) (b := A) (sLen := len) (sCap := cap) (m := m) (olds := ov) (by rw [hiz]; exact hof w.drew (cells_drew w)) (by omega) (by
        rw [hib]
        have : ((m * b8 : Nat) : Int) ≤ 281474976710656 := by omega
        push_cast at this
        exact this) (by rw [hiz]; exact Nat.mul_ne_zero (by omega) (by omega)) hlt (by omega) (by rw [hib]; exact growslice_fits hlt hby)
      generalize grownCap w (len + m) cap e = cap' at hrun hge
      have hzs : (Builtin.zeroCells zv.cells (cap' - (len + m))).size = (cap' - (olds.length + (spare z m).length)) * z := by rw [size_zeroCells, hzvs, hol, spare_length]
      have hns : (Builtin.zeroCells zv.cells m).size = (spare z m).length * z := by rw [size_zeroCells, hzvs, spare_length]
      have hcells := grown_cells (c := c) (h := h) (μ := μ) (w := w) (cap := cap') hov hns hzs (by rw [spare_length]; omega) hoc (fun i j hi hj => by
        rw [spare_length] at hi
        rw [cellAt_spare _ _ _ _ hi hj]; exact .any _)
      rw [hol, spare_length] at hcells
      have H2 := H.newRow ⟨z, olds ++ spare z m ++ spare z (cap' - (len + m)), true⟩ (ov ++ Builtin.zeroCells zv.cells m ++ Builtin.zeroCells zv.cells (cap' - (len + m))) e (0, 0) (w1 := w.drew) (Below.refl _ _).drew rfl
        (fun r hr => by
          simp only [List.mem_append] at hr
          rcases hr with (hr | hr) | hr
          · exact hor r hr
          · exact spare_rows _ _ r hr
          · exact spare_rows _ _ r hr) (fun j _ => by simp) (fun i j hi hj => hcells i j hi hj)
      refine ⟨_, _, _, _, _, _, hrun, by rw [hoe] at H2 ⊢; exact hK cap' hge, H2.1, H2.2, ?_⟩
      have := Rp.loc (fvals := c.fvals) (w := w.drew.alloc (.cells (ov ++ Builtin.zeroCells zv.cells m ++ Builtin.zeroCells zv.cells (cap' - (len + m))) e)) (ok := okB c (upd h n (some ⟨z, olds ++ spare z m ++ spare z (cap' - (len + m)), true⟩)) (upd μ n (some (.real w.heap.size 0 z))) (w.drew.alloc (.cells (ov ++ Builtin.zeroCells zv.cells m ++ Builtin.zeroCells zv.cells (cap' - (len + m))) e)))
        (μ := upd μ n (some (.real w.heap.size 0 z))) n 0 (len + m) cap' w.heap.size 0 z (upd_same _ _ _) hge
      simpa using this
    obtain ⟨_, ⟨q, base, size, hmu, rfl⟩ | ⟨h0, h00, A, t', hmu, rfl⟩⟩ := hs.loc_inv
    · have hsize : size = z := by
        rcases H.blk b B hB with ⟨g1, _⟩ | ⟨k', base', g1, _⟩
        · rw [hmu] at g1; cases g1
        · rw [hmu] at g1; cases g1; exact hBz
      subst hsize
      have hrows : ∀ r ∈ B.rows, r.length = size := by
        rcases H.blk b B hB with ⟨g1, _⟩ | ⟨k', base', g1, g2, g3, g4, g5⟩
        · rw [hmu] at g1; cases g1
        · rw [← hBz]; exact g4
      simp only [Nat.zero_mul, Nat.add_zero] at *
      have hro : rowsOf h (.loc b 0 len cap) = some (B.rows.take len) := by simp [rowsOf, hB]; omega
      have hlen : (B.rows.take len).length = len := by simp; omega
      obtain ⟨A', cp', size', heq, hc', hA'⟩ := rows_sound H hs hro
      rw [hlen] at heq
      cases heq
      obtain ⟨ov, o1, o2, o3⟩ := rows_load (P := c.P) (c := c) (h := h) (μ := μ) (w := w) (rows := B.rows.take len) (A := some ⟨q, base, none⟩) (cp := cap) (z := size) (fun _ r hr => hrows r (List.mem_of_mem_take hr)) (fun hn => by
        obtain ⟨ad, g0, g1, g2⟩ := hA' hn
        cases g0
        have hmem : (B.rows.take len).getD 0 [] ∈ B.rows.take len := by rw [List.getD_eq_getElem?_getD, List.getElem?_eq_getElem (by omega)]; exact List.getElem_mem _
        have hss : size' = size := by rw [← g1 _ hmem, hrows _ (List.mem_of_mem_take hmem)]
        subst hss
        exact ⟨_, rfl, g2⟩)
      rw [hlen] at o1
      exact fin (some ⟨q, base, none⟩) (B.rows.take len) ov rfl rfl hlen (fun r hr => hrows r (List.mem_of_mem_take hr)) o2 o1 o3
    · subst h0 h00
      refine fin A [] #[] rfl (by simp) rfl (fun r hr => by cases hr) (by simp) (fun w' _ => ?_) (fun i j hi => by simp at hi)
      cases A <;> simp [Builtin.firstCells, loadCells, loadCellsFrom, Sem.run, pure]
  · exact hk.elim
end
end Go.Proofs.Ytahgddfnbjpfiaa.Am
