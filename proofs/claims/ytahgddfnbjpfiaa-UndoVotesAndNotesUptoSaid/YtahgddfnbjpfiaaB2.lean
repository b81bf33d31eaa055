/- Texts that the law's proof stands on: AmApp, AmAppZ, AmEff, AmEff2, AmCall, AmSound. -/
import Derived.Test.YtahgddfnbjpfiaaB1
import Derived.Lib.AppendStr
/- An abstract machine over values: append. -/
set_option linter.unusedVariables false
set_option linter.unusedSimpArgs false
namespace Go.Proofs.Ytahgddfnbjpfiaa.Am
open Go Go.RowKit

def brows (s : ByteArray) : List (List V) := s.data.toList.map fun q => [.s (.int .u8 q.toNat)]
/-- What is appended: a slice's rows, or a string's bytes. -/
def srcRows (P : Program) (h : Hp) (U : TypeId) (x : V) : Option (List (List V)) :=
  match P.underlying U, x with
  | some .string, .s (.string b) => some (brows b)
  | some (.slice _), x => rowsOf h x
  | _, _ => none
def okRows (z : Nat) (rows : List (List V)) : Prop := ∀ r ∈ rows, r.length = z ∧ ∀ q ∈ r, cellish q = true

/-- The zero value is as wide as the type. -/
def zok (P : Program) (e z : Nat) : Bool := (zro P e).any fun v => v.cells.size == z
def aappend (P : Program) (T U : TypeId) (s x : V) (σ : St) (K : V → St → Prop) : Prop :=
  match seqo P T with
  | .slice e z b8 => 0 < z ∧ 0 < b8 ∧ zok P e z = true ∧ ∃ nr, srcRows P σ.h U x = some nr ∧ okRows z nr ∧
      match s with
      | .cap0 => nr.length * b8 ≤ 140737488355328 ∧ ∀ cap, nr.length ≤ cap → K (.loc σ.n 0 nr.length cap) (σ.new ⟨z, nr ++ spare z (cap - nr.length), true⟩)
      | .loc b 0 len cap => ∃ B, σ.h b = some B ∧ B.wr = true ∧ B.size = z ∧ len ≤ cap ∧ cap ≤ B.rows.length ∧ (len + nr.length) * b8 ≤ 140737488355328 ∧
          ((∀ cap', len + nr.length ≤ cap' → K (.loc σ.n 0 (len + nr.length) cap') (σ.ren b ⟨z, B.rows.take len ++ nr ++ spare z (cap' - (len + nr.length)), true⟩)) ∨
           (cap < len + nr.length ∧ ∀ cap', len + nr.length ≤ cap' → K (.loc σ.n 0 (len + nr.length) cap') (σ.new ⟨z, B.rows.take len ++ nr ++ spare z (cap' - (len + nr.length)), true⟩)))
      | _ => False
  | _ => False

section
variable {c : Cx} {h : Hp} {n : Nat} {μ : Mu} {w : World}
theorem idx_lt {m z i j : Nat} (hi : i < m) (hj : j < z) : i * z + j < m * z := by
  have : (i + 1) * z ≤ m * z := Nat.mul_le_mul_right _ hi
  rw [Nat.add_mul] at this
  omega
theorem idx_div {z i j : Nat} (hj : j < z) : (i * z + j) / z = i ∧ (i * z + j) % z = j := by
  constructor
  · rw [Nat.add_comm, Nat.add_mul_div_right _ _ (by omega), Nat.div_eq_of_lt hj, Nat.zero_add]
  · rw [Nat.add_comm, Nat.add_mul_mod_self_right, Nat.mod_eq_of_lt hj]

theorem rows_load {P : Program} {rows : List (List V)} {A : Option Addr} {cp z : Nat} (hlen : rows.length ≠ 0 → ∀ r ∈ rows, r.length = z)
    (hA : rows.length ≠ 0 → ∃ ad : Addr, A = some ad ∧ ∀ i j, i < rows.length → j < z → ∃ y, w.cell? (ad.add (i * z + j)) = some y ∧ R c h μ w (cellAt rows i j) y) :
    ∃ vals : Array Value, (∀ w', (∀ a, w'.cell? a = w.cell? a) → (Builtin.firstCells z rows.length (.slice A rows.length cp)).run P w' = .ok vals w') ∧ vals.size = rows.length * z ∧
      ∀ i j, i < rows.length → j < z → R c h μ w (cellAt rows i j) (vals.getD (i * z + j) Go.undef) := by
  by_cases hn : rows.length = 0
  · refine ⟨#[], fun w' _ => ?_, by simp [hn], fun i j hi => by omega⟩
    cases A with
    | none => simp [Builtin.firstCells, Sem.run, pure]
    | some ad => simp [Builtin.firstCells, hn, loadCells, loadCellsFrom, Sem.run, pure]
  · obtain ⟨ad, rfl, hcell⟩ := hA hn
    have hex : ∀ q, ∃ y, q < rows.length * z → w.cell? (ad.add q) = some y ∧ R c h μ w (cellAt rows (q / z) (q % z)) y := by
      intro q
      by_cases hq : q < rows.length * z
      · have hz : 0 < z := by
          rcases Nat.eq_zero_or_pos z with h0 | h0
          · subst h0; simp at hq
          · exact h0
        obtain ⟨y, h1, h2⟩ := hcell (q / z) (q % z) (Nat.div_lt_of_lt_mul (by rw [Nat.mul_comm]; exact hq)) (Nat.mod_lt _ hz)
        refine ⟨y, fun _ => ⟨?_, h2⟩⟩
        rw [show q = q / z * z + q % z by rw [Nat.mul_comm]; exact (Nat.div_add_mod q z).symm]
        exact h1
      · exact ⟨Go.undef, fun h => absurd h hq⟩
    obtain ⟨f, hf⟩ := Classical.axiomOfChoice hex
    refine ⟨((List.range (rows.length * z)).map f).toArray, fun w' hw' => ?_, by simp, fun i j hi hj => ?_⟩
    · have := run_loadCells (P := P) w' ad (rows.length * z) f (fun j hj => by rw [hw']; exact (hf j hj).1)
      simp only [Builtin.firstCells, this]
    · have h1 := (hf _ (idx_lt hi hj)).2
      rw [(idx_div hj).1, (idx_div hj).2] at h1
      simpa [idx_lt hi hj] using h1

theorem lenOf_slice {P : Program} {A : Option Addr} {m cp : Nat} (w' : World) : (Builtin.lenOf (.slice A m cp)).run P w' = .ok m w' := by simp [Builtin.lenOf, Sem.run, pure]

theorem src_sound (H : HS c h n μ w) {U : TypeId} {x : V} {xv : Value} {nr : List (List V)} {z : Nat} (hx : R c h μ w x xv) (hs : srcRows c.P h U x = some nr) (hok : okRows z nr) :
    (∃ d, c.P.underlying U = some (.slice d) ∨ c.P.underlying U = some .string) ∧ ∃ news : Array Value, (∀ w', (Builtin.lenOf xv).run c.P w' = .ok nr.length w') ∧ (∀ w', (∀ a, w'.cell? a = w.cell? a) → (Builtin.firstCells z nr.length xv).run c.P w' = .ok news w') ∧ news.size = nr.length * z ∧
      (∀ i j, i < nr.length → j < z → R c h μ w (cellAt nr i j) (news.getD (i * z + j) Go.undef)) ∧ ∀ u ∈ news.toList, u.oneCell' = true := by
  have one : ∀ {news : Array Value}, news.size = nr.length * z → (∀ i j, i < nr.length → j < z → R c h μ w (cellAt nr i j) (news.getD (i * z + j) Go.undef)) → ∀ u ∈ news.toList, u.oneCell' = true := by
    intro news hsz hr u hu
    obtain ⟨q, hq, rfl⟩ := List.getElem_of_mem hu
    have hq' : q < news.size := by simpa using hq
    have hz : 0 < z := by
      rcases Nat.eq_zero_or_pos z with h0 | h0
      · subst h0; simp at hsz; subst hsz; simp at hq'
      · exact h0
    have hi : q / z < nr.length := Nat.div_lt_of_lt_mul (by rw [Nat.mul_comm, ← hsz]; exact hq')
    have hj := Nat.mod_lt q hz
    have h1 := hr (q / z) (q % z) hi hj
    rw [show q / z * z + q % z = q by rw [Nat.mul_comm]; exact Nat.div_add_mod q z] at h1
    have hmem : nr.getD (q / z) [] ∈ nr := by rw [List.getD_eq_getElem?_getD, List.getElem?_eq_getElem hi]; exact List.getElem_mem _
    have h2 : cellish (cellAt nr (q / z) (q % z)) = true := by
      refine (hok _ hmem).2 _ ?_
      unfold cellAt
      rw [List.getD_eq_getElem?_getD (l := nr.getD (q / z) []), List.getElem?_eq_getElem (by rw [(hok _ hmem).1]; exact hj)]
      exact List.getElem_mem _
    have h3 : news.getD q Go.undef = news[q] := by simp [hq']
    rw [h3] at h1
    simpa using (cellish_sound h1 h2).2
  unfold srcRows at hs
  split at hs
  · rename_i b hu
    cases hs
    obtain ⟨rfl, _⟩ := hx.s_eq
    have hlen : (brows b).length = b.size := by simp only [brows, List.length_map, Array.length_toList]; rfl
    refine ⟨⟨0, .inr hu⟩, b.data.map (fun q => .int .u8 q.toNat), fun w' => by simp [Builtin.lenOf, Sem.run, pure, hlen], fun w' _ => ?_, ?_, ?_, ?_⟩
    · rw [hlen, Lib.run_firstCells_string]
      congr 1
      rw [Lib.strCells]
      apply Array.ext'
      simp [Array.toList_map]
    · by_cases hb : (brows b).length = 0
      · rw [hb, Nat.zero_mul, Array.size_map]; rw [hlen] at hb; exact hb
      · have := (hok ((brows b).getD 0 []) (by rw [List.getD_eq_getElem?_getD, List.getElem?_eq_getElem (by omega)]; exact List.getElem_mem _)).1
        have hq : ((brows b).getD 0 []).length = 1 := by
          rw [List.getD_eq_getElem?_getD, List.getElem?_eq_getElem (by omega)]
          simp [brows]
        rw [hq] at this
        subst this
        rw [hlen, Nat.mul_one, Array.size_map]; rfl
    · intro i j hi hj
      have hmem : (brows b).getD i [] ∈ brows b := by rw [List.getD_eq_getElem?_getD, List.getElem?_eq_getElem hi]; exact List.getElem_mem _
      have h1 := (hok _ hmem).1
      have hi' : i < b.data.size := by rw [hlen] at hi; exact hi
      have h2 : (brows b).getD i [] = [.s (.int .u8 b.data[i].toNat)] := by
        simp [brows, List.getD_eq_getElem?_getD, List.getElem?_eq_getElem (show i < b.data.toList.length by simpa using hi')]
      rw [h2] at h1
      simp at h1
      subst h1
      obtain rfl : j = 0 := by omega
      unfold cellAt
      rw [h2]
      rw [show (b.data.map (fun q => Value.int .u8 q.toNat)).getD (i * 1 + 0) Go.undef = .int .u8 b.data[i].toNat by simp [Array.getElem?_eq_getElem hi']]
      exact .s _ rfl
    · intro u hu
      simp at hu
      obtain ⟨q, _, rfl⟩ := hu
      rfl
  · rename_i d hu
    obtain ⟨A, cp, size, rfl, hc, hA⟩ := rows_sound H hx hs
    have hsz : nr.length ≠ 0 → size = z := by
      intro hn
      obtain ⟨ad, _, h1, _⟩ := hA hn
      have hmem : nr.getD 0 [] ∈ nr := by rw [List.getD_eq_getElem?_getD, List.getElem?_eq_getElem (by omega)]; exact List.getElem_mem _
      rw [← h1 _ hmem, (hok _ hmem).1]
    obtain ⟨vals, v1, v2, v3⟩ := rows_load (P := c.P) (c := c) (h := h) (μ := μ) (w := w) (rows := nr) (A := A) (cp := cp) (z := z) (fun _ r hr => (hok r hr).1) (fun hn => by
      obtain ⟨ad, h0, _, h2⟩ := hA hn
      rw [hsz hn] at h2
      exact ⟨ad, h0, h2⟩)
    exact ⟨⟨d, .inl hu⟩, vals, fun w' => lenOf_slice w', v1, v2, v3, one v2 v3⟩
  · cases hs

theorem spare_length (z m : Nat) : (spare z m).length = m := by simp [spare]
theorem spare_rows (z m : Nat) : ∀ r ∈ spare z m, r.length = z := by
  intro r hr
  simp [spare] at hr
  rw [hr.2]; simp
theorem cellAt_append (a b : List (List V)) (i j : Nat) : cellAt (a ++ b) i j = if i < a.length then cellAt a i j else cellAt b (i - a.length) j := by
  unfold cellAt
  simp only [List.getD_eq_getElem?_getD]
  split
  · rename_i h; rw [List.getElem?_append_left h]
  · rename_i h; rw [List.getElem?_append_right (by omega)]
theorem cellAt_take (a : List (List V)) (m i j : Nat) (h : i < m) : cellAt (a.take m) i j = cellAt a i j := by
  unfold cellAt
  simp [List.getD_eq_getElem?_getD, List.getElem?_take, h]
theorem cellAt_spare (z m i j : Nat) (hi : i < m) (hj : j < z) : cellAt (spare z m) i j = .any := by
  unfold cellAt spare
  simp [List.getD_eq_getElem?_getD, hi, hj]

theorem okRows_len {z : Nat} {rows : List (List V)} (h : okRows z rows) : ∀ r ∈ rows, r.length = z := fun r hr => (h r hr).1

/-- What a row of old rows, new rows and spare room holds. -/
theorem grown_cells {olds news : List (List V)} {z cap : Nat} {ov nv zc : Array Value} (ho : ov.size = olds.length * z) (hn : nv.size = news.length * z) (hz : zc.size = (cap - (olds.length + news.length)) * z) (hcap : olds.length + news.length ≤ cap)
    (hro : ∀ i j, i < olds.length → j < z → R c h μ w (cellAt olds i j) (ov.getD (i * z + j) Go.undef)) (hrn : ∀ i j, i < news.length → j < z → R c h μ w (cellAt news i j) (nv.getD (i * z + j) Go.undef)) :
    ∀ i j, i < (olds ++ news ++ spare z (cap - (olds.length + news.length))).length → j < z → ∃ x, (ov ++ nv ++ zc)[i * z + j]? = some x ∧ R c h μ w (cellAt (olds ++ news ++ spare z (cap - (olds.length + news.length))) i j) x := by
  intro i j hi hj
  simp only [List.length_append, spare_length] at hi
  have hsz : (ov ++ nv ++ zc).size = cap * z := by
    simp only [Array.size_append, ho, hn, hz, ← Nat.add_mul]
    congr 1
    omega
  have hlt : i * z + j < cap * z := idx_lt (by omega) hj
  refine ⟨(ov ++ nv ++ zc)[i * z + j]'(by omega), Array.getElem?_eq_getElem _, ?_⟩
  rw [List.append_assoc, cellAt_append]
  split
  · rename_i h1
    have h2 := idx_lt (z := z) h1 hj
    have h3 := hro i j h1 hj
    have h4 : ov.getD (i * z + j) Go.undef = (ov ++ nv ++ zc)[i * z + j]'(by omega) := by
      have h5 : i * z + j < ov.size := by omega
      have h6 : i * z + j < (ov ++ nv).size := by simp; omega
      rw [Array.getElem_append_left h6, Array.getElem_append_left h5]
      simp [h5]
    rw [← h4]; exact h3
  · rename_i h1
    rw [cellAt_append]
    split
    · rename_i h2
      have h3 := hrn _ j h2 hj
      have h7 := idx_lt (z := z) h2 hj
      have h8 : i * z + j - ov.size = (i - olds.length) * z + j := by rw [ho, Nat.sub_mul]; have : olds.length * z ≤ i * z := Nat.mul_le_mul_right _ (by omega); omega
      have h9 : ov.size ≤ i * z + j := by rw [ho]; have : olds.length * z ≤ i * z := Nat.mul_le_mul_right _ (by omega); omega
      have h4 : nv.getD ((i - olds.length) * z + j) Go.undef = (ov ++ nv ++ zc)[i * z + j]'(by omega) := by
        have h5 : (i - olds.length) * z + j < nv.size := by omega
        have h6 : i * z + j < (ov ++ nv).size := by simp; omega
        rw [Array.getElem_append_left h6, Array.getElem_append_right h9]
        simp only [h8]
        simp [h5]
      rw [← h4]; exact h3
    · rename_i h2
      rw [cellAt_spare _ _ _ _ (by omega) hj]
      exact .any _

theorem setCells_fr (q : Nat) : ∀ (vs : List Value) (o : Nat) (w : World), Fr w (w.setCells q o vs) (fun k => k = q) ∧ (w.setCells q o vs).heap.size = w.heap.size
  | [], _, w => ⟨Fr.refl _ _, rfl⟩
  | v :: vs, o, w => by
    obtain ⟨h1, h2⟩ := setCells_fr q vs (o + 1) (w.setCell ⟨q, o, none⟩ v)
    have h3 : (w.setCell ⟨q, o, none⟩ v).heap.size = w.heap.size := by simp [World.setCell]
    refine ⟨⟨h1.os, h1.tape, h1.output, ?_, fun k hk hne => ?_⟩, by rw [World.setCells, h2, h3]⟩
    · have := h1.size; rw [h3] at this; exact this
    · rw [World.setCells, h1.block k (by omega) hne]
      exact Below.heap_setCell w ⟨q, o, none⟩ v k hne
theorem cells_drew (w : World) (a : Addr) : w.drew.cell? a = w.cell? a := rfl
theorem append_sound (H : HS c h n μ w) {T U ty : TypeId} {s x : V} {sv xv : Value} {t : Nat → V} {K : V → St → Prop} (hs : R c h μ w s sv) (hx : R c h μ w x xv) (hk : aappend c.P T U s x ⟨t, h, n⟩ K) :
    ∃ v y h' n' μ' w', (Builtin.append_ #[T, U] ty #[sv, xv]).run c.P w = .ok y w' ∧ K v ⟨t, h', n'⟩ ∧ HS c h' n' μ' w' ∧ Ext c h μ w h' μ' w' ∧ R c h' μ' w' v y := by
  unfold aappend at hk
  split at hk
  · rename_i e z b8 hseq
    obtain ⟨hT, hze, hbe⟩ := seqo_slice hseq
    obtain ⟨hz0, hb0, hzero, nr, hsrc, hok, hk⟩ := hk
    obtain ⟨i, hi, hiz⟩ := Option.map_eq_some_iff.1 hze
    obtain ⟨i', hi', hib⟩ := Option.map_eq_some_iff.1 hbe
    rw [hi] at hi'; cases hi'
    obtain ⟨zv, hzv, hzvs⟩ : ∃ zv, zro c.P e = some zv ∧ zv.cells.size = z := by
      unfold zok at hzero
      cases hq : zro c.P e with
      | none => rw [hq] at hzero; cases hzero
      | some zv => rw [hq] at hzero; exact ⟨zv, rfl, by simpa using hzero⟩
    obtain ⟨i', hi', hzv⟩ := Option.bind_eq_some_iff.1 hzv
    rw [hi] at hi'; cases hi'
    obtain ⟨⟨d, hU⟩, news, n1, n2, n3, n4, n5⟩ := src_sound H hx hsrc hok
    have grow : ∀ (h1 : Hp) (H1 : HS c h1 n μ w) (E1 : Ext c h μ w h1 μ w) (A : Option Addr) (sLen sCap : Nat) (olds : List (List V)) (ov : Array Value), sv = .slice A sLen sCap → olds.length = sLen → (∀ r ∈ olds, r.length = z) → ov.size = olds.length * z →
        (∀ w', (∀ a, w'.cell? a = w.cell? a) → (Builtin.firstCells z sLen (.slice A sLen sCap)).run c.P w' = .ok ov w') → (∀ i j, i < olds.length → j < z → R c h μ w (cellAt olds i j) (ov.getD (i * z + j) Go.undef)) →
        sCap < sLen + nr.length → (sLen + nr.length) * b8 ≤ 140737488355328 →
        (∀ cap', sLen + nr.length ≤ cap' → K (.loc n 0 (sLen + nr.length) cap') ⟨t, upd h1 n (some ⟨z, olds ++ nr ++ spare z (cap' - (sLen + nr.length)), true⟩), n + 1⟩) →
        ∃ v y h' n' μ' w', (Builtin.append_ #[T, U] ty #[sv, xv]).run c.P w = .ok y w' ∧ K v ⟨t, h', n'⟩ ∧ HS c h' n' μ' w' ∧ Ext c h μ w h' μ' w' ∧ R c h' μ' w' v y := by
      intro h1 H1 E1 A sLen sCap olds ov hsv hol hor hov hof hoc hlt hby hK
      subst hsv
      have hge := grownCap_ge w (sLen + nr.length) sCap e
      have h63 : sLen + nr.length ≤ 9223372036854775807 := by
        have : (sLen + nr.length) * 1 ≤ (sLen + nr.length) * b8 := Nat.mul_le_mul_left _ hb0
        omega
      have hrun := grow_gen (ty := ty) hT hU hi hzv (w := w) (b := A) (sLen := sLen) (sCap := sCap) (m := nr.length) (olds := ov) (news := news) (x := xv) (by rw [hiz]; exact hof w.drew (cells_drew w)) n1 (by rw [hiz]; exact n2 w.drew (cells_drew w)) hlt h63 (by rw [hib]; exact growslice_fits hlt hby)
      generalize grownCap w (sLen + nr.length) sCap e = cap at hrun hge
      have hzs : (Builtin.zeroCells zv.cells (cap - (sLen + nr.length))).size = (cap - (olds.length + nr.length)) * z := by rw [size_zeroCells, hzvs, hol]
      have hcells := grown_cells (c := c) (h := h) (μ := μ) (w := w) (cap := cap) hov n3 hzs (by omega) hoc n4
      have hE : ∀ v y, R c h μ w v y → R c h1 μ w v y := fun v y hr => E1.R hr
      have H2 := H1.newRow ⟨z, olds ++ nr ++ spare z (cap - (sLen + nr.length)), true⟩ (ov ++ news ++ Builtin.zeroCells zv.cells (cap - (sLen + nr.length))) e (0, 0) (w1 := w.drew) (Below.refl _ _).drew rfl
        (fun r hr => by
          simp only [List.mem_append] at hr
          rcases hr with (hr | hr) | hr
          · exact hor r hr
          · exact okRows_len hok r hr
          · exact spare_rows _ _ r hr) (fun j _ => by simp) (fun i j hi hj => by
          rw [hol] at hcells
          obtain ⟨x, h1, h2⟩ := hcells i j hi hj
          exact ⟨x, h1, hE _ _ h2⟩)
      refine ⟨_, _, _, _, _, _, hrun, hK cap hge, H2.1, E1.trans H2.2, ?_⟩
      have := Rp.loc (fvals := c.fvals) (w := w.drew.alloc (.cells (ov ++ news ++ Builtin.zeroCells zv.cells (cap - (sLen + nr.length))) e)) (ok := okB c (upd h1 n (some ⟨z, olds ++ nr ++ spare z (cap - (sLen + nr.length)), true⟩)) (upd μ n (some (.real w.heap.size 0 z))) (w.drew.alloc (.cells (ov ++ news ++ Builtin.zeroCells zv.cells (cap - (sLen + nr.length))) e)))
        (μ := upd μ n (some (.real w.heap.size 0 z))) n 0 (sLen + nr.length) cap w.heap.size 0 z (upd_same _ _ _) hge
      simpa using this
    split at hk
    · -- no room
      obtain ⟨hby, hK⟩ := hk
      obtain ⟨A, rfl⟩ := hs.cap0_inv
      by_cases hn : nr.length = 0
      · have hnr : nr = [] := List.eq_nil_of_length_eq_zero hn
        subst hnr
        have hnews : news = #[] := by apply Array.eq_empty_of_size_eq_zero; simpa using n3
        subst hnews
        have hrun := room_gen (ty := ty) hT hU hi (w := w) (w' := w) (b := A) (sLen := 0) (sCap := 0) (m := 0) (news := #[]) (x := xv) n1 (by rw [hiz]; exact n2 w (fun _ => rfl)) (Nat.le_refl _) (by cases A <;> rfl)
        have H2 := H.virt z
        have hK0 := hK 0 (Nat.le_refl _)
        refine ⟨_, _, _, _, _, _, hrun, hK0, H2.1, H2.2, ?_⟩
        exact .loc0 _ _ _ _ (upd_same _ _ _)
      · refine grow h H (Ext.refl _ _ _ _) A 0 0 [] #[] rfl rfl (fun r hr => by cases hr) (by simp) (fun w' _ => ?_) (fun i j hi => by simp at hi) (by omega) (by simpa using hby) (fun cap hc => by
          have := hK cap (by omega)
          simpa [St.new] using this)
        cases A <;> simp [Builtin.firstCells, loadCells, loadCellsFrom, Sem.run, pure]
    · -- a row of one's own
      rename_i b len cap
      obtain ⟨B, hB, hwr, hBz, hlc, hcl, hby, hK | ⟨hlt, hK⟩⟩ := hk
      case inr =>
        obtain ⟨_, ⟨q, base, size, hmu, rfl⟩ | ⟨h0, h00, A, t', hmu, rfl⟩⟩ := hs.loc_inv
        · have hsize : size = z := by
            rcases H.blk b B hB with ⟨g1, _⟩ | ⟨k', base', g1, _⟩
            · rw [hmu] at g1; cases g1
            · rw [hmu] at g1; cases g1; exact hBz
          subst hsize
          have hrows : ∀ r ∈ B.rows, r.length = size := by
            rcases H.blk b B hB with ⟨g1, _⟩ | ⟨k', base', g1, g2, g3, g4, g5⟩
            · rw [hmu] at g1; cases g1
            · rw [← hBz]; exact g4
          simp only [Nat.zero_mul, Nat.add_zero] at *
          have hro : rowsOf h (.loc b 0 len cap) = some (B.rows.take len) := by simp [rowsOf, hB]; omega
          have hlen : (B.rows.take len).length = len := by simp; omega
          obtain ⟨A', cp', size', heq, hc', hA'⟩ := rows_sound H hs hro
          rw [hlen] at heq
          cases heq
          obtain ⟨ov, o1, o2, o3⟩ := rows_load (P := c.P) (c := c) (h := h) (μ := μ) (w := w) (rows := B.rows.take len) (A := some ⟨q, base, none⟩) (cp := cap) (z := size) (fun _ r hr => hrows r (List.mem_of_mem_take hr)) (fun hn => by
            obtain ⟨ad, g0, g1, g2⟩ := hA' hn
            cases g0
            have hmem : (B.rows.take len).getD 0 [] ∈ B.rows.take len := by rw [List.getD_eq_getElem?_getD, List.getElem?_eq_getElem (by omega)]; exact List.getElem_mem _
            have hss : size' = size := by rw [← g1 _ hmem, hrows _ (List.mem_of_mem_take hmem)]
            subst hss
            exact ⟨_, rfl, g2⟩)
          rw [hlen] at o1
          exact grow h H (Ext.refl _ _ _ _) (some ⟨q, base, none⟩) len cap (B.rows.take len) ov rfl hlen (fun r hr => hrows r (List.mem_of_mem_take hr)) o2 o1 o3 (by omega) hby (fun cap' hc => hK cap' hc)
        · subst h0 h00
          refine grow h H (Ext.refl _ _ _ _) A 0 0 [] #[] rfl rfl (fun r hr => by cases hr) (by simp) (fun w' _ => ?_) (fun i j hi => by simp at hi) (by omega) (by simpa using hby) (fun cap hc => by
              have := hK cap hc
              simpa [St.new] using this)
          cases A <;> simp [Builtin.firstCells, loadCells, loadCellsFrom, Sem.run, pure]
      obtain ⟨_, ⟨q, base, size, hmu, rfl⟩ | ⟨h0, h00, A, t', hmu, rfl⟩⟩ := hs.loc_inv
      · have hsize : size = z := by
          rcases H.blk b B hB with ⟨g1, _⟩ | ⟨k', base', g1, _⟩
          · rw [hmu] at g1; cases g1
          · rw [hmu] at g1; cases g1; exact hBz
        subst hsize
        have hrows : ∀ r ∈ B.rows, r.length = size := by
          rcases H.blk b B hB with ⟨g1, _⟩ | ⟨k', base', g1, g2, g3, g4, g5⟩
          · rw [hmu] at g1; cases g1
          · rw [← hBz]; exact g4
        simp only [Nat.zero_mul, Nat.add_zero] at *
        by_cases hroom : len + nr.length ≤ cap
        · -- there is room
          have hst : ∀ j, j < news.toList.length → ∃ y, w.cell? ⟨q, base + len * size + 0 + j, none⟩ = some y ∧ w.frozen? ⟨q, base + len * size + 0 + j, none⟩ = false := by
            intro j hj
            have hj' : j < nr.length * size := by simpa [n3] using hj
            have hi' : j / size < nr.length := Nat.div_lt_of_lt_mul (by rw [Nat.mul_comm]; exact hj')
            obtain ⟨_, y, g1, g2, _⟩ := H.at (r := len + j / size) (j := j % size) hB hmu (by omega) (by rw [hBz]; exact Nat.mod_lt _ hz0)
            rw [hBz] at g1 g2
            have e1 : base + len * size + 0 + j = base + ((len + j / size) * size + j % size) := by
              rw [Nat.add_mul]
              have := Nat.div_add_mod j size
              rw [Nat.mul_comm] at this
              omega
            rw [e1]
            exact ⟨y, g1, g2 _ (.inr rfl)⟩
          have hrunst := run_storeCells_cells (P := c.P) q (base + len * size) news.toList 0 w (fun j hj => by obtain ⟨y, g1, _⟩ := hst j hj; rw [g1]; rfl) (fun j hj => by obtain ⟨y, _, g2⟩ := hst j hj; exact g2) n5
          have hrun := room_gen (ty := ty) hT hU hi (w := w) (w' := w.setCells q (base + len * size + 0) news.toList) (b := some ⟨q, base, none⟩) (sLen := len) (sCap := cap) (m := nr.length) (news := news) (x := xv) n1 (by rw [hiz]; exact n2 w (fun _ => rfl)) hroom (by simp only [add_plain, hiz]; exact hrunst)
          generalize hw' : w.setCells q (base + len * size + 0) news.toList = w' at hrun
          obtain ⟨f1, f2⟩ := setCells_fr q news.toList (base + len * size + 0) w
          rw [hw'] at f1 f2
          have hlen : (B.rows.take len).length = len := by simp; omega
          have H2 := H.rename (B' := ⟨size, B.rows.take len ++ nr ++ spare size (cap - (len + nr.length)), true⟩) (base' := base) hB hwr (by rw [hBz]; exact hmu) f1
            (fun r hr => by
              simp only [List.mem_append] at hr
              rcases hr with (hr | hr) | hr
              · exact hrows r (List.mem_of_mem_take hr)
              · exact okRows_len hok r hr
              · exact spare_rows _ _ r hr)
            (fun i j hi hj => by
              simp only [List.length_append, hlen, spare_length] at hi
              obtain ⟨_, y, g1, g2, g3⟩ := H.at (r := i) (j := j) hB hmu (by omega) (by rw [hBz]; exact hj)
              rw [hBz] at g1 g2
              have hfz : ∀ o, (size ≠ 1 ∨ o = base + (i * size + j)) → w'.frozen? ⟨q, o, none⟩ = false := fun o ho => by rw [← hw', World.frozen?_setCells]; exact g2 o (by first | exact ho | (rw [hBz]; exact ho))
              simp only at hj ⊢
              by_cases c1 : i < len
              · refine ⟨y, ?_, hfz, fun e => e.R ?_⟩
                · rw [← hw', World.cell?_setCells_out _ _ _ _ _ (fun _ _ => .inl (by have := idx_lt c1 hj; simp; omega))]
                  exact g1
                · rw [List.append_assoc, cellAt_append, if_pos (by omega), cellAt_take _ _ _ _ c1]
                  exact g3
              · by_cases c2 : i < len + nr.length
                · have hidx := idx_lt (show i - len < nr.length by omega) hj
                  have hj2 : (i - len) * size + j < news.toList.length := by simpa [n3] using hidx
                  have hin := World.cell?_setCells_in q news.toList (base + len * size + 0) w (fun j hj => by obtain ⟨y, g1, _⟩ := hst j hj; rw [g1]; rfl) _ hj2
                  have e1 : base + len * size + 0 + ((i - len) * size + j) = base + (i * size + j) := by
                    have : len * size ≤ i * size := Nat.mul_le_mul_right _ (by omega)
                    rw [Nat.sub_mul]; omega
                  rw [e1, hw'] at hin
                  refine ⟨_, hin, hfz, fun e => e.R ?_⟩
                  rw [List.append_assoc, cellAt_append, if_neg (by omega), hlen, cellAt_append, if_pos (by omega)]
                  have := n4 (i - len) j (by omega) hj
                  have h3 : news.getD ((i - len) * size + j) Go.undef = news.toList[(i - len) * size + j] := by
                    have : (i - len) * size + j < news.size := by omega
                    simp [this]
                  rw [h3] at this
                  exact this
                · refine ⟨y, ?_, hfz, fun e => ?_⟩
                  · rw [← hw', World.cell?_setCells_out _ _ _ _ _ (fun _ _ => .inr (by
                      have : (len + nr.length) * size ≤ i * size := Nat.mul_le_mul_right _ (by omega)
                      rw [Nat.add_mul] at this
                      simp [n3]; omega))]
                    exact g1
                  · rw [List.append_assoc, cellAt_append, if_neg (by omega), hlen, cellAt_append, if_neg (by omega), cellAt_spare _ _ _ _ (by omega) hj]
                    exact .any _)
          refine ⟨_, _, _, _, _, _, hrun, hK cap hroom, H2.1, H2.2, ?_⟩
          have := Rp.loc (fvals := c.fvals) (w := w') (ok := okB c (upd (upd h b none) n (some ⟨size, B.rows.take len ++ nr ++ spare size (cap - (len + nr.length)), true⟩)) (upd μ n (some (.real q base size))) w')
            (μ := upd μ n (some (.real q base size))) n 0 (len + nr.length) cap q base size (upd_same _ _ _) hroom
          simpa using this
        · have hro : rowsOf h (.loc b 0 len cap) = some (B.rows.take len) := by simp [rowsOf, hB]; omega
          have hlen : (B.rows.take len).length = len := by simp; omega
          obtain ⟨A', cp', size', heq, hc', hA'⟩ := rows_sound H hs hro
          rw [hlen] at heq
          cases heq
          obtain ⟨ov, o1, o2, o3⟩ := rows_load (P := c.P) (c := c) (h := h) (μ := μ) (w := w) (rows := B.rows.take len) (A := some ⟨q, base, none⟩) (cp := cap) (z := size) (fun _ r hr => hrows r (List.mem_of_mem_take hr)) (fun hn => by
            obtain ⟨ad, g0, g1, g2⟩ := hA' hn
            cases g0
            have hmem : (B.rows.take len).getD 0 [] ∈ B.rows.take len := by rw [List.getD_eq_getElem?_getD, List.getElem?_eq_getElem (by omega)]; exact List.getElem_mem _
            have hss : size' = size := by rw [← g1 _ hmem, hrows _ (List.mem_of_mem_take hmem)]
            subst hss
            exact ⟨_, rfl, g2⟩)
          rw [hlen] at o1
          refine grow (upd h b none) (H.drop b).1 (H.drop b).2 (some ⟨q, base, none⟩) len cap (B.rows.take len) ov rfl hlen (fun r hr => hrows r (List.mem_of_mem_take hr)) o2 o1 o3 (by omega) hby (fun cap' hc => ?_)
          exact hK cap' hc
      · subst h0 h00
        by_cases hn : nr.length = 0
        · have hnr : nr = [] := List.eq_nil_of_length_eq_zero hn
          subst hnr
          have hnews : news = #[] := by apply Array.eq_empty_of_size_eq_zero; simpa using n3
          subst hnews
          have hrun := room_gen (ty := ty) hT hU hi (w := w) (w' := w) (b := A) (sLen := 0) (sCap := 0) (m := 0) (news := #[]) (x := xv) n1 (by rw [hiz]; exact n2 w (fun _ => rfl)) (Nat.le_refl _) (by cases A <;> rfl)
          have H1 := H.drop b
          have H2 := H1.1.virt z
          have hK0 := hK 0 (Nat.le_refl _)
          refine ⟨_, _, _, _, _, _, hrun, hK0, ?_, H1.2.trans H2.2, ?_⟩
          · simpa [spare] using H2.1
          · exact .loc0 _ _ _ _ (upd_same _ _ _)
        · refine grow (upd h b none) (H.drop b).1 (H.drop b).2 A 0 0 [] #[] rfl rfl (fun r hr => by cases hr) (by simp) (fun w' _ => ?_) (fun i j hi => by simp at hi) (by omega) (by simpa using hby) (fun cap hc => by
            have := hK cap hc
            simpa [St.ren] using this)
          cases A <;> simp [Builtin.firstCells, loadCells, loadCellsFrom, Sem.run, pure]
    · exact hk.elim
  · exact hk.elim
end
end Go.Proofs.Ytahgddfnbjpfiaa.Am

/- An abstract machine over values: append of a made row, where the row has no room for it: what is made is not told (it is written over). -/
set_option linter.unusedVariables false
set_option linter.unusedSimpArgs false
namespace Go.Proofs.Ytahgddfnbjpfiaa.Am
open Go Go.RowKit

def isIntT (P : Program) (T : TypeId) : Bool := match P.underlying T with
  | some (.int _) => true
  | _ => false
def aappendZ (P : Program) (T U : TypeId) (s x : V) (σ : St) (K : V → St → Prop) : Prop :=
  match seqo P T, s, asN x with
  | .slice e z b8, .loc b 0 len cap, some m => isIntT P U = true ∧ 0 < z ∧ 0 < b8 ∧ zok P e z = true ∧ ∃ B, σ.h b = some B ∧ B.wr = true ∧ B.size = z ∧ len ≤ cap ∧ cap ≤ B.rows.length ∧ (len + m) * b8 ≤ 140737488355328 ∧ cap < len + m ∧
      ∀ cap', len + m ≤ cap' → K (.loc σ.n 0 (len + m) cap') (σ.new ⟨z, B.rows.take len ++ spare z m ++ spare z (cap' - (len + m)), true⟩)
  | _, _, _ => False

section
variable {c : Cx} {h : Hp} {n : Nat} {μ : Mu} {w : World}
theorem grow_genZ {P : Program} {t u e : TypeId} {k k' : IntKind} {i : TypeInfo} {z : Value} {ty : TypeId} (ht : P.underlying t = some (.slice e)) (hu : P.underlying u = some (.int k)) (hi : P.info? e = some i) (hz : i.zero = some z)
    {w : World} {b : Option Addr} {sLen sCap m : Nat} {olds : Array Value}
    (ho : (Builtin.firstCells i.size sLen (.slice b sLen sCap)).run P w.drew = .ok olds w.drew) (hm : m ≤ 281474976710656) (hb : (m : Int) * i.bytes ≤ 281474976710656) (hn0 : m * i.size ≠ 0)
    (hg : sCap < sLen + m) (h63 : sLen + m ≤ 9223372036854775807) (hfit : Builtin.nextslicecap (sLen + m) sCap * i.bytes ≤ 281474976710656) :
    (Builtin.append_ #[t, u] ty #[.slice b sLen sCap, .int k' m]).run P w = .ok (.slice (some ⟨w.heap.size, 0, none⟩) (sLen + m) (grownCap w (sLen + m) sCap e))
      (w.drew.alloc (.cells (olds ++ Builtin.zeroCells z.cells m ++ Builtin.zeroCells z.cells (grownCap w (sLen + m) sCap e - (sLen + m))) e)) := by
  have hn' : ¬ (sLen + m ≤ sCap) := by omega
  have h63' : ¬ (9223372036854775807 < ((sLen : Int) + (m : Int))) := by omega
  have hfit' : ¬ (281474976710656 < Builtin.nextslicecap (sLen + m) sCap * i.bytes) := by omega
  have hd : { w with drawn := w.drawn + 1 } = w.drew := rfl
  have hw : IntKind.i64.wrap (m : Int) = m := by
    have h1 : (m : Int) % 18446744073709551616 = m := by omega
    have h2 : ¬ (9223372036854775808 ≤ (m : Int)) := by omega
    simp [IntKind.wrap, IntKind.bits, IntKind.signed, h1, h2]
  have hl : ¬ ((m : Int) < 0) := by omega
  have hb' : ¬ (281474976710656 < (m : Int) * i.bytes) := by omega
  have hi1 : ∀ w : World, (asInt (.int k' (m : Int))).run P w = .ok (m : Int) w := fun w => by simp [asInt, asIntOf, Sem.run, pure]
  simp [Builtin.append_, run_underlying ht, run_underlying hu, sizeOf, typeInfo, zeroValue, hi, hz, hi1, hw, hl, hb', hn', h63', hfit', hn0, Question.forced, newRow, grownCap, IntKind.max, IntKind.signed, IntKind.bits, ho, hd]
theorem appendZ_sound (H : HS c h n μ w) {T U ty : TypeId} {s x : V} {sv xv : Value} {t : Nat → V} {K : V → St → Prop} (hs : R c h μ w s sv) (hx : R c h μ w x xv) (hk : aappendZ c.P T U s x ⟨t, h, n⟩ K) :
    ∃ v y h' n' μ' w', (Builtin.append_ #[T, U] ty #[sv, xv]).run c.P w = .ok y w' ∧ K v ⟨t, h', n'⟩ ∧ HS c h' n' μ' w' ∧ Ext c h μ w h' μ' w' ∧ R c h' μ' w' v y := by
  unfold aappendZ at hk
  split at hk
  · rename_i e z b8 b len cap m hseq hm
    obtain ⟨hT, hze, hbe⟩ := seqo_slice hseq
    obtain ⟨hU, hz0, hb0, hzero, B, hB, hwr, hBz, hlc, hcl, hby, hlt, hK⟩ := hk
    obtain ⟨i, hi, hiz⟩ := Option.map_eq_some_iff.1 hze
    obtain ⟨i', hi', hib⟩ := Option.map_eq_some_iff.1 hbe
    rw [hi] at hi'; cases hi'
    obtain ⟨zv, hzv, hzvs⟩ : ∃ zv, zro c.P e = some zv ∧ zv.cells.size = z := by
      unfold zok at hzero
      cases hq : zro c.P e with
      | none => rw [hq] at hzero; cases hzero
      | some zv => rw [hq] at hzero; exact ⟨zv, rfl, by simpa using hzero⟩
    obtain ⟨i', hi', hzv⟩ := Option.bind_eq_some_iff.1 hzv
    rw [hi] at hi'; cases hi'
    obtain ⟨k, hUk⟩ : ∃ k, c.P.underlying U = some (.int k) := by
      unfold isIntT at hU
      split at hU
      · rename_i k hk; exact ⟨k, hk⟩
      · cases hU
    obtain ⟨k', rfl⟩ := hx.asN_eq hm
    have hm0 : 0 < m := by omega
    have hm1 : (len + m) * 1 ≤ (len + m) * b8 := Nat.mul_le_mul_left _ hb0
    have hm2 : m * b8 ≤ (len + m) * b8 := Nat.mul_le_mul_right _ (by omega)
    have fin : ∀ (A : Option Addr) (olds : List (List V)) (ov : Array Value), sv = .slice A len cap → olds = B.rows.take len → olds.length = len → (∀ r ∈ olds, r.length = z) → ov.size = olds.length * z →
        (∀ w', (∀ a, w'.cell? a = w.cell? a) → (Builtin.firstCells z len (.slice A len cap)).run c.P w' = .ok ov w') → (∀ i j, i < olds.length → j < z → R c h μ w (cellAt olds i j) (ov.getD (i * z + j) Go.undef)) →
        ∃ v y h' n' μ' w', (Builtin.append_ #[T, U] ty #[sv, .int k' m]).run c.P w = .ok y w' ∧ K v ⟨t, h', n'⟩ ∧ HS c h' n' μ' w' ∧ Ext c h μ w h' μ' w' ∧ R c h' μ' w' v y := by
      intro A olds ov hsv hoe hol hor hov hof hoc
      subst hsv
      have hge := grownCap_ge w (len + m) cap e
      have hrun := grow_genZ (ty := ty) (k' := k') hT hUk hi hzv (w := w) (b := A) (sLen := len) (sCap := cap) (m := m) (olds := ov) (by rw [hiz]; exact hof w.drew (cells_drew w)) (by omega) (by
        rw [hib]
        have : ((m * b8 : Nat) : Int) ≤ 281474976710656 := by omega
        push_cast at this
        exact this) (by rw [hiz]; exact Nat.mul_ne_zero (by omega) (by omega)) hlt (by omega) (by rw [hib]; exact growslice_fits hlt hby)
      generalize grownCap w (len + m) cap e = cap' at hrun hge
      have hzs : (Builtin.zeroCells zv.cells (cap' - (len + m))).size = (cap' - (olds.length + (spare z m).length)) * z := by rw [size_zeroCells, hzvs, hol, spare_length]
      have hns : (Builtin.zeroCells zv.cells m).size = (spare z m).length * z := by rw [size_zeroCells, hzvs, spare_length]
      have hcells := grown_cells (c := c) (h := h) (μ := μ) (w := w) (cap := cap') hov hns hzs (by rw [spare_length]; omega) hoc (fun i j hi hj => by
        rw [spare_length] at hi
        rw [cellAt_spare _ _ _ _ hi hj]; exact .any _)
      rw [hol, spare_length] at hcells
      have H2 := H.newRow ⟨z, olds ++ spare z m ++ spare z (cap' - (len + m)), true⟩ (ov ++ Builtin.zeroCells zv.cells m ++ Builtin.zeroCells zv.cells (cap' - (len + m))) e (0, 0) (w1 := w.drew) (Below.refl _ _).drew rfl
        (fun r hr => by
          simp only [List.mem_append] at hr
          rcases hr with (hr | hr) | hr
          · exact hor r hr
          · exact spare_rows _ _ r hr
          · exact spare_rows _ _ r hr) (fun j _ => by simp) (fun i j hi hj => hcells i j hi hj)
      refine ⟨_, _, _, _, _, _, hrun, by rw [hoe] at H2 ⊢; exact hK cap' hge, H2.1, H2.2, ?_⟩
      have := Rp.loc (fvals := c.fvals) (w := w.drew.alloc (.cells (ov ++ Builtin.zeroCells zv.cells m ++ Builtin.zeroCells zv.cells (cap' - (len + m))) e)) (ok := okB c (upd h n (some ⟨z, olds ++ spare z m ++ spare z (cap' - (len + m)), true⟩)) (upd μ n (some (.real w.heap.size 0 z))) (w.drew.alloc (.cells (ov ++ Builtin.zeroCells zv.cells m ++ Builtin.zeroCells zv.cells (cap' - (len + m))) e)))
        (μ := upd μ n (some (.real w.heap.size 0 z))) n 0 (len + m) cap' w.heap.size 0 z (upd_same _ _ _) hge
      simpa using this
    obtain ⟨_, ⟨q, base, size, hmu, rfl⟩ | ⟨h0, h00, A, t', hmu, rfl⟩⟩ := hs.loc_inv
    · have hsize : size = z := by
        rcases H.blk b B hB with ⟨g1, _⟩ | ⟨k', base', g1, _⟩
        · rw [hmu] at g1; cases g1
        · rw [hmu] at g1; cases g1; exact hBz
      subst hsize
      have hrows : ∀ r ∈ B.rows, r.length = size := by
        rcases H.blk b B hB with ⟨g1, _⟩ | ⟨k', base', g1, g2, g3, g4, g5⟩
        · rw [hmu] at g1; cases g1
        · rw [← hBz]; exact g4
      simp only [Nat.zero_mul, Nat.add_zero] at *
      have hro : rowsOf h (.loc b 0 len cap) = some (B.rows.take len) := by simp [rowsOf, hB]; omega
      have hlen : (B.rows.take len).length = len := by simp; omega
      obtain ⟨A', cp', size', heq, hc', hA'⟩ := rows_sound H hs hro
      rw [hlen] at heq
      cases heq
      obtain ⟨ov, o1, o2, o3⟩ := rows_load (P := c.P) (c := c) (h := h) (μ := μ) (w := w) (rows := B.rows.take len) (A := some ⟨q, base, none⟩) (cp := cap) (z := size) (fun _ r hr => hrows r (List.mem_of_mem_take hr)) (fun hn => by
        obtain ⟨ad, g0, g1, g2⟩ := hA' hn
        cases g0
        have hmem : (B.rows.take len).getD 0 [] ∈ B.rows.take len := by rw [List.getD_eq_getElem?_getD, List.getElem?_eq_getElem (by omega)]; exact List.getElem_mem _
        have hss : size' = size := by rw [← g1 _ hmem, hrows _ (List.mem_of_mem_take hmem)]
        subst hss
        exact ⟨_, rfl, g2⟩)
      rw [hlen] at o1
      exact fin (some ⟨q, base, none⟩) (B.rows.take len) ov rfl rfl hlen (fun r hr => hrows r (List.mem_of_mem_take hr)) o2 o1 o3
    · subst h0 h00
      refine fin A [] #[] rfl (by simp) rfl (fun r hr => by cases hr) (by simp) (fun w' _ => ?_) (fun i j hi => by simp at hi)
      cases A <;> simp [Builtin.firstCells, loadCells, loadCellsFrom, Sem.run, pure]
  · exact hk.elim
end
end Go.Proofs.Ytahgddfnbjpfiaa.Am

/- An abstract machine over values: operations that turn memory. -/
set_option linter.unusedVariables false
set_option linter.unusedSimpArgs false
namespace Go.Proofs.Ytahgddfnbjpfiaa.Am
open Go Go.RowKit

def chunks (z len : Nat) (cs : List V) : List (List V) := (List.range len).map fun i => (cs.drop (i * z)).take z
def repCells (zs : List V) (m : Nat) : List V := (List.replicate m zs).flatten

def astore (P : Program) (T : TypeId) (p x : V) (σ : St) (K : V → St → Prop) : Prop :=
  match p, cellsV x, szo P T with
  | .ptr b r k, some cs, some z => ∃ B, σ.h b = some B ∧ B.wr = true ∧ cs.length = z ∧ (∀ q ∈ cs, cellish q = true) ∧ r < B.rows.length ∧ k + z ≤ B.size ∧
      K .undef (σ.set b { B with rows := B.rows.set r (setAt (B.rows.getD r []) k cs) })
  | _, _, _ => False
def aalloc (P : Program) (T : TypeId) (σ : St) (K : V → St → Prop) : Prop :=
  match zro P T with
  | some z => K (.ptr σ.n 0 0) (σ.new ⟨(cellsZ z).length, [cellsZ z], true⟩)
  | none => False
def abox (x : V) (σ : St) (K : V → St → Prop) : Prop :=
  match cellsV x with
  | some cs => K (.ptr σ.n 0 0) (σ.new ⟨cs.length, [cs], true⟩)
  | none => False
def abuildSlice (P : Program) (e : Operand → V) (T : TypeId) (len : Nat) (parts : List (Nat × Operand)) (σ : St) (K : V → St → Prop) : Prop :=
  match seqo P T with
  | .slice el z _ => match zro P el with
    | some zv => match afill (fun i => some (i * z, z)) (repCells (cellsZ zv) len) (parts.map fun q => (q.1, e q.2)) with
      | some cs => len * z ≤ 16777216 ∧ 0 < z ∧ (cellsZ zv).length = z ∧ K (.loc σ.n 0 len len) (σ.new ⟨z, chunks z len cs, true⟩)
      | none => False
    | none => False
  | _ => False
def amakeSlice (P : Program) (T : TypeId) (l k : V) (σ : St) (K : V → St → Prop) : Prop :=
  match seqo P T with
  | .slice el z b8 => match zro P el, asN l, asN k with
    | some zv, some m, some m' => m ≤ m' ∧ m' * b8 ≤ 281474976710656 ∧ m' ≤ 281474976710656 ∧ (cellsZ zv).length = z ∧ K (.loc σ.n 0 m m') (σ.new ⟨z, List.replicate m' (cellsZ zv), true⟩)
    | _, _, _ => False
  | _ => False
def atoBytes (P : Program) (src dst : TypeId) (x : V) (σ : St) (K : V → St → Prop) : Prop :=
  match P.underlying src, P.underlying dst, x with
  | some .string, some (.slice e), .s (.string s) => P.underlying e = some (.int .u8) ∧ ∀ cap, s.size ≤ cap → K (.loc σ.n 0 s.size cap) (σ.new ⟨1, brows s ++ spare 1 (cap - s.size), true⟩)
  | _, _, _ => False

section
variable {c : Cx} {h : Hp} {n : Nat} {μ : Mu} {w : World}
theorem getD_map_range (f : Nat → List V) (m i : Nat) (hi : i < m) : ((List.range m).map f).getD i [] = f i := by simp [List.getD_eq_getElem?_getD, hi]
theorem cellAt_one (cs : List V) (i j : Nat) (hi : i < 1) : cellAt [cs] i j = cs.getD j .undef := by
  obtain rfl : i = 0 := by omega
  simp [cellAt]

theorem store_sound (H : HS c h n μ w) {T : TypeId} {p x : V} {pv xv : Value} {t : Nat → V} {K : V → St → Prop} (hp : R c h μ w p pv) (hx : R c h μ w x xv) (hk : astore c.P T p x ⟨t, h, n⟩ K) :
    ∃ h' w', (Instr.storeAt T pv xv).run c.P w = .ok () w' ∧ K .undef ⟨t, h', n⟩ ∧ HS c h' n μ w' ∧ Ext c h μ w h' μ w' := by
  unfold astore at hk
  split at hk
  · rename_i b r k cs z hcs hz
    obtain ⟨B, hB, hwr, hl, hce, hr, hkz, hK⟩ := hk
    obtain ⟨q, base, size, hmu, rfl⟩ := hp.ptr_inv
    obtain ⟨s1, s2, s3⟩ := cellsV_sound hx hcs
    have s4 := s3 hce
    by_cases hz0 : z = 0
    · subst hz0
      have hcs0 : cs = [] := List.eq_nil_of_length_eq_zero hl
      subst hcs0
      have hx0 : xv.cells = #[] := Array.eq_empty_of_size_eq_zero (by simpa using s1)
      have hset : setAt (B.rows.getD r []) k [] = B.rows.getD r [] := by simp [setAt]
      have hB' : { B with rows := B.rows.set r (setAt (B.rows.getD r []) k []) } = B := by
        rw [hset]
        have : B.rows.set r (B.rows.getD r []) = B.rows := by
          apply List.ext_getElem?
          intro i
          rw [List.getElem?_set]
          split
          · rename_i e; subst e; simp [List.getD_eq_getElem?_getD, hr]
          · rfl
        rw [this]
      refine ⟨upd h b (some B), w, ?_, by have := hK; simp only [St.set] at this; rw [hB'] at this; exact this, ?_, ?_⟩
      · simp [Instr.storeAt, Instr.sureAddr, storeVar, run_size hz, hx0, storeCells, Sem.run, pure]
      · have : upd h b (some B) = h := by funext j; unfold upd; split <;> simp_all
        rw [this]; exact H
      · have : upd h b (some B) = h := by funext j; unfold upd; split <;> simp_all
        rw [this]; exact Ext.refl _ _ _ _
    · obtain ⟨hs, _⟩ := H.at hB hmu hr (show 0 < B.size by omega)
      subst hs
      have hst : ∀ j, j < xv.cells.toList.length → ∃ y, w.cell? ⟨q, base + (r * B.size + k) + 0 + j, none⟩ = some y ∧ w.frozen? ⟨q, base + (r * B.size + k) + 0 + j, none⟩ = false := by
        intro j hj
        have hj' : j < z := by simp [s1, hl] at hj; omega
        obtain ⟨_, y, g1, g2, _⟩ := H.at (j := k + j) hB hmu hr (by omega)
        rw [show base + (r * B.size + k) + 0 + j = base + (r * B.size + (k + j)) by omega]
        exact ⟨y, g1, g2 _ (.inr rfl)⟩
      have hrun := run_storeCells_cells (P := c.P) q (base + (r * B.size + k)) xv.cells.toList 0 w (fun j hj => by obtain ⟨y, g1, _⟩ := hst j hj; rw [g1]; rfl) (fun j hj => by obtain ⟨y, _, g2⟩ := hst j hj; exact g2) s4
      generalize hw' : w.setCells q (base + (r * B.size + k) + 0) xv.cells.toList = w' at hrun
      obtain ⟨f1, f2⟩ := setCells_fr q xv.cells.toList (base + (r * B.size + k) + 0) w
      rw [hw'] at f1 f2
      have hrows : ∀ r ∈ B.rows, r.length = B.size := by
        rcases H.blk b B hB with ⟨g1, _⟩ | ⟨k', base', g1, g2, g3, g4, g5⟩
        · rw [hmu] at g1; cases g1
        · exact g4
      have hrow : (B.rows.getD r []).length = B.size := hrows _ (by rw [List.getD_eq_getElem?_getD, List.getElem?_eq_getElem hr]; exact List.getElem_mem _)
      have H2 := H.write (B' := { B with rows := B.rows.set r (setAt (B.rows.getD r []) k cs) }) hB hwr hmu f1 f2.symm rfl
        (fun r' hr' => by
          rcases List.mem_or_eq_of_mem_set hr' with h1 | h1
          · exact hrows _ h1
          · rw [h1, setAt_length _ _ _ (by omega)]; exact hrow)
        (fun i j hi hj => by
          simp only [List.length_set] at hi
          obtain ⟨_, y, g1, g2, g3⟩ := H.at (r := i) (j := j) hB hmu hi hj
          have hfz : ∀ o, (B.size ≠ 1 ∨ o = base + (i * B.size + j)) → w'.frozen? ⟨q, o, none⟩ = false := fun o ho => by rw [← hw', World.frozen?_setCells]; exact g2 o (by first | exact ho | (rw [hBz]; exact ho))
          by_cases hir : i = r
          · subst hir
            have hc1 : cellAt (B.rows.set i (setAt (B.rows.getD i []) k cs)) i j = (setAt (B.rows.getD i []) k cs).getD j .undef := by
              unfold cellAt
              rw [List.getD_eq_getElem?_getD (l := B.rows.set _ _), List.getElem?_set_self hi]
              rfl
            rw [hc1, setAt_get _ _ _ (by omega)]
            by_cases c1 : k ≤ j ∧ j < k + cs.length
            · rw [if_pos c1]
              have hj2 : j - k < xv.cells.toList.length := by simp [s1]; omega
              have hin := World.cell?_setCells_in q xv.cells.toList (base + (i * B.size + k) + 0) w (fun j hj => by obtain ⟨y, g1, _⟩ := hst j hj; rw [g1]; rfl) _ hj2
              rw [show base + (i * B.size + k) + 0 + (j - k) = base + (i * B.size + j) by omega, hw'] at hin
              refine ⟨_, hin, hfz, fun e => e.R ?_⟩
              have := s2 (j - k) (by omega)
              have h3 : xv.cells.getD (j - k) Go.undef = xv.cells.toList[j - k] := by
                have : j - k < xv.cells.size := by omega
                simp [this]
              rw [h3] at this
              exact this
            · rw [if_neg c1]
              refine ⟨y, ?_, hfz, fun e => e.R g3⟩
              rw [← hw', World.cell?_setCells_out _ _ _ _ _ (fun _ _ => by simp [s1]; omega)]
              exact g1
          · have hc1 : cellAt (B.rows.set r (setAt (B.rows.getD r []) k cs)) i j = cellAt B.rows i j := by
              unfold cellAt
              rw [List.getD_eq_getElem?_getD (l := B.rows.set _ _), List.getElem?_set_ne (by omega)]
              rfl
            rw [hc1]
            refine ⟨y, ?_, hfz, fun e => e.R g3⟩
            rw [← hw', World.cell?_setCells_out _ _ _ _ _ (fun _ _ => by
              simp [s1]
              rcases Nat.lt_or_ge i r with h1 | h1
              · have : (i + 1) * B.size ≤ r * B.size := Nat.mul_le_mul_right _ h1
                rw [Nat.add_mul] at this
                omega
              · have : (r + 1) * B.size ≤ i * B.size := Nat.mul_le_mul_right _ (by omega)
                rw [Nat.add_mul] at this
                omega)]
            exact g1)
      refine ⟨_, w', ?_, hK, H2.1, H2.2⟩
      simp [Instr.storeAt, Instr.sureAddr, storeVar, run_size hz, s1, hl, hrun, Sem.run, pure]
  · exact hk.elim

/-- A new block, at the operation. -/
theorem fresh_row (H : HS c h n μ w) {w1 : World} (hw : Below w.heap.size w w1) (hsz : w1.heap.size = w.heap.size) (B : Blk) (cells : Array Value) (e : TypeId) (fr : Nat × Nat) (hl : ∀ r ∈ B.rows, r.length = B.size)
    (hfr : ∀ j, (B.size ≠ 1 ∨ j < B.rows.length * B.size) → ¬ (fr.1 ≤ j ∧ j < fr.2))
    (hc : ∀ i j, i < B.rows.length → j < B.size → ∃ x, cells[i * B.size + j]? = some x ∧ R c h μ w (cellAt B.rows i j) x) (m cap : Nat) (hm : m ≤ cap) :
    ∃ μ', HS c (upd h n (some B)) (n + 1) μ' (w1.alloc (.cells cells e fr)) ∧ Ext c h μ w (upd h n (some B)) μ' (w1.alloc (.cells cells e fr)) ∧
      R c (upd h n (some B)) μ' (w1.alloc (.cells cells e fr)) (.ptr n 0 0) (.pointer (some ⟨w.heap.size, 0, none⟩)) ∧
      R c (upd h n (some B)) μ' (w1.alloc (.cells cells e fr)) (.loc n 0 m cap) (.slice (some ⟨w.heap.size, 0, none⟩) m cap) := by
  have H2 := H.newRow B cells e fr hw hsz hl hfr hc
  refine ⟨_, H2.1, H2.2, ?_, ?_⟩
  · have := Rp.ptr (fvals := c.fvals) (w := w1.alloc (.cells cells e fr)) (ok := okB c (upd h n (some B)) (upd μ n (some (.real w.heap.size 0 B.size))) (w1.alloc (.cells cells e fr))) (μ := upd μ n (some (.real w.heap.size 0 B.size))) n 0 0 w.heap.size 0 B.size (upd_same _ _ _)
    simpa using this
  · have := Rp.loc (fvals := c.fvals) (w := w1.alloc (.cells cells e fr)) (ok := okB c (upd h n (some B)) (upd μ n (some (.real w.heap.size 0 B.size))) (w1.alloc (.cells cells e fr))) (μ := upd μ n (some (.real w.heap.size 0 B.size))) n 0 m cap w.heap.size 0 B.size (upd_same _ _ _) hm
    simpa using this

theorem alloc_sound (H : HS c h n μ w) {T : TypeId} {t : Nat → V} {K : V → St → Prop} (hk : aalloc c.P T ⟨t, h, n⟩ K) (old : Value) :
    ∃ v y h' n' μ' w', (Instr.alloc T true old).run c.P w = .ok y w' ∧ K v ⟨t, h', n'⟩ ∧ HS c h' n' μ' w' ∧ Ext c h μ w h' μ' w' ∧ R c h' μ' w' v y := by
  unfold aalloc at hk
  split at hk
  · rename_i z hz
    obtain ⟨z1, z2⟩ := cellsZ_sound (c := c) (h := h) (μ := μ) (w := w) z
    obtain ⟨μ', H1, H2, H3, _⟩ := fresh_row H (Below.refl _ _) rfl ⟨(cellsZ z).length, [cellsZ z], true⟩ z.cells T (0, 0) (by simp) (fun j _ => by simp) (fun i j hi hj => by
      simp at hi
      rw [cellAt_one _ _ _ (by simp [hi])]
      subst hi
      simp only [Nat.zero_mul, Nat.zero_add] at *
      have := z2 j hj
      have h1 : j < z.cells.size := by omega
      rw [show z.cells.getD j Go.undef = z.cells[j] by simp [h1]] at this
      exact ⟨_, Array.getElem?_eq_getElem h1, this⟩) 0 0 (Nat.le_refl _)
    refine ⟨_, _, _, _, _, _, ?_, hk, H1, H2, H3⟩
    simp [Instr.alloc, run_zero hz, newVar, newRow, newObj, Sem.run, pure]
  · exact hk.elim
theorem box_sound (H : HS c h n μ w) {T : TypeId} {x : V} {xv : Value} {t : Nat → V} {K : V → St → Prop} (hx : R c h μ w x xv) (hk : abox x ⟨t, h, n⟩ K) :
    ∃ v y h' n' μ' w', (Instr.box T xv).run c.P w = .ok y w' ∧ K v ⟨t, h', n'⟩ ∧ HS c h' n' μ' w' ∧ Ext c h μ w h' μ' w' ∧ R c h' μ' w' v y := by
  unfold abox at hk
  split at hk
  · rename_i cs hcs
    obtain ⟨z1, z2, _⟩ := cellsV_sound hx hcs
    obtain ⟨μ', H1, H2, H3, _⟩ := fresh_row H (Below.refl _ _) rfl ⟨cs.length, [cs], true⟩ xv.cells T (0, 0) (by simp) (fun j _ => by simp) (fun i j hi hj => by
      simp at hi
      rw [cellAt_one _ _ _ (by simp [hi])]
      subst hi
      simp only [Nat.zero_mul, Nat.zero_add] at *
      have := z2 j hj
      have h1 : j < xv.cells.size := by omega
      rw [show xv.cells.getD j Go.undef = xv.cells[j] by simp [h1]] at this
      exact ⟨_, Array.getElem?_eq_getElem h1, this⟩) 0 0 (Nat.le_refl _)
    refine ⟨_, _, _, _, _, _, ?_, hk, H1, H2, H3⟩
    simp [Instr.box, newVar, newRow, newObj, Sem.run, pure]
  · exact hk.elim

theorem getD_flatten_rep (zs : List V) : ∀ (m i j : Nat), i < m → j < zs.length → (repCells zs m).getD (i * zs.length + j) .undef = zs.getD j .undef := by
  intro m
  induction m with
  | zero => intro i j hi; omega
  | succ m ih =>
    intro i j hi hj
    unfold repCells at ih ⊢
    rw [List.replicate_succ, List.flatten_cons]
    cases i with
    | zero =>
      rw [Nat.zero_mul, Nat.zero_add]
      simp only [List.getD_eq_getElem?_getD]
      rw [List.getElem?_append_left hj]
    | succ i =>
      have h1 : (i + 1) * zs.length + j = zs.length + (i * zs.length + j) := by rw [Nat.add_mul]; omega
      simp only [List.getD_eq_getElem?_getD] at ih ⊢
      rw [h1, List.getElem?_append_right (by omega), Nat.add_sub_cancel_left]
      exact ih i j (by omega) hj
theorem repCells_length (zs : List V) (m : Nat) : (repCells zs m).length = m * zs.length := by
  unfold repCells
  simp
theorem zero_cells (zv : Value) (m : Nat) (hz : 0 < zv.cells.size) : ((Array.range (m * zv.cells.size)).map (zv.cells[· % zv.cells.size]!)).size = m * zv.cells.size ∧
    ∀ i j, i < m → j < zv.cells.size → ((Array.range (m * zv.cells.size)).map (zv.cells[· % zv.cells.size]!)).getD (i * zv.cells.size + j) Go.undef = zv.cells.getD j Go.undef := by
  refine ⟨by simp, fun i j hi hj => ?_⟩
  have h1 := idx_lt hi hj
  have h2 : ((Array.range (m * zv.cells.size)).map (zv.cells[· % zv.cells.size]!)).getD (i * zv.cells.size + j) Go.undef = zv.cells[(i * zv.cells.size + j) % zv.cells.size]! := by
    simp [h1]
  rw [h2, (idx_div hj).2]
  simp [hj]
theorem afill_length (pl : Nat → Option (Nat × Nat)) : ∀ (parts : List (Nat × V)) (cs cs' : List V), afill pl cs parts = some cs' → cs'.length = cs.length := by
  intro parts
  induction parts with
  | nil => intro cs cs' h; simp [afill] at h; rw [h]
  | cons p parts ih =>
    intro cs cs' h
    obtain ⟨i, v⟩ := p
    simp only [afill] at h
    split at h
    · split at h
      · rename_i hb
        rw [ih _ _ h, setAt_length _ _ _ (by simp; omega)]
      · cases h
    · cases h

theorem arange0 : Array.range 0 = #[] := rfl
theorem run_buildSlice {P : Program} {w : World} {T el len z b8 : Nat} {zv : Value} {ps : Array (Nat × Value)} {cells' : Array Value} (hs : seqo P T = .slice el z b8) (hzv : zro P el = some zv) (h24 : len * z ≤ 16777216)
    (hf : Instr.fill (fun i => some (i * z, z)) ((Array.range (len * z)).map (zv.cells[· % zv.cells.size]!)) ps.toList = some cells') :
    (Instr.buildSlice T len ps).run P w = .ok (.slice (some ⟨w.heap.size, 0, none⟩) len len) (w.alloc (.cells cells' el)) := by
  obtain ⟨hu, hz, hb⟩ := seqo_slice hs
  have h24' : ¬ (len * z > 2 ^ 24) := by omega
  unfold Instr.buildSlice
  simp only [Sem.run_bind, run_under hu, run_size hz, Result.andThen_ok, if_neg h24']
  by_cases h0 : len * z = 0
  · rw [if_pos h0]
    rw [h0, arange0] at hf ⊢
    simp only [Sem.run_bind, Sem.run_pure, Result.andThen_ok, Array.map_empty] at hf ⊢
    rw [hf]
    simp [newRow, newObj, Sem.run, pure]
  · rw [if_neg h0]
    simp only [Sem.run_bind, run_zero hzv, Sem.run_pure, Result.andThen_ok] at hf ⊢
    rw [hf]
    simp [newRow, newObj, Sem.run, pure]
theorem buildSlice_sound (H : HS c h n μ w) {T : TypeId} {len : Nat} {parts : Array (Nat × Operand)} {e : Operand → V} {ρ : Operand → Value} {t : Nat → V} {K : V → St → Prop} (he : ∀ x, R c h μ w (e x) (ρ x)) (hk : abuildSlice c.P e T len parts.toList ⟨t, h, n⟩ K) :
    ∃ v y h' n' μ' w', (Instr.buildSlice T len (parts.map fun q => (q.1, ρ q.2))).run c.P w = .ok y w' ∧ K v ⟨t, h', n'⟩ ∧ HS c h' n' μ' w' ∧ Ext c h μ w h' μ' w' ∧ R c h' μ' w' v y := by
  unfold abuildSlice at hk
  split at hk
  · rename_i el z b8 hs
    obtain ⟨hu, hz, hb⟩ := seqo_slice hs
    split at hk
    · rename_i zv hzv
      split at hk
      · rename_i cs hcs
        obtain ⟨h24, hz0, hzl, hK⟩ := hk
        obtain ⟨z1, z2⟩ := cellsZ_sound (c := c) (h := h) (μ := μ) (w := w) zv
        have hzs : zv.cells.size = z := by omega
        have hparts : ∀ (i : Nat) (p : Nat × V) (q : Nat × Value), (parts.toList.map fun q => (q.1, e q.2))[i]? = some p → (parts.toList.map fun q => (q.1, ρ q.2))[i]? = some q → p.1 = q.1 ∧ R c h μ w p.2 q.2 := by
          intro i p q h1 h2
          simp only [List.getElem?_map, Option.map_eq_some_iff] at h1 h2
          obtain ⟨a, ha, rfl⟩ := h1
          obtain ⟨b, hb, rfl⟩ := h2
          rw [ha] at hb
          cases hb
          exact ⟨rfl, he _⟩
        obtain ⟨i1, i2⟩ := zero_cells zv len (by omega)
        obtain ⟨cells', e1, e2, e3⟩ := fill_sound _ _ (parts.toList.map fun q => (q.1, ρ q.2)) _ cs ((Array.range (len * z)).map (zv.cells[· % zv.cells.size]!)) (by simp) hparts (by rw [repCells_length, hzl, ← hzs]; exact i1)
          (fun q hq => by
            rw [repCells_length, hzl] at hq
            have h1 : q / z < len := Nat.div_lt_of_lt_mul (by rw [Nat.mul_comm]; exact hq)
            have h2 := Nat.mod_lt q hz0
            have h3 : q / z * z + q % z = q := by rw [Nat.mul_comm]; exact Nat.div_add_mod q z
            have h4 := getD_flatten_rep (cellsZ zv) len (q / z) (q % z) h1 (by omega)
            have h5 := i2 (q / z) (q % z) h1 (by omega)
            rw [hzl, h3] at h4
            rw [hzs, h3] at h5
            rw [hzs, h4, h5]
            exact z2 _ (by omega)) hcs
        have hcl : cs.length = len * z := by rw [afill_length _ _ _ _ hcs, repCells_length, hzl]
        have hchunk : ∀ i j, i < len → j < z → cellAt (chunks z len cs) i j = cs.getD (i * z + j) .undef := by
          intro i j hi hj
          unfold cellAt chunks
          rw [getD_map_range _ _ _ hi]
          simp [List.getD_eq_getElem?_getD, List.getElem?_take, hj, List.getElem?_drop]
        have hlen : (chunks z len cs).length = len := by simp [chunks]
        obtain ⟨μ', H1, H2, _, H3⟩ := fresh_row H (Below.refl _ _) rfl ⟨z, chunks z len cs, true⟩ cells' el (0, 0) (fun r hr => by
            simp [chunks] at hr
            obtain ⟨i, hi, rfl⟩ := hr
            have := idx_lt (z := z) hi (show z - 1 < z by omega)
            simp; omega) (fun j _ => by simp) (fun i j hi hj => by
            simp only [hlen] at hi
            simp only at hj ⊢
            rw [hchunk i j hi hj]
            have h1 := idx_lt hi hj
            have := e3 (i * z + j) (by omega)
            have h2 : i * z + j < cells'.size := by omega
            rw [show cells'.getD (i * z + j) Go.undef = cells'[i * z + j] by simp [h2]] at this
            exact ⟨_, Array.getElem?_eq_getElem h2, this⟩) len len (Nat.le_refl _)
        refine ⟨_, _, _, _, _, _, ?_, hK, H1, H2, H3⟩
        exact run_buildSlice hs hzv h24 (by simpa using e1)
      · exact hk.elim
    · exact hk.elim
  · exact hk.elim

end
end Go.Proofs.Ytahgddfnbjpfiaa.Am

/- An abstract machine over values: make, a string's bytes, copy. -/
set_option linter.unusedVariables false
set_option linter.unusedSimpArgs false
namespace Go.Proofs.Ytahgddfnbjpfiaa.Am
open Go Go.RowKit

def acopy (P : Program) (T U : TypeId) (d x : V) (σ : St) (K : V → St → Prop) : Prop :=
  match seqo P T, d with
  | .slice _ z _, .loc b off len _ => 0 < z ∧ ∃ nr, rowsOf σ.h x = some nr ∧ okRows z (nr.take (min nr.length len)) ∧ ∃ B, σ.h b = some B ∧ B.wr = true ∧ B.size = z ∧ off + len ≤ B.rows.length ∧
      K (.s (.int .i64 ((min nr.length len : Nat) : Int))) (σ.set b { B with rows := B.rows.take off ++ nr.take (min nr.length len) ++ B.rows.drop (off + min nr.length len) })
  | _, _ => False

/-- A slice against nil: what is empty may be nil or not. -/
def slLen : V → Option Nat
  | .sl rows => some rows.length
  | .cap0 => some 0
  | .loc _ _ len _ => some len
  | _ => none
def isSliceT (P : Program) (T : TypeId) : Bool := match P.underlying T with
  | some (.slice _) => true
  | _ => false
def anil (P : Program) (op : BinOp) (T : TypeId) (v : V) (σ : St) (K : V → St → Prop) : Prop :=
  isSliceT P T = true ∧ ∃ m, slLen v = some m ∧ match op with
    | .eql => ∀ b : Bool, (0 < m → b = false) → K (.s (.bool b)) σ
    | .neq => ∀ b : Bool, (0 < m → b = true) → K (.s (.bool b)) σ
    | _ => False
def aclear (P : Program) (T : TypeId) (d : V) (σ : St) (K : V → St → Prop) : Prop :=
  match seqo P T, d with
  | .slice e z _, .loc b off len _ => 0 < z ∧ ∃ zv, zro P e = some zv ∧ zv.cells.size = z ∧ (zv.cells.toList.all fun u => u.oneCell') = true ∧ ∃ B, σ.h b = some B ∧ B.wr = true ∧ B.size = z ∧ off + len ≤ B.rows.length ∧
      K (.tup []) (σ.set b { B with rows := B.rows.take off ++ spare z len ++ B.rows.drop (off + len) })
  | _, _ => False

section
variable {c : Cx} {h : Hp} {n : Nat} {μ : Mu} {w : World}
theorem wrap_small {m : Nat} (h : m ≤ 281474976710656) : IntKind.i64.wrap (m : Int) = m := by
  have h1 : (m : Int) % 18446744073709551616 = m := by omega
  have h2 : ¬ (9223372036854775808 ≤ (m : Int)) := by omega
  simp [IntKind.wrap, IntKind.bits, IntKind.signed, h1, h2]
theorem fresh_row' (H : HS c h n μ w) {w' : World} (hw : Below w.heap.size w w') (B : Blk) (cells : Array Value) (e : TypeId) (fr : Nat × Nat) (hnew : w'.heap[w.heap.size]? = some (.cells cells e fr)) (hl : ∀ r ∈ B.rows, r.length = B.size)
    (hfr : ∀ j, (B.size ≠ 1 ∨ j < B.rows.length * B.size) → ¬ (fr.1 ≤ j ∧ j < fr.2))
    (hc : ∀ i j, i < B.rows.length → j < B.size → ∃ x, cells[i * B.size + j]? = some x ∧ R c h μ w (cellAt B.rows i j) x) (m cap : Nat) (hm : m ≤ cap) :
    ∃ μ', HS c (upd h n (some B)) (n + 1) μ' w' ∧ Ext c h μ w (upd h n (some B)) μ' w' ∧ R c (upd h n (some B)) μ' w' (.loc n 0 m cap) (.slice (some ⟨w.heap.size, 0, none⟩) m cap) := by
  have hk' : w.heap.size < w'.heap.size := (Array.getElem?_eq_some_iff.1 hnew).1
  have H2 := H.fresh hw w.heap.size 0 B (Nat.le_refl _) hk' hl fun i j hi hj => by
    obtain ⟨x, h1, h2⟩ := hc i j hi hj
    have hlt := idx_lt hi hj
    refine ⟨x, ?_, ?_, fun e => e.R h2⟩
    · simp only [World.cell?, hnew, Nat.zero_add]
      simpa using h1
    · intro o ho
      have := hfr o (ho.imp id fun e => by omega)
      simp only [World.frozen?, hnew]
      simpa using this
  refine ⟨_, H2.1, H2.2, ?_⟩
  have := Rp.loc (fvals := c.fvals) (w := w') (ok := okB c (upd h n (some B)) (upd μ n (some (.real w.heap.size 0 B.size))) w') (μ := upd μ n (some (.real w.heap.size 0 B.size))) n 0 m cap w.heap.size 0 B.size (upd_same _ _ _) hm
  simpa using this
theorem run_askRoom {P : Program} {w : World} {m : Nat} : (askRoom m).run P w = .ok () w := by
  unfold askRoom
  split
  · simp [mark, Sem.run]
  · simp [Sem.run, pure]
theorem makeSlice_sound (H : HS c h n μ w) {T : TypeId} {l k : V} {lv kv : Value} {t : Nat → V} {K : V → St → Prop} (hl : R c h μ w l lv) (hkv : R c h μ w k kv) (hk : amakeSlice c.P T l k ⟨t, h, n⟩ K) :
    ∃ v y h' n' μ' w', (Instr.makeSlice T lv kv).run c.P w = .ok y w' ∧ K v ⟨t, h', n'⟩ ∧ HS c h' n' μ' w' ∧ Ext c h μ w h' μ' w' ∧ R c h' μ' w' v y := by
  unfold amakeSlice at hk
  split at hk
  · rename_i el z b8 hs
    obtain ⟨hu, hz, hb⟩ := seqo_slice hs
    obtain ⟨inf, hinf, hib⟩ := Option.map_eq_some_iff.1 hb
    split at hk
    · rename_i zv m m' hzv hm hm'
      obtain ⟨h1, h2, h3, hzl, hK⟩ := hk
      obtain ⟨k1, rfl⟩ := hl.asN_eq hm
      obtain ⟨k2, rfl⟩ := hkv.asN_eq hm'
      obtain ⟨z1, z2⟩ := cellsZ_sound (c := c) (h := h) (μ := μ) (w := w) zv
      have hzs : zv.cells.size = z := by omega
      have hcell : ∀ i j, i < m' → j < z → cellAt (List.replicate m' (cellsZ zv)) i j = (cellsZ zv).getD j .undef := by
        intro i j hi hj
        unfold cellAt
        simp [List.getD_eq_getElem?_getD, hi]
      have hrun : ∃ cells, (Instr.makeSlice T (.int k1 m) (.int k2 m')).run c.P w = .ok (.slice (some ⟨w.heap.size, 0, none⟩) m m') (w.alloc (.cells cells el)) ∧ cells.size = m' * z ∧ ∀ i j, i < m' → j < z → cells.getD (i * z + j) Go.undef = zv.cells.getD j Go.undef := by
        have hw1 := wrap_small (show m ≤ 281474976710656 by omega)
        have hw2 := wrap_small h3
        have t1 : ¬ ((m' : Int) < 0) := by omega
        have t2 : ¬ ((inf.bytes : Int) * (m' : Int) > 2 ^ 48) := by
          have : ((m' * b8 : Nat) : Int) ≤ 281474976710656 := by omega
          rw [hib, Int.mul_comm]
          push_cast at this
          omega
        have t3 : ¬ ((m : Int) < 0) := by omega
        have t4 : ¬ ((m : Int) > (m' : Int)) := by omega
        have hti : (typeInfo el).run c.P w = .ok inf w := by simp [typeInfo, hinf, program, Sem.run, pure]
        have hi1 : (asInt (.int k1 (m : Int))).run c.P w = .ok (m : Int) w := by simp [asInt, run_getInt]
        have hi2 : (asInt (.int k2 (m' : Int))).run c.P w = .ok (m' : Int) w := by simp [asInt, run_getInt]
        have hc : ¬ (((decide ((m' : Int) < 0) || decide ((inf.bytes : Int) * (m' : Int) > 2 ^ 48)) = true ∨ (m : Int) < 0) ∨ (m : Int) > (m' : Int)) := by simp only [Bool.or_eq_true, decide_eq_true_eq]; omega
        by_cases h0 : m' * z = 0
        · refine ⟨#[], ?_, by simp [h0], fun i j hi hj => by have := idx_lt hi hj; omega⟩
          simp only [Instr.makeSlice, Sem.run_bind, run_under hu, Result.andThen_ok, hi1, hi2, hti, hw1, hw2]
          simp only [Bool.or_eq_true, decide_eq_true_eq] at hc ⊢
          rw [if_neg (by omega)]
          simp [run_askRoom, run_size hz, h0, newRow, newObj, arange0, Sem.run, pure]
        · obtain ⟨i1, i2⟩ := zero_cells zv m' (by rw [hzs]; rcases Nat.eq_zero_or_pos z with q | q; (· subst q; simp at h0); exact q)
          rw [hzs] at i1 i2
          refine ⟨_, ?_, i1, i2⟩
          simp only [Instr.makeSlice, Sem.run_bind, run_under hu, Result.andThen_ok, hi1, hi2, hti, hw1, hw2]
          simp only [Bool.or_eq_true, decide_eq_true_eq] at hc ⊢
          rw [if_neg (by omega)]
          simp [run_askRoom, run_size hz, h0, newRow, newObj, run_zero hzv, hzs, Sem.run, pure]
      obtain ⟨cells, hrun, hcs, hcg⟩ := hrun
      obtain ⟨μ', H1, H2, _, H3⟩ := fresh_row H (Below.refl _ _) rfl ⟨z, List.replicate m' (cellsZ zv), true⟩ cells el (0, 0) (fun r hr => by
          simp at hr; rw [hr.2]; exact hzl) (fun j _ => by simp) (fun i j hi hj => by
          simp only [List.length_replicate] at hi
          simp only at hj ⊢
          rw [hcell i j hi hj]
          have h1 := idx_lt hi hj
          have h2 : i * z + j < cells.size := by omega
          have h3 := hcg i j hi hj
          rw [show cells.getD (i * z + j) Go.undef = cells[i * z + j] by simp [h2]] at h3
          refine ⟨_, Array.getElem?_eq_getElem h2, ?_⟩
          rw [h3]
          exact z2 j (by omega)) m m' h1
      exact ⟨_, _, _, _, _, _, hrun, hK, H1, H2, H3⟩
    · exact hk.elim
  · exact hk.elim

theorem toBytes_sound (H : HS c h n μ w) {src dst : TypeId} {x : V} {xv : Value} {t : Nat → V} {K : V → St → Prop} (hx : R c h μ w x xv) (hk : atoBytes c.P src dst x ⟨t, h, n⟩ K) :
    ∃ v y h' n' μ' w', (convert src dst xv).run c.P w = .ok y w' ∧ K v ⟨t, h', n'⟩ ∧ HS c h' n' μ' w' ∧ Ext c h μ w h' μ' w' ∧ R c h' μ' w' v y := by
  unfold atoBytes at hk
  split at hk
  · rename_i e s h1 h2
    obtain ⟨h3, hK⟩ := hk
    obtain ⟨rfl, _⟩ := hx.s_eq
    have hrun := Lib.run_convert_string_bytes (P := c.P) w src dst e s h1 h2 h3
    have hge := grownCap_ge w s.size 0 e
    generalize hcap : grownCap w s.size 0 e = cap at hrun hge
    have hlen : (brows s).length = s.size := by simp only [brows, List.length_map, Array.length_toList]; rfl
    have hbc : (Lib.bytesCells w e s).size = cap ∧ ∀ j, j < s.size → (Lib.bytesCells w e s).getD j Go.undef = .int .u8 (byteAt s j).toNat := by
      constructor
      · simp only [Lib.bytesCells, Array.size_append, Array.size_map, Array.size_replicate, hcap]
        have : s.data.size = s.size := rfl
        omega
      · intro j hj
        have h1 : j < s.data.size := hj
        simp [Lib.bytesCells, Array.getElem?_append, h1, byteAt, List.getD_eq_getElem?_getD]
        rw [if_pos hj, Array.getElem?_eq_getElem h1]
        rfl
    have hbel : Below w.heap.size w (Lib.bytesWorld w e s) := ⟨rfl, rfl, rfl, by rw [Lib.bytesWorld_size]; omega, fun k hk => Lib.bytesWorld_at_old w e s k hk⟩
    obtain ⟨μ', H1, H2, H3⟩ := fresh_row' H hbel ⟨1, brows s ++ spare 1 (cap - s.size), true⟩ (Lib.bytesCells w e s) e _ (Lib.bytesWorld_at_new w e s) (fun r hr => by
        simp only [List.mem_append] at hr
        rcases hr with hr | hr
        · simp [brows] at hr; obtain ⟨q, _, rfl⟩ := hr; rfl
        · exact spare_rows _ _ r hr) (fun j hj => by simp [hlen, spare_length] at hj; rw [hbc.1]; simp; omega) (fun i j hi hj => by
        simp only [List.length_append, hlen, spare_length] at hi
        simp only at hj ⊢
        obtain rfl : j = 0 := by omega
        have h5 : i * 1 + 0 < (Lib.bytesCells w e s).size := by rw [hbc.1]; omega
        refine ⟨_, Array.getElem?_eq_getElem h5, ?_⟩
        rw [cellAt_append]
        split
        · rename_i h6
          have h7 := hbc.2 i (by omega)
          have h8 : (Lib.bytesCells w e s)[i * 1 + 0] = (Lib.bytesCells w e s).getD i Go.undef := by simp at h5; simp [h5]
          rw [h8, h7]
          have h9 : cellAt (brows s) i 0 = .s (.int .u8 (byteAt s i).toNat) := by
            have h10 : i < s.data.toList.length := by rw [hlen] at h6; simpa using h6
            simp [cellAt, brows, byteAt, List.getD_eq_getElem?_getD, List.getElem?_eq_getElem h10]
          rw [h9]
          exact .s _ rfl
        · rename_i h6
          rw [cellAt_spare _ _ _ _ (by omega) (by omega)]
          exact .any _) s.size cap hge
    exact ⟨_, _, _, _, _, _, hrun, hK cap hge, H1, H2, H3⟩
  · exact hk.elim

theorem cellAt_drop (a : List (List V)) (m i j : Nat) : cellAt (a.drop m) i j = cellAt a (m + i) j := by
  unfold cellAt
  simp [List.getD_eq_getElem?_getD, List.getElem?_drop]
theorem copy_sound (H : HS c h n μ w) {T U ty : TypeId} {d x : V} {dv xv : Value} {t : Nat → V} {K : V → St → Prop} (hd : R c h μ w d dv) (hx : R c h μ w x xv) (hk : acopy c.P T U d x ⟨t, h, n⟩ K) :
    ∃ v y h' n' μ' w', (Builtin.copy_ #[T, U] ty #[dv, xv]).run c.P w = .ok y w' ∧ K v ⟨t, h', n'⟩ ∧ HS c h' n' μ' w' ∧ Ext c h μ w h' μ' w' ∧ R c h' μ' w' v y := by
  unfold acopy at hk
  split at hk
  · rename_i e z b8 b off len cap hseq
    obtain ⟨hT, hze, hbe⟩ := seqo_slice hseq
    obtain ⟨hz0, nr, hsrc, hok, B, hB, hwr, hBz, hfit, hK⟩ := hk
    obtain ⟨i, hi, hiz⟩ := Option.map_eq_some_iff.1 hze
    obtain ⟨A, cp, size, rfl, hc, hA⟩ := rows_sound H hx hsrc
    generalize hm : min nr.length len = m at hK hok
    have hml : (nr.take m).length = m := by simp; omega
    have hok' : okRows z (nr.take m) := hok
    have hrows := okRows_len hok'
    obtain ⟨news, o1, n3, n4⟩ := rows_load (P := c.P) (c := c) (h := h) (μ := μ) (w := w) (rows := nr.take m) (A := A) (cp := cp) (z := z) (fun _ => hrows) (fun hn => by
      rw [hml] at hn
      obtain ⟨ad, g0, g1, g2⟩ := hA (by omega)
      have hmem : nr.getD 0 [] ∈ nr := by rw [List.getD_eq_getElem?_getD, List.getElem?_eq_getElem (by omega)]; exact List.getElem_mem _
      have hmem2 : nr.getD 0 [] ∈ nr.take m := by
        have h0 : (nr.take m)[0]? = nr[0]? := by rw [List.getElem?_take]; simp; omega
        rw [List.getD_eq_getElem?_getD, ← h0, List.getElem?_eq_getElem (by omega)]; exact List.getElem_mem _
      have hss : size = z := by rw [← g1 _ hmem, (hok _ hmem2).1]
      subst hss
      exact ⟨ad, g0, fun i j hi hj => by
        rw [hml] at hi
        obtain ⟨y, y1, y2⟩ := g2 i j (by omega) hj
        exact ⟨y, y1, by rw [cellAt_take _ _ _ _ hi]; exact y2⟩⟩)
    rw [hml] at n3
    have hone : ∀ u ∈ news.toList, u.oneCell' = true := by
      intro u hu
      obtain ⟨q, hq, rfl⟩ := List.getElem_of_mem hu
      have hq' : q < m * z := by simpa [n3] using hq
      have hi : q / z < m := Nat.div_lt_of_lt_mul (by rw [Nat.mul_comm]; exact hq')
      have hj := Nat.mod_lt q hz0
      have h1 := n4 (q / z) (q % z) (by omega) hj
      rw [show q / z * z + q % z = q by rw [Nat.mul_comm]; exact Nat.div_add_mod q z] at h1
      have hmem : (nr.take m).getD (q / z) [] ∈ nr.take m := by rw [List.getD_eq_getElem?_getD, List.getElem?_eq_getElem (by omega)]; exact List.getElem_mem _
      have h2 : cellish (cellAt (nr.take m) (q / z) (q % z)) = true := by
        refine (hok' _ hmem).2 _ ?_
        unfold cellAt
        rw [List.getD_eq_getElem?_getD (l := (nr.take m).getD (q / z) []), List.getElem?_eq_getElem (by rw [(hok' _ hmem).1]; exact hj)]
        exact List.getElem_mem _
      have h3 : news.getD q Go.undef = news[q]'(by omega) := by have : q < news.size := by omega
                                                                simp [this]
      rw [h3] at h1
      simpa using (cellish_sound h1 h2).2
    have hload : (Builtin.firstCells z m (.slice A nr.length cp)).run c.P w = .ok news w := by
      have := o1 w (fun _ => rfl)
      rw [hml] at this
      rw [← this]
      cases A <;> rfl
    have hrun0 : ∀ (A' : Option Addr) (cap' : Nat) (w' : World), (match A' with | some a => storeCells a news.toList | none => pure () : Sem Unit).run c.P w = .ok () w' →
        (Builtin.copy_ #[T, U] ty #[.slice A' len cap', .slice A nr.length cp]).run c.P w = .ok (goInt m) w' := by
      intro A' cap' w' hst
      have hlen : (Builtin.lenOf (.slice A nr.length cp)).run c.P w = .ok nr.length w := lenOf_slice w
      have hmm : Nat.min nr.length len = m := hm
      cases A' with
      | none =>
        have hw : w' = w := by simpa [Sem.run, pure] using hst.symm
        subst hw
        simp [Builtin.copy_, run_underlying hT, hlen, hmm, sizeOf, typeInfo, hi, hiz, hload]
      | some a =>
        simp only at hst
        simp [Builtin.copy_, run_underlying hT, hlen, hmm, sizeOf, typeInfo, hi, hiz, hload, hst]
    have hret : ∀ {h' : Hp} {μ' : Mu} {w' : World}, R c h' μ' w' (.s (.int .i64 m)) (goInt m) := .s _ rfl
    obtain ⟨_, ⟨q, base, size', hmu, rfl⟩ | ⟨h0, h00, A', t', hmu, rfl⟩⟩ := hd.loc_inv
    · have hsize : size' = z := by
        rcases H.blk b B hB with ⟨g1, _⟩ | ⟨k', base', g1, _⟩
        · rw [hmu] at g1; cases g1
        · rw [hmu] at g1; cases g1; exact hBz
      subst hsize
      have hBr : ∀ r ∈ B.rows, r.length = size' := by
        rcases H.blk b B hB with ⟨g1, _⟩ | ⟨k', base', g1, g2, g3, g4, g5⟩
        · rw [hmu] at g1; cases g1
        · rw [← hBz]; exact g4
      have hst : ∀ j, j < news.toList.length → ∃ y, w.cell? ⟨q, base + off * size' + 0 + j, none⟩ = some y ∧ w.frozen? ⟨q, base + off * size' + 0 + j, none⟩ = false := by
        intro j hj
        have hj' : j < m * size' := by simpa [n3] using hj
        have hi' : j / size' < m := Nat.div_lt_of_lt_mul (by rw [Nat.mul_comm]; exact hj')
        obtain ⟨_, y, g1, g2, _⟩ := H.at (r := off + j / size') (j := j % size') hB hmu (by omega) (by rw [hBz]; exact Nat.mod_lt _ hz0)
        rw [hBz] at g1 g2
        have e1 : base + off * size' + 0 + j = base + ((off + j / size') * size' + j % size') := by
          rw [Nat.add_mul]
          have := Nat.div_add_mod j size'
          rw [Nat.mul_comm] at this
          omega
        rw [e1]
        exact ⟨y, g1, g2 _ (.inr rfl)⟩
      have hrunst := run_storeCells_cells (P := c.P) q (base + off * size') news.toList 0 w (fun j hj => by obtain ⟨y, g1, _⟩ := hst j hj; rw [g1]; rfl) (fun j hj => by obtain ⟨y, _, g2⟩ := hst j hj; exact g2) hone
      have hrun := hrun0 (some ⟨q, base + off * size', none⟩) cap _ hrunst
      generalize hw' : w.setCells q (base + off * size' + 0) news.toList = w' at hrun
      obtain ⟨f1, f2⟩ := setCells_fr q news.toList (base + off * size' + 0) w
      rw [hw'] at f1 f2
      have hlt : (B.rows.take off).length = off := by simp; omega
      have hrl : (B.rows.take off ++ nr.take m ++ B.rows.drop (off + m)).length = B.rows.length := by simp; omega
      have H2 := H.write (B' := { B with rows := B.rows.take off ++ nr.take m ++ B.rows.drop (off + m) }) hB hwr (by rw [hBz]; exact hmu) f1 f2.symm rfl
        (fun r hr => by
          simp only [List.mem_append] at hr
          simp only [hBz]
          rcases hr with (hr | hr) | hr
          · exact hBr r (List.mem_of_mem_take hr)
          · exact hrows r hr
          · exact hBr r (List.mem_of_mem_drop hr))
        (fun i j hi hj => by
          simp only at hi ⊢
          rw [hrl] at hi
          rw [hBz] at hj ⊢
          obtain ⟨_, y, g1, g2, g3⟩ := H.at (r := i) (j := j) hB hmu hi (by rw [hBz]; exact hj)
          rw [hBz] at g1 g2
          have hfz : ∀ o, (size' ≠ 1 ∨ o = base + (i * size' + j)) → w'.frozen? ⟨q, o, none⟩ = false := fun o ho => by rw [← hw', World.frozen?_setCells]; exact g2 o (by first | exact ho | (rw [hBz]; exact ho))
          by_cases c1 : i < off
          · refine ⟨y, ?_, hfz, fun e => e.R ?_⟩
            · rw [← hw', World.cell?_setCells_out _ _ _ _ _ (fun _ _ => .inl (by have := idx_lt c1 hj; simp; omega))]
              exact g1
            · rw [List.append_assoc, cellAt_append, if_pos (by omega), cellAt_take _ _ _ _ c1]
              exact g3
          · by_cases c2 : i < off + m
            · have hidx := idx_lt (show i - off < m by omega) hj
              have hj2 : (i - off) * size' + j < news.toList.length := by simpa [n3] using hidx
              have hin := World.cell?_setCells_in q news.toList (base + off * size' + 0) w (fun j hj => by obtain ⟨y, g1, _⟩ := hst j hj; rw [g1]; rfl) _ hj2
              have e1 : base + off * size' + 0 + ((i - off) * size' + j) = base + (i * size' + j) := by
                have : off * size' ≤ i * size' := Nat.mul_le_mul_right _ (by omega)
                rw [Nat.sub_mul]; omega
              rw [e1, hw'] at hin
              refine ⟨_, hin, hfz, fun e => e.R ?_⟩
              rw [List.append_assoc, cellAt_append, if_neg (by omega), hlt, cellAt_append, if_pos (by omega)]
              have := n4 (i - off) j (by omega) hj
              have h3 : news.getD ((i - off) * size' + j) Go.undef = news.toList[(i - off) * size' + j] := by
                have : (i - off) * size' + j < news.size := by omega
                simp [this]
              rw [h3] at this
              exact this
            · refine ⟨y, ?_, hfz, fun e => e.R ?_⟩
              · rw [← hw', World.cell?_setCells_out _ _ _ _ _ (fun _ _ => .inr (by
                  have : (off + m) * size' ≤ i * size' := Nat.mul_le_mul_right _ (by omega)
                  rw [Nat.add_mul] at this
                  simp [n3]; omega))]
                exact g1
              · rw [List.append_assoc, cellAt_append, if_neg (by omega), hlt, cellAt_append, if_neg (by omega), hml, cellAt_drop]
                rw [show off + m + (i - off - m) = i by omega]
                exact g3)
      exact ⟨_, _, _, _, _, _, hrun, hK, H2.1, H2.2, hret⟩
    · subst h0 h00
      have hm0 : m = 0 := by omega
      subst hm0
      have hnews : news = #[] := by apply Array.eq_empty_of_size_eq_zero; simpa using n3
      subst hnews
      have hrun := hrun0 A' 0 w (by cases A' <;> simp [storeCells, Sem.run, pure])
      have hBe : ({ B with rows := B.rows.take off ++ nr.take 0 ++ B.rows.drop (off + 0) } : Blk) = B := by simp
      have hu : upd h b (some B) = h := by
        funext k
        unfold upd
        split
        · rename_i e; subst e; exact hB.symm
        · rfl
      simp only [St.set, hBe, hu] at hK
      exact ⟨_, _, h, n, μ, _, hrun, hK, H, Ext.refl _ _ _ _, hret⟩
  · exact hk.elim
theorem nil_sound {op : BinOp} {T : TypeId} {v : V} {xv : Value} {t : Nat → V} {K : V → St → Prop} (hx : R c h μ w v xv) (hk : anil c.P op T v ⟨t, h, n⟩ K) (xo yo : Operand) (q r : Nat) :
    ∃ b, K (.s (.bool b)) ⟨t, h, n⟩ ∧ (do eqGuard op T xo yo xv (.slice none q r); binOp op T xv (.slice none q r) : Sem Value).run c.P w = .ok (.bool b) w := by
  obtain ⟨hT, m, hm, hk⟩ := hk
  obtain ⟨A, cp, rfl, hA⟩ : ∃ A cp, xv = .slice A m cp ∧ (0 < m → A.isNone = false) := by
    unfold slLen at hm
    split at hm
    · cases hm
      obtain ⟨c', size, A, g, h1, h2, h3, h4, h5⟩ := hx.sl_inv
      exact ⟨A, c', h1, fun hp => by obtain ⟨ad, h6, _⟩ := h4 (by omega); rw [h6]; rfl⟩
    · cases hm
      obtain ⟨A, rfl⟩ := hx.cap0_inv
      exact ⟨A, 0, rfl, fun hp => by omega⟩
    · cases hm
      obtain ⟨_, ⟨k, base, size, _, rfl⟩ | ⟨rfl, rfl, A, t', _, rfl⟩⟩ := hx.loc_inv
      · exact ⟨_, _, rfl, fun _ => rfl⟩
      · exact ⟨_, _, rfl, fun hp => by omega⟩
    · cases hm
  obtain ⟨e, hu⟩ : ∃ e, c.P.underlying T = some (.slice e) := by
    unfold isSliceT at hT
    split at hT
    · rename_i e he; exact ⟨e, he⟩
    · cases hT
  have hg : (eqGuard op T xo yo (.slice A m cp) (.slice none q r)).run c.P w = .ok () w := by
    unfold eqGuard
    cases op <;> simp [Sem.run, pure]
  have he : (Op.equal T (.slice A m cp) (.slice none q r)).run c.P w = .ok A.isNone w := by
    show (Op.equalIn (9999 + 1) T _ _).run c.P w = _
    generalize 9999 = dd
    cases A <;> simp [Op.equalIn, run_under hu, Sem.run, pure]
  cases op <;> simp only at hk
  case eql =>
    refine ⟨A.isNone, hk _ hA, ?_⟩
    simp only [Sem.run_bind, hg, Result.andThen_ok]
    unfold binOp
    simp only [Sem.run_bind, he, Result.andThen_ok, Sem.run_pure]
  case neq =>
    refine ⟨!A.isNone, hk _ (fun hp => by rw [hA hp]; rfl), ?_⟩
    simp only [Sem.run_bind, hg, Result.andThen_ok]
    unfold binOp
    simp only [Sem.run_bind, he, Result.andThen_ok, Sem.run_pure]
theorem zeroCells_mem (z : Array Value) (m : Nat) : ∀ u ∈ (Builtin.zeroCells z m).toList, u ∈ z.toList := by
  intro u hu
  simp only [Builtin.zeroCells] at hu
  simp only [Array.toList_map, List.mem_map] at hu
  obtain ⟨a, ha, rfl⟩ := hu
  simp at ha
  have hz : 0 < z.size := by
    rcases Nat.eq_zero_or_pos z.size with h0 | h0
    · rw [h0] at ha; simp at ha
    · exact h0
  have := Nat.mod_lt a hz
  rw [getElem!_pos z (a % z.size) this]
  simp
theorem clear_sound (H : HS c h n μ w) {T ty : TypeId} {d : V} {dv : Value} {t : Nat → V} {K : V → St → Prop} (hd : R c h μ w d dv) (hk : aclear c.P T d ⟨t, h, n⟩ K) :
    ∃ v y h' n' μ' w', (Builtin.clear_ #[T] ty #[dv]).run c.P w = .ok y w' ∧ K v ⟨t, h', n'⟩ ∧ HS c h' n' μ' w' ∧ Ext c h μ w h' μ' w' ∧ R c h' μ' w' v y := by
  unfold aclear at hk
  split at hk
  · rename_i e z b8 b off len cap hseq
    obtain ⟨hT, hze, hbe⟩ := seqo_slice hseq
    obtain ⟨hz0, zv, hzv, hzs, hz1, B, hB, hwr, hBz, hfit, hK⟩ := hk
    have hret : ∀ {h' : Hp} {μ' : Mu} {w' : World}, R c h' μ' w' (.tup []) (.tuple #[]) := .tup [] #[] rfl (fun i hi => by simp at hi)
    obtain ⟨_, ⟨q, base, size', hmu, rfl⟩ | ⟨h0, h00, A', t', hmu, rfl⟩⟩ := hd.loc_inv
    · have hsize : size' = z := by
        rcases H.blk b B hB with ⟨g1, _⟩ | ⟨k', base', g1, _⟩
        · rw [hmu] at g1; cases g1
        · rw [hmu] at g1; cases g1; exact hBz
      subst hsize
      have hBr : ∀ r ∈ B.rows, r.length = size' := by
        rcases H.blk b B hB with ⟨g1, _⟩ | ⟨k', base', g1, g2, g3, g4, g5⟩
        · rw [hmu] at g1; cases g1
        · rw [← hBz]; exact g4
      have n3 : (Builtin.zeroCells zv.cells len).size = len * size' := by rw [size_zeroCells, hzs]
      generalize hnews : (Builtin.zeroCells zv.cells len).toList = news at *
      have n3' : news.length = len * size' := by rw [← hnews]; simpa using n3
      have hone : ∀ u ∈ news, u.oneCell' = true := fun u hu => by
        rw [← hnews] at hu
        rw [List.all_eq_true] at hz1
        exact hz1 u (zeroCells_mem _ _ u hu)
      have hst : ∀ j, j < news.length → ∃ y, w.cell? ⟨q, base + off * size' + 0 + j, none⟩ = some y ∧ w.frozen? ⟨q, base + off * size' + 0 + j, none⟩ = false := by
        intro j hj
        have hj' : j < len * size' := by omega
        have hi' : j / size' < len := Nat.div_lt_of_lt_mul (by rw [Nat.mul_comm]; exact hj')
        obtain ⟨_, y, g1, g2, _⟩ := H.at (r := off + j / size') (j := j % size') hB hmu (by omega) (by rw [hBz]; exact Nat.mod_lt _ hz0)
        rw [hBz] at g1 g2
        have e1 : base + off * size' + 0 + j = base + ((off + j / size') * size' + j % size') := by
          rw [Nat.add_mul]
          have := Nat.div_add_mod j size'
          rw [Nat.mul_comm] at this
          omega
        rw [e1]
        exact ⟨y, g1, g2 _ (.inr rfl)⟩
      have hrunst := run_storeCells_cells (P := c.P) q (base + off * size') news 0 w (fun j hj => by obtain ⟨y, g1, _⟩ := hst j hj; rw [g1]; rfl) (fun j hj => by obtain ⟨y, _, g2⟩ := hst j hj; exact g2) hone
      have hrun : (Builtin.clear_ #[T] ty #[.slice (some ⟨q, base + off * size', none⟩) len cap]).run c.P w = .ok (.tuple #[]) (w.setCells q (base + off * size' + 0) news) := by
        by_cases hl0 : len = 0
        · subst hl0
          have : news = [] := List.eq_nil_of_length_eq_zero (by omega)
          subst this
          simp [Builtin.clear_, run_underlying hT, Sem.run, pure, World.setCells]
        · obtain ⟨k, rfl⟩ : ∃ k, len = k + 1 := ⟨len - 1, by omega⟩
          simp [Builtin.clear_, run_underlying hT, run_zero hzv, hnews, hrunst, Sem.run_bind, Sem.run_pure]
      generalize hw' : w.setCells q (base + off * size' + 0) news = w' at hrun
      obtain ⟨f1, f2⟩ := setCells_fr q news (base + off * size' + 0) w
      rw [hw'] at f1 f2
      have hlt : (B.rows.take off).length = off := by simp; omega
      have hrl : (B.rows.take off ++ spare size' len ++ B.rows.drop (off + len)).length = B.rows.length := by simp [spare_length]; omega
      have H2 := H.write (B' := { B with rows := B.rows.take off ++ spare size' len ++ B.rows.drop (off + len) }) hB hwr (by rw [hBz]; exact hmu) f1 f2.symm rfl
        (fun r hr => by
          simp only [List.mem_append] at hr
          simp only [hBz]
          rcases hr with (hr | hr) | hr
          · exact hBr r (List.mem_of_mem_take hr)
          · exact spare_rows _ _ r hr
          · exact hBr r (List.mem_of_mem_drop hr))
        (fun i j hi hj => by
          simp only at hi ⊢
          rw [hrl] at hi
          rw [hBz] at hj ⊢
          obtain ⟨_, y, g1, g2, g3⟩ := H.at (r := i) (j := j) hB hmu hi (by rw [hBz]; exact hj)
          rw [hBz] at g1 g2
          have hfz : ∀ o, (size' ≠ 1 ∨ o = base + (i * size' + j)) → w'.frozen? ⟨q, o, none⟩ = false := fun o ho => by rw [← hw', World.frozen?_setCells]; exact g2 o (by first | exact ho | (rw [hBz]; exact ho))
          by_cases c1 : i < off
          · refine ⟨y, ?_, hfz, fun e => e.R ?_⟩
            · rw [← hw', World.cell?_setCells_out _ _ _ _ _ (fun _ _ => .inl (by have := idx_lt c1 hj; simp; omega))]
              exact g1
            · rw [List.append_assoc, cellAt_append, if_pos (by omega), cellAt_take _ _ _ _ c1]
              exact g3
          · by_cases c2 : i < off + len
            · have hidx := idx_lt (show i - off < len by omega) hj
              have hj2 : (i - off) * size' + j < news.length := by omega
              have hin := World.cell?_setCells_in q news (base + off * size' + 0) w (fun j hj => by obtain ⟨y, g1, _⟩ := hst j hj; rw [g1]; rfl) _ hj2
              have e1 : base + off * size' + 0 + ((i - off) * size' + j) = base + (i * size' + j) := by
                have : off * size' ≤ i * size' := Nat.mul_le_mul_right _ (by omega)
                rw [Nat.sub_mul]; omega
              rw [e1, hw'] at hin
              refine ⟨_, hin, hfz, fun e => ?_⟩
              rw [List.append_assoc, cellAt_append, if_neg (by omega), hlt, cellAt_append, if_pos (by simp [spare_length]; omega), cellAt_spare _ _ _ _ (by omega) hj]
              exact .any _
            · refine ⟨y, ?_, hfz, fun e => e.R ?_⟩
              · rw [← hw', World.cell?_setCells_out _ _ _ _ _ (fun _ _ => .inr (by
                  have : (off + len) * size' ≤ i * size' := Nat.mul_le_mul_right _ (by omega)
                  rw [Nat.add_mul] at this
                  simp only; omega))]
                exact g1
              · rw [List.append_assoc, cellAt_append, if_neg (by omega), hlt, cellAt_append, if_neg (by simp [spare_length]; omega), spare_length, cellAt_drop]
                rw [show off + len + (i - off - len) = i by omega]
                exact g3)
      exact ⟨_, _, _, _, _, _, hrun, hK, H2.1, H2.2, hret⟩
    · subst h0 h00
      have hrun : (Builtin.clear_ #[T] ty #[.slice A' 0 0]).run c.P w = .ok (.tuple #[]) w := by
        cases A' <;> simp [Builtin.clear_, run_underlying hT, Sem.run, pure]
      have hBe : ({ B with rows := B.rows.take off ++ spare z 0 ++ B.rows.drop (off + 0) } : Blk) = B := by simp [spare]
      have hu : upd h b (some B) = h := by
        funext k
        unfold upd
        split
        · rename_i e; subst e; exact hB.symm
        · rfl
      simp only [St.set, hBe, hu] at hK
      exact ⟨_, _, h, n, μ, _, hrun, hK, H, Ext.refl _ _ _ _, hret⟩
  · exact hk.elim
end
end Go.Proofs.Ytahgddfnbjpfiaa.Am

/- An abstract machine over values: what is handed to a call, what comes back. -/
set_option linter.unusedVariables false
set_option linter.unusedSimpArgs false
namespace Go.Proofs.Ytahgddfnbjpfiaa.Am
open Go Go.RowKit

def allO {α β : Type} (f : α → Option β) : List α → Option (List β)
  | [] => some []
  | a :: l => match f a, allO f l with
    | some b, some r => some (b :: r)
    | _, _ => none
theorem allO_spec {α β : Type} {f : α → Option β} : ∀ {l : List α} {r : List β}, allO f l = some r → r.length = l.length ∧ ∀ (i : Nat) (a : α) (b : β), l[i]? = some a → r[i]? = some b → f a = some b
  | [], r, h => by simp [allO] at h; subst h; simp
  | a :: l, r, h => by
    unfold allO at h
    split at h
    · rename_i b r' h1 h2
      cases h
      obtain ⟨h3, h4⟩ := allO_spec h2
      refine ⟨by simp [h3], fun i x y hx hy => ?_⟩
      cases i with
      | zero => simp at hx hy; subst hx hy; exact h1
      | succ i => exact h4 i x y (by simpa using hx) (by simpa using hy)
    · cases h

/-- What a cell is for a callee: data that is only read. -/
def expo (h : Hp) : Nat → V → Option V
  | 0, v => match v with
    | .s v => some (.s v)
    | .sl r => some (.sl r)
    | .cap0 => some (.sl [])
    | _ => none
  | d + 1, v => match v with
    | .s v => some (.s v)
    | .sl r => some (.sl r)
    | .cap0 => some (.sl [])
    | .loc b off len cap => match rowsOf h (.loc b off len cap) with
      | some rows => (allO (allO (expo h d)) rows).map .sl
      | none => none
    | _ => none
/-- The blocks that a callee sees in a value. -/
def touch (h : Hp) : Nat → V → List Nat
  | 0, _ => []
  | d + 1, v => match v with
    | .loc b off len cap => b :: (match rowsOf h (.loc b off len cap) with
      | some rows => rows.flatMap fun r => r.flatMap (touch h d)
      | none => [])
    | _ => []
def touchA (h : Hp) (v : V) : List Nat := match v with
  | .agg cs => cs.flatMap (touch h 2)
  | .ptr b r k => b :: (match h b with
    | some B => ((B.rows.getD r []).drop k).flatMap (touch h 2)
    | none => [])
  | v => touch h 2 v
def expoA (h : Hp) (v : V) : Option V := match v with
  | .agg cs => (allO (expo h 2) cs).map .agg
  | .ptr b r k => match h b with
    | some B => if r < B.rows.length ∧ k < B.size then (allO (expo h 2) ((B.rows.getD r []).drop k)).map .pc else none
    | none => none
  | .pc cs => some (.pc cs)
  | v => expo h 2 v

def deepc : V → Bool
  | .s _ | .sl _ => true
  | _ => false
theorem expo_deep (h : Hp) (d : Nat) {v : V} (hv : deepc v = true) : expo h d v = some v := by
  cases d <;> cases v <;> simp_all [deepc, expo]
theorem allO_id {α : Type} {f : α → Option α} : ∀ {l : List α}, (∀ a ∈ l, f a = some a) → allO f l = some l
  | [], _ => rfl
  | a :: l, h => by
    unfold allO
    rw [h a (by simp), allO_id (fun b hb => h b (by simp [hb]))]
theorem allO_rows (h : Hp) (d : Nat) {rows : List (List V)} (hr : ∀ r ∈ rows, ∀ v ∈ r, deepc v = true) : allO (allO (expo h d)) rows = some rows :=
  allO_id fun r hr' => allO_id fun v hv => expo_deep h d (hr r hr' v hv)

section
variable {c : Cx} {h : Hp} {n : Nat} {μ : Mu} {w : World}

theorem Dp.nil {w : World} {ok : Nat → Prop} (A : Option Addr) (cp : Nat) : Dp w ok (.sl []) (.slice A 0 cp) := .sl [] 0 cp 0 A (fun _ _ => Go.undef) rfl (Nat.zero_le _) (by simp) (fun h => absurd rfl h) (fun i j h => absurd h (Nat.not_lt_zero _))
theorem Rp.sl_dp {v : List (List V)} {x : Value} (hx : R c h μ w (.sl v) x) : Dp w (okB c h μ w) (.sl v) x := by
  cases hx with | sl _ n' cp size A g hn hc hs hA hr => exact .sl _ n' cp size A g hn hc hs hA hr
theorem expo_sound (H : HS c h n μ w) (p : Nat → Bool) : ∀ (d : Nat) {v v' : V} {x : Value}, R c h μ w v x → expo h d v = some v' → (∀ b ∈ touch h d v, p b = true) → Dp w (okB c (frz h p) μ w) v' x := by
  have allm : ∀ {v : V} {x : Value}, Dp w (okB c h μ w) v x → Dp w (okB c (frz h p) μ w) v x := fun hd => hd.mono fun k hk => ⟨((H.freezeP p).2.ok k hk).1, rfl⟩
  intro d
  induction d with
  | zero =>
    intro v v' x hx he hp
    simp only [expo] at he
    split at he
    · cases he; cases hx with | s _ hf => exact .s _ hf
    · cases he; exact allm hx.sl_dp
    · cases he; obtain ⟨A, rfl⟩ := hx.cap0_inv; exact Dp.nil A 0
    · cases he
  | succ d ih =>
    intro v v' x hx he hp
    simp only [expo] at he
    split at he
    · cases he; cases hx with | s _ hf => exact .s _ hf
    · cases he; exact allm hx.sl_dp
    · cases he; obtain ⟨A, rfl⟩ := hx.cap0_inv; exact Dp.nil A 0
    · rename_i b off len cap
      split at he
      · rename_i rows hrows
        simp only [Option.map_eq_some_iff] at he
        obtain ⟨rows', hr', rfl⟩ := he
        obtain ⟨A, cp, size, rfl, hc, hA⟩ := rows_sound H hx hrows
        obtain ⟨e1, e2⟩ := allO_spec hr'
        have hrow : ∀ i, i < rows.length → ∃ r r', rows[i]? = some r ∧ rows'[i]? = some r' ∧ allO (expo h d) r = some r' := by
          intro i hi
          have h1 : rows[i]? = some rows[i] := List.getElem?_eq_getElem hi
          have h2 : rows'[i]? = some (rows'[i]'(by omega)) := List.getElem?_eq_getElem (by omega)
          exact ⟨_, _, h1, h2, e2 i _ _ h1 h2⟩
        by_cases hn : rows.length = 0
        · have : rows' = [] := List.eq_nil_of_length_eq_zero (by omega)
          subst this
          rw [hn]
          exact Dp.nil A cp
        · obtain ⟨ad, rfl, hs, hcell⟩ := hA hn
          have hblk : okB c (frz h p) μ w ad.block := by
            obtain ⟨_, ⟨q, base, sz, hmu, heq⟩ | ⟨h0, _⟩⟩ := hx.loc_inv
            · cases heq
              unfold rowsOf at hrows
              simp only at hrows
              split at hrows
              · rename_i B hB
                exact H.frz_ok hB hmu (hp b (by simp [touch]))
              · cases hrows
            · exfalso
              unfold rowsOf at hrows
              simp only at hrows
              split at hrows
              · split at hrows
                · cases hrows; subst h0; simp at hn
                · cases hrows
              · cases hrows
          have hex : ∀ i, ∃ f : Nat → Value, ∀ j, i < rows.length → j < size → w.cell? (ad.add (i * size + j)) = some (f j) ∧ R c h μ w (cellAt rows i j) (f j) := by
            intro i
            have : ∀ j, ∃ y, i < rows.length → j < size → w.cell? (ad.add (i * size + j)) = some y ∧ R c h μ w (cellAt rows i j) y := by
              intro j
              by_cases hij : i < rows.length ∧ j < size
              · obtain ⟨y, h1, h2⟩ := hcell i j hij.1 hij.2
                exact ⟨y, fun _ _ => ⟨h1, h2⟩⟩
              · exact ⟨Go.undef, fun h1 h2 => absurd ⟨h1, h2⟩ hij⟩
            exact Classical.axiomOfChoice this
          obtain ⟨g, hg⟩ := Classical.axiomOfChoice hex
          have hlen' : ∀ r' ∈ rows', r'.length = size := by
            intro r' hr'
            obtain ⟨i, hi, rfl⟩ := List.getElem_of_mem hr'
            obtain ⟨r, r'', h1, h2, h3⟩ := hrow i (by omega)
            rw [List.getElem?_eq_getElem hi] at h2
            cases h2
            rw [(allO_spec h3).1]
            exact hs r (List.mem_of_getElem? h1)
          rw [← e1]
          refine .sl rows' _ cp size _ g rfl (by omega) hlen' (fun _ => ⟨ad, rfl, hblk, fun i j hi hj => (hg i j (by omega) hj).1⟩) fun i j hi hj => ?_
          obtain ⟨r, r', h1, h2, h3⟩ := hrow i (by omega)
          obtain ⟨e3, e4⟩ := allO_spec h3
          have hrl := hs r (List.mem_of_getElem? h1)
          have h5 : r[j]? = some (r[j]'(by omega)) := List.getElem?_eq_getElem (by omega)
          have h6 : r'[j]? = some (r'[j]'(by omega)) := List.getElem?_eq_getElem (by omega)
          have h7 := e4 j _ _ h5 h6
          have h8 := (hg i j (by omega) hj).2
          have h9 : cellAt rows i j = r[j]'(by omega) := by simp [cellAt, List.getD_eq_getElem?_getD, h1, h5]
          have h10 : (rows'.getD i []).getD j .undef = r'[j]'(by omega) := by simp [List.getD_eq_getElem?_getD, h2, h6]
          rw [h9] at h8
          rw [h10]
          refine ih h8 h7 fun b2 hb2 => hp b2 ?_
          simp only [touch, hrows, List.mem_cons, List.mem_flatMap]
          exact .inr ⟨r, List.mem_of_getElem? h1, _, List.mem_of_getElem? h5, hb2⟩
      · cases he
    · cases he
end
end Go.Proofs.Ytahgddfnbjpfiaa.Am

/- An abstract machine over values: what a function's contract says, and a call by its contract. -/
set_option linter.unusedVariables false
set_option linter.unusedSimpArgs false
namespace Go.Proofs.Ytahgddfnbjpfiaa.Am
open Go Go.RowKit

abbrev FvSpec := Nat → Option (List V → Value → Prop)
/-- A contract: what is handed in (function values are told by what they answer), what comes back. -/
abbrev Fspec := FvSpec → List V → V → Prop

def noMu : Mu := fun _ => none
def ArgsR (fv : Nat → Value) (w : World) (ok : Nat → Prop) (ds : List V) (vals : Array Value) : Prop :=
  vals.size = ds.length ∧ ∀ i, i < ds.length → Rp fv w ok noMu (ds.getD i .undef) (vals.getD i Go.undef)
def fnOk (P : Program) (f : FuncId) : Bool := match P.funcs[f]? with
  | some fn => !(fn.name == "runtime.NumGoroutine") && fn.body.isSome
  | none => false
def FvOk (c : Cx) (Φ : FvSpec) : Prop :=
  ∀ k S, Φ k = some S → ∃ f caps, c.fvals k = .func (.func f) #[] caps ∧ fnOk c.P f = true ∧ ∀ w1, Fr c.w0 w1 c.X → ∀ ok1 fv1 ds x vals, (∀ q, ok1 q → q < w1.heap.size) → S ds x → ArgsR fv1 w1 ok1 ds vals →
    Calls c.P f (vals ++ caps) w1 (fun e w' => e = .returned x ∧ Below w1.heap.size w1 w')
def AllB (c : Cx) (w : World) (k : Nat) : Prop := (c.ok0 k ∨ c.w0.heap.size ≤ k ∨ c.X k) ∧ k < w.heap.size
def OwnRes (c : Cx) (w' : World) (z : Nat) (rows : List (List V)) (x : Value) : Prop :=
  (rows = [] ∧ ∃ A, x = .slice A 0 0) ∨ ∃ k base cap, x = .slice (some ⟨k, base, none⟩) rows.length cap ∧ rows.length ≤ cap ∧ (c.w0.heap.size ≤ k ∨ c.X k) ∧ k < w'.heap.size ∧ (∀ r ∈ rows, r.length = z) ∧
    ∀ i j, i < cap → j < z → ∃ y, w'.cell? ⟨k, base + (i * z + j), none⟩ = some y ∧ (∀ o, (z ≠ 1 ∨ o = base + (i * z + j)) → w'.frozen? ⟨k, o, none⟩ = false) ∧ (i < rows.length → Dp w' (fun q => AllB c w' q ∧ q ≠ k) (cellAt rows i j) y)
def Res (c : Cx) (w' : World) (r : V) (x : Value) : Prop := match r with
  | .own z rows => OwnRes c w' z rows x
  | r => ∀ fv, Rp fv w' (AllB c w') noMu r x
def Sound (P : Program) (g : FuncId) (F : Fspec) : Prop :=
  ∀ (c : Cx) (Φ : FvSpec) (ds : List V) (r : V) (vals : Array Value), c.P = P → (∀ k, c.ok0 k → k < c.w0.heap.size) → (∀ k, ¬ c.X k) → FvOk c Φ → F Φ ds r → ArgsR c.fvals c.w0 c.ok0 ds vals →
    Calls P g vals c.w0 (fun e w' => ∃ x, e = .returned x ∧ Below c.w0.heap.size c.w0 w' ∧ Res c w' r x)

/-- A call that works on what it is handed: told over the caller's own values. -/
abbrev Pt := FvSpec → List V → St → (V → St → Prop) → Prop
def CallsO (P : Program) (g : FuncId) (vals : Array Value) (w : World) (post : Value → World → Prop) : Prop :=
  (fnOk P g = true ∧ Calls P g vals w (fun e w' => ∃ x, e = .returned x ∧ post x w')) ∨ (∃ x w', (callFunc g vals).run P w = .ok (.value x) w' ∧ post x w')
def SoundT (P : Program) (g : FuncId) (T : Pt) : Prop :=
  ∀ (c : Cx) (Φ : FvSpec) (h : Hp) (n : Nat) (μ : Mu) (w : World) (args : List V) (vals : Array Value) (t : Nat → V) (K : V → St → Prop), c.P = P → FvOk c Φ → HS c h n μ w → vals.size = args.length → (∀ i, i < args.length → R c h μ w (args.getD i .undef) (vals.getD i Go.undef)) → T Φ args ⟨t, h, n⟩ K →
    CallsO P g vals w (fun x w' => ∃ v h' n' μ', K v ⟨t, h', n'⟩ ∧ HS c h' n' μ' w' ∧ Ext c h μ w h' μ' w' ∧ R c h' μ' w' v x)
structure Env where
  P : Program
  plain : TypeId → Bool
  Γ : FuncId → Option Fspec
  Δ : FuncId → Option Pt
  Φ : FvSpec
  nt : Nat
structure EnvOk (E : Env) : Prop where
  plain : PlainOk E.P E.plain
  sound : ∀ g F, E.Γ g = some F → Sound E.P g F
  fn : ∀ g F, E.Γ g = some F → fnOk E.P g = true
  mixed : E.P.follows .mixedOrders = true
  soundT : ∀ g T, E.Δ g = some T → SoundT E.P g T

def isS : V → Bool
  | .s _ => true
  | _ => false
def noSl : V → Bool
  | .s _ => true
  | .tup vs => vs.all isS
  | .agg vs => vs.all isS
  | _ => false
def closS (E : Env) (h : Hp) (g : FuncId) (caps : List V) : Option (List V → Value → Prop) :=
  match allO (expoA h) caps, E.Γ g with
  | some cd, some F => some fun ds x => F (fun _ => none) (ds ++ cd) (.s x)
  | _, _ => none
def phi (E : Env) (h : Hp) (args : List V) : FvSpec := fun i => match args[i]? with
  | some (.fn g caps) => closS E h g caps
  | some (.fv k) => E.Φ k
  | _ => none
def expArg (h : Hp) (i : Nat) (v : V) : Option V := match v with
  | .fn _ _ => some (.fv i)
  | .fv _ => some (.fv i)
  | v => expoA h v
def expArgs (h : Hp) : Nat → List V → Option (List V)
  | _, [] => some []
  | i, v :: l => match expArg h i v, expArgs h (i + 1) l with
    | some d, some r => some (d :: r)
    | _, _ => none
def frzOf (h : Hp) (args : List V) : Hp := frz h fun b => (args.flatMap (touchA h)).contains b
def aret (args : List V) (r : V) (σ : St) (K : V → St → Prop) : Prop :=
  match r with
  | .own z rows => ∀ cap, rows.length ≤ cap → K (.loc σ.n 0 rows.length cap) ⟨σ.t, upd (frzOf σ.h args) σ.n (some ⟨z, rows ++ spare z (cap - rows.length), true⟩), σ.n + 1⟩
  | r => K r ⟨σ.t, if noSl r then σ.h else frzOf σ.h args, σ.n⟩
def acall (E : Env) (g : FuncId) (args : List V) (σ : St) (K : V → St → Prop) : Prop :=
  match E.Γ g, expArgs σ.h 0 args with
  | some F, some ds => ∃ r, F (phi E σ.h args) ds r ∧ aret args r σ K
  | _, _ => False

section
variable {c : Cx} {h : Hp} {n : Nat} {μ : Mu} {w : World}
theorem expArgs_spec : ∀ {l : List V} {i : Nat} {r : List V}, expArgs h i l = some r → r.length = l.length ∧ ∀ (j : Nat) (a b : V), l[j]? = some a → r[j]? = some b → expArg h (i + j) a = some b
  | [], i, r, he => by simp [expArgs] at he; subst he; simp
  | a :: l, i, r, he => by
    unfold expArgs at he
    split at he
    · rename_i d r' h1 h2
      cases he
      obtain ⟨h3, h4⟩ := expArgs_spec h2
      refine ⟨by simp [h3], fun j x y hx hy => ?_⟩
      cases j with
      | zero => simp at hx hy; subst hx hy; exact h1
      | succ j => have := h4 j x y (by simpa using hx) (by simpa using hy); rwa [show i + 1 + j = i + (j + 1) by omega] at this
    · cases he

theorem expoA_sound (H : HS c h n μ w) (p : Nat → Bool) {v v' : V} {x : Value} {fv : Nat → Value} (hx : R c h μ w v x) (he : expoA h v = some v') (hp : ∀ b ∈ touchA h v, p b = true) : Rp fv w (okB c (frz h p) μ w) noMu v' x := by
  have frm : ∀ {v : V} {x : Value}, Dp w (okB c h μ w) v x → Dp w (okB c (frz h p) μ w) v x := fun hd => hd.mono fun k hk => ⟨((H.freezeP p).2.ok k hk).1, rfl⟩
  unfold expoA at he
  split at he
  · rename_i cs
    simp only [Option.map_eq_some_iff] at he
    obtain ⟨cs', hcs, rfl⟩ := he
    obtain ⟨xs, rfl, hl, hr⟩ := hx.agg_inv
    obtain ⟨e1, e2⟩ := allO_spec hcs
    refine .agg _ _ (by omega) fun i hi => ?_
    have h1 : cs[i]? = some (cs[i]'(by omega)) := List.getElem?_eq_getElem (by omega)
    have h2 : cs'[i]? = some cs'[i] := List.getElem?_eq_getElem hi
    have h3 := hr i (by omega)
    have h4 : cs.getD i .undef = cs[i]'(by omega) := by simp [List.getD_eq_getElem?_getD, h1]
    have h5 : cs'.getD i .undef = cs'[i] := by simp [List.getD_eq_getElem?_getD, h2]
    rw [h4] at h3
    rw [h5]
    exact (expo_sound H p 2 h3 (e2 i _ _ h1 h2) fun b hb => hp b (by simp only [touchA, List.mem_flatMap]; exact ⟨_, List.mem_of_getElem? h1, hb⟩)).R
  · rename_i b r k
    split at he
    · rename_i B hB
      split at he
      · rename_i hlt
        simp only [Option.map_eq_some_iff] at he
        obtain ⟨cs', hcs, rfl⟩ := he
        obtain ⟨q, base, size, hmu, rfl⟩ := hx.ptr_inv
        obtain ⟨hs, _⟩ := H.at hB hmu hlt.1 hlt.2
        subst hs
        obtain ⟨e1, e2⟩ := allO_spec hcs
        have hlen : (B.rows.getD r []).length = B.size := by
          rcases H.blk b B hB with ⟨g1, _⟩ | ⟨k', base', g1, g2, g3, g4, g5⟩
          · rw [hmu] at g1; cases g1
          · exact g4 _ (by rw [List.getD_eq_getElem?_getD, List.getElem?_eq_getElem hlt.1]; exact List.getElem_mem _)
        have hex : ∀ j, ∃ y, j < cs'.length → w.cell? ((⟨q, base + (r * B.size + k), none⟩ : Addr).add j) = some y ∧ Dp w (okB c (frz h p) μ w) (cs'.getD j .undef) y := by
          intro j
          by_cases hj : j < cs'.length
          · have hj2 : j < ((B.rows.getD r []).drop k).length := by omega
            obtain ⟨_, y, g1, _, g3⟩ := H.at (j := k + j) hB hmu hlt.1 (by have hj3 := hj2; rw [List.length_drop, hlen] at hj3; omega)
            refine ⟨y, fun _ => ⟨by rw [add_plain, show base + (r * B.size + k) + j = base + (r * B.size + (k + j)) by omega]; exact g1, ?_⟩⟩
            have h1 : ((B.rows.getD r []).drop k)[j]? = some (((B.rows.getD r []).drop k)[j]) := List.getElem?_eq_getElem hj2
            have h2 : cs'[j]? = some cs'[j] := List.getElem?_eq_getElem hj
            have h4 : cellAt B.rows r (k + j) = ((B.rows.getD r []).drop k)[j] := by
              rw [List.getElem?_drop] at h1
              rw [cellAt, List.getD_eq_getElem?_getD (l := B.rows.getD r []), h1]
              rfl
            have h5 : cs'.getD j .undef = cs'[j] := by simp [List.getD_eq_getElem?_getD, h2]
            rw [h4] at g3
            rw [h5]
            exact expo_sound H p 2 g3 (e2 j _ _ h1 h2) fun b2 hb2 => hp b2 (by simp only [touchA, hB, List.mem_cons, List.mem_flatMap]; exact .inr ⟨_, List.mem_of_getElem? h1, hb2⟩)
          · exact ⟨Go.undef, fun h => absurd h hj⟩
        obtain ⟨g, hg⟩ := Classical.axiomOfChoice hex
        exact .pc cs' _ g (H.frz_ok hB hmu (hp b (by simp [touchA]))) (fun j hj => (hg j hj).1) (fun j hj => (hg j hj).2)
      · cases he
    · cases he
  · rename_i cs
    cases he
    obtain ⟨ad, g, rfl, hb, hc, hr⟩ := hx.pc_inv
    exact .pc _ ad g ((H.freezeP p).2.ok _ hb).1 hc (fun j hj => frm (hr j hj))
  · rename_i n1 n2 n3
    refine (expo_sound H p 2 hx he fun b hb => hp b ?_).R
    unfold touchA
    split
    · exact absurd rfl (n1 _)
    · exact absurd rfl (n2 _ _ _)
    · exact hb

/-- What a captured value is in every later world. -/
theorem caps_later {E : Env} (hE : EnvOk E) (H : HS c h n μ w) {g : FuncId} {caps : List V} {S : List V → Value → Prop} {xs : Array Value} (hc : c.P = E.P) (hx : R c h μ w (.fn g caps) (.func (.func g) #[] xs)) (hS : closS E h g caps = some S)
    {w1 : World} (hw : Below w.heap.size w w1) {ok1 : Nat → Prop} {fv1 : Nat → Value} {ds : List V} {x : Value} {vals : Array Value} (hok : ∀ q, ok1 q → q < w1.heap.size) (hSx : S ds x) (ha : ArgsR fv1 w1 ok1 ds vals) :
    Calls c.P g (vals ++ xs) w1 (fun e w' => e = .returned x ∧ Below w1.heap.size w1 w') := by
  unfold closS at hS
  split at hS
  · rename_i cd F hcd hF
    cases hS
    obtain ⟨xs', he, hl, hr⟩ := hx.fn_inv
    cases he
    obtain ⟨e1, e2⟩ := allO_spec hcd
    have hs := hE.sound g F hF
    have hres := hs ⟨E.P, w1, fun q => q < w1.heap.size, fun _ => False, fv1, fun w2 h2 => by rw [← hc]; exact c.inv w2 ((H.fr.more (Fr.of_below hw)).more h2)⟩ (fun _ => none) (ds ++ cd) (.s x) (vals ++ xs) rfl (fun _ h => h) (fun _ h => h) (fun k S h => by cases h) hSx ⟨by simp [ha.1, e1, hl], fun i hi => by
      by_cases hid : i < ds.length
      · have h1 := ha.2 i hid
        have h2 : (ds ++ cd).getD i .undef = ds.getD i .undef := by simp [List.getD_eq_getElem?_getD, List.getElem?_append_left hid]
        have h3 : (vals ++ xs).getD i Go.undef = vals.getD i Go.undef := by
          have : i < vals.size := by have := ha.1; omega
          simp [Array.getElem?_append_left this]
        rw [h2, h3]
        exact h1.mono (fun q hq => ⟨hok q hq, rfl⟩) (fun _ _ h => h)
      · have hi2 : i - ds.length < cd.length := by simp at hi; omega
        have h2 : (ds ++ cd).getD i .undef = cd.getD (i - ds.length) .undef := by simp [List.getD_eq_getElem?_getD, List.getElem?_append_right (show ds.length ≤ i by omega)]
        have h3 : (vals ++ xs).getD i Go.undef = xs.getD (i - ds.length) Go.undef := by
          have hvs := ha.1
          simp only [Array.getD_eq_getD_getElem?, Array.getElem?_append]
          rw [if_neg (by omega), hvs]
        rw [h2, h3]
        have h4 : caps[i - ds.length]? = some (caps[i - ds.length]'(by omega)) := List.getElem?_eq_getElem (by omega)
        have h5 : cd[i - ds.length]? = some (cd[i - ds.length]) := List.getElem?_eq_getElem hi2
        have h6 := hr (i - ds.length) (by omega)
        have h7 : caps.getD (i - ds.length) .undef = caps[i - ds.length]'(by omega) := by simp [List.getD_eq_getElem?_getD, h4]
        have h8 : cd.getD (i - ds.length) .undef = cd[i - ds.length] := by simp [List.getD_eq_getElem?_getD, h5]
        rw [h7] at h6
        rw [h8]
        exact (expoA_sound H (fun _ => true) (fv := fv1) h6 (e2 _ _ _ h4 h5) (fun _ _ => rfl)).mono (fun q hq => ⟨Nat.lt_of_lt_of_le hq.2.1 hw.size, hw.block q hq.2.1⟩) (fun _ _ h => h)⟩
    rw [hc]
    refine hres.mono ?_
    rintro e w' ⟨x', rfl, hb, hR⟩
    have := (hR fv1).s_eq.1
    subst this
    exact ⟨rfl, hb⟩
  · cases hS

theorem noSl_any {fv fv' : Nat → Value} {w w2 : World} {ok ok2 : Nat → Prop} {μ1 μ2 : Mu} {r : V} {x : Value} (h : Rp fv w ok μ1 r x) (hn : noSl r = true) : Rp fv' w2 ok2 μ2 r x := by
  have one : ∀ {q : V} {y : Value}, Rp fv w ok μ1 q y → isS q = true → Rp fv' w2 ok2 μ2 q y := by
    intro q y hq hs
    cases hq <;> simp [isS] at hs
    rename_i h; exact .s _ h
  cases h <;> simp [noSl] at hn
  · rename_i h; exact .s _ h
  · rename_i cs xs hl h
    exact .agg cs xs hl fun i hi => one (h i hi) (hn _ (by rw [List.getD_eq_getElem?_getD, List.getElem?_eq_getElem hi]; exact List.getElem_mem _))
  · rename_i cs xs hl h
    exact .tup cs xs hl fun i hi => one (h i hi) (hn _ (by rw [List.getD_eq_getElem?_getD, List.getElem?_eq_getElem hi]; exact List.getElem_mem _))
def cxOf (E : Env) (c : Cx) (h : Hp) (μ : Mu) (w : World) (args : List V) (vals : Array Value) (hi : ∀ w1, Fr w w1 (fun _ => False) → WInv E.P w1) : Cx := ⟨E.P, w, okB c (frzOf h args) μ w, fun _ => False, fun i => vals.getD i Go.undef, hi⟩
theorem inv_of {E : Env} (hc : c.P = E.P) (H : HS c h n μ w) : ∀ w1, Fr w w1 (fun _ => False) → WInv E.P w1 := fun w1 h1 => by rw [← hc]; exact c.inv w1 (H.fr.more h1)
/-- A call by its contract: what comes back. -/
theorem call_core {E : Env} (hE : EnvOk E) (hc : c.P = E.P) (hΦ : FvOk c E.Φ) (H : HS c h n μ w) {g : FuncId} {args : List V} {vals : Array Value} {F : Fspec} {ds : List V} {r : V}
    (hl : vals.size = args.length) (ha : ∀ i, i < args.length → R c h μ w (args.getD i .undef) (vals.getD i Go.undef)) (hF : E.Γ g = some F) (hds : expArgs h 0 args = some ds) (hS : F (phi E h args) ds r) :
    Calls c.P g vals w (fun e w' => ∃ x, e = .returned x ∧ Below w.heap.size w w' ∧ Res (cxOf E c h μ w args vals (inv_of hc H)) w' r x) := by
  obtain ⟨e1, e2⟩ := expArgs_spec hds
  have hpall : ∀ (i : Nat) (a : V), args[i]? = some a → ∀ b ∈ touchA h a, (args.flatMap (touchA h)).contains b = true := by
    intro i a hia b hb
    simp only [List.contains_iff_mem, List.mem_flatMap]
    exact ⟨a, List.mem_of_getElem? hia, hb⟩
  have hfv : FvOk ⟨E.P, w, okB c (frzOf h args) μ w, fun _ => False, fun i => vals.getD i Go.undef, inv_of hc H⟩ (phi E h args) := by
    intro k S hS
    unfold phi at hS
    split at hS
    · rename_i g' caps hk
      have hki : k < args.length := (List.getElem?_eq_some_iff.1 hk).1
      have h1 := ha k hki
      have h2 : args.getD k .undef = .fn g' caps := by simp [List.getD_eq_getElem?_getD, hk]
      rw [h2] at h1
      obtain ⟨xs, h3, _⟩ := h1.fn_inv
      have hfn : fnOk E.P g' = true := by
        unfold closS at hS
        split at hS
        · rename_i cd F h8 h9; exact hE.fn g' F h9
        · cases hS
      refine ⟨g', xs, h3, hfn, fun w1 hw1 ok1 fv1 ds x vals1 hok hSx hargs => ?_⟩
      rw [h3] at h1
      have := caps_later hE H hc h1 hS hw1.below hok hSx hargs
      rw [hc] at this
      exact this
    · rename_i k' hk
      have hki : k < args.length := (List.getElem?_eq_some_iff.1 hk).1
      have h1 := ha k hki
      have h2 : args.getD k .undef = .fv k' := by simp [List.getD_eq_getElem?_getD, hk]
      rw [h2] at h1
      obtain ⟨f, caps, h3, hfn, h4⟩ := hΦ k' S hS
      have h5 : vals.getD k Go.undef = c.fvals k' := by generalize vals.getD k Go.undef = y at h1; cases h1; rfl
      refine ⟨f, caps, by simp only [h5]; exact h3, by rw [hc] at hfn; exact hfn, fun w1 hw1 ok1 fv1 ds x vals1 hok hSx hargs => ?_⟩
      have := h4 w1 ⟨hw1.os.trans H.fr.os, hw1.tape.trans H.fr.tape, hw1.output.trans H.fr.output, Nat.le_trans H.fr.size hw1.size, fun q hq hx => by
        rw [hw1.block q (Nat.lt_of_lt_of_le hq H.fr.size) (fun h => h)]; exact H.fr.block q hq hx⟩ ok1 fv1 ds x vals1 hok hSx hargs
      rw [hc] at this
      exact this
    · cases hS
  have hres := hE.sound g F hF ⟨E.P, w, okB c (frzOf h args) μ w, fun _ => False, fun i => vals.getD i Go.undef, inv_of hc H⟩ (phi E h args) ds r vals rfl (fun q hq => hq.2.1) (fun _ h => h) hfv hS ⟨by omega, fun i hi => by
    have h1 : args[i]? = some (args[i]'(by omega)) := List.getElem?_eq_getElem (by omega)
    have h2 : ds[i]? = some ds[i] := List.getElem?_eq_getElem hi
    have h3 := e2 i _ _ h1 h2
    have h4 := ha i (by omega)
    have h5 : args.getD i .undef = args[i]'(by omega) := by simp [List.getD_eq_getElem?_getD, h1]
    have h6 : ds.getD i .undef = ds[i] := by simp [List.getD_eq_getElem?_getD, h2]
    rw [h5] at h4
    rw [h6]
    simp only [Nat.zero_add] at h3
    generalize hav : args[i]'(by omega) = av at h3 h4 h1
    unfold expArg at h3
    split at h3
    · rw [← Option.some.inj h3]; exact .fv i
    · rw [← Option.some.inj h3]; exact .fv i
    · exact expoA_sound H _ h4 h3 (hpall i av h1)⟩
  rw [hc]
  exact hres
theorem res_ok {E : Env} (H : HS c h n μ w) {w' : World} (hb : Below w.heap.size w w') (args : List V) (vals : Array Value) {hi : ∀ w1, Fr w w1 (fun _ => False) → WInv E.P w1} : ∀ q, AllB (cxOf E c h μ w args vals hi) w' q → (c.ok0 q ∨ c.w0.heap.size ≤ q ∨ c.X q) ∧ q < w'.heap.size ∧ ¬ live (frzOf h args) μ q := by
  have H1 := H.freezeP (fun b => (args.flatMap (touchA h)).contains b)
  rintro q ⟨hq, hq2⟩
  rcases hq with hq | hq | hq
  · exact ⟨hq.1, hq2, hq.2.2⟩
  · simp only [cxOf] at hq
    refine ⟨.inr (.inl (Nat.le_trans H.fr.size hq)), hq2, fun hl => ?_⟩
    have := (H1.1.wr_block hl).2
    omega
  · exact hq.elim
/-- A call by its contract. -/
theorem call_sound {E : Env} (hE : EnvOk E) (hc : c.P = E.P) (hΦ : FvOk c E.Φ) (H : HS c h n μ w) {g : FuncId} {args : List V} {vals : Array Value} {t : Nat → V} {K : V → St → Prop}
    (hl : vals.size = args.length) (ha : ∀ i, i < args.length → R c h μ w (args.getD i .undef) (vals.getD i Go.undef)) (hk : acall E g args ⟨t, h, n⟩ K) :
    Calls c.P g vals w (fun e w' => ∃ x v h' n' μ', e = .returned x ∧ K v ⟨t, h', n'⟩ ∧ HS c h' n' μ' w' ∧ Ext c h μ w h' μ' w' ∧ R c h' μ' w' v x) := by
  unfold acall at hk
  split at hk
  · rename_i F ds hF hds
    obtain ⟨r, hS, hK⟩ := hk
    simp only at hS hK
    refine (call_core hE hc hΦ H hl ha hF hds hS).mono ?_
    rintro e w' ⟨x, rfl, hb, hR⟩
    have H1 := H.freezeP (fun b => (args.flatMap (touchA h)).contains b)
    have hall := res_ok (hi := inv_of hc H) H hb (E := E) args vals
    unfold aret at hK
    unfold Res at hR
    split at hK
    · rename_i z rows
      rcases hR with ⟨rfl, A, rfl⟩ | ⟨k, base, cap, rfl, hcap, hk, hkl, hlen, hcell⟩
      · have H2 := H1.1.below hb
        have H3 := H2.1.virt z
        exact ⟨_, _, _, _, _, rfl, hK 0 (Nat.le_refl _), H3.1, H1.2.trans (H2.2.trans H3.2), .loc0 _ _ _ _ (upd_same _ _ _)⟩
      · have hkw : w.heap.size ≤ k := by rcases hk with hk | hk; (· exact hk); exact hk.elim
        have H3 := H1.1.fresh hb k base ⟨z, rows ++ spare z (cap - rows.length), true⟩ hkw hkl (fun r hr => by
            simp only [List.mem_append] at hr
            rcases hr with hr | hr
            · exact hlen r hr
            · exact spare_rows _ _ r hr) (fun i j hi hj => by
            simp only [List.length_append, spare_length] at hi
            simp only at hj ⊢
            obtain ⟨y, y1, y2, y3⟩ := hcell i j (by omega) hj
            refine ⟨y, y1, y2, fun e => ?_⟩
            rw [cellAt_append]
            split
            · rename_i hir
              refine ((y3 hir).mono fun q hq => ?_).R
              obtain ⟨g1, g2, g3⟩ := hall q hq.1
              refine ⟨⟨g1, g2, ?_⟩, rfl⟩
              rintro ⟨b2, B2, base2, size2, f1, f2, f3⟩
              by_cases hbn : b2 = n
              · subst hbn
                rw [upd_same] at f3
                cases f3
                exact hq.2 rfl
              · rw [upd_ne _ _ _ _ hbn] at f1 f3
                exact g3 ⟨b2, B2, base2, size2, f1, f2, f3⟩
            · rw [cellAt_spare _ _ _ _ (by omega) hj]
              exact .any _)
        refine ⟨_, _, _, _, _, rfl, hK cap hcap, H3.1, H1.2.trans H3.2, ?_⟩
        have := Rp.loc (fvals := c.fvals) (w := w') (ok := okB c (upd (frzOf h args) n (some ⟨z, rows ++ spare z (cap - rows.length), true⟩)) (upd μ n (some (.real k base z))) w') (μ := upd μ n (some (.real k base z))) n 0 rows.length cap k base z (upd_same _ _ _) hcap
        simpa using this
    · rename_i hno
      split at hR
      · rename_i z rows; exact absurd rfl (hno z rows)
      · simp only at hK
        split at hK
        · rename_i hns
          have H2 := H.below hb
          exact ⟨_, _, _, _, _, rfl, hK, H2.1, H2.2, noSl_any (hR c.fvals) hns⟩
        · have H2 := H1.1.below hb
          refine ⟨_, _, _, _, _, rfl, hK, H2.1, H1.2.trans H2.2, (hR c.fvals).mono (fun q hq => ⟨?_, rfl⟩) (fun _ _ h => by cases h)⟩
          exact hall q hq
  · exact hk.elim
end
end Go.Proofs.Ytahgddfnbjpfiaa.Am
