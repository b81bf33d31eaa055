/- Texts that the law's proof stands on: AmEff2, AmCall. -/
import Derived.Test.YtahgddfnbjpfiaaB5
/- An abstract machine over values: make, a string's bytes, copy. -/
set_option linter.unusedVariables false
set_option linter.unusedSimpArgs false
namespace Go.Proofs.Ytahgddfnbjpfiaa.Am
open Go Go.RowKit

def acopy (P : Program) (T U : TypeId) (d x : V) (σ : St) (K : V → St → Prop) : Prop :=
  match seqo P T, d with
  | .slice _ z _, .loc b off len _ => 0 < z ∧ ∃ nr, rowsOf σ.h x = some nr ∧ okRows z (nr.take (min nr.length len)) ∧ ∃ B, σ.h b = some B ∧ B.wr = true ∧ B.size = z ∧ off + len ≤ B.rows.length ∧
      K (.s (.int .i64 ((min nr.length len : Nat) : Int))) (σ.set b { B with rows := B.rows.take off ++ nr.take (min nr.length len) ++ B.rows.drop (off + min nr.length len) })
  | _, _ => False

/-- A slice against nil: what is empty may be nil or not. -/
def slLen : V → Option Nat
  | .sl rows => some rows.length
  | .cap0 => some 0
  | .loc _ _ len _ => some len
  | _ => none
def isSliceT (P : Program) (T : TypeId) : Bool := match P.underlying T with
  | some (.slice _) => true
  | _ => false
def anil (P : Program) (op : BinOp) (T : TypeId) (v : V) (σ : St) (K : V → St → Prop) : Prop :=
  isSliceT P T = true ∧ ∃ m, slLen v = some m ∧ match op with
    | .eql => ∀ b : Bool, (0 < m → b = false) → K (.s (.bool b)) σ
    | .neq => ∀ b : Bool, (0 < m → b = true) → K (.s (.bool b)) σ
    | _ => False
def aclear (P : Program) (T : TypeId) (d : V) (σ : St) (K : V → St → Prop) : Prop :=
  match seqo P T, d with
  | .slice e z _, .loc b off len _ => 0 < z ∧ ∃ zv, zro P e = some zv ∧ zv.cells.size = z ∧ (zv.cells.toList.all fun u => u.oneCell') = true ∧ ∃ B, σ.h b = some B ∧ B.wr = true ∧ B.size = z ∧ off + len ≤ B.rows.length ∧
      K (.tup []) (σ.set b { B with rows := B.rows.take off ++ spare z len ++ B.rows.drop (off + len) })
  | _, _ => False

section
variable {c : Cx} {h : Hp} {n : Nat} {μ : Mu} {w : World}
theorem wrap_small {m : Nat} (h : m ≤ 281474976710656) : IntKind.i64.wrap (m : Int) = m := by
  have h1 : (m : Int) % 18446744073709551616 = m := by omega
  have h2 : ¬ (9223372036854775808 ≤ (m : Int)) := by omega
  simp [IntKind.wrap, IntKind.bits, IntKind.signed, h1, h2]
theorem fresh_row' (H : HS c h n μ w) {w' : World} (hw : Below w.heap.size w w') (B : Blk) (cells : Array Value) (e : TypeId) (fr : Nat × Nat) (hnew : w'.heap[w.heap.size]? = some (.cells cells e fr)) (hl : ∀ r ∈ B.rows, r.length = B.size)
    (hfr : ∀ j, (B.size ≠ 1 ∨ j < B.rows.length * B.size) → ¬ (fr.1 ≤ j ∧ j < fr.2))
    (hc : ∀ i j, i < B.rows.length → j < B.size → ∃ x, cells[i * B.size + j]? = some x ∧ R c h μ w (cellAt B.rows i j) x) (m cap : Nat) (hm : m ≤ cap) :
    ∃ μ', HS c (upd h n (some B)) (n + 1) μ' w' ∧ Ext c h μ w (upd h n (some B)) μ' w' ∧ R c (upd h n (some B)) μ' w' (.loc n 0 m cap) (.slice (some ⟨w.heap.size, 0, none⟩) m cap) := by
  have hk' : w.heap.size < w'.heap.size := (Array.getElem?_eq_some_iff.1 hnew).1
  have H2 := H.fresh hw w.heap.size 0 B (Nat.le_refl _) hk' hl fun i j hi hj => by
    obtain ⟨x, h1, h2⟩ := hc i j hi hj
    have hlt := idx_lt hi hj
    refine ⟨x, ?_, ?_, fun e => e.R h2⟩
    · simp only [World.cell?, hnew, Nat.zero_add]
      simpa using h1
    · intro o ho
      have := hfr o (ho.imp id fun e => by omega)
      simp only [World.frozen?, hnew]
      simpa using this
  refine ⟨_, H2.1, H2.2, ?_⟩
  have := Rp.loc (fvals := c.fvals) (w := w') (ok := okB c (upd h n (some B)) (upd μ n (some (.real w.heap.size 0 B.size))) w') (μ := upd μ n (some (.real w.heap.size 0 B.size))) n 0 m cap w.heap.size 0 B.size (upd_same _ _ _) hm
  simpa using this
theorem run_askRoom {P : Program} {w : World} {m : Nat} : (askRoom m).run P w = .ok () w := by
  unfold askRoom
  split
  · simp [mark, Sem.run]
  · simp [Sem.run, pure]
theorem makeSlice_sound (H : HS c h n μ w) {T : TypeId} {l k : V} {lv kv : Value} {t : Nat → V} {K : V → St → Prop} (hl : R c h μ w l lv) (hkv : R c h μ w k kv) (hk : amakeSlice c.P T l k ⟨t, h, n⟩ K) :
    ∃ v y h' n' μ' w', (Instr.makeSlice T lv kv).run c.P w = .ok y w' ∧ K v ⟨t, h', n'⟩ ∧ HS c h' n' μ' w' ∧ Ext c h μ w h' μ' w' ∧ R c h' μ' w' v y := by
  unfold amakeSlice at hk
  split at hk
  · rename_i el z b8 hs
    obtain ⟨hu, hz, hb⟩ := seqo_slice hs
    obtain ⟨inf, hinf, hib⟩ := Option.map_eq_some_iff.1 hb
    split at hk
    · rename_i zv m m' hzv hm hm'
      obtain ⟨h1, h2, h3, hzl, hK⟩ := hk
      obtain ⟨k1, rfl⟩ := hl.asN_eq hm
      obtain ⟨k2, rfl⟩ := hkv.asN_eq hm'
      obtain ⟨z1, z2⟩ := cellsZ_sound (c := c) (h := h) (μ := μ) (w := w) zv
      have hzs : zv.cells.size = z := by omega
      have hcell : ∀ i j, i < m' → j < z → cellAt (List.replicate m' (cellsZ zv)) i j = (cellsZ zv).getD j .undef := by
        intro i j hi hj
        unfold cellAt
        simp [List.getD_eq_getElem?_getD, hi]
      have hrun : ∃ cells, (Instr.makeSlice T (.int k1 m) (.int k2 m')).run c.P w = .ok (.slice (some ⟨w.heap.size, 0, none⟩) m m') (w.alloc (.cells cells el)) ∧ cells.size = m' * z ∧ ∀ i j, i < m' → j < z → cells.getD (i * z + j) Go.undef = zv.cells.getD j Go.undef := by
        have hw1 := wrap_small (show m ≤ 281474976710656 by omega)
        have hw2 := wrap_small h3
        have t1 : ¬ ((m' : Int) < 0) := by omega
        have t2 : ¬ ((inf.bytes : Int) * (m' : Int) > 2 ^ 48) := by
          have : ((m' * b8 : Nat) : Int) ≤ 281474976710656 := by omega
          rw [hib, Int.mul_comm]
          push_cast at this
          omega
        have t3 : ¬ ((m : Int) < 0) := by omega
        have t4 : ¬ ((m : Int) > (m' : Int)) := by omega
        have hti : (typeInfo el).run c.P w = .ok inf w := by simp [typeInfo, hinf, program, Sem.run, pure]
        have hi1 : (asInt (.int k1 (m : Int))).run c.P w = .ok (m : Int) w := by simp [asInt, run_getInt]
        have hi2 : (asInt (.int k2 (m' : Int))).run c.P w = .ok (m' : Int) w := by simp [asInt, run_getInt]
        have hc : ¬ (((decide ((m' : Int) < 0) || decide ((inf.bytes : Int) * (m' : Int) > 2 ^ 48)) = true ∨ (m : Int) < 0) ∨ (m : Int) > (m' : Int)) := by simp only [Bool.or_eq_true, decide_eq_true_eq]; omega
        by_cases h0 : m' * z = 0
        · refine ⟨#[], ?_, by simp [h0], fun i j hi hj => by have := idx_lt hi hj; omega⟩
          simp only [Instr.makeSlice, Sem.run_bind, run_under hu, Result.andThen_ok, hi1, hi2, hti, hw1, hw2]
          simp only [Bool.or_eq_true, decide_eq_true_eq] at hc ⊢
          rw [if_neg (by omega)]
          simp [run_askRoom, run_size hz, h0, newRow, newObj, arange0, Sem.run, pure]
        · obtain ⟨i1, i2⟩ := zero_cells zv m' (by rw [hzs]; rcases Nat.eq_zero_or_pos z with q | q; (· subst q; simp at h0); exact q)
          rw [hzs] at i1 i2
          refine ⟨_, ?_, i1, i2⟩
          simp only [Instr.makeSlice, Sem.run_bind, run_under hu, Result.andThen_ok, hi1, hi2, hti, hw1, hw2]
          simp only [Bool.or_eq_true, decide_eq_true_eq] at hc ⊢
          rw [if_neg (by omega)]
          simp [run_askRoom, run_size hz, h0, newRow, newObj, run_zero hzv, hzs, Sem.run, pure]
      obtain ⟨cells, hrun, hcs, hcg⟩ := hrun
      obtain ⟨μ', H1, H2, _, H3⟩ := fresh_row H (Below.refl _ _) rfl ⟨z, List.replicate m' (cellsZ zv), true⟩ cells el (0, 0) (fun r hr => by
          simp at hr; rw [hr.2]; exact hzl) (fun j _ => by simp) (fun i j hi hj => by
          simp only [List.length_replicate] at hi
          simp only at hj ⊢
          rw [hcell i j hi hj]
          have h1 := idx_lt hi hj
          have h2 : i * z + j < cells.size := by omega
          have h3 := hcg i j hi hj
          rw [show cells.getD (i * z + j) Go.undef = cells[i * z + j] by simp [h2]] at h3
          refine ⟨_, Array.getElem?_eq_getElem h2, ?_⟩
          rw [h3]
          exact z2 j (by omega)) m m' h1
      exact ⟨_, _, _, _, _, _, hrun, hK, H1, H2, H3⟩
    · exact hk.elim
  · exact hk.elim

theorem toBytes_sound (H : HS c h n μ w) {src dst : TypeId} {x : V} {xv : Value} {t : Nat → V} {K : V → St → Prop} (hx : R c h μ w x xv) (hk : atoBytes c.P src dst x ⟨t, h, n⟩ K) :
    ∃ v y h' n' μ' w', (convert src dst xv).run c.P w = .ok y w' ∧ K v ⟨t, h', n'⟩ ∧ HS c h' n' μ' w' ∧ Ext c h μ w h' μ' w' ∧ R c h' μ' w' v y := by
  unfold atoBytes at hk
  split at hk
  · rename_i e s h1 h2
    obtain ⟨h3, hK⟩ := hk
    obtain ⟨rfl, _⟩ := hx.s_eq
    have hrun := Lib.run_convert_string_bytes (P := c.P) w src dst e s h1 h2 h3
    have hge := grownCap_ge w s.size 0 e
    generalize hcap : grownCap w s.size 0 e = cap at hrun hge
    have hlen : (brows s).length = s.size := by simp only [brows, List.length_map, Array.length_toList]; rfl
    have hbc : (Lib.bytesCells w e s).size = cap ∧ ∀ j, j < s.size → (Lib.bytesCells w e s).getD j Go.undef = .int .u8 (byteAt s j).toNat := by
      constructor
      · simp only [Lib.bytesCells, Array.size_append, Array.size_map, Array.size_replicate, hcap]
        have : s.data.size = s.size := rfl
        omega
      · intro j hj
        have h1 : j < s.data.size := hj
        simp [Lib.bytesCells, Array.getElem?_append, h1, byteAt, List.getD_eq_getElem?_getD]
        rw [if_pos hj, Array.getElem?_eq_getElem h1]
        rfl
    have hbel : Below w.heap.size w (Lib.bytesWorld w e s) := ⟨rfl, rfl, rfl, by rw [Lib.bytesWorld_size]; omega, fun k hk => Lib.bytesWorld_at_old w e s k hk⟩
    obtain ⟨μ', H1, H2, H3⟩ := fresh_row' H hbel ⟨1, brows s ++ spare 1 (cap - s.size), true⟩ (Lib.bytesCells w e s) e _ (Lib.bytesWorld_at_new w e s) (fun r hr => by
        simp only [List.mem_append] at hr
        rcases hr with hr | hr
        · simp [brows] at hr; obtain ⟨q, _, rfl⟩ := hr; rfl
        · exact spare_rows _ _ r hr) (fun j hj => by simp [hlen, spare_length] at hj; rw [hbc.1]; simp; omega) (fun i j hi hj => by
        simp only [List.length_append, hlen, spare_length] at hi
        simp only at hj ⊢
        obtain rfl : j = 0 := by omega
        have h5 : i * 1 + 0 < (Lib.bytesCells w e s).size := by rw [hbc.1]; omega
        refine ⟨_, Array.getElem?_eq_getElem h5, ?_⟩
        rw [cellAt_append]
        split
        · rename_i h6
          have h7 := hbc.2 i (by omega)
          have h8 : (Lib.bytesCells w e s)[i * 1 + 0] = (Lib.bytesCells w e s).getD i Go.undef := by simp at h5; simp [h5]
          rw [h8, h7]
          have h9 : cellAt (brows s) i 0 = .s (.int .u8 (byteAt s i).toNat) := by
            have h10 : i < s.data.toList.length := by rw [hlen] at h6; simpa using h6
            simp [cellAt, brows, byteAt, List.getD_eq_getElem?_getD, List.getElem?_eq_getElem h10]
          rw [h9]
          exact .s _ rfl
        · rename_i h6
          rw [cellAt_spare _ _ _ _ (by omega) (by omega)]
          exact .any _) s.size cap hge
    exact ⟨_, _, _, _, _, _, hrun, hK cap hge, H1, H2, H3⟩
  · exact hk.elim

theorem cellAt_drop (a : List (List V)) (m i j : Nat) : cellAt (a.drop m) i j = cellAt a (m + i) j := by
  unfold cellAt
  simp [List.getD_eq_getElem?_getD, List.getElem?_drop]
theorem copy_sound (H : HS c h n μ w) {T U ty : TypeId} {d x : V} {dv xv : Value} {t : Nat → V} {K : V → St → Prop} (hd : R c h μ w d dv) (hx : R c h μ w x xv) (hk : acopy c.P T U d x ⟨t, h, n⟩ K) :
    ∃ v y h' n' μ' w', (Builtin.copy_ #[T, U] ty #[dv, xv]).run c.P w = .ok y w' ∧ K v ⟨t, h', n'⟩ ∧ HS c h' n' μ' w' ∧ Ext c h μ w h' μ' w' ∧ R c h' μ' w' v y := by
  unfold acopy at hk
  split at hk
  · rename_i e z b8 b off len cap hseq
    obtain ⟨hT, hze, hbe⟩ := seqo_slice hseq
    obtain ⟨hz0, nr, hsrc, hok, B, hB, hwr, hBz, hfit, hK⟩ := hk
    obtain ⟨i, hi, hiz⟩ := Option.map_eq_some_iff.1 hze
    obtain ⟨A, cp, size, rfl, hc, hA⟩ := rows_sound H hx hsrc
    generalize hm : min nr.length len = m at hK hok
    have hml : (nr.take m).length = m := by simp; omega
    have hok' : okRows z (nr.take m) := hok
    have hrows := okRows_len hok'
    obtain ⟨news, o1, n3, n4⟩ := rows_load (P := c.P) (c := c) (h := h) (μ := μ) (w := w) (rows := nr.take m) (A := A) (cp := cp) (z := z) (fun _ => hrows) (fun hn => by
      rw [hml] at hn
      obtain ⟨ad, g0, g1, g2⟩ := hA (by omega)
      have hmem : nr.getD 0 [] ∈ nr := by rw [List.getD_eq_getElem?_getD, List.getElem?_eq_getElem (by omega)]; exact List.getElem_mem _
      have hmem2 : nr.getD 0 [] ∈ nr.take m := by
        have h0 : (nr.take m)[0]? = nr[0]? := by rw [List.getElem?_take]; simp; omega
        rw [List.getD_eq_getElem?_getD, ← h0, List.getElem?_eq_getElem (by omega)]; exact List.getElem_mem _
      have hss : size = z := by rw [← g1 _ hmem, (hok _ hmem2).1]
      subst hss
      exact ⟨ad, g0, fun i j hi hj => by
        rw [hml] at hi
        obtain ⟨y, y1, y2⟩ := g2 i j (by omega) hj
        exact ⟨y, y1, by rw [cellAt_take _ _ _ _ hi]; exact y2⟩⟩)
    rw [hml] at n3
    have hone : ∀ u ∈ news.toList, u.oneCell' = true := by
      intro u hu
      obtain ⟨q, hq, rfl⟩ := List.getElem_of_mem hu
      have hq' : q < m * z := by simpa [n3] using hq
      have hi : q / z < m := Nat.div_lt_of_lt_mul (by rw [Nat.mul_comm]; exact hq')
      have hj := Nat.mod_lt q hz0
      have h1 := n4 (q / z) (q % z) (by omega) hj
      rw [show q / z * z + q % z = q by rw [Nat.mul_comm]; exact Nat.div_add_mod q z] at h1
      have hmem : (nr.take m).getD (q / z) [] ∈ nr.take m := by rw [List.getD_eq_getElem?_getD, List.getElem?_eq_getElem (by omega)]; exact List.getElem_mem _
      have h2 : cellish (cellAt (nr.take m) (q / z) (q % z)) = true := by
        refine (hok' _ hmem).2 _ ?_
        unfold cellAt
        rw [List.getD_eq_getElem?_getD (l := (nr.take m).getD (q / z) []), List.getElem?_eq_getElem (by rw [(hok' _ hmem).1]; exact hj)]
        exact List.getElem_mem _
      have h3 : news.getD q Go.undef = news[q]'(by omega) := by have : q < news.size := by omega
                                                                simp [this]
      rw [h3] at h1
      simpa using (cellish_sound h1 h2).2
    have hload : (Builtin.firstCells z m (.slice A nr.length cp)).run c.P w = .ok news w := by
      have := o1 w (fun _ => rfl)
      rw [hml] at this
      rw [← this]
      cases A <;> rfl
    have hrun0 : ∀ (A' : Option Addr) (cap' : Nat) (w' : World), (match A' with | some a => storeCells a news.toList | none => pure () : Sem Unit).run c.P w = .ok () w' →
        (Builtin.copy_ #[T, U] ty #[.slice A' len cap', .slice A nr.length cp]).run c.P w = .ok (goInt m) w' := by
      intro A' cap' w' hst
      have hlen : (Builtin.lenOf (.slice A nr.length cp)).run c.P w = .ok nr.length w := lenOf_slice w
      have hmm : Nat.min nr.length len = m := hm
      cases A' with
      | none =>
        have hw : w' = w := by simpa [Sem.run, pure] using hst.symm
        subst hw
        simp [Builtin.copy_, run_underlying hT, hlen, hmm, sizeOf, typeInfo, hi, hiz, hload]
      | some a =>
        simp only at hst
        simp [Builtin.copy_, run_underlying hT, hlen, hmm, sizeOf, typeInfo, hi, hiz, hload, hst]
    have hret : ∀ {h' : Hp} {μ' : Mu} {w' : World}, R c h' μ' w' (.s (.int .i64 m)) (goInt m) := .s _ rfl
    obtain ⟨_, ⟨q, base, size', hmu, rfl⟩ | ⟨h0, h00, A', t', hmu, rfl⟩⟩ := hd.loc_inv
    · have hsize : size' = z := by
        rcases H.blk b B hB with ⟨g1, _⟩ | ⟨k', base', g1, _⟩
        · rw [hmu] at g1; cases g1
        · rw [hmu] at g1; cases g1; exact hBz
      subst hsize
      have hBr : ∀ r ∈ B.rows, r.length = size' := by
        rcases H.blk b B hB with ⟨g1, _⟩ | ⟨k', base', g1, g2, g3, g4, g5⟩
        · rw [hmu] at g1; cases g1
        · rw [← hBz]; exact g4
      have hst : ∀ j, j < news.toList.length → ∃ y, w.cell? ⟨q, base + off * size' + 0 + j, none⟩ = some y ∧ w.frozen? ⟨q, base + off * size' + 0 + j, none⟩ = false := by
        intro j hj
        have hj' : j < m * size' := by simpa [n3] using hj
        have hi' : j / size' < m := Nat.div_lt_of_lt_mul (by rw [Nat.mul_comm]; exact hj')
        obtain ⟨_, y, g1, g2, _⟩ := H.at (r := off + j / size') (j := j % size') hB hmu (by omega) (by rw [hBz]; exact Nat.mod_lt _ hz0)
        rw [hBz] at g1 g2
        have e1 : base + off * size' + 0 + j = base + ((off + j / size') * size' + j % size') := by
          rw [Nat.add_mul]
          have := Nat.div_add_mod j size'
          rw [Nat.mul_comm] at this
          omega
        rw [e1]
        exact ⟨y, g1, g2 _ (.inr rfl)⟩
      have hrunst := run_storeCells_cells (P := c.P) q (base + off * size') news.toList 0 w (fun j hj => by obtain ⟨y, g1, _⟩ := hst j hj; rw [g1]; rfl) (fun j hj => by obtain ⟨y, _, g2⟩ := hst j hj; exact g2) hone
      have hrun := hrun0 (some ⟨q, base + off * size', none⟩) cap _ hrunst
      generalize hw' : w.setCells q (base + off * size' + 0) news.toList = w' at hrun
      obtain ⟨f1, f2⟩ := setCells_fr q news.toList (base + off * size' + 0) w
      rw [hw'] at f1 f2
      have hlt : (B.rows.take off).length = off := by simp; omega
      have hrl : (B.rows.take off ++ nr.take m ++ B.rows.drop (off + m)).length = B.rows.length := by simp; omega
      have H2 := H.write (B' := { B with rows := B.rows.take off ++ nr.take m ++ B.rows.drop (off + m) }) hB hwr (by rw [hBz]; exact hmu) f1 f2.symm rfl
        (fun r hr => by
          simp only [List.mem_append] at hr
          simp only [hBz]
          rcases hr with (hr | hr) | hr
          · exact hBr r (List.mem_of_mem_take hr)
          · exact hrows r hr
          · exact hBr r (List.mem_of_mem_drop hr))
        (fun i j hi hj => by
          simp only at hi ⊢
          rw [hrl] at hi
          rw [hBz] at hj ⊢
          obtain ⟨_, y, g1, g2, g3⟩ := H.at (r := i) (j := j) hB hmu hi (by rw [hBz]; exact hj)
          rw [hBz] at g1 g2
          have hfz : ∀ o, (size' ≠ 1 ∨ o = base + (i * size' + j)) → w'.frozen? ⟨q, o, none⟩ = false := fun o ho => by rw [← hw', World.frozen?_setCells]; exact g2 o (by first | exact ho | (rw [hBz]; exact ho))
          by_cases c1 : i < off
          · refine ⟨y, ?_, hfz, fun e => e.R ?_⟩
            · rw [← hw', World.cell?_setCells_out _ _ _ _ _ (fun _ _ => .inl (by have := idx_lt c1 hj; simp; omega))]
              exact g1
            · rw [List.append_assoc, cellAt_append, if_pos (by omega), cellAt_take _ _ _ _ c1]
              exact g3
          · by_cases c2 : i < off + m
            · have hidx := idx_lt (show i - off < m by omega) hj
              have hj2 : (i - off) * size' + j < news.toList.length := by simpa [n3] using hidx
              have hin := World.cell?_setCells_in q news.toList (base + off * size' + 0) w (fun j hj => by obtain ⟨y, g1, _⟩ := hst j hj; rw [g1]; rfl) _ hj2
              have e1 : base + off * size' + 0 + ((i - off) * size' + j) = base + (i * size' + j) := by
                have : off * size' ≤ i * size' := Nat.mul_le_mul_right _ (by omega)
                rw [Nat.sub_mul]; omega
              rw [e1, hw'] at hin
              refine ⟨_, hin, hfz, fun e => e.R ?_⟩
              rw [List.append_assoc, cellAt_append, if_neg (by omega), hlt, cellAt_append, if_pos (by omega)]
              have := n4 (i - off) j (by omega) hj
              have h3 : news.getD ((i - off) * size' + j) Go.undef = news.toList[(i - off) * size' + j] := by
                have : (i - off) * size' + j < news.size := by omega
                simp [this]
              rw [h3] at this
              exact this
            · refine ⟨y, ?_, hfz, fun e => e.R ?_⟩
              · rw [← hw', World.cell?_setCells_out _ _ _ _ _ (fun _ _ => .inr (by
                  have : (off + m) * size' ≤ i * size' := Nat.mul_le_mul_right _ (by omega)
                  rw [Nat.add_mul] at this
                  simp [n3]; omega))]
                exact g1
              · rw [List.append_assoc, cellAt_append, if_neg (by omega), hlt, cellAt_append, if_neg (by omega), hml, cellAt_drop]
                rw [show off + m + (i - off - m) = i by omega]
                exact g3)
      exact ⟨_, _, _, _, _, _, hrun, hK, H2.1, H2.2, hret⟩
    · subst h0 h00
      have hm0 : m = 0 := by omega
      subst hm0
      have hnews : news = #[] := by apply Array.eq_empty_of_size_eq_zero; simpa using n3
      subst hnews
      have hrun := hrun0 A' 0 w (by cases A' <;> simp [storeCells, Sem.run, pure])
      have hBe : ({ B with rows := B.rows.take off ++ nr.take 0 ++ B.rows.drop (off + 0) } : Blk) = B := by simp
      have hu : upd h b (some B) = h := by
        funext k
        unfold upd
        split
        · rename_i e; subst e; exact hB.symm
        · rfl
      simp only [St.set, hBe, hu] at hK
      exact ⟨_, _, h, n, μ, _, hrun, hK, H, Ext.refl _ _ _ _, hret⟩
  · exact hk.elim
theorem nil_sound {op : BinOp} {T : TypeId} {v : V} {xv : Value} {t : Nat → V} {K : V → St → Prop} (hx : R c h μ w v xv) (hk : anil c.P op T v ⟨t, h, n⟩ K) (xo yo : Operand) (q r : Nat) :
    ∃ b, K (.s (.bool b)) ⟨t, h, n⟩ ∧ (do eqGuard op T xo yo xv (.slice none q r); binOp op T xv (.slice none q r) : Sem Value).run c.P w = .ok (.bool b) w := by
  obtain ⟨hT, m, hm, hk⟩ := hk
  obtain ⟨A, cp, rfl, hA⟩ : ∃ A cp, xv = .slice A m cp ∧ (0 < m → A.isNone = false) := by
    unfold slLen at hm
    split at hm
    · cases hm
      obtain ⟨c', size, A, g, h1, h2, h3, h4, h5⟩ := hx.sl_inv
      exact ⟨A, c', h1, fun hp => by obtain ⟨ad, h6, _⟩ := h4 (by omega); rw [h6]; rfl⟩
    · cases hm
      obtain ⟨A, rfl⟩ := hx.cap0_inv
      exact ⟨A, 0, rfl, fun hp => by omega⟩
    · cases hm
      obtain ⟨_, ⟨k, base, size, _, rfl⟩ | ⟨rfl, rfl, A, t', _, rfl⟩⟩ := hx.loc_inv
      · exact ⟨_, _, rfl, fun _ => rfl⟩
      · exact ⟨_, _, rfl, fun hp => by omega⟩
    · cases hm
  obtain ⟨e, hu⟩ : ∃ e, c.P.underlying T = some (.slice e) := by
    unfold isSliceT at hT
    split at hT
    · rename_i e he; exact ⟨e, he⟩
    · cases hT
  have hg : (eqGuard op T xo yo (.slice A m cp) (.slice none q r)).run c.P w = .ok () w := by
    unfold eqGuard
    cases op <;> simp [Sem.run, pure]
  have he : (Op.equal T (.slice A m cp) (.slice none q r)).run c.P w = .ok A.isNone w := by
    show (Op.equalIn (9999 + 1) T _ _).run c.P w = _
    generalize 9999 = dd
    cases A <;> simp [Op.equalIn, run_under hu, Sem.run, pure]
  cases op <;> simp only at hk
  case eql =>
    refine ⟨A.isNone, hk _ hA, ?_⟩
    simp only [Sem.run_bind, hg, Result.andThen_ok]
    unfold binOp
    simp only [Sem.run_bind, he, Result.andThen_ok, Sem.run_pure]
  case neq =>
    refine ⟨!A.isNone, hk _ (fun hp => by rw [hA hp]; rfl), ?_⟩
    simp only [Sem.run_bind, hg, Result.andThen_ok]
    unfold binOp
    simp only [Sem.run_bind, he, Result.andThen_ok, Sem.run_pure]
theorem zeroCells_mem (z : Array Value) (m : Nat) : ∀ u ∈ (Builtin.zeroCells z m).toList, u ∈ z.toList := by
  intro u hu
  simp only [Builtin.zeroCells] at hu
  simp only [Array.toList_map, List.mem_map] at hu
  obtain ⟨a, ha, rfl⟩ := hu
  simp at ha
  have hz : 0 < z.size := by
    rcases Nat.eq_zero_or_pos z.size with h0 | h0
    · rw [h0] at ha; simp at ha
    · exact h0
  have := Nat.mod_lt a hz
  rw [getElem!_pos z (a % z.size) this]
  simp
theorem clear_sound (H : HS c h n μ w) {T ty : TypeId} {d : V} {dv : Value} {t : Nat → V} {K : V → St → Prop} (hd : R c h μ w d dv) (hk : aclear c.P T d ⟨t, h, n⟩ K) :
    ∃ v y h' n' μ' w', (Builtin.clear_ #[T] ty #[dv]).run c.P w = .ok y w' ∧ K v ⟨t, h', n'⟩ ∧ HS c h' n' μ' w' ∧ Ext c h μ w h' μ' w' ∧ R c h' μ' w' v y := by
  unfold aclear at hk
  split at hk
  · rename_i e z b8 b off len cap hseq
    obtain ⟨hT, hze, hbe⟩ := seqo_slice hseq
    obtain ⟨hz0, zv, hzv, hzs, hz1, B, hB, hwr, hBz, hfit, hK⟩ := hk
    have hret : ∀ {h' : Hp} {μ' : Mu} {w' : World}, R c h' μ' w' (.tup []) (.tuple #[]) := .tup [] #[] rfl (fun i hi => by simp at hi)
    obtain ⟨_, ⟨q, base, size', hmu, rfl⟩ | ⟨h0, h00, A', t', hmu, rfl⟩⟩ := hd.loc_inv
    · have hsize : size' = z := by
        rcases H.blk b B hB with ⟨g1, _⟩ | ⟨k', base', g1, _⟩
        · rw [hmu] at g1; cases g1
        · rw [hmu] at g1; cases g1; exact hBz
      subst hsize
      have hBr : ∀ r ∈ B.rows, r.length = size' := by
        rcases H.blk b B hB with ⟨g1, _⟩ | ⟨k', base', g1, g2, g3, g4, g5⟩
        · rw [hmu] at g1; cases g1
        · rw [← hBz]; exact g4
      have n3 : (Builtin.zeroCells zv.cells len).size = len * size' := by rw [size_zeroCells, hzs]
      generalize hnews : (Builtin.zeroCells zv.cells len).toList = news at *
      have n3' : news.length = len * size' := by rw [← hnews]; simpa using n3
      have hone : ∀ u ∈ news, u.oneCell' = true := fun u hu => by
        rw [← hnews] at hu
        rw [List.all_eq_true] at hz1
        exact hz1 u (zeroCells_mem _ _ u hu)
      have hst : ∀ j, j < news.length → ∃ y, w.cell? ⟨q, base + off * size' + 0 + j, none⟩ = some y ∧ w.frozen? ⟨q, base + off * size' + 0 + j, none⟩ = false := by
        intro j hj
        have hj' : j < len * size' := by omega
        have hi' : j / size' < len := Nat.div_lt_of_lt_mul (by rw [Nat.mul_comm]; exact hj')
        obtain ⟨_, y, g1, g2, _⟩ := H.at (r := off + j / size') (j := j % size') hB hmu (by omega) (by rw [hBz]; exact Nat.mod_lt _ hz0)
        rw [hBz] at g1 g2
        have e1 : base + off * size' + 0 + j = base + ((off + j / size') * size' + j % size') := by
          rw [Nat.add_mul]
          have := Nat.div_add_mod j size'
          rw [Nat.mul_comm] at this
          omega
        rw [e1]
        exact ⟨y, g1, g2 _ (.inr rfl)⟩
      have hrunst := run_storeCells_cells (P := c.P) q (base + off * size') news 0 w (fun j hj => by obtain ⟨y, g1, _⟩ := hst j hj; rw [g1]; rfl) (fun j hj => by obtain ⟨y, _, g2⟩ := hst j hj; exact g2) hone
      have hrun : (Builtin.clear_ #[T] ty #[.slice (some ⟨q, base + off * size', none⟩) len cap]).run c.P w = .ok (.tuple #[]) (w.setCells q (base + off * size' + 0) news) := by
        by_cases hl0 : len = 0
        · subst hl0
          have : news = [] := List.eq_nil_of_length_eq_zero (by omega)
          subst this
          simp [Builtin.clear_, run_underlying hT, Sem.run, pure, World.setCells]
        · obtain ⟨k, rfl⟩ : ∃ k, len = k + 1 := ⟨len - 1, by omega⟩
          simp [Builtin.clear_, run_underlying hT, run_zero hzv, hnews, hrunst, Sem.run_bind, Sem.run_pure]
      generalize hw' : w.setCells q (base + off * size' + 0) news = w' at hrun
      obtain ⟨f1, f2⟩ := setCells_fr q news (base + off * size' + 0) w
      rw [hw'] at f1 f2
      have hlt : (B.rows.take off).length = off := by simp; omega
      have hrl : (B.rows.take off ++ spare size' len ++ B.rows.drop (off + len)).length = B.rows.length := by simp [spare_length]; omega
      have H2 := H.write (B' := { B with rows := B.rows.take off ++ spare size' len ++ B.rows.drop (off + len) }) hB hwr (by rw [hBz]; exact hmu) f1 f2.symm rfl
        (fun r hr => by
          simp only [List.mem_append] at hr
          simp only [hBz]
          rcases hr with (hr | hr) | hr
          · exact hBr r (List.mem_of_mem_take hr)
          · exact spare_rows _ _ r hr
          · exact hBr r (List.mem_of_mem_drop hr))
        (fun i j hi hj => by
          simp only at hi ⊢
          rw [hrl] at hi
          rw [hBz] at hj ⊢
          obtain ⟨_, y, g1, g2, g3⟩ := H.at (r := i) (j := j) hB hmu hi (by rw [hBz]; exact hj)
          rw [hBz] at g1 g2
          have hfz : ∀ o, (size' ≠ 1 ∨ o = base + (i * size' + j)) → w'.frozen? ⟨q, o, none⟩ = false := fun o ho => by rw [← hw', World.frozen?_setCells]; exact g2 o (by first | exact ho | (rw [hBz]; exact ho))
          by_cases c1 : i < off
          · refine ⟨y, ?_, hfz, fun e => e.R ?_⟩
            · rw [← hw', World.cell?_setCells_out _ _ _ _ _ (fun _ _ => .inl (by have := idx_lt c1 hj; simp; omega))]
              exact g1
            · rw [List.append_assoc, cellAt_append, if_pos (by omega), cellAt_take _ _ _ _ c1]
              exact g3
          · by_cases c2 : i < off + len
            · have hidx := idx_lt (show i - off < len by omega) hj
              have hj2 : (i - off) * size' + j < news.length := by omega
              have hin := World.cell?_setCells_in q news (base + off * size' + 0) w (fun j hj => by obtain ⟨y, g1, _⟩ := hst j hj; rw [g1]; rfl) _ hj2
              have e1 : base + off * size' + 0 + ((i - off) * size' + j) = base + (i * size' + j) := by
                have : off * size' ≤ i * size' := Nat.mul_le_mul_right _ (by omega)
                rw [Nat.sub_mul]; omega
              rw [e1, hw'] at hin
              refine ⟨_, hin, hfz, fun e => ?_⟩
              rw [List.append_assoc, cellAt_append, if_neg (by omega), hlt, cellAt_append, if_pos (by simp [spare_length]; omega), cellAt_spare _ _ _ _ (by omega) hj]
              exact .any _
            · refine ⟨y, ?_, hfz, fun e => e.R ?_⟩
              · rw [← hw', World.cell?_setCells_out _ _ _ _ _ (fun _ _ => .inr (by
                  have : (off + len) * size' ≤ i * size' := Nat.mul_le_mul_right _ (by omega)
                  rw [Nat.add_mul] at this
                  simp only; omega))]
                exact g1
              · rw [List.append_assoc, cellAt_append, if_neg (by omega), hlt, cellAt_append, if_neg (by simp [spare_length]; omega), spare_length, cellAt_drop]
                rw [show off + len + (i - off - len) = i by omega]
                exact g3)
      exact ⟨_, _, _, _, _, _, hrun, hK, H2.1, H2.2, hret⟩
    · subst h0 h00
      have hrun : (Builtin.clear_ #[T] ty #[.slice A' 0 0]).run c.P w = .ok (.tuple #[]) w := by
        cases A' <;> simp [Builtin.clear_, run_underlying hT, Sem.run, pure]
      have hBe : ({ B with rows := B.rows.take off ++ spare z 0 ++ B.rows.drop (off + 0) } : Blk) = B := by simp [spare]
      have hu : upd h b (some B) = h := by
        funext k
        unfold upd
        split
        · rename_i e; subst e; exact hB.symm
        · rfl
      simp only [St.set, hBe, hu] at hK
      exact ⟨_, _, h, n, μ, _, hrun, hK, H, Ext.refl _ _ _ _, hret⟩
  · exact hk.elim
end
end Go.Proofs.Ytahgddfnbjpfiaa.Am

/- An abstract machine over values: what is handed to a call, what comes back. -/
set_option linter.unusedVariables false
set_option linter.unusedSimpArgs false
namespace Go.Proofs.Ytahgddfnbjpfiaa.Am
open Go Go.RowKit

def allO {α β : Type} (f : α → Option β) : List α → Option (List β)
  | [] => some []
  | a :: l => match f a, allO f l with
    | some b, some r => some (b :: r)
    | _, _ => none
theorem allO_spec {α β : Type} {f : α → Option β} : ∀ {l : List α} {r : List β}, allO f l = some r → r.length = l.length ∧ ∀ (i : Nat) (a : α) (b : β), l[i]? = some a → r[i]? = some b → f a = some b
  | [], r, h => by simp [allO] at h; subst h; simp
  | a :: l, r, h => by
    unfold allO at h
    split at h
    · rename_i b r' h1 h2
      cases h
      obtain ⟨h3, h4⟩ := allO_spec h2
      refine ⟨by simp [h3], fun i x y hx hy => ?_⟩
      cases i with
      | zero => simp at hx hy; subst hx hy; exact h1
      | succ i => exact h4 i x y (by simpa using hx) (by simpa using hy)
    · cases h

/-- What a cell is for a callee: data that is only read. -/
def expo (h : Hp) : Nat → V → Option V
  | 0, v => match v with
    | .s v => some (.s v)
    | .sl r => some (.sl r)
    | .cap0 => some (.sl [])
    | _ => none
  | d + 1, v => match v with
    | .s v => some (.s v)
    | .sl r => some (.sl r)
    | .cap0 => some (.sl [])
    | .loc b off len cap => match rowsOf h (.loc b off len cap) with
      | some rows => (allO (allO (expo h d)) rows).map .sl
      | none => none
    | _ => none
/-- The blocks that a callee sees in a value. -/
def touch (h : Hp) : Nat → V → List Nat
  | 0, _ => []
  | d + 1, v => match v with
    | .loc b off len cap => b :: (match rowsOf h (.loc b off len cap) with
      | some rows => rows.flatMap fun r => r.flatMap (touch h d)
      | none => [])
    | _ => []
def touchA (h : Hp) (v : V) : List Nat := match v with
  | .agg cs => cs.flatMap (touch h 2)
  | .ptr b r k => b :: (match h b with
    | some B => ((B.rows.getD r []).drop k).flatMap (touch h 2)
    | none => [])
  | v => touch h 2 v
def expoA (h : Hp) (v : V) : Option V := match v with
  | .agg cs => (allO (expo h 2) cs).map .agg
  | .ptr b r k => match h b with
    | some B => if r < B.rows.length ∧ k < B.size then (allO (expo h 2) ((B.rows.getD r []).drop k)).map .pc else none
    | none => none
  | .pc cs => some (.pc cs)
  | v => expo h 2 v

def deepc : V → Bool
  | .s _ | .sl _ => true
  | _ => false
theorem expo_deep (h : Hp) (d : Nat) {v : V} (hv : deepc v = true) : expo h d v = some v := by
  cases d <;> cases v <;> simp_all [deepc, expo]
theorem allO_id {α : Type} {f : α → Option α} : ∀ {l : List α}, (∀ a ∈ l, f a = some a) → allO f l = some l
  | [], _ => rfl
  | a :: l, h => by
    unfold allO
    rw [h a (by simp), allO_id (fun b hb => h b (by simp [hb]))]
theorem allO_rows (h : Hp) (d : Nat) {rows : List (List V)} (hr : ∀ r ∈ rows, ∀ v ∈ r, deepc v = true) : allO (allO (expo h d)) rows = some rows :=
  allO_id fun r hr' => allO_id fun v hv => expo_deep h d (hr r hr' v hv)

section
variable {c : Cx} {h : Hp} {n : Nat} {μ : Mu} {w : World}

theorem Dp.nil {w : World} {ok : Nat → Prop} (A : Option Addr) (cp : Nat) : Dp w ok (.sl []) (.slice A 0 cp) := .sl [] 0 cp 0 A (fun _ _ => Go.undef) rfl (Nat.zero_le _) (by simp) (fun h => absurd rfl h) (fun i j h => absurd h (Nat.not_lt_zero _))
theorem Rp.sl_dp {v : List (List V)} {x : Value} (hx : R c h μ w (.sl v) x) : Dp w (okB c h μ w) (.sl v) x := by
  cases hx with | sl _ n' cp size A g hn hc hs hA hr => exact .sl _ n' cp size A g hn hc hs hA hr
theorem expo_sound (H : HS c h n μ w) (p : Nat → Bool) : ∀ (d : Nat) {v v' : V} {x : Value}, R c h μ w v x → expo h d v = some v' → (∀ b ∈ touch h d v, p b = true) → Dp w (okB c (frz h p) μ w) v' x := by
  have allm : ∀ {v : V} {x : Value}, Dp w (okB c h μ w) v x → Dp w (okB c (frz h p) μ w) v x := fun hd => hd.mono fun k hk => ⟨((H.freezeP p).2.ok k hk).1, rfl⟩
  intro d
  induction d with
  | zero =>
    intro v v' x hx he hp
    simp only [expo] at he
    split at he
    · cases he; cases hx with | s _ hf => exact .s _ hf
    · cases he; exact allm hx.sl_dp
    · cases he; obtain ⟨A, rfl⟩ := hx.cap0_inv; exact Dp.nil A 0
    · cases he
  | succ d ih =>
    intro v v' x hx he hp
    simp only [expo] at he
    split at he
    · cases he; cases hx with | s _ hf => exact .s _ hf
    · cases he; exact allm hx.sl_dp
    · cases he; obtain ⟨A, rfl⟩ := hx.cap0_inv; exact Dp.nil A 0
    · rename_i b off len cap
      split at he
      · rename_i rows hrows
        simp only [Option.map_eq_some_iff] at he
        obtain ⟨rows', hr', rfl⟩ := he
        obtain ⟨A, cp, size, rfl, hc, hA⟩ := rows_sound H hx hrows
        obtain ⟨e1, e2⟩ := allO_spec hr'
        have hrow : ∀ i, i < rows.length → ∃ r r', rows[i]? = some r ∧ rows'[i]? = some r' ∧ allO (expo h d) r = some r' := by
          intro i hi
          have h1 : rows[i]? = some rows[i] := List.getElem?_eq_getElem hi
          have h2 : rows'[i]? = some (rows'[i]'(by omega)) := List.getElem?_eq_getElem (by omega)
          exact ⟨_, _, h1, h2, e2 i _ _ h1 h2⟩
        by_cases hn : rows.length = 0
        · have : rows' = [] := List.eq_nil_of_length_eq_zero (by omega)
          subst this
          rw [hn]
          exact Dp.nil A cp
        · obtain ⟨ad, rfl, hs, hcell⟩ := hA hn
          have hblk : okB c (frz h p) μ w ad.block := by
            obtain ⟨_, ⟨q, base, sz, hmu, heq⟩ | ⟨h0, _⟩⟩ := hx.loc_inv
            · cases heq
              unfold rowsOf at hrows
              simp only at hrows
              split at hrows
              · rename_i B hB
                exact H.frz_ok hB hmu (hp b (by simp [touch]))
              · cases hrows
            · exfalso
              unfold rowsOf at hrows
              simp only at hrows
              split at hrows
              · split at hrows
                · cases hrows; subst h0; simp at hn
                · cases hrows
              · cases hrows
          have hex : ∀ i, ∃ f : Nat → Value, ∀ j, i < rows.length → j < size → w.cell? (ad.add (i * size + j)) = some (f j) ∧ R c h μ w (cellAt rows i j) (f j) := by
            intro i
            have : ∀ j, ∃ y, i < rows.length → j < size → w.cell? (ad.add (i * size + j)) = some y ∧ R c h μ w (cellAt rows i j) y := by
              intro j
              by_cases hij : i < rows.length ∧ j < size
              · obtain ⟨y, h1, h2⟩ := hcell i j hij.1 hij.2
                exact ⟨y, fun _ _ => ⟨h1, h2⟩⟩
              · exact ⟨Go.undef, fun h1 h2 => absurd ⟨h1, h2⟩ hij⟩
            exact Classical.axiomOfChoice this
          obtain ⟨g, hg⟩ := Classical.axiomOfChoice hex
          have hlen' : ∀ r' ∈ rows', r'.length = size := by
            intro r' hr'
            obtain ⟨i, hi, rfl⟩ := List.getElem_of_mem hr'
            obtain ⟨r, r'', h1, h2, h3⟩ := hrow i (by omega)
            rw [List.getElem?_eq_getElem hi] at h2
            cases h2
            rw [(allO_spec h3).1]
            exact hs r (List.mem_of_getElem? h1)
          rw [← e1]
          refine .sl rows' _ cp size _ g rfl (by omega) hlen' (fun _ => ⟨ad, rfl, hblk, fun i j hi hj => (hg i j (by omega) hj).1⟩) fun i j hi hj => ?_
          obtain ⟨r, r', h1, h2, h3⟩ := hrow i (by omega)
          obtain ⟨e3, e4⟩ := allO_spec h3
          have hrl := hs r (List.mem_of_getElem? h1)
          have h5 : r[j]? = some (r[j]'(by omega)) := List.getElem?_eq_getElem (by omega)
          have h6 : r'[j]? = some (r'[j]'(by omega)) := List.getElem?_eq_getElem (by omega)
          have h7 := e4 j _ _ h5 h6
          have h8 := (hg i j (by omega) hj).2
          have h9 : cellAt rows i j = r[j]'(by omega) := by simp [cellAt, List.getD_eq_getElem?_getD, h1, h5]
          have h10 : (rows'.getD i []).getD j .undef = r'[j]'(by omega) := by simp [List.getD_eq_getElem?_getD, h2, h6]
          rw [h9] at h8
          rw [h10]
          refine ih h8 h7 fun b2 hb2 => hp b2 ?_
          simp only [touch, hrows, List.mem_cons, List.mem_flatMap]
          exact .inr ⟨r, List.mem_of_getElem? h1, _, List.mem_of_getElem? h5, hb2⟩
      · cases he
    · cases he
end
end Go.Proofs.Ytahgddfnbjpfiaa.Am
