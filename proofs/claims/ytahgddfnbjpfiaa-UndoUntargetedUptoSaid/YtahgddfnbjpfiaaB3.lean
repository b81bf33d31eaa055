/- Texts that the law's proof stands on: AmSnd2, AmSnd3, AmSnd4, AmMem. -/
import Derived.Test.YtahgddfnbjpfiaaB2
import Derived.Laws.AppendOwn
import Derived.Maps.AppendAt
import Derived.Lib.ConvBytes
/- An abstract machine over values: the operations that turn no memory are right (2). -/
set_option linter.unusedVariables false
set_option linter.unusedSimpArgs false
namespace Go.Proofs.Ytahgddfnbjpfiaa.Am
open Go Go.RowKit

section
variable {c : Cx} {h : Hp} {n : Nat} {μ : Mu} {w : World}
theorem index_sound {T : TypeId} {p i v : V} {x y : Value} (hp : R c h μ w p x) (hi : R c h μ w i y) (hv : aindex c.P T p i = some v) : ∃ z, (Instr.index T x y).run c.P w = .ok z w ∧ R c h μ w v z := by
  unfold aindex at hv
  split at hv
  · rename_i s m hs hm
    split at hv
    · rename_i hlt
      cases hv
      obtain ⟨k, rfl⟩ := hi.asN_eq hm
      obtain ⟨rfl, _⟩ := hp.s_eq
      refine ⟨.int .u8 (byteAt s m).toNat, ?_, .s _ rfl⟩
      have h1 : byteAt s m = s[m] := by
        have h2 : m < s.data.toList.length := by simpa using hlt
        simp [byteAt, List.getD_eq_getElem?_getD, List.getElem?_eq_getElem h2]
        rfl
      simp [Instr.index, run_getInt, run_under (seqo_str hs), Sem.run, pure, hlt, h1]
    · cases hv
  · rename_i nn e z cs m hs hm
    obtain ⟨hu, hz⟩ := seqo_array hs
    obtain ⟨k, rfl⟩ := hi.asN_eq hm
    obtain ⟨xs, rfl, hl, hr⟩ := hp.agg_inv
    split at hv
    · rename_i hg
      split at hv
      · rename_i hb
        cases hv
        have h1 : (0 : Int) ≤ (m : Int) ∧ (m : Int) < (nn : Int) := ⟨by omega, by omega⟩
        exact ⟨_, by simp [Instr.index, run_getInt, run_under hu, run_size hz, h1, run_part_agg hg hz, hb.1, Sem.run, pure], Rp.part hl hr _ _ hb.2⟩
      · cases hv
    · rename_i hg
      split at hv
      · rename_i hb
        cases hv
        have h1 : (0 : Int) ≤ (m : Int) ∧ (m : Int) < (nn : Int) := ⟨by omega, by omega⟩
        have h2 := run_part_one (P := c.P) (w := w) (xs := xs) (o := m * z) hg (by omega)
        exact ⟨xs.getD (m * z) Go.undef, by simp only [Instr.index, Sem.run_bind, run_getInt, run_under hu, Result.andThen_ok, if_pos h1, run_size hz, Int.toNat_natCast, h2], hr _ hb.2⟩
      · cases hv
    · cases hv
  · cases hv

theorem bnd_none {d l : Nat} (h : bnd none d = some l) : l = d := by simpa [bnd] using h.symm
theorem run_sliceBound {P : Program} {k : IntKind} {l y : Nat} {code : BoundsCode} (h : l ≤ y) : (Instr.sliceBound (.int k l) y code).run P w = .ok l w := by
  have h1 : (0 : Int) ≤ (l : Int) ∧ (l : Int) ≤ (y : Int) := ⟨by omega, by omega⟩
  simp [Instr.sliceBound, run_getInt, h1, Sem.run, pure, h]
/-- The bounds of a slice expression. -/
theorem run_bounds {P : Program} {iss : Bool} {len cap l r m : Nat} {lo hi mx : Option Operand} {e : Operand → V} {ρ : Operand → Value} (he : ∀ x, R c h μ w (e x) (ρ x))
    (h1 : bnd (lo.map e) 0 = some l) (h2 : bnd (hi.map e) len = some r) (h3 : bnd (mx.map e) cap = some m) (hb : l ≤ r ∧ r ≤ m ∧ m ≤ cap) (h4 : hi = none → mx = none) :
    (Instr.sliceBounds iss len cap (lo.map ρ) (hi.map ρ) (mx.map ρ)).run P w = .ok (l, r, m) w := by
  obtain ⟨b1, b2, b3⟩ := hb
  cases mx with
  | none =>
    obtain rfl := bnd_none h3
    cases hi with
    | none =>
      obtain rfl := bnd_none h2
      cases lo with
      | none => obtain rfl := bnd_none h1; simp [Instr.sliceBounds, Sem.run, pure]
      | some lo =>
        obtain ⟨k, hk⟩ := (he lo).asN_eq h1
        simp [Instr.sliceBounds, hk, run_sliceBound b1, Sem.run, pure]
    | some hi =>
      obtain ⟨k2, hk2⟩ := (he hi).asN_eq h2
      cases lo with
      | none => obtain rfl := bnd_none h1; simp [Instr.sliceBounds, hk2, run_sliceBound b2, Sem.run, pure]
      | some lo =>
        obtain ⟨k, hk⟩ := (he lo).asN_eq h1
        simp [Instr.sliceBounds, hk, hk2, run_sliceBound b1, run_sliceBound b2, Sem.run, pure]
  | some mx =>
    obtain ⟨k3, hk3⟩ := (he mx).asN_eq h3
    cases hi with
    | none => cases h4 rfl
    | some hi =>
      obtain ⟨k2, hk2⟩ := (he hi).asN_eq h2
      cases lo with
      | none => obtain rfl := bnd_none h1; simp [Instr.sliceBounds, hk2, hk3, run_sliceBound b2, run_sliceBound b3, Sem.run, pure]
      | some lo =>
        obtain ⟨k, hk⟩ := (he lo).asN_eq h1
        simp [Instr.sliceBounds, hk, hk2, hk3, run_sliceBound b1, run_sliceBound b2, run_sliceBound b3, Sem.run, pure]

/-- A piece of a slice that is only read. -/
theorem sl_piece {fv : Nat → Value} {ok : Nat → Prop} {rows : List (List V)} {size : Nat} {A : Option Addr} {g : Nat → Nat → Value} (hs : ∀ r ∈ rows, r.length = size)
    (hA : rows.length ≠ 0 → ∃ ad : Addr, A = some ad ∧ ok ad.block ∧ ∀ i j, i < rows.length → j < size → w.cell? (ad.add (i * size + j)) = some (g i j)) (hr : ∀ i j, i < rows.length → j < size → Dp w ok (cellAt rows i j) (g i j))
    (z : Nat) (hz : rows.length ≠ 0 → z = size) {l r m : Nat} (h1 : l ≤ r) (h2 : r ≤ rows.length) (h3 : r ≤ m) : Rp fv w ok μ (.sl ((rows.drop l).take (r - l))) (.slice (if m = l then A else A.map (·.add (l * z))) (r - l) (m - l)) := by
  have hlen : ((rows.drop l).take (r - l)).length = r - l := by simp; omega
  have hat : ∀ i, i < r - l → ((rows.drop l).take (r - l)).getD i [] = rows.getD (l + i) [] := by
    intro i hi
    simp [List.getD_eq_getElem?_getD, List.getElem?_take, hi, List.getElem?_drop]
  refine .sl _ _ _ size _ (fun i j => g (l + i) j) hlen (by omega) (fun q hq => hs q (List.mem_of_mem_drop (List.mem_of_mem_take hq))) (fun hn => ?_) fun i j hi hj => ?_
  · obtain ⟨ad, rfl, hok, hc⟩ := hA (by omega)
    rw [if_neg (by omega), hz (by omega)]
    refine ⟨_, rfl, by rw [add_block]; exact hok, fun i j hi hj => ?_⟩
    rw [add_add, ← Nat.add_assoc, ← Nat.add_mul]
    exact hc (l + i) j (by omega) hj
  · rw [hat i hi]
    exact hr (l + i) j (by omega) hj

theorem slice_sound (H : HS c h n μ w) {T : TypeId} {x : V} {xv : Value} {v : V} {lo hi mx : Option Operand} {e : Operand → V} {ρ : Operand → Value} (he : ∀ x, R c h μ w (e x) (ρ x)) (hx : R c h μ w x xv)
    (hv : aslice c.P h T x (lo.map e) (hi.map e) (mx.map e) = some v) : ∃ y, (Instr.sliceAt T xv (lo.map ρ) (hi.map ρ) (mx.map ρ)).run c.P w = .ok y w ∧ R c h μ w v y := by
  generalize hmx : mx.map e = mxe at hv
  unfold aslice at hv
  split at hv
  · -- a string
    rename_i s hs
    have hu := seqo_str hs
    have hmn : mx = none := by cases mx with | none => rfl | some m => cases hmx
    subst hmn
    split at hv
    · rename_i l r h1 h2
      split at hv
      · rename_i hb
        cases hv
        obtain ⟨rfl, _⟩ := hx.s_eq
        have hrun := run_bounds (P := c.P) (iss := false) (len := s.size) (cap := s.size) (mx := none) he h1 h2 rfl ⟨hb.1, hb.2, Nat.le_refl _⟩ (fun _ => rfl)
        simp only [Option.map_none] at hrun
        exact ⟨.string (s.extract l r), by simp [Instr.sliceAt, Instr.slice, run_under hu, hrun, Sem.run, pure], .s _ rfl⟩
      · cases hv
    · cases hv
  · -- read, no max
    rename_i el z by' rows hs
    obtain ⟨hu, hz, _⟩ := seqo_slice hs
    have hmn : mx = none := by cases mx with | none => rfl | some m => cases hmx
    subst hmn
    split at hv
    · rename_i l r h1 h2
      split at hv
      · rename_i hb
        cases hv
        obtain ⟨cp, size, A, g, rfl, hc, hsz, hA, hr⟩ := hx.sl_inv
        have hrun := run_bounds (P := c.P) (iss := true) (len := rows.length) (cap := cp) (mx := none) he h1 h2 rfl ⟨hb.1, by omega, Nat.le_refl _⟩ (fun _ => rfl)
        simp only [Option.map_none] at hrun
        refine ⟨.slice (if cp = l then A else A.map (·.add (l * z))) (r - l) (cp - l), by simp [Instr.sliceAt, Instr.slice, run_under hu, hrun, run_size hz, Sem.run, pure], ?_⟩
        refine sl_piece hsz hA hr z (fun hn => ?_) hb.1 hb.2.1 (by omega)
        have hrow : rows.getD 0 [] ∈ rows := by rw [List.getD_eq_getElem?_getD, List.getElem?_eq_getElem (by omega)]; exact List.getElem_mem _
        rw [← hb.2.2 _ hrow, hsz _ hrow]
      · cases hv
    · cases hv
  · -- read, a max
    rename_i el z by' rows mxv hs
    obtain ⟨hu, hz, _⟩ := seqo_slice hs
    obtain ⟨mo, rfl⟩ : ∃ mo, mx = some mo := by cases mx with | none => cases hmx | some m => exact ⟨m, rfl⟩
    have hmxv : e mo = mxv := by simpa using hmx
    split at hv
    · rename_i l r m h1 h2 h3
      split at hv
      · rename_i hb
        obtain ⟨cp, size, A, g, rfl, hc, hsz, hA, hr⟩ := hx.sl_inv
        obtain ⟨ho, rfl⟩ : ∃ ho, hi = some ho := by cases hi with | none => have := hb.2.2.2.1; cases this | some ho => exact ⟨ho, rfl⟩
        have hrun := run_bounds (P := c.P) (iss := true) (len := rows.length) (cap := cp) (hi := some ho) (mx := some mo) he h1 h2 (show bnd ((some mo).map e) cp = some m by simpa [bnd, hmxv] using h3) ⟨hb.1, hb.2.1, Nat.le_trans hb.2.2.1 hc⟩ (fun h => by cases h)
        have hy : (Instr.sliceAt T (.slice A rows.length cp) (lo.map ρ) ((some ho).map ρ) ((some mo).map ρ)).run c.P w = .ok (.slice (if m = l then A else A.map (·.add (l * z))) (r - l) (m - l)) w := by
          simp only [Instr.sliceAt, Instr.slice, Sem.run_bind, run_under hu, Result.andThen_ok, hrun, run_size hz, Sem.run_pure]
        refine ⟨_, hy, ?_⟩
        split at hv
        · rename_i hlm
          cases hv
          subst hlm
          rw [if_pos rfl, Nat.sub_self, show r - l = 0 by omega]
          exact .cap0 _
        · rename_i hlm
          cases hv
          refine sl_piece hsz hA hr z (fun hn => ?_) hb.1 (by omega) hb.2.1
          have hrow : rows.getD 0 [] ∈ rows := by rw [List.getD_eq_getElem?_getD, List.getElem?_eq_getElem (by omega)]; exact List.getElem_mem _
          rw [← hb.2.2.2.2 _ hrow, hsz _ hrow]
      · cases hv
    · cases hv
  · rename_i el z by' hs
    obtain ⟨hu, hz, _⟩ := seqo_slice hs
    have hmn : mx = none := by cases mx with | none => rfl | some m => cases hmx
    subst hmn
    split at hv
    · rename_i h1 h2
      cases hv
      obtain ⟨A, rfl⟩ := hx.cap0_inv
      have hrun := run_bounds (P := c.P) (iss := true) (len := 0) (cap := 0) (mx := none) he h1 h2 rfl ⟨Nat.le_refl _, Nat.le_refl _, Nat.le_refl _⟩ (fun _ => rfl)
      simp only [Option.map_none] at hrun
      exact ⟨.slice A 0 0, by simp [Instr.sliceAt, Instr.slice, run_under hu, hrun, run_size hz, Sem.run, pure], .cap0 _⟩
    · cases hv
  · rename_i el z by' b off len cap hs
    obtain ⟨hu, hz, _⟩ := seqo_slice hs
    split at hv
    · rename_i l r m h1 h2 h3
      split at hv
      · rename_i B hB
        split at hv
        · rename_i hb
          cases hv
          have h4 : hi = none → mx = none := by
            intro hn
            rcases hb.2.2.2.1 with h5 | h5
            · subst hn; cases h5
            · cases mx with | none => rfl | some m => subst hmx; cases h5
          have hrunx : ∀ len cap', bnd (hi.map e) len = some r → bnd (mx.map e) cap' = some m → m ≤ cap' → ∀ A, (Instr.sliceAt T (.slice A len cap') (lo.map ρ) (hi.map ρ) (mx.map ρ)).run c.P w = .ok (.slice (if m = l then A else A.map (·.add (l * z))) (r - l) (m - l)) w := by
            intro len cap' g2 g3 g4 A
            have hrun := run_bounds (P := c.P) (iss := true) (len := len) (cap := cap') he h1 g2 g3 ⟨hb.1, hb.2.1, g4⟩ h4
            simp only [Instr.sliceAt, Instr.slice, Sem.run_bind, run_under hu, Result.andThen_ok, hrun, run_size hz, Sem.run_pure]
          obtain ⟨hlc, ⟨q, base, size, hmu, rfl⟩ | ⟨h0, h00, A, t, hmu, rfl⟩⟩ := hx.loc_inv
          · refine ⟨_, hrunx len cap h2 (by rw [hmx]; exact h3) hb.2.2.1 _, ?_⟩
            have hsz : size = z := by
              rcases H.blk b B hB with ⟨g1, _⟩ | ⟨k', base', g1, _⟩
              · rw [hmu] at g1; cases g1
              · rw [hmu] at g1; cases g1; exact hb.2.2.2.2
            by_cases hml : m = l
            · rw [if_pos hml, show r - l = 0 by omega, show m - l = 0 by omega]
              exact .loc0 _ _ _ _ hmu
            · rw [if_neg hml]
              have := Rp.loc (fvals := c.fvals) (w := w) (ok := okB c h μ w) (μ := μ) b (off + l) (r - l) (m - l) q base size hmu (by omega)
              simp only [Option.map_some, add_plain]
              rw [show base + off * size + l * z = base + (off + l) * size by rw [hsz, Nat.add_mul, Nat.add_assoc]]
              exact this
          · subst h0 h00
            refine ⟨_, hrunx 0 0 h2 (by rw [hmx]; exact h3) hb.2.2.1 _, ?_⟩
            rw [show r - l = 0 by omega, show m - l = 0 by omega]
            exact .loc0 _ _ _ _ hmu
        · cases hv
      · cases hv
    · cases hv
  · cases hv
end
end Go.Proofs.Ytahgddfnbjpfiaa.Am

/- An abstract machine over values: the operations that turn no memory are right (3). -/
set_option linter.unusedVariables false
set_option linter.unusedSimpArgs false
namespace Go.Proofs.Ytahgddfnbjpfiaa.Am
open Go Go.RowKit

section
variable {c : Cx} {h : Hp} {n : Nat} {μ : Mu} {w : World}
theorem bytesOf_length : ∀ {rows : List (List V)} {l : List Int}, bytesOf rows = some l → l.length = rows.length ∧ ∀ i, i < rows.length → rows.getD i [] = [.s (.int .u8 (l.getD i 0))]
  | [], l, h => by simp [bytesOf] at h; subst h; simp
  | row :: rows, l, h => by
    unfold bytesOf at h
    split at h
    · rename_i heq; cases heq
    · rename_i n l' heq
      cases heq
      simp only [Option.map_eq_some_iff] at h
      obtain ⟨l2, h2, rfl⟩ := h
      obtain ⟨h3, h4⟩ := bytesOf_length h2
      refine ⟨by simp [h3], fun i hi => ?_⟩
      cases i with
      | zero => simp
      | succ i => simpa using h4 i (by simpa using hi)
    · cases h
theorem foldl_push : ∀ (ns : List Int) (s : ByteArray), ns.foldl (fun r n => r.push (UInt8.ofNat n.toNat)) s = ⟨s.data ++ (ns.map fun n => UInt8.ofNat n.toNat).toArray⟩
  | [], s => by simp
  | n :: ns, s => by
    rw [List.foldl_cons, foldl_push ns]
    congr 1
    simp [ByteArray.push]
/-- A slice whose rows are known is a slice in the machine, with these cells. -/
theorem rows_sound (H : HS c h n μ w) {x : V} {xv : Value} {rows : List (List V)} (hx : R c h μ w x xv) (hr : rowsOf h x = some rows) :
    ∃ A cp size, xv = .slice A rows.length cp ∧ rows.length ≤ cp ∧ (rows.length ≠ 0 → ∃ ad : Addr, A = some ad ∧ (∀ r ∈ rows, r.length = size) ∧ ∀ i j, i < rows.length → j < size → ∃ y, w.cell? (ad.add (i * size + j)) = some y ∧ R c h μ w (cellAt rows i j) y) := by
  unfold rowsOf at hr
  split at hr
  · rename_i rows'
    cases hr
    obtain ⟨cp, size, A, g, rfl, hc, hs, hA, hr⟩ := hx.sl_inv
    refine ⟨A, cp, size, rfl, hc, fun hn => ?_⟩
    obtain ⟨ad, rfl, hok, hcell⟩ := hA hn
    exact ⟨ad, rfl, hs, fun i j hi hj => ⟨_, hcell i j hi hj, (hr i j hi hj).R⟩⟩
  · cases hr
    obtain ⟨A, rfl⟩ := hx.cap0_inv
    exact ⟨A, 0, 0, rfl, Nat.le_refl _, fun hn => absurd rfl hn⟩
  · rename_i b off len cap
    split at hr
    · rename_i B hB
      split at hr
      · rename_i hb
        cases hr
        have hlen : ((B.rows.drop off).take len).length = len := by simp; omega
        rw [hlen]
        obtain ⟨hlc, ⟨q, base, size, hmu, rfl⟩ | ⟨h0, h00, A, t, hmu, rfl⟩⟩ := hx.loc_inv
        · refine ⟨_, cap, B.size, rfl, hlc, fun hn => ⟨_, rfl, ?_, fun i j hi hj => ?_⟩⟩
          · intro r hr
            rcases H.blk b B hB with ⟨g1, _⟩ | ⟨k', base', g1, g2, g3, g4, g5⟩
            · rw [hmu] at g1; cases g1
            · exact g4 r (List.mem_of_mem_drop (List.mem_of_mem_take hr))
          · obtain ⟨hs, y, h1, _, h3⟩ := H.at hB hmu (show off + i < B.rows.length by omega) hj
            subst hs
            refine ⟨y, ?_, ?_⟩
            · rw [add_plain, show base + off * B.size + (i * B.size + j) = base + ((off + i) * B.size + j) by rw [Nat.add_mul]; omega]
              exact h1
            · have h4 : cellAt ((B.rows.drop off).take len) i j = cellAt B.rows (off + i) j := by simp [cellAt, List.getD_eq_getElem?_getD, List.getElem?_take, hi, List.getElem?_drop]
              rw [h4]; exact h3
        · subst h0 h00
          exact ⟨A, 0, 0, rfl, Nat.le_refl _, fun hn => absurd rfl hn⟩
      · cases hr
    · cases hr
  · cases hr
theorem conv_sound (H : HS c h n μ w) {src dst : TypeId} {p v : V} {x : Value} (hp : R c h μ w p x) (hv : aconv c.P h src dst p = some v) : ∃ z, (convert src dst x).run c.P w = .ok z w ∧ R c h μ w v z := by
  unfold aconv at hv
  split at hv
  · rename_i d k k' m h1 h2
    cases hv
    obtain ⟨rfl, _⟩ := hp.s_eq
    refine ⟨.int k (k.wrap m), ?_, .s _ rfl⟩
    simp [convert, run_under h1, run_under h2, Conv.intToInt, Sem.run, pure]
  · rename_i b h1 h2
    cases hv
    obtain ⟨rfl, _⟩ := hp.s_eq
    exact ⟨.string b, by simp [convert, run_under h1, run_under h2, Sem.run, pure], .s _ rfl⟩
  · rename_i e h1 h2
    split at hv
    · rename_i rows h3 h4
      simp only [Option.map_eq_some_iff] at hv
      obtain ⟨l, hl, rfl⟩ := hv
      obtain ⟨A, cp, size, rfl, hc, hA⟩ := rows_sound H hp h4
      obtain ⟨hl1, hl2⟩ := bytesOf_length hl
      refine ⟨.string (strOf l), ?_, .s _ rfl⟩
      rw [run_convert_bytes_string w src dst e A rows.length cp h1 h3 h2]
      by_cases hn : rows.length = 0
      · obtain rfl : l = [] := List.eq_nil_of_length_eq_zero (by omega)
        rw [hn]
        cases A with
        | none => simp [Conv.bytesToString, Sem.run, pure]; rfl
        | some ad =>
          rw [run_bytesToString w ad 0 cp [] (by simp [loadCells, loadCellsFrom, Sem.run, pure])]
          rfl
      · obtain ⟨ad, rfl, hs, hcell⟩ := hA hn
        have hs1 : size = 1 := by
          have h5 := hl2 0 (by omega)
          have h6 := hs (rows.getD 0 []) (by rw [List.getD_eq_getElem?_getD, List.getElem?_eq_getElem (by omega)]; exact List.getElem_mem _)
          rw [h5] at h6
          simpa using h6.symm
        subst hs1
        have hload : (loadCells ad rows.length).run c.P w = .ok (l.map (Value.int .u8)).toArray w := by
          have h7 := run_loadCells_list (P := c.P) w ad (l.map (Value.int .u8)) (fun j v hj => by
            simp only [List.getElem?_map, Option.map_eq_some_iff] at hj
            obtain ⟨m, hm, rfl⟩ := hj
            have hj' : j < rows.length := by rw [← hl1]; exact (List.getElem?_eq_some_iff.1 hm).1
            obtain ⟨y, h8, h9⟩ := hcell j 0 hj' (by omega)
            have h10 : cellAt rows j 0 = .s (.int .u8 m) := by
              unfold cellAt
              rw [hl2 j hj']
              simp [List.getD_eq_getElem?_getD, hm]
            rw [h10] at h9
            obtain ⟨rfl, _⟩ := h9.s_eq
            simpa using h8)
          simpa [hl1] using h7
        rw [run_bytesToString w ad rows.length cp l hload, foldl_push]
        simp [strOf, ByteArray.empty, ByteArray.emptyWithCapacity]
        rfl
    · cases hv
  · cases hv

theorem cellish_sound {v : V} {x : Value} (hx : R c h μ w v x) (hc : cellish v = true) : (∀ xs, x ≠ .agg xs) ∧ x.oneCell' = true := by
  cases hx <;> simp [cellish, Value.oneCell'] at hc ⊢
  rename_i hf
  cases x <;> simp_all [flat]
/-- What a value's cells are, in the machine. -/
theorem cellsV_sound {v : V} {vs : List V} {x : Value} (hx : R c h μ w v x) (hv : cellsV v = some vs) : x.cells.size = vs.length ∧ (∀ i, i < vs.length → R c h μ w (vs.getD i .undef) (x.cells.getD i Go.undef)) ∧ ((∀ q ∈ vs, cellish q = true) → ∀ y ∈ x.cells.toList, y.oneCell' = true) := by
  have key : ∀ {v : V} {x : Value}, R c h μ w v x → cellish v = true → (∀ xs, x ≠ .agg xs) ∧ x.oneCell' = true := fun hx hc => cellish_sound hx hc
  unfold cellsV at hv
  split at hv
  · rename_i cs
    cases hv
    obtain ⟨xs, rfl, hl, hr⟩ := hx.agg_inv
    refine ⟨hl, hr, fun hq y hy => ?_⟩
    obtain ⟨i, hi, rfl⟩ := List.getElem_of_mem hy
    have hi' : i < xs.size := by simpa [Value.cells] using hi
    have h1 := hr i (by omega)
    have h2 := hq (vs.getD i .undef) (by rw [List.getD_eq_getElem?_getD, List.getElem?_eq_getElem (by omega)]; exact List.getElem_mem _)
    have h3 := (key h1 h2).2
    simpa [Value.cells, hi'] using h3
  · split at hv
    · rename_i hc
      cases hv
      obtain ⟨h1, h2⟩ := key hx hc
      have h3 : x.cells = #[x] := by
        cases x <;> simp_all [Value.cells]
      rw [h3]
      refine ⟨rfl, fun i hi => ?_, fun _ y hy => ?_⟩
      · obtain rfl : i = 0 := by simp at hi; exact hi
        simpa using hx
      · simp at hy; subst hy; exact h2
    · cases hv

theorem setAt_length (row : List V) (col : Nat) (cs : List V) (h : col + cs.length ≤ row.length) : (setAt row col cs).length = row.length := by
  unfold setAt
  simp
  omega
theorem setAt_get (row : List V) (col : Nat) (cs : List V) (h : col + cs.length ≤ row.length) (i : Nat) : (setAt row col cs).getD i .undef = if col ≤ i ∧ i < col + cs.length then cs.getD (i - col) .undef else row.getD i .undef := by
  unfold setAt
  simp only [List.getD_eq_getElem?_getD, List.append_assoc]
  have hl : (row.take col).length = col := by simp; omega
  rcases Nat.lt_or_ge i col with h1 | h1
  · rw [List.getElem?_append_left (by omega), if_neg (by omega), List.getElem?_take, if_pos h1]
  · rw [List.getElem?_append_right (by omega), hl]
    rcases Nat.lt_or_ge (i - col) cs.length with h2 | h2
    · rw [List.getElem?_append_left h2, if_pos (by omega)]
    · rw [List.getElem?_append_right h2, if_neg (by omega), List.getElem?_drop]
      congr 2
      omega

/-- What fill's inner loop does. -/
theorem foldl_set (off : Nat) : ∀ (xs : List Value) (j : Nat) (cells : Array Value), off + j + xs.length ≤ cells.size →
    ((xs.zipIdx j).foldl (fun cs (q : Value × Nat) => cs.setIfInBounds (off + q.2) q.1) cells).size = cells.size ∧
    ∀ i, ((xs.zipIdx j).foldl (fun cs (q : Value × Nat) => cs.setIfInBounds (off + q.2) q.1) cells).getD i Go.undef = if off + j ≤ i ∧ i < off + j + xs.length then xs.getD (i - (off + j)) Go.undef else cells.getD i Go.undef := by
  intro xs
  induction xs with
  | nil => intro j cells h; simp; intro i h1 h2; omega
  | cons x xs ih =>
    intro j cells h
    simp only [List.zipIdx_cons, List.foldl_cons]
    simp only [List.length_cons] at h
    obtain ⟨h1, h2⟩ := ih (j + 1) (cells.setIfInBounds (off + j) x) (by simp; omega)
    refine ⟨by rw [h1]; simp, fun i => ?_⟩
    rw [h2 i]
    simp only [List.length_cons]
    by_cases c1 : off + (j + 1) ≤ i ∧ i < off + (j + 1) + xs.length
    · rw [if_pos c1, if_pos (by omega)]
      rw [show i - (off + j) = (i - (off + (j + 1))) + 1 by omega]
      simp
    · rw [if_neg c1]
      by_cases c2 : i = off + j
      · subst c2
        rw [if_pos (by omega)]
        simp [Array.getD_eq_getD_getElem?, Array.getElem?_setIfInBounds]
        rw [if_pos (by omega)]
        rfl
      · rw [if_neg (by omega)]
        simp [Array.getD_eq_getD_getElem?, Array.getElem?_setIfInBounds]
        rw [if_neg (by omega)]

theorem fill_sound (pl : Nat → Option (Nat × Nat)) : ∀ (parts : List (Nat × V)) (xs : List (Nat × Value)) (cs cs' : List V) (cells : Array Value), parts.length = xs.length →
    (∀ (i : Nat) (p : Nat × V) (q : Nat × Value), parts[i]? = some p → xs[i]? = some q → p.1 = q.1 ∧ R c h μ w p.2 q.2) → cells.size = cs.length → (∀ i, i < cs.length → R c h μ w (cs.getD i .undef) (cells.getD i Go.undef)) → afill pl cs parts = some cs' →
    ∃ cells', Instr.fill pl cells xs = some cells' ∧ cells'.size = cs'.length ∧ ∀ i, i < cs'.length → R c h μ w (cs'.getD i .undef) (cells'.getD i Go.undef) := by
  intro parts
  induction parts with
  | nil =>
    intro xs cs cs' cells hl _ hs hr hf
    obtain rfl : xs = [] := List.eq_nil_of_length_eq_zero hl.symm
    simp only [afill, Option.some.injEq] at hf
    subst hf
    exact ⟨cells, rfl, hs, hr⟩
  | cons p parts ih =>
    intro xs cs cs' cells hl hp hs hr hf
    obtain ⟨i, v⟩ := p
    cases xs with
    | nil => simp at hl
    | cons q xs =>
      obtain ⟨j, x⟩ := q
      obtain ⟨hij, hvx⟩ := hp 0 _ _ rfl rfl
      simp only at hij hvx
      subst hij
      simp only [afill] at hf
      split at hf
      · rename_i o z vs hpl hvs
        split at hf
        · rename_i hb
          obtain ⟨k1, k2, _⟩ := cellsV_sound hvx hvs
          have hwl : (vs.map wk).length = z := by simp [hb.1]
          obtain ⟨g1, g2⟩ := foldl_set o x.cells.toList 0 cells (by simp; omega)
          obtain ⟨cells', e1, e2, e3⟩ := ih xs (setAt cs o (vs.map wk)) cs' (x.cells.zipIdx.foldl (fun cs (q : Value × Nat) => cs.setIfInBounds (o + q.2) q.1) cells) (by simpa using hl)
            (fun i p q h1 h2 => hp (i + 1) p q (by simpa using h1) (by simpa using h2)) (by
              rw [setAt_length _ _ _ (by omega), ← hs, ← g1, ← Array.foldl_toList]; simp) (fun i hi => by
              rw [setAt_length _ _ _ (by omega)] at hi
              rw [setAt_get _ _ _ (by omega)]
              have g3 := g2 i
              rw [← Array.foldl_toList, Array.toList_zipIdx, g3]
              simp only [Array.length_toList, Nat.add_zero]
              by_cases c1 : o ≤ i ∧ i < o + (vs.map wk).length
              · rw [if_pos c1, if_pos (by omega)]
                have h4 : (vs.map wk).getD (i - o) .undef = wk (vs.getD (i - o) .undef) := by simp [List.getD_eq_getElem?_getD, List.getElem?_eq_getElem (show i - o < vs.length by omega)]
                have h5 : x.cells.toList.getD (i - o) Go.undef = x.cells.getD (i - o) Go.undef := by simp [List.getD_eq_getElem?_getD, Array.getD_eq_getD_getElem?]
                rw [h4, h5]
                exact (k2 _ (by omega)).weak
              · rw [if_neg c1, if_neg (by omega)]
                exact hr i hi) hf
          refine ⟨cells', ?_, e2, e3⟩
          simp only [Instr.fill, hpl]
          rw [if_neg (by simp; omega)]
          exact e1
        · cases hf
      · cases hf
end
end Go.Proofs.Ytahgddfnbjpfiaa.Am

/- An abstract machine over values: the operations that turn no memory are right (4). -/
set_option linter.unusedVariables false
set_option linter.unusedSimpArgs false
namespace Go.Proofs.Ytahgddfnbjpfiaa.Am
open Go Go.RowKit

section
variable {c : Cx} {h : Hp} {n : Nat} {μ : Mu} {w : World}
theorem run_zero {P : Program} {T : TypeId} {z : Value} (hz : zro P T = some z) : (zeroValue T).run P w = .ok z w := by
  obtain ⟨i, hi, hz⟩ := Option.bind_eq_some_iff.1 hz
  simp [zeroValue, typeInfo, Sem.run, program, hi, hz]
theorem cellsZ_sound (z : Value) : z.cells.size = (cellsZ z).length ∧ ∀ i, i < (cellsZ z).length → R c h μ w ((cellsZ z).getD i .undef) (z.cells.getD i Go.undef) := by
  unfold cellsZ
  split
  · rename_i xs
    refine ⟨by simp [Value.cells], fun i hi => ?_⟩
    have hi' : i < xs.size := by simpa using hi
    have h1 : (xs.toList.map cellOf).getD i .undef = cellOf xs[i] := by simp [List.getD_eq_getElem?_getD, hi']
    have h2 : xs.getD i Go.undef = xs[i] := by simp [hi']
    rw [h1, show (Value.agg xs).cells = xs from rfl, h2]
    exact Rp.cell _
  · rename_i hz
    have h3 : z.cells = #[z] := by cases z <;> simp_all [Value.cells]
    rw [h3]
    refine ⟨rfl, fun i hi => ?_⟩
    obtain rfl : i = 0 := by simp at hi; exact hi
    simpa using Rp.val z

theorem build_sound {T : TypeId} {parts : Array (Nat × Operand)} {e : Operand → V} {ρ : Operand → Value} {v : V} (he : ∀ x, R c h μ w (e x) (ρ x)) (hv : abuild c.P e T parts.toList = some v) :
    ∃ y, (Instr.build T (parts.map fun q => (q.1, ρ q.2))).run c.P w = .ok y w ∧ R c h μ w v y := by
  have hparts : ∀ (i : Nat) (p : Nat × V) (q : Nat × Value), (parts.toList.map fun q => (q.1, e q.2))[i]? = some p → (parts.toList.map fun q => (q.1, ρ q.2))[i]? = some q → p.1 = q.1 ∧ R c h μ w p.2 q.2 := by
    intro i p q h1 h2
    simp only [List.getElem?_map, Option.map_eq_some_iff] at h1 h2
    obtain ⟨a, ha, rfl⟩ := h1
    obtain ⟨b, hb, rfl⟩ := h2
    rw [ha] at hb
    cases hb
    exact ⟨rfl, he _⟩
  have fin : ∀ (pl : Nat → Option (Nat × Nat)) z, (∀ xs, c.P.built T xs = Instr.fill pl z.cells xs) → (afill pl (cellsZ z) (parts.toList.map fun q => (q.1, e q.2))).map V.agg = some v →
      ∃ y, (Instr.build T (parts.map fun q => (q.1, ρ q.2))).run c.P w = .ok y w ∧ R c h μ w v y := by
    intro pl z hb hv
    obtain ⟨z1, z2⟩ := cellsZ_sound (c := c) (h := h) (μ := μ) (w := w) z
    simp only [Option.map_eq_some_iff] at hv
    obtain ⟨cs, hf, rfl⟩ := hv
    obtain ⟨cells', e1, e2, e3⟩ := fill_sound _ _ (parts.toList.map fun q => (q.1, ρ q.2)) _ cs z.cells (by simp) hparts z1 z2 hf
    exact ⟨.agg cells', run_build w T _ cells' (by rw [hb]; simpa using e1), .agg _ _ e2 e3⟩
  unfold abuild at hv
  split at hv
  · rename_i z l hz hl
    obtain ⟨i, hi, hz⟩ := Option.bind_eq_some_iff.1 hz
    unfold plc at hl
    split at hl
    · rename_i fs hu
      split at hl
      · rename_i l' hm
        cases hl
        exact fin _ z (fun xs => by simp [Program.built, hi, hu, hz, hm]) hv
      · cases hl
    · split at hl <;> cases hl
    · cases hl
  · rename_i z sz hz hl
    obtain ⟨i, hi, hz⟩ := Option.bind_eq_some_iff.1 hz
    unfold plc at hl
    split at hl
    · split at hl <;> cases hl
    · rename_i n' el hu
      split at hl
      · rename_i ie hie
        cases hl
        exact fin _ z (fun xs => by simp [Program.built, hi, hu, hz, hie]) hv
      · cases hl
    · cases hl
  · cases hv

theorem len_sound {T : TypeId} {p v : V} {x : Value} (hp : R c h μ w p x) (hv : alen c.P T p = some v) (t : TypeId) : ∃ z, (Builtin.len_ #[T] t #[x]).run c.P w = .ok z w ∧ R c h μ w v z := by
  unfold alen at hv
  split at hv
  · rename_i s hs
    cases hv
    obtain ⟨rfl, _⟩ := hp.s_eq
    exact ⟨goInt s.size, by simp [Builtin.len_, run_under (seqo_str hs), Sem.run, pure], .s _ rfl⟩
  · rename_i e z b rows hs
    cases hv
    obtain ⟨cp, size, A, g, rfl, _⟩ := hp.sl_inv
    exact ⟨goInt rows.length, by simp [Builtin.len_, run_under (seqo_slice hs).1, Sem.run, pure], .s _ rfl⟩
  · rename_i e z b q o m cp hs
    cases hv
    obtain ⟨_, ⟨k, base, size, _, rfl⟩ | ⟨rfl, rfl, A, t', _, rfl⟩⟩ := hp.loc_inv
    · exact ⟨goInt m, by simp [Builtin.len_, run_under (seqo_slice hs).1, Sem.run, pure], .s _ rfl⟩
    · exact ⟨goInt 0, by simp [Builtin.len_, run_under (seqo_slice hs).1, Sem.run, pure], .s _ rfl⟩
  · rename_i e z b hs
    cases hv
    obtain ⟨A, rfl⟩ := hp.cap0_inv
    exact ⟨goInt 0, by simp [Builtin.len_, run_under (seqo_slice hs).1, Sem.run, pure], .s _ rfl⟩
  · rename_i m e z hs
    cases hv
    exact ⟨goInt m, by simp [Builtin.len_, run_under (seqo_array hs).1, Sem.run, pure], .s _ rfl⟩
  · cases hv
theorem cap_sound {T : TypeId} {p v : V} {x : Value} (hp : R c h μ w p x) (hv : acap c.P T p = some v) (t : TypeId) : ∃ z, (Builtin.cap_ #[T] t #[x]).run c.P w = .ok z w ∧ R c h μ w v z := by
  unfold acap at hv
  split at hv
  · rename_i e z b q o m cp hs
    cases hv
    obtain ⟨_, ⟨k, base, size, _, rfl⟩ | ⟨rfl, rfl, A, t', _, rfl⟩⟩ := hp.loc_inv
    · exact ⟨goInt cp, by simp [Builtin.cap_, run_under (seqo_slice hs).1, Sem.run, pure], .s _ rfl⟩
    · exact ⟨goInt 0, by simp [Builtin.cap_, run_under (seqo_slice hs).1, Sem.run, pure], .s _ rfl⟩
  · rename_i e z b hs
    cases hv
    obtain ⟨A, rfl⟩ := hp.cap0_inv
    exact ⟨goInt 0, by simp [Builtin.cap_, run_under (seqo_slice hs).1, Sem.run, pure], .s _ rfl⟩
  · cases hv
theorem min_sound {a b v : V} {x y : Value} (hx : R c h μ w a x) (hy : R c h μ w b y) (hv : amin [a, b] = some v) (ts : Array TypeId) (t : TypeId) : ∃ z, (Builtin.min_ ts t #[x, y]).run c.P w = .ok z w ∧ R c h μ w v z := by
  unfold amin at hv
  split at hv
  · rename_i k m k' m' heq
    cases heq
    split at hv
    · rename_i hk; cases hv; subst hk
      obtain ⟨rfl, _⟩ := hx.s_eq
      obtain ⟨rfl, _⟩ := hy.s_eq
      exact ⟨_, by simp [Builtin.min_, Builtin.min2, Sem.run, pure], .s _ rfl⟩
    · cases hv
  · cases hv
theorem max_sound {a b v : V} {x y : Value} (hx : R c h μ w a x) (hy : R c h μ w b y) (hv : amax [a, b] = some v) (ts : Array TypeId) (t : TypeId) : ∃ z, (Builtin.max_ ts t #[x, y]).run c.P w = .ok z w ∧ R c h μ w v z := by
  unfold amax at hv
  split at hv
  · rename_i k m k' m' heq
    cases heq
    split at hv
    · rename_i hk; cases hv; subst hk
      obtain ⟨rfl, _⟩ := hx.s_eq
      obtain ⟨rfl, _⟩ := hy.s_eq
      exact ⟨_, by simp [Builtin.max_, Builtin.max2, Sem.run, pure], .s _ rfl⟩
    · cases hv
  · cases hv
theorem two_of_min {l : List V} {v : V} (hv : amin l = some v ∨ amax l = some v) : ∃ a b, l = [a, b] := by
  rcases hv with hv | hv
  · unfold amin at hv
    split at hv
    · exact ⟨_, _, rfl⟩
    · cases hv
  · unfold amax at hv
    split at hv
    · exact ⟨_, _, rfl⟩
    · cases hv

theorem pval_sound {plain : TypeId → Bool} (hp : PlainOk c.P plain) (H : HS c h n μ w) {e : Operand → V} {ρ : Operand → Value} (he : ∀ x, R c h μ w (e x) (ρ x)) {o : Oper} {v : V} (hv : pval c.P plain h e o.op = some v) :
    ∃ x, (execOp ρ o).run c.P w = .ok (.value x) w ∧ R c h μ w v x := by
  have fin : ∀ {s : Sem Value}, (∃ y, s.run c.P w = .ok y w ∧ R c h μ w v y) → ∃ x, (do pure (.value (← s)) : Sem Next).run c.P w = .ok (.value x) w ∧ R c h μ w v x := by
    rintro s ⟨y, h1, h2⟩
    exact ⟨y, by simp only [Sem.run_bind, h1, Result.andThen_ok, Sem.run_pure], h2⟩
  unfold execOp
  generalize o.op = op at hv ⊢
  cases op <;> simp only [pval] at hv <;> try (cases hv; done)
  case move x => cases hv; exact ⟨_, rfl, he x⟩
  case assign x => cases hv; exact ⟨_, rfl, he x⟩
  case pick cc a b =>
    split at hv
    · rename_i t ht
      cases hv
      have h1 := he cc
      rw [ht] at h1
      obtain ⟨h2, _⟩ := h1.s_eq
      refine ⟨if t then ρ a else ρ b, by simp [h2, asBool, Sem.run, pure], ?_⟩
      split <;> exact he _
    · cases hv
  case load T a => exact fin (load_sound H (he a) hv)
  case nilCheck x =>
    have h1 := he x
    split at hv
    · rename_i b r k hx
      cases hv
      rw [hx] at h1
      obtain ⟨q, base, size, hm, h2⟩ := h1.ptr_inv
      exact ⟨ρ x, by simp only [h2]; rfl, h1⟩
    · rename_i cs hx
      cases hv
      rw [hx] at h1
      obtain ⟨ad, g, h2, _⟩ := h1.pc_inv
      exact ⟨ρ x, by simp only [h2]; rfl, h1⟩
    · rename_i f cs hx
      cases hv
      rw [hx] at h1
      obtain ⟨xs, h2, _⟩ := h1.fn_inv
      exact ⟨ρ x, by simp only [h2]; rfl, h1⟩
    · cases hv
  case binOp op T x y yT =>
    obtain ⟨z, rfl, hz, h1⟩ := run_abin hp (he x) (he y) hv x y
    exact fin ⟨z, h1, .s _ hz⟩
  case unOp op T x =>
    have h1 := he x
    generalize e x = ex at hv h1
    cases ex <;> try (cases op <;> simp [aun] at hv; done)
    rename_i xv
    obtain ⟨h2, _⟩ := h1.s_eq
    obtain ⟨y, rfl, hy, h3⟩ := run_aun (P := c.P) (w := w) hv
    exact fin ⟨y, by rw [h2]; exact h3, .s _ hy⟩
  case convert src dst x => exact fin (conv_sound H (he x) hv)
  case slice T x lo hi mx => exact fin (slice_sound H he (he x) hv)
  case fieldAddr T x f => exact fin (fieldAddr_sound (he x) hv)
  case field T x f => exact fin (field_sound (he x) hv)
  case indexAddr T x i => exact fin (indexAddr_sound H (he x) (he i) hv)
  case index T x i => exact fin (index_sound (he x) (he i) hv)
  case build T parts => exact fin (build_sound he hv)
  case extract x i =>
    split at hv
    · rename_i vs hx
      have h1 := he x
      rw [hx] at h1
      obtain ⟨xs, h2, hl, hr⟩ := h1.tup_inv
      obtain ⟨hi, hvi⟩ := List.getElem?_eq_some_iff.1 hv
      have h3 := hr i hi
      have h4 : vs.getD i .undef = v := by simp [List.getD_eq_getElem?_getD, hv]
      rw [h4] at h3
      exact fin ⟨xs.getD i Go.undef, by simp [h2, Instr.extract, hl, hi, Sem.run, pure], h3⟩
    · cases hv
  case makeFunc fn first caps =>
    split at hv
    · rename_i f
      split at hv
      · rename_i hf
        cases hv
        subst hf
        refine fin ⟨.func (.func f) #[] (caps.map ρ), by simp [Instr.makeFunc, Sem.run, pure], .fn f _ _ (by simp) fun i hi => ?_⟩
        have hi' : i < caps.size := by simpa using hi
        have h1 : (caps.toList.map e).getD i .undef = e caps[i] := by simp [List.getD_eq_getElem?_getD, hi']
        have h2 : (caps.map ρ).getD i Go.undef = ρ caps[i] := by simp [hi']
        rw [h1, h2]
        exact he _
      · cases hv
    · cases hv
  case call cl =>
    obtain ⟨callee, args, argTypes⟩ := cl
    cases callee <;> simp only at hv <;> try (cases hv; done)
    rename_i b
    cases b <;> simp only at hv <;> try (cases hv; done)
    case cap =>
      split at hv
      · rename_i x T hx hT
        obtain rfl : args = #[x] := by simpa using congrArg List.toArray hx
        obtain rfl : argTypes = #[T] := by simpa using congrArg List.toArray hT
        obtain ⟨z, h1, h2⟩ := cap_sound (he x) hv o.type
        exact ⟨z, by simp [resolve, invoke, builtin, h1, Sem.run, pure], h2⟩
      · cases hv
    case len =>
      split at hv
      · rename_i x T hx hT
        obtain rfl : args = #[x] := by simpa using congrArg List.toArray hx
        obtain rfl : argTypes = #[T] := by simpa using congrArg List.toArray hT
        obtain ⟨z, h1, h2⟩ := len_sound (he x) hv o.type
        exact ⟨z, by simp [resolve, invoke, builtin, h1, Sem.run, pure], h2⟩
      · cases hv
    case max =>
      obtain ⟨a, b, hab⟩ := two_of_min (.inr hv)
      obtain ⟨x, l, hx⟩ : ∃ x l, args.toList = x :: l := by cases hl : args.toList with | nil => simp [hl] at hab | cons x l => exact ⟨x, l, rfl⟩
      obtain ⟨y, l', hy⟩ : ∃ y l', l = y :: l' := by cases l with | nil => simp [hx] at hab | cons y l' => exact ⟨y, l', rfl⟩
      subst hy
      obtain rfl : l' = [] := by simpa [hx] using congrArg List.length hab
      obtain rfl : args = #[x, y] := by simpa using congrArg List.toArray hx
      obtain ⟨z, h1, h2⟩ := max_sound (he x) (he y) (by simpa using hv) argTypes o.type
      exact ⟨z, by simp [resolve, invoke, builtin, h1, Sem.run, pure], h2⟩
    case min =>
      obtain ⟨a, b, hab⟩ := two_of_min (.inl hv)
      obtain ⟨x, l, hx⟩ : ∃ x l, args.toList = x :: l := by cases hl : args.toList with | nil => simp [hl] at hab | cons x l => exact ⟨x, l, rfl⟩
      obtain ⟨y, l', hy⟩ : ∃ y l', l = y :: l' := by cases l with | nil => simp [hx] at hab | cons y l' => exact ⟨y, l', rfl⟩
      subst hy
      obtain rfl : l' = [] := by simpa [hx] using congrArg List.length hab
      obtain rfl : args = #[x, y] := by simpa using congrArg List.toArray hx
      obtain ⟨z, h1, h2⟩ := min_sound (he x) (he y) (by simpa using hv) argTypes o.type
      exact ⟨z, by simp [resolve, invoke, builtin, h1, Sem.run, pure], h2⟩
end
end Go.Proofs.Ytahgddfnbjpfiaa.Am

/- An abstract machine over values: new blocks, stores, append. -/
set_option linter.unusedVariables false
set_option linter.unusedSimpArgs false
namespace Go.Proofs.Ytahgddfnbjpfiaa.Am
open Go Go.RowKit

structure St where
  t : Nat → V
  h : Hp
  n : Nat
def St.new (σ : St) (B : Blk) : St := ⟨σ.t, upd σ.h σ.n (some B), σ.n + 1⟩
def St.set (σ : St) (b : Nat) (B : Blk) : St := ⟨σ.t, upd σ.h b (some B), σ.n⟩
/-- Block b gives way to a new name. -/
def St.ren (σ : St) (b : Nat) (B : Blk) : St := ⟨σ.t, upd (upd σ.h b none) σ.n (some B), σ.n + 1⟩

def spare (z m : Nat) : List (List V) := List.replicate m (List.replicate z .any)

def Out (c : Cx) (σ : St) (μ : Mu) (w : World) (K : V → St → Prop) (r : Result Next) : Prop :=
  ∃ v x h' n' μ' w', (r = .ok (.value x) w' ∨ (r = .ok .skip w' ∧ x = Go.undef)) ∧ K v ⟨σ.t, h', n'⟩ ∧ HS c h' n' μ' w' ∧ Ext c σ.h μ w h' μ' w' ∧ R c h' μ' w' v x

section
variable {c : Cx} {h : Hp} {n : Nat} {μ : Mu} {w : World}
/-- A new block of rows. -/
theorem HS.newRow (H : HS c h n μ w) (B : Blk) (cells : Array Value) (e : TypeId) (fr : Nat × Nat) {w1 : World} (hw : Below w.heap.size w w1) (hsz : w1.heap.size = w.heap.size) (hl : ∀ r ∈ B.rows, r.length = B.size)
    (hfr : ∀ j, (B.size ≠ 1 ∨ j < B.rows.length * B.size) → ¬ (fr.1 ≤ j ∧ j < fr.2))
    (hc : ∀ i j, i < B.rows.length → j < B.size → ∃ x, cells[i * B.size + j]? = some x ∧ R c h μ w (cellAt B.rows i j) x) :
    HS c (upd h n (some B)) (n + 1) (upd μ n (some (.real w.heap.size 0 B.size))) (w1.alloc (.cells cells e fr)) ∧ Ext c h μ w (upd h n (some B)) (upd μ n (some (.real w.heap.size 0 B.size))) (w1.alloc (.cells cells e fr)) := by
  have hb : Below w.heap.size w (w1.alloc (.cells cells e fr)) := hw.alloc (by omega) _
  have hnew : (w1.alloc (.cells cells e fr)).heap[w.heap.size]? = some (.cells cells e fr) := by
    show (w1.heap.push _)[w.heap.size]? = _
    rw [← hsz]
    simp
  refine H.fresh hb w.heap.size 0 B (Nat.le_refl _) (by show w.heap.size < (w1.heap.push _).size; simp; omega) hl fun i j hi hj => ?_
  obtain ⟨x, h1, h2⟩ := hc i j hi hj
  have hlt : i * B.size + j < B.rows.length * B.size := by
    have : (i + 1) * B.size ≤ B.rows.length * B.size := Nat.mul_le_mul_right _ hi
    rw [Nat.add_mul] at this
    omega
  refine ⟨x, ?_, ?_, fun e => e.R h2⟩
  · simp only [World.cell?, hnew, Nat.zero_add]
    simpa using h1
  · intro o ho
    have := hfr o (ho.imp id fun e => by omega)
    simp only [World.frozen?, hnew]
    simpa using this

theorem grow_gen {P : Program} {t u e d : TypeId} {i : TypeInfo} {z : Value} {ty : TypeId} (ht : P.underlying t = some (.slice e)) (hu : P.underlying u = some (.slice d) ∨ P.underlying u = some .string) (hi : P.info? e = some i) (hz : i.zero = some z)
    {w : World} {b : Option Addr} {sLen sCap m : Nat} {olds news : Array Value} {x : Value}
    (ho : (Builtin.firstCells i.size sLen (.slice b sLen sCap)).run P w.drew = .ok olds w.drew) (hx : ∀ w', (Builtin.lenOf x).run P w' = .ok m w') (hn : (Builtin.firstCells i.size m x).run P w.drew = .ok news w.drew)
    (hg : sCap < sLen + m) (h63 : sLen + m ≤ 9223372036854775807) (hfit : Builtin.nextslicecap (sLen + m) sCap * i.bytes ≤ 281474976710656) :
    (Builtin.append_ #[t, u] ty #[.slice b sLen sCap, x]).run P w = .ok (.slice (some ⟨w.heap.size, 0, none⟩) (sLen + m) (grownCap w (sLen + m) sCap e))
      (w.drew.alloc (.cells (olds ++ news ++ Builtin.zeroCells z.cells (grownCap w (sLen + m) sCap e - (sLen + m))) e)) := by
  have hn' : ¬ (sLen + m ≤ sCap) := by omega
  have h63' : ¬ (9223372036854775807 < ((sLen : Int) + (m : Int))) := by omega
  have hfit' : ¬ (281474976710656 < Builtin.nextslicecap (sLen + m) sCap * i.bytes) := by omega
  have hd : { w with drawn := w.drawn + 1 } = w.drew := rfl
  rcases hu with hu | hu
  · simp [Builtin.append_, run_underlying ht, run_underlying hu, sizeOf, typeInfo, zeroValue, hi, hz, hx, hn', h63', hfit', Question.forced, newRow, grownCap, IntKind.max, IntKind.signed, IntKind.bits, ho, hn, hd]
  · simp [Builtin.append_, run_underlying ht, run_underlying hu, sizeOf, typeInfo, zeroValue, hi, hz, hx, hn', h63', hfit', Question.forced, newRow, grownCap, IntKind.max, IntKind.signed, IntKind.bits, ho, hn, hd]
theorem room_gen {P : Program} {t u e d : TypeId} {i : TypeInfo} {ty : TypeId} (ht : P.underlying t = some (.slice e)) (hu : P.underlying u = some (.slice d) ∨ P.underlying u = some .string) (hi : P.info? e = some i)
    {w w' : World} {b : Option Addr} {sLen sCap m : Nat} {news : Array Value} {x : Value}
    (hx : ∀ w', (Builtin.lenOf x).run P w' = .ok m w') (hn : (Builtin.firstCells i.size m x).run P w = .ok news w)
    (hg : sLen + m ≤ sCap) (hs : match b with | some a => (storeCells (a.add (sLen * i.size)) news.toList).run P w = .ok () w' | none => w' = w) :
    (Builtin.append_ #[t, u] ty #[.slice b sLen sCap, x]).run P w = .ok (.slice b (sLen + m) sCap) w' := by
  rcases hu with hu | hu
  · cases b with
    | none => subst hs; simp [Builtin.append_, run_underlying ht, run_underlying hu, sizeOf, typeInfo, hi, hx, hg, hn]
    | some a => simp only at hs; simp [Builtin.append_, run_underlying ht, run_underlying hu, sizeOf, typeInfo, hi, hx, hg, hn, hs]
  · cases b with
    | none => subst hs; simp [Builtin.append_, run_underlying ht, run_underlying hu, sizeOf, typeInfo, hi, hx, hg, hn]
    | some a => simp only at hs; simp [Builtin.append_, run_underlying ht, run_underlying hu, sizeOf, typeInfo, hi, hx, hg, hn, hs]
end
end Go.Proofs.Ytahgddfnbjpfiaa.Am
