/- Texts that the law's proof stands on: AmBase, AmHeap, AmTurn, AmPure, AmVal, AmOps, AmSnd, AmSnd2, AmSnd3, AmSnd4, AmMem, AmApp, AmAppZ, AmEff, AmEff2, AmCall, AmSound, AmCtl, AmDraw. -/
import Derived.Tactics
import Derived.Below
import Derived.Deep.Draws
import Derived.Orders
import Derived.LoopN
import Derived.Laws.Cells
import Derived.Laws.Entries
import Derived.Laws.IdiomCopy
import Derived.KernelRfl
import Derived.Laws.BytesString
import Derived.Laws.Tables
import Derived.Laws.AppendOwn
import Derived.Maps.AppendAt
import Derived.Lib.ConvBytes
import Derived.Lib.AppendStr
/- An abstract machine over values: the values, and what a machine's value must be to stand for one. -/
namespace Go.Proofs.Ytgohmphhgglmbaa.Am
open Go Go.RowKit

/-- Abstract values. 'sl': a slice that is only read, row by row; 'cap0': an empty slice without room (nil among them); 'pc': a pointer to cells that are only read; 'ptr', 'loc': into a block of the call's own; 'own': a slice that is handed over. -/
inductive V where
  | undef
  | any
  | s (v : Value)
  | sl (rows : List (List V))
  | cap0
  | agg (cs : List V)
  | tup (vs : List V)
  | pc (cells : List V)
  | ptr (b row col : Nat)
  | loc (b off len cap : Nat)
  | fn (f : Nat) (caps : List V)
  | fv (k : Nat)
  | own (size : Nat) (rows : List (List V))
  deriving Inhabited

def flat : Value → Bool
  | .bool _ | .int _ _ | .string _ | .nilFunc | .nilIface => true
  | .map r => r.isNone
  | .pointer a => a.isNone
  | _ => false

/-- Where a block of the call's own lies: nowhere (a nil slice was handed over), or in block k from base on, its rows 'size' cells wide. -/
inductive Lc where
  | virt
  | real (k base size : Nat)
abbrev Mu := Nat → Option Lc

section
variable (w : World) (ok : Nat → Prop)
/-- Data that is only read, all the way down. -/
inductive Dp : V → Value → Prop
  | s (v : Value) (h : flat v = true) : Dp (.s v) v
  | sl (rows : List (List V)) (n c size : Nat) (A : Option Addr) (g : Nat → Nat → Value) (hn : rows.length = n) (hc : n ≤ c) (hs : ∀ r ∈ rows, r.length = size)
      (hA : n ≠ 0 → ∃ ad : Addr, A = some ad ∧ ok ad.block ∧ ∀ i j, i < n → j < size → w.cell? (ad.add (i * size + j)) = some (g i j))
      (hr : ∀ i j, i < n → j < size → Dp ((rows.getD i []).getD j .undef) (g i j)) : Dp (.sl rows) (.slice A n c)
end
section
variable (fvals : Nat → Value) (w : World) (ok : Nat → Prop) (μ : Mu)
inductive Rp : V → Value → Prop
  | undef : Rp .undef Go.undef
  | any (x : Value) : Rp .any x
  | s (v : Value) (h : flat v = true) : Rp (.s v) v
  | cap0 (A : Option Addr) : Rp .cap0 (.slice A 0 0)
  | sl (rows : List (List V)) (n c size : Nat) (A : Option Addr) (g : Nat → Nat → Value) (hn : rows.length = n) (hc : n ≤ c) (hs : ∀ r ∈ rows, r.length = size)
      (hA : n ≠ 0 → ∃ ad : Addr, A = some ad ∧ ok ad.block ∧ ∀ i j, i < n → j < size → w.cell? (ad.add (i * size + j)) = some (g i j))
      (hr : ∀ i j, i < n → j < size → Dp w ok ((rows.getD i []).getD j .undef) (g i j)) : Rp (.sl rows) (.slice A n c)
  | agg (cs : List V) (xs : Array Value) (hl : xs.size = cs.length) (h : ∀ i, i < cs.length → Rp (cs.getD i .undef) (xs.getD i Go.undef)) : Rp (.agg cs) (.agg xs)
  | tup (cs : List V) (xs : Array Value) (hl : xs.size = cs.length) (h : ∀ i, i < cs.length → Rp (cs.getD i .undef) (xs.getD i Go.undef)) : Rp (.tup cs) (.tuple xs)
  | pc (cells : List V) (ad : Addr) (g : Nat → Value) (hb : ok ad.block) (hc : ∀ j, j < cells.length → w.cell? (ad.add j) = some (g j))
      (hr : ∀ j, j < cells.length → Dp w ok (cells.getD j .undef) (g j)) : Rp (.pc cells) (.pointer (some ad))
  | ptr (b row col k base size : Nat) (h : μ b = some (.real k base size)) : Rp (.ptr b row col) (.pointer (some ⟨k, base + (row * size + col), none⟩))
  | loc (b off len cap k base size : Nat) (h : μ b = some (.real k base size)) (hc : len ≤ cap) : Rp (.loc b off len cap) (.slice (some ⟨k, base + off * size, none⟩) len cap)
  | loc0 (b off : Nat) (A : Option Addr) (t : Lc) (h : μ b = some t) : Rp (.loc b off 0 0) (.slice A 0 0)
  | fn (f : Nat) (caps : List V) (xs : Array Value) (hl : xs.size = caps.length) (h : ∀ i, i < caps.length → Rp (caps.getD i .undef) (xs.getD i Go.undef)) : Rp (.fn f caps) (.func (.func f) #[] xs)
  | fv (k : Nat) : Rp (.fv k) (fvals k)
end

theorem cell_same {w w' : World} {a : Addr} (h : w'.heap[a.block]? = w.heap[a.block]?) : w'.cell? a = w.cell? a := by
  unfold World.cell?
  rw [h]
theorem frozen_same {w w' : World} {a : Addr} (h : w'.heap[a.block]? = w.heap[a.block]?) : w'.frozen? a = w.frozen? a := by
  unfold World.frozen?
  rw [h]
theorem add_block (a : Addr) (n : Nat) : (a.add n).block = a.block := by
  unfold Addr.add
  split <;> rfl
theorem add_plain (k o n : Nat) : (⟨k, o, none⟩ : Addr).add n = ⟨k, o + n, none⟩ := by
  unfold Addr.add
  split <;> simp_all
theorem add_add (a : Addr) (m n : Nat) : (a.add m).add n = a.add (m + n) := by
  unfold Addr.add
  by_cases h1 : m = 0 <;> by_cases h2 : n = 0 <;> simp [h1, h2, Nat.add_assoc]

theorem Dp.R {fvals : Nat → Value} {w : World} {ok : Nat → Prop} {μ : Mu} {v : V} {x : Value} (h : Dp w ok v x) : Rp fvals w ok μ v x := by
  cases h with
  | s _ h => exact .s _ h
  | sl rows n c size A g hn hc hs hA hr => exact .sl rows n c size A g hn hc hs hA hr
theorem Dp.mono {w w' : World} {ok ok' : Nat → Prop} {v : V} {x : Value} (h : Dp w ok v x) (hw : ∀ k, ok k → ok' k ∧ w'.heap[k]? = w.heap[k]?) : Dp w' ok' v x := by
  induction h with
  | s v h => exact .s v h
  | sl rows n c size A g hn hc hs hA hr ih =>
    refine .sl rows n c size A g hn hc hs (fun h => ?_) ih
    obtain ⟨ad, rfl, hk, hcell⟩ := hA h
    refine ⟨ad, rfl, (hw _ hk).1, fun i j hi hj => ?_⟩
    rw [← hcell i j hi hj]
    exact cell_same (by rw [add_block]; exact (hw _ hk).2)
theorem Rp.mono {fvals : Nat → Value} {w w' : World} {ok ok' : Nat → Prop} {μ μ' : Mu} {v : V} {x : Value} (h : Rp fvals w ok μ v x)
    (hw : ∀ k, ok k → ok' k ∧ w'.heap[k]? = w.heap[k]?) (hμ' : ∀ b t, μ b = some t → μ' b = some t) : Rp fvals w' ok' μ' v x := by
  induction h with
  | undef => exact .undef
  | any x => exact .any x
  | s v h => exact .s v h
  | cap0 A => exact .cap0 A
  | sl rows n c size A g hn hc hs hA hr =>
    refine .sl rows n c size A g hn hc hs (fun h => ?_) (fun i j hi hj => (hr i j hi hj).mono hw)
    obtain ⟨ad, rfl, hk, hcell⟩ := hA h
    refine ⟨ad, rfl, (hw _ hk).1, fun i j hi hj => ?_⟩
    rw [← hcell i j hi hj]
    exact cell_same (by rw [add_block]; exact (hw _ hk).2)
  | agg cs xs hl h ih => exact .agg cs xs hl ih
  | tup cs xs hl h ih => exact .tup cs xs hl ih
  | pc cells ad g hb hc hr =>
    refine .pc cells ad g (hw _ hb).1 (fun j hj => ?_) (fun j hj => (hr j hj).mono hw)
    rw [← hc j hj]
    exact cell_same (by rw [add_block]; exact (hw _ hb).2)
  | ptr b row col k base size h => exact .ptr b row col k base size (hμ' _ _ h)
  | loc b off len cap k base size h hc => exact .loc b off len cap k base size (hμ' _ _ h) hc
  | loc0 b off A t h => exact .loc0 b off A t (hμ' _ _ h)
  | fn f caps xs hl h ih => exact .fn f caps xs hl ih
  | fv k => exact .fv k

end Go.Proofs.Ytgohmphhgglmbaa.Am

/- An abstract machine over values: the blocks of a call's own, and what a step may turn. -/
set_option linter.unusedVariables false
namespace Go.Proofs.Ytgohmphhgglmbaa.Am
open Go Go.RowKit

structure Blk where
  size : Nat
  rows : List (List V)
  wr : Bool

structure Cx where
  P : Program
  w0 : World
  ok0 : Nat → Prop
  X : Nat → Prop
  fvals : Nat → Value

abbrev Hp := Nat → Option Blk

/-- Only blocks in X may have turned. -/
structure Fr (w w' : World) (X : Nat → Prop) : Prop where
  os : w'.os = w.os
  tape : w'.tape = w.tape
  output : w'.output = w.output
  size : w.heap.size ≤ w'.heap.size
  block : ∀ k, k < w.heap.size → ¬ X k → w'.heap[k]? = w.heap[k]?

theorem Fr.refl (w : World) (X : Nat → Prop) : Fr w w X := ⟨rfl, rfl, rfl, Nat.le_refl _, fun _ _ _ => rfl⟩
theorem Fr.of_below {w w' : World} {X : Nat → Prop} (h : Below w.heap.size w w') : Fr w w' X := ⟨h.os, h.tape, h.output, h.size, fun k hk _ => h.block k hk⟩
theorem Fr.below {w w' : World} (h : Fr w w' fun _ => False) : Below w.heap.size w w' := ⟨h.os, h.tape, h.output, h.size, fun k hk => h.block k hk id⟩

def live (h : Hp) (μ : Mu) (k : Nat) : Prop := ∃ b B base size, h b = some B ∧ B.wr = true ∧ μ b = some (.real k base size)
def okB (c : Cx) (h : Hp) (μ : Mu) (w : World) (k : Nat) : Prop := (c.ok0 k ∨ c.w0.heap.size ≤ k ∨ c.X k) ∧ k < w.heap.size ∧ ¬ live h μ k

abbrev R (c : Cx) (h : Hp) (μ : Mu) (w : World) : V → Value → Prop := Rp c.fvals w (okB c h μ w) μ

def cellAt (rows : List (List V)) (i j : Nat) : V := (rows.getD i []).getD j .undef

def BlkAt (c : Cx) (h : Hp) (μ : Mu) (w : World) (b : Nat) (B : Blk) : Prop :=
  (μ b = some .virt ∧ B.rows = []) ∨ ∃ k base, μ b = some (.real k base B.size) ∧ k < w.heap.size ∧ ((c.ok0 k ∨ c.w0.heap.size ≤ k ∨ c.X k) ∧ (B.wr = true → c.w0.heap.size ≤ k ∨ c.X k)) ∧ (∀ r ∈ B.rows, r.length = B.size) ∧
    ∀ i j, i < B.rows.length → j < B.size → ∃ x, w.cell? ⟨k, base + (i * B.size + j), none⟩ = some x ∧ (∀ o, (B.size ≠ 1 ∨ o = base + (i * B.size + j)) → w.frozen? ⟨k, o, none⟩ = false) ∧ R c h μ w (cellAt B.rows i j) x

structure HS (c : Cx) (h : Hp) (n : Nat) (μ : Mu) (w : World) : Prop where
  fr : Fr c.w0 w c.X
  hfresh : ∀ b, n ≤ b → h b = none
  mfresh : ∀ b, n ≤ b → μ b = none
  blk : ∀ b B, h b = some B → BlkAt c h μ w b B
  inj : ∀ b b' B B' k base size base' size', h b = some B → h b' = some B' → B.wr = true → μ b = some (.real k base size) → μ b' = some (.real k base' size') → b = b'

structure Ext (c : Cx) (h : Hp) (μ : Mu) (w : World) (h' : Hp) (μ' : Mu) (w' : World) : Prop where
  ok : ∀ k, okB c h μ w k → okB c h' μ' w' k ∧ w'.heap[k]? = w.heap[k]?
  mu : ∀ b t, μ b = some t → μ' b = some t
theorem Ext.refl (c : Cx) (h : Hp) (μ : Mu) (w : World) : Ext c h μ w h μ w := ⟨fun _ h => ⟨h, rfl⟩, fun _ _ h => h⟩
theorem Ext.trans {c : Cx} {h h1 h2 : Hp} {μ μ1 μ2 : Mu} {w w1 w2 : World} (a : Ext c h μ w h1 μ1 w1) (b : Ext c h1 μ1 w1 h2 μ2 w2) : Ext c h μ w h2 μ2 w2 :=
  ⟨fun k hk => ⟨(b.ok k (a.ok k hk).1).1, (b.ok k (a.ok k hk).1).2.trans (a.ok k hk).2⟩, fun x t hx => b.mu x t (a.mu x t hx)⟩
theorem Ext.R {c : Cx} {h h' : Hp} {μ μ' : Mu} {w w' : World} (e : Ext c h μ w h' μ' w') {v : V} {x : Value} (r : R c h μ w v x) : R c h' μ' w' v x := r.mono e.ok e.mu

theorem HS.wr_block {c : Cx} {h : Hp} {n : Nat} {μ : Mu} {w : World} (H : HS c h n μ w) {k : Nat} (hl : live h μ k) : (c.w0.heap.size ≤ k ∨ c.X k) ∧ k < w.heap.size := by
  obtain ⟨b, B, base, size, hb, hw, hm⟩ := hl
  rcases H.blk b B hb with ⟨hv, _⟩ | ⟨k', base', hm', hk, hx, _⟩
  · rw [hm] at hv; cases hv
  · rw [hm] at hm'
    cases hm'
    exact ⟨hx.2 hw, hk⟩

/-- Whatever a step does: the blocks that could be written before it alone have turned, what can be written behind it could be written before it or is new. -/
theorem HS.step {c : Cx} {h h' : Hp} {n n' : Nat} {μ μ' : Mu} {w w' : World} (H : HS c h n μ w) (hf : Fr w w' (live h μ))
    (hmu : ∀ b t, μ b = some t → μ' b = some t) (hmn : ∀ b, n' ≤ b → μ' b = none) (hhn : ∀ b, n' ≤ b → h' b = none)
    (hl : ∀ k, live h' μ' k → live h μ k ∨ w.heap.size ≤ k)
    (hb : Ext c h μ w h' μ' w' → ∀ b B, h' b = some B → BlkAt c h' μ' w' b B)
    (hi : ∀ b b' B B' k base size base' size', h' b = some B → h' b' = some B' → B.wr = true → μ' b = some (.real k base size) → μ' b' = some (.real k base' size') → b = b') :
    HS c h' n' μ' w' ∧ Ext c h μ w h' μ' w' := by
  have e : Ext c h μ w h' μ' w' := by
    refine ⟨fun k hk => ⟨⟨hk.1, Nat.lt_of_lt_of_le hk.2.1 hf.size, fun hl' => ?_⟩, hf.block k hk.2.1 hk.2.2⟩, hmu⟩
    rcases hl k hl' with h1 | h1
    · exact hk.2.2 h1
    · exact absurd hk.2.1 (by omega)
  refine ⟨⟨⟨hf.os.trans H.fr.os, hf.tape.trans H.fr.tape, hf.output.trans H.fr.output, Nat.le_trans H.fr.size hf.size, fun k hk hx => ?_⟩, hhn, hmn, hb e, hi⟩, e⟩
  rw [hf.block k (Nat.lt_of_lt_of_le hk H.fr.size) (fun hl' => by
    rcases (H.wr_block hl').1 with h1 | h1
    · omega
    · exact hx h1)]
  exact H.fr.block k hk hx

/-- A block that a step leaves alone. -/
theorem BlkAt.keep {c : Cx} {h h' : Hp} {μ μ' : Mu} {w w' : World} (e : Ext c h μ w h' μ' w') (hs : w.heap.size ≤ w'.heap.size) {b : Nat} {B : Blk} (hB : BlkAt c h μ w b B)
    (hk : ∀ k base size, μ b = some (.real k base size) → w'.heap[k]? = w.heap[k]?) : BlkAt c h' μ' w' b B := by
  rcases hB with ⟨h1, h2⟩ | ⟨k, base, h1, h2, h3, h4, h5⟩
  · exact .inl ⟨e.mu _ _ h1, h2⟩
  · refine .inr ⟨k, base, e.mu _ _ h1, by omega, h3, h4, fun i j hi hj => ?_⟩
    obtain ⟨x, hx, hz, hr⟩ := h5 i j hi hj
    exact ⟨x, by rw [← hx]; exact cell_same (hk _ _ _ h1), fun o ho => by rw [← hz o ho]; exact frozen_same (hk _ _ _ h1), e.R hr⟩

def upd {α : Type} (f : Nat → α) (k : Nat) (v : α) : Nat → α := fun j => if j = k then v else f j
theorem upd_same {α : Type} (f : Nat → α) (k : Nat) (v : α) : upd f k v k = v := by simp [upd]
theorem upd_ne {α : Type} (f : Nat → α) (k j : Nat) (v : α) (h : j ≠ k) : upd f k v j = f j := by simp [upd, h]

/-- A call that lets all old blocks be; a new block that nobody knows; a draw. -/
theorem HS.below {c : Cx} {h : Hp} {n : Nat} {μ : Mu} {w w' : World} (H : HS c h n μ w) (hb : Below w.heap.size w w') : HS c h n μ w' ∧ Ext c h μ w h μ w' := by
  refine H.step (Fr.of_below hb) (fun _ _ h => h) H.mfresh H.hfresh (fun _ h => .inl h) (fun e b B hB => ?_) H.inj
  refine (H.blk b B hB).keep e hb.size fun k base size hk => hb.block k ?_
  rcases H.blk b B hB with ⟨h1, h2⟩ | ⟨k', base', h1, h2, _⟩
  · rw [hk] at h1; cases h1
  · rw [hk] at h1; cases h1; exact h2

/-- A new block of one's own: it lies in a block that was not there. -/
theorem HS.fresh {c : Cx} {h : Hp} {n : Nat} {μ : Mu} {w w' : World} (H : HS c h n μ w) (hb : Below w.heap.size w w') (k base : Nat) (B : Blk) (hk : w.heap.size ≤ k) (hk' : k < w'.heap.size)
    (hl : ∀ r ∈ B.rows, r.length = B.size)
    (hc : ∀ i j, i < B.rows.length → j < B.size → ∃ x, w'.cell? ⟨k, base + (i * B.size + j), none⟩ = some x ∧ (∀ o, (B.size ≠ 1 ∨ o = base + (i * B.size + j)) → w'.frozen? ⟨k, o, none⟩ = false) ∧
      (Ext c h μ w (upd h n (some B)) (upd μ n (some (.real k base B.size))) w' → R c (upd h n (some B)) (upd μ n (some (.real k base B.size))) w' (cellAt B.rows i j) x)) :
    HS c (upd h n (some B)) (n + 1) (upd μ n (some (.real k base B.size))) w' ∧ Ext c h μ w (upd h n (some B)) (upd μ n (some (.real k base B.size))) w' := by
  have hne : ∀ b t, μ b = some t → b ≠ n := fun b t h e => by rw [e, H.mfresh n (Nat.le_refl _)] at h; cases h
  have hne' : ∀ b t, h b = some t → b ≠ n := fun b t h e => by rw [e, H.hfresh n (Nat.le_refl _)] at h; cases h
  have hreal : ∀ b B' k' base' size', h b = some B' → μ b = some (.real k' base' size') → k' < w.heap.size := by
    intro b B' k' base' size' hb' hm'
    rcases H.blk b B' hb' with ⟨h1, h2⟩ | ⟨k2, base2, h1, h2, _⟩
    · rw [hm'] at h1; cases h1
    · rw [hm'] at h1; cases h1; exact h2
  refine H.step (Fr.of_below hb) (fun b t hm => by rw [upd_ne _ _ _ _ (hne b t hm)]; exact hm) (fun b hb' => by rw [upd_ne _ _ _ _ (by omega)]; exact H.mfresh b (by omega))
    (fun b hb' => by rw [upd_ne _ _ _ _ (by omega)]; exact H.hfresh b (by omega)) ?_ (fun e b B' hB => ?_) ?_
  · rintro k' ⟨b, B', base', size', h1, h2, h3⟩
    by_cases hbn : b = n
    · subst hbn
      rw [upd_same] at h3
      cases h3
      exact .inr hk
    · rw [upd_ne _ _ _ _ hbn] at h1 h3
      exact .inl ⟨b, B', base', size', h1, h2, h3⟩
  · by_cases hbn : b = n
    · subst hbn
      rw [upd_same] at hB
      cases hB
      refine .inr ⟨k, base, by rw [upd_same], hk', ⟨.inr (.inl (Nat.le_trans H.fr.size hk)), fun _ => .inl (Nat.le_trans H.fr.size hk)⟩, hl, fun i j hi hj => ?_⟩
      obtain ⟨x, h1, h2, h3⟩ := hc i j hi hj
      exact ⟨x, h1, h2, h3 e⟩
    · rw [upd_ne _ _ _ _ hbn] at hB
      exact (H.blk b B' hB).keep e hb.size fun k' base' size' hm => hb.block k' (hreal _ _ _ _ _ hB hm)
  · intro b b' B1 B2 k' base1 size1 base2 size2 h1 h2 h3 h4 h5
    by_cases hbn : b = n <;> by_cases hbn' : b' = n
    · rw [hbn, hbn']
    · subst hbn
      rw [upd_same] at h4
      rw [upd_ne _ _ _ _ hbn'] at h2 h5
      cases h4
      have := hreal _ _ _ _ _ h2 h5
      omega
    · subst hbn'
      rw [upd_same] at h5
      rw [upd_ne _ _ _ _ hbn] at h1 h4
      cases h5
      have := hreal _ _ _ _ _ h1 h4
      omega
    · rw [upd_ne _ _ _ _ hbn] at h1 h4
      rw [upd_ne _ _ _ _ hbn'] at h2 h5
      exact H.inj _ _ _ _ _ _ _ _ _ h1 h2 h3 h4 h5

end Go.Proofs.Ytgohmphhgglmbaa.Am

/- An abstract machine over values: blocks that are written, dropped, bound anew. -/
set_option linter.unusedVariables false
namespace Go.Proofs.Ytgohmphhgglmbaa.Am
open Go Go.RowKit

theorem HS.real_lt {c : Cx} {h : Hp} {n : Nat} {μ : Mu} {w : World} (H : HS c h n μ w) {b : Nat} {B : Blk} {k base size : Nat} (hb : h b = some B) (hm : μ b = some (.real k base size)) : k < w.heap.size := by
  rcases H.blk b B hb with ⟨h1, h2⟩ | ⟨k2, base2, h1, h2, _⟩
  · rw [hm] at h1; cases h1
  · rw [hm] at h1; cases h1; exact h2
theorem HS.id_ne {c : Cx} {h : Hp} {n : Nat} {μ : Mu} {w : World} (H : HS c h n μ w) {b : Nat} {B : Blk} (hb : h b = some B) : b ≠ n :=
  fun e => by rw [e, H.hfresh n (Nat.le_refl _)] at hb; cases hb
theorem HS.mu_ne {c : Cx} {h : Hp} {n : Nat} {μ : Mu} {w : World} (H : HS c h n μ w) {b : Nat} {t : Lc} (hb : μ b = some t) : b ≠ n :=
  fun e => by rw [e, H.mfresh n (Nat.le_refl _)] at hb; cases hb
theorem HS.id_lt {c : Cx} {h : Hp} {n : Nat} {μ : Mu} {w : World} (H : HS c h n μ w) {b : Nat} {B : Blk} (hb : h b = some B) : b < n := by
  rcases Nat.lt_or_ge b n with h1 | h1
  · exact h1
  · rw [H.hfresh b h1] at hb; cases hb

/-- A block's content is written anew. -/
theorem HS.write {c : Cx} {h : Hp} {n : Nat} {μ : Mu} {w w' : World} (H : HS c h n μ w) {b : Nat} {B B' : Blk} {k base : Nat} (hb : h b = some B) (hw : B.wr = true) (hm : μ b = some (.real k base B.size))
    (hf : Fr w w' (fun q => q = k)) (hs : w.heap.size = w'.heap.size) (hB' : B'.size = B.size) (hl : ∀ r ∈ B'.rows, r.length = B'.size)
    (hc : ∀ i j, i < B'.rows.length → j < B.size → ∃ x, w'.cell? ⟨k, base + (i * B.size + j), none⟩ = some x ∧ (∀ o, (B.size ≠ 1 ∨ o = base + (i * B.size + j)) → w'.frozen? ⟨k, o, none⟩ = false) ∧
      (Ext c h μ w (upd h b (some B')) μ w' → R c (upd h b (some B')) μ w' (cellAt B'.rows i j) x)) :
    HS c (upd h b (some B')) n μ w' ∧ Ext c h μ w (upd h b (some B')) μ w' := by
  have hlive : live h μ k := ⟨b, B, base, _, hb, hw, hm⟩
  have hkw := H.wr_block hlive
  refine H.step ⟨hf.os, hf.tape, hf.output, hf.size, fun q hq hnl => hf.block q hq (fun e => hnl (e ▸ hlive))⟩ (fun _ _ h => h) H.mfresh ?_ ?_ (fun e b2 B2 hB => ?_) ?_
  · intro b2 hb2
    rw [upd_ne _ _ _ _ (by have := H.id_lt hb; omega)]
    exact H.hfresh b2 hb2
  · rintro q ⟨b2, B2, base2, size2, h1, h2, h3⟩
    by_cases hbb : b2 = b
    · subst hbb
      rw [hm] at h3
      cases h3
      exact .inl hlive
    · rw [upd_ne _ _ _ _ hbb] at h1
      exact .inl ⟨b2, B2, base2, size2, h1, h2, h3⟩
  · by_cases hbb : b2 = b
    · subst hbb
      rw [upd_same] at hB
      cases hB
      refine .inr ⟨k, base, by rw [hB']; exact hm, by omega, ⟨.inr hkw.1, fun _ => hkw.1⟩, hl, fun i j hi hj => ?_⟩
      rw [hB'] at hj ⊢
      obtain ⟨x, h1, h2, h3⟩ := hc i j hi hj
      exact ⟨x, h1, h2, h3 e⟩
    · rw [upd_ne _ _ _ _ hbb] at hB
      refine (H.blk b2 B2 hB).keep e (by omega) fun q base2 size2 hm2 => hf.block q (H.real_lt hB hm2) (fun eq => ?_)
      subst eq
      exact hbb (H.inj b b2 B B2 q base B.size base2 size2 hb hB hw hm hm2).symm
  · intro b1 b2 B1 B2 q base1 size1 base2 size2 h1 h2 h3 h4 h5
    by_cases e1 : b1 = b <;> by_cases e2 : b2 = b
    · rw [e1, e2]
    · subst e1
      rw [upd_ne _ _ _ _ e2] at h2
      exact H.inj _ _ _ _ _ _ _ _ _ hb h2 hw h4 h5
    · subst e2
      rw [upd_ne _ _ _ _ e1] at h1
      exact H.inj _ _ _ _ _ _ _ _ _ h1 hb h3 h4 h5
    · rw [upd_ne _ _ _ _ e1] at h1
      rw [upd_ne _ _ _ _ e2] at h2
      exact H.inj _ _ _ _ _ _ _ _ _ h1 h2 h3 h4 h5

/-- A block is forgotten, or turned into one that is only read. -/
theorem HS.drop {c : Cx} {h : Hp} {n : Nat} {μ : Mu} {w : World} (H : HS c h n μ w) (b : Nat) : HS c (upd h b none) n μ w ∧ Ext c h μ w (upd h b none) μ w := by
  refine H.step (Fr.refl _ _) (fun _ _ h => h) H.mfresh ?_ ?_ (fun e b2 B2 hB => ?_) ?_
  · intro b2 hb2
    unfold upd
    split
    · rfl
    · exact H.hfresh b2 hb2
  · rintro q ⟨b2, B2, base2, size2, h1, h2, h3⟩
    by_cases hbb : b2 = b
    · subst hbb; rw [upd_same] at h1; cases h1
    · rw [upd_ne _ _ _ _ hbb] at h1
      exact .inl ⟨b2, B2, base2, size2, h1, h2, h3⟩
  · by_cases hbb : b2 = b
    · subst hbb; rw [upd_same] at hB; cases hB
    · rw [upd_ne _ _ _ _ hbb] at hB
      exact (H.blk b2 B2 hB).keep e (Nat.le_refl _) fun _ _ _ _ => rfl
  · intro b1 b2 B1 B2 q base1 size1 base2 size2 h1 h2 h3 h4 h5
    by_cases e1 : b1 = b
    · subst e1; rw [upd_same] at h1; cases h1
    · by_cases e2 : b2 = b
      · subst e2; rw [upd_same] at h2; cases h2
      · rw [upd_ne _ _ _ _ e1] at h1
        rw [upd_ne _ _ _ _ e2] at h2
        exact H.inj _ _ _ _ _ _ _ _ _ h1 h2 h3 h4 h5
def Blk.froz (B : Blk) : Blk := { B with wr := false }
theorem HS.freeze {c : Cx} {h : Hp} {n : Nat} {μ : Mu} {w : World} (H : HS c h n μ w) (b : Nat) {B : Blk} (hb : h b = some B) : HS c (upd h b (some B.froz)) n μ w ∧ Ext c h μ w (upd h b (some B.froz)) μ w := by
  refine H.step (Fr.refl _ _) (fun _ _ h => h) H.mfresh ?_ ?_ (fun e b2 B2 hB => ?_) ?_
  · intro b2 hb2
    rw [upd_ne _ _ _ _ (by have := H.id_lt hb; omega)]
    exact H.hfresh b2 hb2
  · rintro q ⟨b2, B2, base2, size2, h1, h2, h3⟩
    by_cases hbb : b2 = b
    · subst hbb; rw [upd_same] at h1; cases h1; cases h2
    · rw [upd_ne _ _ _ _ hbb] at h1
      exact .inl ⟨b2, B2, base2, size2, h1, h2, h3⟩
  · by_cases hbb : b2 = b
    · subst hbb
      rw [upd_same] at hB
      cases hB
      rcases (H.blk b2 B hb).keep e (Nat.le_refl _) fun _ _ _ _ => rfl with h1 | ⟨k, base, h1, h2, h3, h4, h5⟩
      · exact .inl h1
      · exact .inr ⟨k, base, h1, h2, ⟨h3.1, fun h => by cases h⟩, h4, h5⟩
    · rw [upd_ne _ _ _ _ hbb] at hB
      exact (H.blk b2 B2 hB).keep e (Nat.le_refl _) fun _ _ _ _ => rfl
  · intro b1 b2 B1 B2 q base1 size1 base2 size2 h1 h2 h3 h4 h5
    by_cases e1 : b1 = b
    · subst e1; rw [upd_same] at h1; cases h1; cases h3
    · by_cases e2 : b2 = b
      · subst e2
        rw [upd_ne _ _ _ _ e1] at h1
        exact H.inj _ _ _ _ _ _ _ _ _ h1 hb h3 h4 h5
      · rw [upd_ne _ _ _ _ e1] at h1
        rw [upd_ne _ _ _ _ e2] at h2
        exact H.inj _ _ _ _ _ _ _ _ _ h1 h2 h3 h4 h5

/-- Some blocks are only read from here on. -/
def frz (h : Hp) (p : Nat → Bool) : Hp := fun b => if p b then (h b).map Blk.froz else h b
theorem frz_inv {h : Hp} {p : Nat → Bool} {b : Nat} {B : Blk} (hb : frz h p b = some B) : ∃ B', h b = some B' ∧ B.size = B'.size ∧ B.rows = B'.rows ∧ (B.wr = true → B'.wr = true ∧ p b = false) := by
  unfold frz at hb
  split at hb
  · simp only [Option.map_eq_some_iff] at hb
    obtain ⟨B', h1, rfl⟩ := hb
    exact ⟨B', h1, rfl, rfl, fun h => by cases h⟩
  · rename_i hp
    exact ⟨B, hb, rfl, rfl, fun h => ⟨h, by simpa using hp⟩⟩
theorem HS.freezeP {c : Cx} {h : Hp} {n : Nat} {μ : Mu} {w : World} (H : HS c h n μ w) (p : Nat → Bool) : HS c (frz h p) n μ w ∧ Ext c h μ w (frz h p) μ w := by
  refine H.step (Fr.refl _ _) (fun _ _ h => h) H.mfresh (fun b hb => by simp [frz, H.hfresh b hb]) ?_ (fun e b2 B2 hB => ?_) ?_
  · rintro q ⟨b2, B2, base2, size2, h1, h2, h3⟩
    obtain ⟨B, g1, g2, g3, g4⟩ := frz_inv h1
    exact .inl ⟨b2, B, base2, size2, g1, (g4 h2).1, h3⟩
  · obtain ⟨B, g1, g2, g3, g4⟩ := frz_inv hB
    rcases (H.blk b2 B g1).keep e (Nat.le_refl _) fun _ _ _ _ => rfl with ⟨h1, h2⟩ | ⟨k, base, h1, h2, h3, h4, h5⟩
    · exact .inl ⟨h1, by rw [g3]; exact h2⟩
    · exact .inr ⟨k, base, by rw [g2]; exact h1, h2, ⟨h3.1, fun h => h3.2 (g4 h).1⟩, by rw [g2, g3]; exact h4, by rw [g2, g3]; exact h5⟩
  · intro b1 b2 B1 B2 q base1 size1 base2 size2 h1 h2 h3 h4 h5
    obtain ⟨B, g1, _, _, g4⟩ := frz_inv h1
    obtain ⟨B', g1', _⟩ := frz_inv h2
    exact H.inj _ _ _ _ _ _ _ _ _ g1 g1' (g4 h3).1 h4 h5
/-- A block that is only read from here on may be read by data. -/
theorem HS.frz_ok {c : Cx} {h : Hp} {n : Nat} {μ : Mu} {w : World} (H : HS c h n μ w) {p : Nat → Bool} {b : Nat} {B : Blk} {k base size : Nat} (hb : h b = some B) (hm : μ b = some (.real k base size)) (hp : p b = true) : okB c (frz h p) μ w k := by
  rcases H.blk b B hb with ⟨g1, _⟩ | ⟨k', base', g1, g2, g3, _⟩
  · rw [hm] at g1; cases g1
  · rw [hm] at g1
    cases g1
    refine ⟨g3.1, g2, ?_⟩
    rintro ⟨b2, B2, base2, size2, h1, h2, h3⟩
    obtain ⟨B', g5, _, _, g6⟩ := frz_inv h1
    have := H.inj b2 b B' B k base2 size2 base B.size g5 hb (g6 h2).1 h3 hm
    subst this
    rw [hp] at g6
    cases (g6 h2).2
/-- A block b gives way to a new name n for it: what it held may have turned. -/
theorem HS.rename {c : Cx} {h : Hp} {n : Nat} {μ : Mu} {w w' : World} (H : HS c h n μ w) {b : Nat} {B B' : Blk} {k base base' : Nat} (hb : h b = some B) (hw : B.wr = true) (hm : μ b = some (.real k base B.size))
    (hf : Fr w w' (fun q => q = k)) (hl : ∀ r ∈ B'.rows, r.length = B'.size)
    (hc : ∀ i j, i < B'.rows.length → j < B'.size → ∃ x, w'.cell? ⟨k, base' + (i * B'.size + j), none⟩ = some x ∧ (∀ o, (B'.size ≠ 1 ∨ o = base' + (i * B'.size + j)) → w'.frozen? ⟨k, o, none⟩ = false) ∧
      (Ext c h μ w (upd (upd h b none) n (some B')) (upd μ n (some (.real k base' B'.size))) w' → R c (upd (upd h b none) n (some B')) (upd μ n (some (.real k base' B'.size))) w' (cellAt B'.rows i j) x)) :
    HS c (upd (upd h b none) n (some B')) (n + 1) (upd μ n (some (.real k base' B'.size))) w' ∧ Ext c h μ w (upd (upd h b none) n (some B')) (upd μ n (some (.real k base' B'.size))) w' := by
  have hlive : live h μ k := ⟨b, B, base, _, hb, hw, hm⟩
  have hkw := H.wr_block hlive
  have hbn := H.id_ne hb
  have hold : ∀ b2 B2, upd (upd h b none) n (some B') b2 = some B2 → b2 ≠ n → b2 ≠ b ∧ h b2 = some B2 := by
    intro b2 B2 hB hn
    rw [upd_ne _ _ _ _ hn] at hB
    by_cases hbb : b2 = b
    · subst hbb; rw [upd_same] at hB; cases hB
    · rw [upd_ne _ _ _ _ hbb] at hB; exact ⟨hbb, hB⟩
  refine H.step ⟨hf.os, hf.tape, hf.output, hf.size, fun q hq hnl => hf.block q hq (fun e => hnl (e ▸ hlive))⟩ (fun b2 t hm2 => by rw [upd_ne _ _ _ _ (H.mu_ne hm2)]; exact hm2)
    (fun b2 hb2 => by rw [upd_ne _ _ _ _ (by omega)]; exact H.mfresh b2 (by omega)) ?_ ?_ (fun e b2 B2 hB => ?_) ?_
  · intro b2 hb2
    rw [upd_ne _ _ _ _ (by omega), upd_ne _ _ _ _ (by have := H.id_lt hb; omega)]
    exact H.hfresh b2 (by omega)
  · rintro q ⟨b2, B2, base2, size2, h1, h2, h3⟩
    by_cases hn : b2 = n
    · subst hn
      rw [upd_same] at h3
      cases h3
      exact .inl hlive
    · rw [upd_ne _ _ _ _ hn] at h3
      exact .inl ⟨b2, B2, base2, size2, (hold b2 B2 h1 hn).2, h2, h3⟩
  · by_cases hn : b2 = n
    · subst hn
      rw [upd_same] at hB
      cases hB
      refine .inr ⟨k, base', by rw [upd_same], Nat.lt_of_lt_of_le hkw.2 hf.size, ⟨.inr hkw.1, fun _ => hkw.1⟩, hl, fun i j hi hj => ?_⟩
      obtain ⟨x, h1, h2, h3⟩ := hc i j hi hj
      exact ⟨x, h1, h2, h3 e⟩
    · obtain ⟨hbb, hB⟩ := hold b2 B2 hB hn
      refine (H.blk b2 B2 hB).keep e hf.size fun q base2 size2 hm2 => hf.block q (H.real_lt hB hm2) (fun eq => ?_)
      subst eq
      exact hbb (H.inj b b2 B B2 q base B.size base2 size2 hb hB hw hm hm2).symm
  · intro b1 b2 B1 B2 q base1 size1 base2 size2 h1 h2 h3 h4 h5
    by_cases e1 : b1 = n <;> by_cases e2 : b2 = n
    · rw [e1, e2]
    · subst e1
      rw [upd_same] at h4
      cases h4
      rw [upd_ne _ _ _ _ e2] at h5
      obtain ⟨hbb, h2⟩ := hold b2 B2 h2 e2
      exact absurd (H.inj _ _ _ _ _ _ _ _ _ hb h2 hw hm h5).symm hbb
    · subst e2
      rw [upd_same] at h5
      cases h5
      rw [upd_ne _ _ _ _ e1] at h4
      obtain ⟨hbb, h1⟩ := hold b1 B1 h1 e1
      exact absurd (H.inj _ _ _ _ _ _ _ _ _ h1 hb h3 h4 hm) hbb
    · rw [upd_ne _ _ _ _ e1] at h4
      rw [upd_ne _ _ _ _ e2] at h5
      exact H.inj _ _ _ _ _ _ _ _ _ (hold b1 B1 h1 e1).2 (hold b2 B2 h2 e2).2 h3 h4 h5

/-- A call to which block b was handed over. -/
theorem HS.given {c : Cx} {h : Hp} {n : Nat} {μ : Mu} {w w' : World} (H : HS c h n μ w) {b : Nat} {B : Blk} (hb : h b = some B) (hw : B.wr = true)
    (hf : Fr w w' (fun q => ∃ base size, μ b = some (.real q base size))) : HS c (upd h b none) n μ w' ∧ Ext c h μ w (upd h b none) μ w' := by
  have hX : ∀ q, (∃ base size, μ b = some (.real q base size)) → live h μ q := fun q ⟨base, size, hm⟩ => ⟨b, B, base, size, hb, hw, hm⟩
  refine H.step ⟨hf.os, hf.tape, hf.output, hf.size, fun q hq hnl => hf.block q hq (fun e => hnl (hX q e))⟩ (fun _ _ h => h) H.mfresh ?_ ?_ (fun e b2 B2 hB => ?_) ?_
  · intro b2 hb2
    unfold upd
    split
    · rfl
    · exact H.hfresh b2 hb2
  · rintro q ⟨b2, B2, base2, size2, h1, h2, h3⟩
    by_cases hbb : b2 = b
    · subst hbb; rw [upd_same] at h1; cases h1
    · rw [upd_ne _ _ _ _ hbb] at h1
      exact .inl ⟨b2, B2, base2, size2, h1, h2, h3⟩
  · by_cases hbb : b2 = b
    · subst hbb; rw [upd_same] at hB; cases hB
    · rw [upd_ne _ _ _ _ hbb] at hB
      refine (H.blk b2 B2 hB).keep e hf.size fun q base2 size2 hm2 => hf.block q (H.real_lt hB hm2) ?_
      rintro ⟨base, size, hm⟩
      exact hbb (H.inj b b2 B B2 q base size base2 size2 hb hB hw hm hm2).symm
  · intro b1 b2 B1 B2 q base1 size1 base2 size2 h1 h2 h3 h4 h5
    by_cases e1 : b1 = b
    · subst e1; rw [upd_same] at h1; cases h1
    · by_cases e2 : b2 = b
      · subst e2; rw [upd_same] at h2; cases h2
      · rw [upd_ne _ _ _ _ e1] at h1
        rw [upd_ne _ _ _ _ e2] at h2
        exact H.inj _ _ _ _ _ _ _ _ _ h1 h2 h3 h4 h5
/-- A name for a nil slice that is the call's own. -/
theorem HS.virt {c : Cx} {h : Hp} {n : Nat} {μ : Mu} {w : World} (H : HS c h n μ w) (size : Nat) : HS c (upd h n (some ⟨size, [], true⟩)) (n + 1) (upd μ n (some .virt)) w ∧ Ext c h μ w (upd h n (some ⟨size, [], true⟩)) (upd μ n (some .virt)) w := by
  refine H.step (Fr.refl _ _) (fun b2 t hm2 => by rw [upd_ne _ _ _ _ (H.mu_ne hm2)]; exact hm2) (fun b2 hb2 => by rw [upd_ne _ _ _ _ (by omega)]; exact H.mfresh b2 (by omega))
    (fun b2 hb2 => by rw [upd_ne _ _ _ _ (by omega)]; exact H.hfresh b2 (by omega)) ?_ (fun e b2 B2 hB => ?_) ?_
  · rintro q ⟨b2, B2, base2, size2, h1, h2, h3⟩
    by_cases e2 : b2 = n
    · subst e2; rw [upd_same] at h3; cases h3
    · rw [upd_ne _ _ _ _ e2] at h1 h3
      exact .inl ⟨b2, B2, base2, size2, h1, h2, h3⟩
  · by_cases e2 : b2 = n
    · subst e2; rw [upd_same] at hB; cases hB
      exact .inl ⟨by rw [upd_same], rfl⟩
    · rw [upd_ne _ _ _ _ e2] at hB
      exact (H.blk b2 B2 hB).keep e (Nat.le_refl _) fun _ _ _ _ => rfl
  · intro b1 b2 B1 B2 q base1 size1 base2 size2 h1 h2 h3 h4 h5
    by_cases e1 : b1 = n
    · subst e1; rw [upd_same] at h4; cases h4
    · by_cases e2 : b2 = n
      · subst e2; rw [upd_same] at h5; cases h5
      · rw [upd_ne _ _ _ _ e1] at h1 h4
        rw [upd_ne _ _ _ _ e2] at h2 h5
        exact H.inj _ _ _ _ _ _ _ _ _ h1 h2 h3 h4 h5
end Go.Proofs.Ytgohmphhgglmbaa.Am

/- An abstract machine over values: operations that turn no memory. -/
set_option linter.unusedVariables false
set_option linter.unusedSimpArgs false
namespace Go.Proofs.Ytgohmphhgglmbaa.Am
open Go Go.RowKit

def szo (P : Program) (T : TypeId) : Option Nat := (P.info? T).map (·.size)
def byo (P : Program) (T : TypeId) : Option Nat := (P.info? T).map (·.bytes)
def zro (P : Program) (T : TypeId) : Option Value := (P.info? T).bind (·.zero)
def aggo (P : Program) (T : TypeId) : Option Bool := (P.underlying T).map fun | .struct _ => true | .array _ _ => true | _ => false
/-- A field: its offset, its cells, is it an aggregate. -/
def fldo (P : Program) (T : TypeId) (f : Nat) : Option (Nat × Nat × Bool) := match P.underlying T with
  | some (.struct fs) => match fs[f]? with
    | some fl => match szo P fl.type, aggo P fl.type with
      | some z, some g => some (fl.offset, z, g)
      | _, _ => none
    | none => none
  | _ => none
/-- A slice's or an array's element: its cells; an array's length. -/
inductive Seq where
  | slice (elem size bytes : Nat)
  | array (len elem size : Nat)
  | str
  | other
def seqo (P : Program) (T : TypeId) : Seq := match P.underlying T with
  | some (.slice e) => match szo P e, byo P e with
    | some z, some b => .slice e z b
    | _, _ => .other
  | some (.array n e) => match szo P e with
    | some z => .array n e z
    | none => .other
  | some .string => .str
  | _ => .other
def into (P : Program) (T : TypeId) : Option IntKind := match P.underlying T with
  | some (.int k) => some k
  | _ => none

section
variable {P : Program} {w : World}
theorem run_size {T : TypeId} {z : Nat} (h : szo P T = some z) : (sizeOf T).run P w = .ok z w := by
  obtain ⟨i, hi, hz⟩ := Option.map_eq_some_iff.1 h
  simp [sizeOf, typeInfo, Sem.run, program, hi, hz]
theorem run_under {T : TypeId} {d : TypeDesc} (h : P.underlying T = some d) : (underlying T).run P w = .ok d w := run_underlying h w
theorem run_isAgg {T : TypeId} {g : Bool} (h : aggo P T = some g) : (isAgg T).run P w = .ok g w := by
  obtain ⟨d, hd, hg⟩ := Option.map_eq_some_iff.1 h
  subst hg
  simp only [isAgg, Sem.run_bind, run_under hd, Result.andThen_ok]
  cases d <;> rfl
end

def cellish : V → Bool
  | .s _ | .sl _ | .cap0 | .pc _ | .ptr .. | .loc .. | .fn .. => true
  | _ => false
def wk : V → V
  | .cap0 => .sl []
  | v => v
def cellOf (x : Value) : V := if flat x then .s x else match x with
  | .slice _ 0 0 => .sl []
  | _ => .any
def ofVal (x : Value) : V := if flat x then .s x else match x with
  | .slice _ 0 0 => .cap0
  | .agg xs => .agg (xs.toList.map cellOf)
  | _ => .any
def ev (t : Nat → V) : Operand → V
  | .tmp i => t i
  | .const v => ofVal v
  | .func f => .fn f []
  | .global _ => .any

section
variable {fv : Nat → Value} {w : World} {ok : Nat → Prop} {μ : Mu}
theorem Rp.nil (A : Option Addr) (c : Nat) : Rp fv w ok μ (.sl []) (.slice A 0 c) := .sl [] 0 c 0 A (fun _ _ => Go.undef) rfl (Nat.zero_le _) (by simp) (fun h => absurd rfl h) (fun i j h => absurd h (Nat.not_lt_zero _))
theorem Rp.weak {v : V} {x : Value} (h : Rp fv w ok μ v x) : Rp fv w ok μ (Am.wk v) x := by
  cases h with
  | cap0 A => exact Rp.nil A 0
  | undef => exact .undef
  | any x => exact .any x
  | s _ h => exact .s _ h
  | sl rows n c size A g hn hc hs hA hr => exact .sl rows n c size A g hn hc hs hA hr
  | agg cs xs hl h => exact .agg cs xs hl h
  | tup cs xs hl h => exact .tup cs xs hl h
  | pc cells ad g hb hc hr => exact .pc cells ad g hb hc hr
  | ptr b row col k base size h => exact .ptr b row col k base size h
  | loc b off len cap k base size h hc => exact .loc b off len cap k base size h hc
  | loc0 b off A t h => exact .loc0 b off A t h
  | fn f caps xs hl h => exact .fn f caps xs hl h
  | fv k => exact .fv k
theorem Rp.cell (x : Value) : Rp fv w ok μ (cellOf x) x := by
  unfold cellOf
  split
  · rename_i h; exact .s x h
  · split
    · exact Rp.nil _ _
    · exact .any _
theorem Rp.val (x : Value) : Rp fv w ok μ (ofVal x) x := by
  unfold ofVal
  split
  · rename_i h; exact .s x h
  · split
    · exact .cap0 _
    · rename_i xs _
      refine .agg _ _ (by simp) fun i hi => ?_
      have hi' : i < xs.size := by simpa using hi
      have h1 : (xs.toList.map cellOf).getD i .undef = cellOf xs[i] := by simp [List.getD_eq_getElem?_getD, hi']
      have h2 : xs.getD i Go.undef = xs[i] := by simp [hi']
      rw [h1, h2]
      exact Rp.cell _
    · exact .any _
theorem Rp.ev {t : Nat → V} {a : Act} (h : ∀ i, Rp fv w ok μ (t i) (a.tmps.getD i Go.undef)) (x : Operand) : Rp fv w ok μ (ev t x) (a.eval x) := by
  cases x with
  | tmp i => exact h i
  | const v => exact Rp.val v
  | global g => exact .any _
  | func f => exact .fn f [] #[] rfl (fun i hi => absurd hi (Nat.not_lt_zero _))
theorem Rp.part {cs : List V} {xs : Array Value} (hl : xs.size = cs.length) (h : ∀ i, i < cs.length → Rp fv w ok μ (cs.getD i .undef) (xs.getD i Go.undef)) (o n : Nat) (ho : o + n ≤ cs.length) :
    Rp fv w ok μ (.agg ((cs.drop o).take n)) (.agg (xs.extract o (o + n))) := by
  refine .agg _ _ (by simp; omega) fun i hi => ?_
  have hi' : i < n := by simp at hi; omega
  have h1 : ((cs.drop o).take n).getD i .undef = cs.getD (o + i) .undef := by simp [List.getD_eq_getElem?_getD, List.getElem?_drop, hi']
  have h2 : (xs.extract o (o + n)).getD i Go.undef = xs.getD (o + i) Go.undef := by
    simp only [Array.getD_eq_getD_getElem?, Array.getElem?_extract]
    rw [if_pos (by omega)]
  rw [h1, h2]
  exact h _ (by omega)
end

end Go.Proofs.Ytgohmphhgglmbaa.Am

/- An abstract machine over values: what an operation that turns no memory comes to. -/
set_option linter.unusedVariables false
set_option linter.unusedSimpArgs false
namespace Go.Proofs.Ytgohmphhgglmbaa.Am
open Go Go.RowKit

def aint (op : BinOp) (k : IntKind) (a b : Int) : Option V :=
  match op with
  | .add => some (.s (.int k (k.wrap (a + b))))
  | .sub => some (.s (.int k (k.wrap (a - b))))
  | .mul => some (.s (.int k (k.wrap (a * b))))
  | .quo => if b = 0 then none else some (.s (.int k (k.wrap (a.tdiv b))))
  | .rem => if b = 0 then none else some (.s (.int k (a.tmod b)))
  | .and => some (.s (.int k (k.wrap (BitVec.ofInt k.bits a &&& BitVec.ofInt k.bits b).toNat)))
  | .or => some (.s (.int k (k.wrap (BitVec.ofInt k.bits a ||| BitVec.ofInt k.bits b).toNat)))
  | .xor => some (.s (.int k (k.wrap (BitVec.ofInt k.bits a ^^^ BitVec.ofInt k.bits b).toNat)))
  | .andNot => some (.s (.int k (k.wrap (BitVec.ofInt k.bits a &&& ~~~(BitVec.ofInt k.bits b)).toNat)))
  | .eql => some (.s (.bool (a == b)))
  | .neq => some (.s (.bool (a != b)))
  | .lss => some (.s (.bool (decide (a < b))))
  | .leq => some (.s (.bool (decide (a ≤ b))))
  | .gtr => some (.s (.bool (decide (a > b))))
  | .geq => some (.s (.bool (decide (a ≥ b))))
  | _ => none
def astr (op : BinOp) (a b : ByteArray) : Option V :=
  match op with
  | .add => if a.size + b.size ≤ 9223372036854775807 then some (.s (.string (a ++ b))) else none
  | .eql => some (.s (.bool (a.toList == b.toList)))
  | .neq => some (.s (.bool (!(a.toList == b.toList))))
  | .lss => some (.s (.bool (Op.bytesLess a.toList b.toList)))
  | .leq => some (.s (.bool (Op.bytesLess a.toList b.toList || a.toList == b.toList)))
  | .gtr => some (.s (.bool (!(Op.bytesLess a.toList b.toList || a.toList == b.toList))))
  | .geq => some (.s (.bool (!Op.bytesLess a.toList b.toList)))
  | _ => none
def ashift (op : BinOp) (k : IntKind) (a b : Int) : Option V :=
  if b < 0 then none else match op with
    | .shl => some (.s (.int k (k.wrap (a * 2 ^ min b.toNat k.bits))))
    | .shr => some (.s (.int k (a.fdiv (2 ^ min b.toNat k.bits))))
    | _ => none
/-- '==' of plain cells. -/
def eqL : List Value → List Value → Option Bool
  | [], [] => some true
  | .int k a :: xs, .int k' b :: ys => if k = k' then (eqL xs ys).map ((a == b) && ·) else none
  | .string a :: xs, .string b :: ys => (eqL xs ys).map ((a.toList == b.toList) && ·)
  | .bool a :: xs, .bool b :: ys => (eqL xs ys).map ((a == b) && ·)
  | _, _ => none
/-- A list of cells of the kinds that a zero value has. -/
def fit1 : Value → Value → Bool
  | .int k _, .int k' _ => if k = k' then true else false
  | .string _, .string _ => true
  | .bool _, .bool _ => true
  | _, _ => false
def fits : List Value → List Value → Bool
  | [], [] => true
  | z :: zs, x :: xs => fit1 z x && fits zs xs
  | _, _ => false
def sOf : V → Option Value
  | .s v => some v
  | _ => none
def allS : List V → Option (List Value)
  | [] => some []
  | .s v :: l => (allS l).map (v :: ·)
  | _ => none
def isBoolT (P : Program) (T : TypeId) : Bool := match P.underlying T with
  | some .bool => true
  | _ => false
def aeq (P : Program) (plain : TypeId → Bool) (T : TypeId) (x y : V) : Option Bool :=
  match x, y with
  | .s (.bool a), .s (.bool b) => if isBoolT P T then some (a == b) else none
  | .agg xs, .agg ys => if plain T then match allS xs, allS ys, zro P T with
      | some X, some Y, some (.agg zs) => if (fits zs.toList X && fits zs.toList Y) = true then eqL X Y else none
      | _, _, _ => none
    else none
  | _, _ => none
def abin (P : Program) (plain : TypeId → Bool) (op : BinOp) (T : TypeId) (x y : V) : Option V :=
  match op, x, y with
  | .shl, .s (.int k a), .s (.int _ b) => ashift .shl k a b
  | .shr, .s (.int k a), .s (.int _ b) => ashift .shr k a b
  | op, .s (.int k a), .s (.int k' b) => if k = k' then aint op k a b else none
  | op, .s (.string a), .s (.string b) => astr op a b
  | .eql, x, y => (aeq P plain T x y).map fun b => .s (.bool b)
  | .neq, x, y => (aeq P plain T x y).map fun b => .s (.bool !b)
  | _, _, _ => none
def aun (op : UnOp) (x : V) : Option V :=
  match op, x with
  | .neg, .s (.int k n) => some (.s (.int k (k.wrap (0 - n))))
  | .xor, .s (.int k n) => some (.s (.int k (k.wrap (BitVec.ofInt k.bits (if k.signed then -1 else k.max) ^^^ BitVec.ofInt k.bits n).toNat)))
  | .not, .s (.bool b) => some (.s (.bool !b))
  | _, _ => none

/-- Plain struct types: '==' of two of them is '==' of their cells. -/
structure PlainOk (P : Program) (plain : TypeId → Bool) : Prop where
  eq : ∀ T, plain T = true → ∀ zs X Y b, zro P T = some (.agg zs) → fits zs.toList X = true → fits zs.toList Y = true → eqL X Y = some b → ∀ w, (Op.equal T (.agg X.toArray) (.agg Y.toArray)).run P w = .ok b w
  guard : ∀ T, plain T = true → P.eqGuardType P.depth T = false

section
variable {P : Program} {w : World}
theorem run_aint {op : BinOp} {k : IntKind} {a b : Int} {v : V} (h : aint op k a b = some v) (T : TypeId) : ∃ x, v = .s x ∧ flat x = true ∧ (binOp op T (.int k a) (.int k b)).run P w = .ok x w := by
  cases op <;> simp only [aint, Option.some.injEq, reduceCtorEq] at h
  case quo =>
    split at h
    · cases h
    · rename_i hb; cases h
      exact ⟨_, rfl, rfl, by simp [binOp, Op.intDiv, hb, Sem.run, pure]⟩
  case rem =>
    split at h
    · cases h
    · rename_i hb; cases h
      exact ⟨_, rfl, rfl, by simp [binOp, Op.intDiv, hb, Sem.run, pure]⟩
  all_goals
    subst h
    exact ⟨_, rfl, rfl, by simp [binOp, Op.intArith, Op.intBits, Op.intCmp, Sem.run, pure]⟩
theorem run_astr {op : BinOp} {a b : ByteArray} {v : V} (h : astr op a b = some v) (T : TypeId) : ∃ x, v = .s x ∧ flat x = true ∧ (binOp op T (.string a) (.string b)).run P w = .ok x w := by
  cases op <;> simp only [astr, Option.some.injEq, reduceCtorEq] at h
  case add =>
    split at h
    · rename_i hb; cases h
      refine ⟨_, rfl, rfl, ?_⟩
      have hm : ¬ ((a.size + b.size : Nat) : Int) > IntKind.i64.max := by simp [IntKind.max, IntKind.signed, IntKind.bits]; omega
      simp only [binOp, Op.stringOp, if_neg hm]
      simp [Sem.run, pure]
    · cases h
  all_goals
    subst h
    exact ⟨_, rfl, rfl, by simp [binOp, Op.stringOp, Sem.run, pure]⟩
theorem run_ashift {op : BinOp} {k k' : IntKind} {a b : Int} {v : V} (h : ashift op k a b = some v) (T : TypeId) : ∃ x, v = .s x ∧ flat x = true ∧ (binOp op T (.int k a) (.int k' b)).run P w = .ok x w := by
  unfold ashift at h
  split at h
  · cases h
  · rename_i hb
    cases op <;> simp only [Option.some.injEq, reduceCtorEq] at h <;> subst h <;> exact ⟨_, rfl, rfl, by simp [binOp, Op.shift, hb, Sem.run, pure]⟩
theorem run_aun {op : UnOp} {x : Value} {v : V} (h : aun op (.s x) = some v) : ∃ y, v = .s y ∧ flat y = true ∧ (Op.unary op x).run P w = .ok y w := by
  cases op <;> cases x <;> simp only [aun, Option.some.injEq, reduceCtorEq] at h <;> subst h <;> exact ⟨_, rfl, rfl, by simp [Op.unary, Op.intArith, Op.intBits, Sem.run, pure]⟩
end

section
variable {fv : Nat → Value} {w : World} {ok : Nat → Prop} {μ : Mu}
theorem Rp.s_eq {v x : Value} (h : Rp fv w ok μ (.s v) x) : x = v ∧ flat v = true := by cases h with | s _ h => exact ⟨rfl, h⟩
theorem allS_eq : ∀ {cs : List V} {X : List Value}, allS cs = some X → cs = X.map .s
  | [], X, h => by simp [allS] at h; subst h; rfl
  | .s v :: l, X, h => by
    simp only [allS, Option.map_eq_some_iff] at h
    obtain ⟨X', h1, rfl⟩ := h
    rw [allS_eq h1]; rfl
  | .undef :: l, X, h => by simp [allS] at h
  | .any :: l, X, h => by simp [allS] at h
  | .sl _ :: l, X, h => by simp [allS] at h
  | .cap0 :: l, X, h => by simp [allS] at h
  | .agg _ :: l, X, h => by simp [allS] at h
  | .tup _ :: l, X, h => by simp [allS] at h
  | .pc _ :: l, X, h => by simp [allS] at h
  | .ptr .. :: l, X, h => by simp [allS] at h
  | .loc .. :: l, X, h => by simp [allS] at h
  | .fn .. :: l, X, h => by simp [allS] at h
  | .fv _ :: l, X, h => by simp [allS] at h
  | .own .. :: l, X, h => by simp [allS] at h
theorem Rp.agg_plain {X : List Value} {x : Value} (h : Rp fv w ok μ (.agg (X.map .s)) x) : x = .agg X.toArray := by
  cases h with
  | agg _ xs hl h =>
    congr 1
    apply Array.ext
    · simpa using hl
    · intro i h1 h2
      have h2' : i < X.length := by simpa using h2
      have h3 := h i (by simpa using h2')
      have h4 : (X.map V.s).getD i .undef = .s X[i] := by simp [List.getD_eq_getElem?_getD, h2']
      rw [h4] at h3
      have := h3.s_eq.1
      simpa [h1] using this
theorem run_guard_plain {P : Program} {plain : TypeId → Bool} (hp : PlainOk P plain) {op : BinOp} {T : TypeId} {x y : Operand} {X Y : Array Value} (h : plain T = true) :
    (eqGuard op T x y (.agg X) (.agg Y)).run P w = .ok () w := by
  unfold eqGuard
  cases op <;> simp [Sem.run, pure, program, hp.guard T h, bind, Sem.bind]
theorem run_guard_s {P : Program} {op : BinOp} {T : TypeId} {x y : Operand} {a b : Value} (ha : ∀ X, a ≠ .agg X) (hb : a ≠ .nilIface) :
    (eqGuard op T x y a b).run P w = .ok () w := by
  unfold eqGuard
  cases op <;> simp [Sem.run, pure] <;> split <;> simp_all [Sem.run, pure]
theorem run_abin {P : Program} {plain : TypeId → Bool} (hp : PlainOk P plain) {op : BinOp} {T : TypeId} {x y : V} {a b : Value} {v : V} (hx : Rp fv w ok μ x a) (hy : Rp fv w ok μ y b) (h : abin P plain op T x y = some v) (xo yo : Operand) :
    ∃ z, v = .s z ∧ flat z = true ∧ (do eqGuard op T xo yo a b; binOp op T a b : Sem Value).run P w = .ok z w := by
  have key : ∀ {u : V}, aeq P plain T x y = (match u with | .s (.bool q) => some q | _ => none) → (∃ q, u = .s (.bool q)) → ∃ q, u = .s (.bool q) ∧ (eqGuard op T xo yo a b).run P w = .ok () w ∧ (Op.equal T a b).run P w = .ok q w ∧ (∀ k n, a ≠ .int k n) ∧ (∀ s, a ≠ .string s) ∧ (∀ k n, a ≠ .float k n) ∧ (∀ k n m, a ≠ .complex k n m) ∧ (∀ p, a ≠ .pointer p) := by
    rintro u hq ⟨q, rfl⟩
    refine ⟨q, rfl, ?_⟩
    simp only at hq
    unfold aeq at hq
    split at hq
    · split at hq
      · rename_i p r hT
        cases hq
        obtain ⟨rfl, _⟩ := hx.s_eq
        obtain ⟨rfl, _⟩ := hy.s_eq
        refine ⟨run_guard_s (by simp) (by simp), ?_, by simp, by simp, by simp, by simp, by simp⟩
        have hu : P.underlying T = some .bool := by unfold isBoolT at hT; split at hT <;> simp_all
        show (Op.equalIn (9999 + 1) T _ _).run P w = _
        generalize 9999 = dd
        simp [Op.equalIn, run_under hu, Sem.run, pure]
      · cases hq
    · split at hq
      · rename_i xs ys hT
        split at hq
        · rename_i X Y zs hX hY hZ
          split at hq
          case isFalse => cases hq
          rename_i hft
          simp only [Bool.and_eq_true] at hft
          rw [allS_eq hX] at hx
          rw [allS_eq hY] at hy
          obtain rfl := hx.agg_plain
          obtain rfl := hy.agg_plain
          exact ⟨run_guard_plain hp hT, hp.eq T hT zs X Y q hZ hft.1 hft.2 hq w, by simp, by simp, by simp, by simp, by simp⟩
        · cases hq
      · cases hq
    · cases hq
  unfold abin at h
  split at h
  · obtain ⟨rfl, _⟩ := hx.s_eq
    obtain ⟨rfl, _⟩ := hy.s_eq
    obtain ⟨z, h1, h2, h3⟩ := run_ashift (P := P) (w := w) (k' := ‹IntKind›) h T
    exact ⟨z, h1, h2, by simp [run_guard_s (P := P) (w := w) (op := .shl) (T := T) (x := xo) (y := yo) (a := .int _ _) (b := .int _ _), h3]⟩
  · obtain ⟨rfl, _⟩ := hx.s_eq
    obtain ⟨rfl, _⟩ := hy.s_eq
    obtain ⟨z, h1, h2, h3⟩ := run_ashift (P := P) (w := w) (k' := ‹IntKind›) h T
    exact ⟨z, h1, h2, by simp [run_guard_s (P := P) (w := w) (op := .shr) (T := T) (x := xo) (y := yo) (a := .int _ _) (b := .int _ _), h3]⟩
  · split at h
    · rename_i hk
      subst hk
      obtain ⟨rfl, _⟩ := hx.s_eq
      obtain ⟨rfl, _⟩ := hy.s_eq
      obtain ⟨z, h1, h2, h3⟩ := run_aint (P := P) (w := w) h T
      exact ⟨z, h1, h2, by simp [run_guard_s (P := P) (w := w) (T := T) (x := xo) (y := yo) (a := .int _ _) (b := .int _ _), h3]⟩
    · cases h
  · obtain ⟨rfl, _⟩ := hx.s_eq
    obtain ⟨rfl, _⟩ := hy.s_eq
    obtain ⟨z, h1, h2, h3⟩ := run_astr (P := P) (w := w) h T
    exact ⟨z, h1, h2, by simp [run_guard_s (P := P) (w := w) (T := T) (x := xo) (y := yo) (a := .string _) (b := .string _), h3]⟩
  · simp only [Option.map_eq_some_iff] at h
    obtain ⟨q, hq, rfl⟩ := h
    obtain ⟨q', he, h1, h2, n1, n2, n3, n4, n5⟩ := key (u := .s (.bool q)) (by simpa using hq) ⟨q, rfl⟩
    cases he
    refine ⟨_, rfl, rfl, ?_⟩
    simp only [Sem.run_bind, h1, Result.andThen_ok]
    unfold binOp
    split <;> simp_all [Sem.run, pure]
  · simp only [Option.map_eq_some_iff] at h
    obtain ⟨q, hq, rfl⟩ := h
    obtain ⟨q', he, h1, h2, n1, n2, n3, n4, n5⟩ := key (u := .s (.bool q)) (by simpa using hq) ⟨q, rfl⟩
    cases he
    refine ⟨_, rfl, rfl, ?_⟩
    simp only [Sem.run_bind, h1, Result.andThen_ok]
    unfold binOp
    split <;> simp_all [Sem.run, pure]
  · cases h
end
end Go.Proofs.Ytgohmphhgglmbaa.Am

/- An abstract machine over values: operations on their operands' values. -/
set_option linter.unusedVariables false
set_option linter.unusedSimpArgs false
namespace Go.Proofs.Ytgohmphhgglmbaa.Am
open Go Go.RowKit

def byteAt (s : ByteArray) (i : Nat) : UInt8 := s.data.toList.getD i 0
def asN : V → Option Nat
  | .s (.int _ n) => if 0 ≤ n then some n.toNat else none
  | _ => none
/-- A value's cells, where it is one that can be stored. -/
def cellsV : V → Option (List V)
  | .agg cs => some cs
  | v => if cellish v then some [v] else none
def setAt (row : List V) (col : Nat) (cs : List V) : List V := row.take col ++ cs ++ row.drop (col + cs.length)
def cellsZ : Value → List V
  | .agg xs => xs.toList.map cellOf
  | v => [ofVal v]
def afill (pl : Nat → Option (Nat × Nat)) : List V → List (Nat × V) → Option (List V)
  | cs, [] => some cs
  | cs, (i, v) :: r => match pl i, cellsV v with
    | some (o, z), some vs => if vs.length = z ∧ o + z ≤ cs.length then afill pl (setAt cs o (vs.map wk)) r else none
    | _, _ => none
def aload (P : Program) (h : Hp) (T : TypeId) (p : V) : Option V :=
  match aggo P T, szo P T with
  | some g, some z => match p with
    | .pc cs => if g then (if z ≤ cs.length then some (.agg (cs.take z)) else none) else (if 0 < cs.length then some (cs.getD 0 .undef) else none)
    | .ptr b r k => match h b with
      | some B => if g then (if r < B.rows.length ∧ k + z ≤ B.size then some (.agg (((B.rows.getD r []).drop k).take z)) else none)
          else (if r < B.rows.length ∧ k < B.size then some (cellAt B.rows r k) else none)
      | none => none
    | _ => none
  | _, _ => none
def bnd (v : Option V) (d : Nat) : Option Nat := match v with
  | none => some d
  | some v => asN v
def aslice (P : Program) (h : Hp) (T : TypeId) (x : V) (lo hi mx : Option V) : Option V :=
  match seqo P T, x, mx with
  | .str, .s (.string s), none => match bnd lo 0, bnd hi s.size with
    | some l, some r => if l ≤ r ∧ r ≤ s.size then some (.s (.string (s.extract l r))) else none
    | _, _ => none
  | .slice _ z _, .sl rows, none => match bnd lo 0, bnd hi rows.length with
    | some l, some r => if l ≤ r ∧ r ≤ rows.length ∧ (∀ q ∈ rows, q.length = z) then some (.sl ((rows.drop l).take (r - l))) else none
    | _, _ => none
  | .slice _ z _, .sl rows, some mx => match bnd lo 0, bnd hi rows.length, asN mx with
    | some l, some r, some m => if l ≤ r ∧ r ≤ m ∧ m ≤ rows.length ∧ hi.isSome ∧ (∀ q ∈ rows, q.length = z) then (if l = m then some .cap0 else some (.sl ((rows.drop l).take (r - l)))) else none
    | _, _, _ => none
  | .slice _ _ _, .cap0, none => match bnd lo 0, bnd hi 0 with
    | some 0, some 0 => some .cap0
    | _, _ => none
  | .slice _ z _, .loc b off len cap, mx => match bnd lo 0, bnd hi len, bnd mx cap with
    | some l, some r, some m => match h b with
      | some B => if l ≤ r ∧ r ≤ m ∧ m ≤ cap ∧ (hi.isSome ∨ mx.isNone) ∧ B.size = z then some (.loc b (off + l) (r - l) (m - l)) else none
      | none => none
    | _, _, _ => none
  | _, _, _ => none
def afield (P : Program) (S : TypeId) (x : V) (f : Nat) : Option V :=
  match fldo P S f, x with
  | some (o, z, g), .agg cs => if g then (if o + z ≤ cs.length then some (.agg ((cs.drop o).take z)) else none) else (if o < cs.length then some (cs.getD o .undef) else none)
  | _, _ => none
def afieldAddr (P : Program) (S : TypeId) (x : V) (f : Nat) : Option V :=
  match fldo P S f with
  | some (o, z, _) => if z = 0 then none else match x with
    | .ptr b r k => some (.ptr b r (k + o))
    | .pc cs => if o < cs.length then some (.pc (cs.drop o)) else none
    | _ => none
  | none => none
def aindexAddr (P : Program) (h : Hp) (T : TypeId) (x ix : V) : Option V :=
  match seqo P T, asN ix with
  | .slice _ z _, some i => match x with
    | .sl rows => if i < rows.length ∧ 0 < z ∧ (∀ r ∈ rows, r.length = z) then some (.pc (rows.getD i [])) else none
    | .loc b off len cap => match h b with
      | some B => if i < len ∧ B.size = z then some (.ptr b (off + i) 0) else none
      | none => none
    | _ => none
  | .array n _ z, some i => if i < n ∧ 0 < z then (match x with
    | .ptr b r k => some (.ptr b r (k + i * z))
    | .pc cs => if i * z < cs.length then some (.pc (cs.drop (i * z))) else none
    | _ => none) else none
  | _, _ => none
def aindex (P : Program) (T : TypeId) (x ix : V) : Option V :=
  match seqo P T, x, asN ix with
  | .str, .s (.string s), some i => if i < s.size then some (.s (.int .u8 (byteAt s i).toNat)) else none
  | .array n e z, .agg cs, some i => match aggo P e with
    | some true => if i < n ∧ i * z + z ≤ cs.length then some (.agg ((cs.drop (i * z)).take z)) else none
    | some false => if i < n ∧ i * z < cs.length then some (cs.getD (i * z) .undef) else none
    | none => none
  | _, _, _ => none
/-- Where the parts of a struct or of an array lie. -/
inductive Pl where
  | fields (l : List (Nat × Nat))
  | elems (size : Nat)
  | other
def plc (P : Program) (T : TypeId) : Pl := match P.underlying T with
  | some (.struct fs) => match fs.toList.mapM (fun f => (P.info? f.type).map fun i => (f.offset, i.size)) with
    | some l => .fields l
    | none => .other
  | some (.array _ e) => match P.info? e with
    | some ie => .elems ie.size
    | none => .other
  | _ => .other
def abuild (P : Program) (e : Operand → V) (T : TypeId) (parts : List (Nat × Operand)) : Option V :=
  match zro P T, plc P T with
  | some z, .fields l => (afill (fun i => l[i]?) (cellsZ z) (parts.map fun q => (q.1, e q.2))).map .agg
  | some z, .elems sz => (afill (fun i => some (i * sz, sz)) (cellsZ z) (parts.map fun q => (q.1, e q.2))).map .agg
  | _, _ => none
def alen (P : Program) (T : TypeId) (x : V) : Option V :=
  match seqo P T, x with
  | .str, .s (.string s) => some (.s (.int .i64 s.size))
  | .slice _ _ _, .sl rows => some (.s (.int .i64 rows.length))
  | .slice _ _ _, .loc _ _ n _ => some (.s (.int .i64 n))
  | .slice _ _ _, .cap0 => some (.s (.int .i64 0))
  | .array n _ _, _ => some (.s (.int .i64 n))
  | _, _ => none
def acap (P : Program) (T : TypeId) (x : V) : Option V :=
  match seqo P T, x with
  | .slice _ _ _, .loc _ _ _ n => some (.s (.int .i64 n))
  | .slice _ _ _, .cap0 => some (.s (.int .i64 0))
  | _, _ => none
def amin : List V → Option V
  | [.s (.int k x), .s (.int k' y)] => if k = k' then some (.s (.int k (if y < x then y else x))) else none
  | _ => none
def amax : List V → Option V
  | [.s (.int k x), .s (.int k' y)] => if k = k' then some (.s (.int k (if x < y then y else x))) else none
  | _ => none
/-- The rows of a slice. -/
def rowsOf (h : Hp) : V → Option (List (List V))
  | .sl rows => some rows
  | .cap0 => some []
  | .loc b off len _ => match h b with
    | some B => if off + len ≤ B.rows.length then some ((B.rows.drop off).take len) else none
    | none => none
  | _ => none
def bytesOf : List (List V) → Option (List Int)
  | [] => some []
  | [.s (.int .u8 n)] :: l => (bytesOf l).map (n :: ·)
  | _ => none
def strOf (l : List Int) : ByteArray := ⟨(l.map fun n => UInt8.ofNat n.toNat).toArray⟩
def aconv (P : Program) (h : Hp) (src dst : TypeId) (x : V) : Option V :=
  match P.underlying src, P.underlying dst, x with
  | some _, some (.int k), .s (.int _ n) => some (.s (.int k (k.wrap n)))
  | some .string, some .string, .s (.string b) => some (.s (.string b))
  | some (.slice e), some .string, x => match P.underlying e, rowsOf h x with
    | some (.int .u8), some rows => (bytesOf rows).map fun l => .s (.string (strOf l))
    | _, _ => none
  | _, _, _ => none

def pval (P : Program) (plain : TypeId → Bool) (h : Hp) (e : Operand → V) : Op → Option V
  | .move x | .assign x => some (e x)
  | .pick c a b => match e c with
    | .s (.bool t) => some (if t then e a else e b)
    | _ => none
  | .load T a => aload P h T (e a)
  | .nilCheck x => match e x with
    | .ptr b r k => some (.ptr b r k)
    | .pc cs => some (.pc cs)
    | .fn f cs => some (.fn f cs)
    | _ => none
  | .binOp op T x y _ => abin P plain op T (e x) (e y)
  | .unOp op _ x => aun op (e x)
  | .convert src dst x => aconv P h src dst (e x)
  | .slice T x lo hi mx => aslice P h T (e x) (lo.map e) (hi.map e) (mx.map e)
  | .field T x f => afield P T (e x) f
  | .fieldAddr T x f => afieldAddr P T (e x) f
  | .indexAddr T x i => aindexAddr P h T (e x) (e i)
  | .index T x i => aindex P T (e x) (e i)
  | .extract x i => match e x with
    | .tup vs => vs[i]?
    | _ => none
  | .makeFunc fn first caps => match fn with
    | .func f => if first = #[] then some (.fn f (caps.toList.map e)) else none
    | _ => none
  | .build T parts => abuild P e T parts.toList
  | .call cl => match cl.callee with
    | .builtin .len => match cl.args.toList, cl.argTypes.toList with
      | [x], [T] => alen P T (e x)
      | _, _ => none
    | .builtin .cap => match cl.args.toList, cl.argTypes.toList with
      | [x], [T] => acap P T (e x)
      | _, _ => none
    | .builtin .min => amin (cl.args.toList.map e)
    | .builtin .max => amax (cl.args.toList.map e)
    | _ => none
  | _ => none
end Go.Proofs.Ytgohmphhgglmbaa.Am

/- An abstract machine over values: the operations that turn no memory are right. -/
set_option linter.unusedVariables false
set_option linter.unusedSimpArgs false
namespace Go.Proofs.Ytgohmphhgglmbaa.Am
open Go Go.RowKit

section
variable {fv : Nat → Value} {w : World} {ok : Nat → Prop} {μ : Mu}
theorem Rp.pc_inv {cs : List V} {x : Value} (h : Rp fv w ok μ (.pc cs) x) : ∃ (ad : Addr) (g : Nat → Value), x = .pointer (some ad) ∧ ok ad.block ∧ (∀ j, j < cs.length → w.cell? (ad.add j) = some (g j)) ∧ ∀ j, j < cs.length → Dp w ok (cs.getD j .undef) (g j) := by
  cases h with | pc _ ad g hb hc hr => exact ⟨ad, g, rfl, hb, hc, hr⟩
theorem Rp.ptr_inv {b r k : Nat} {x : Value} (h : Rp fv w ok μ (.ptr b r k) x) : ∃ q base size, μ b = some (.real q base size) ∧ x = .pointer (some ⟨q, base + (r * size + k), none⟩) := by
  cases h with | ptr _ _ _ q base size h => exact ⟨q, base, size, h, rfl⟩
theorem Rp.agg_inv {cs : List V} {x : Value} (h : Rp fv w ok μ (.agg cs) x) : ∃ xs : Array Value, x = .agg xs ∧ xs.size = cs.length ∧ ∀ i, i < cs.length → Rp fv w ok μ (cs.getD i .undef) (xs.getD i Go.undef) := by
  cases h with | agg _ xs hl h => exact ⟨xs, rfl, hl, h⟩
theorem Rp.tup_inv {cs : List V} {x : Value} (h : Rp fv w ok μ (.tup cs) x) : ∃ xs : Array Value, x = .tuple xs ∧ xs.size = cs.length ∧ ∀ i, i < cs.length → Rp fv w ok μ (cs.getD i .undef) (xs.getD i Go.undef) := by
  cases h with | tup _ xs hl h => exact ⟨xs, rfl, hl, h⟩
theorem Rp.fn_inv {f : Nat} {cs : List V} {x : Value} (h : Rp fv w ok μ (.fn f cs) x) : ∃ xs : Array Value, x = .func (.func f) #[] xs ∧ xs.size = cs.length ∧ ∀ i, i < cs.length → Rp fv w ok μ (cs.getD i .undef) (xs.getD i Go.undef) := by
  cases h with | fn _ _ xs hl h => exact ⟨xs, rfl, hl, h⟩
theorem Rp.sl_inv {rows : List (List V)} {x : Value} (h : Rp fv w ok μ (.sl rows) x) : ∃ (c size : Nat) (A : Option Addr) (g : Nat → Nat → Value), x = .slice A rows.length c ∧ rows.length ≤ c ∧ (∀ r ∈ rows, r.length = size) ∧
    (rows.length ≠ 0 → ∃ ad : Addr, A = some ad ∧ ok ad.block ∧ ∀ i j, i < rows.length → j < size → w.cell? (ad.add (i * size + j)) = some (g i j)) ∧ ∀ i j, i < rows.length → j < size → Dp w ok (cellAt rows i j) (g i j) := by
  cases h with | sl _ n c size A g hn hc hs hA hr => subst hn; exact ⟨c, size, A, g, rfl, hc, hs, hA, hr⟩
theorem Rp.loc_inv {b off len cap : Nat} {x : Value} (h : Rp fv w ok μ (.loc b off len cap) x) : len ≤ cap ∧ ((∃ k base size, μ b = some (.real k base size) ∧ x = .slice (some ⟨k, base + off * size, none⟩) len cap) ∨ (len = 0 ∧ cap = 0 ∧ ∃ A t, μ b = some t ∧ x = .slice A 0 0)) := by
  cases h with
  | loc _ _ _ _ k base size h hc => exact ⟨hc, .inl ⟨k, base, size, h, rfl⟩⟩
  | loc0 _ _ A t h => exact ⟨Nat.le_refl _, .inr ⟨rfl, rfl, A, t, h, rfl⟩⟩
theorem Rp.cap0_inv {x : Value} (h : Rp fv w ok μ .cap0 x) : ∃ A, x = .slice A 0 0 := by cases h with | cap0 A => exact ⟨A, rfl⟩
theorem Rp.asN_eq {v : V} {x : Value} {n : Nat} (h : Rp fv w ok μ v x) (hn : asN v = some n) : ∃ k, x = .int k n := by
  unfold asN at hn
  split at hn
  · split at hn
    · rename_i k m h0
      cases hn
      obtain ⟨rfl, _⟩ := h.s_eq
      exact ⟨k, by congr 1; omega⟩
    · cases hn
  · cases hn
end

theorem run_getInt {P : Program} {w : World} {k : IntKind} {n : Int} : (asIntOf (.int k n)).run P w = .ok (k, n) w := by simp [asIntOf, Sem.run, pure]

section
variable {c : Cx} {h : Hp} {n : Nat} {μ : Mu} {w : World}
/-- The cells behind a pointer into a block of one's own. -/
theorem HS.at (H : HS c h n μ w) {b : Nat} {B : Blk} {q base size r j : Nat} (hb : h b = some B) (hm : μ b = some (.real q base size)) (hr : r < B.rows.length) (hj : j < B.size) :
    size = B.size ∧ ∃ x, w.cell? ⟨q, base + (r * B.size + j), none⟩ = some x ∧ (∀ o, (B.size ≠ 1 ∨ o = base + (r * B.size + j)) → w.frozen? ⟨q, o, none⟩ = false) ∧ R c h μ w (cellAt B.rows r j) x := by
  rcases H.blk b B hb with ⟨h1, h2⟩ | ⟨k, base', h1, h2, h3, h4, h5⟩
  · rw [h2] at hr; exact absurd hr (Nat.not_lt_zero _)
  · rw [hm] at h1
    cases h1
    exact ⟨rfl, h5 r j hr hj⟩

theorem load_sound (H : HS c h n μ w) {T : TypeId} {p v : V} {x : Value} (hp : R c h μ w p x) (hv : aload c.P h T p = some v) : ∃ y, (Instr.loadAt T x).run c.P w = .ok y w ∧ R c h μ w v y := by
  unfold aload at hv
  split at hv
  · rename_i g z hg hz
    split at hv
    · rename_i cs
      obtain ⟨ad, f, rfl, hok, hc, hr⟩ := hp.pc_inv
      cases g with
      | true =>
        simp only [if_true] at hv
        split at hv
        · rename_i hl
          cases hv
          refine ⟨.agg ((List.range z).map f).toArray, ?_, ?_⟩
          · simp [Instr.loadAt, Instr.sureAddr, loadVar, run_isAgg hg, run_size hz, run_loadCells w ad z f (fun j hj => hc j (by omega)), Sem.run, pure]
          · refine .agg _ _ (by simp; omega) fun i hi => ?_
            have hi' : i < z := by simp at hi; omega
            have h1 : (cs.take z).getD i .undef = cs.getD i .undef := by simp [List.getD_eq_getElem?_getD, List.getElem?_take, hi']
            rw [h1]
            have := (hr i (by omega)).R (fvals := c.fvals) (μ := μ)
            simpa [hi'] using this
        · cases hv
      | false =>
        simp only [Bool.false_eq_true, if_false] at hv
        split at hv
        · rename_i hl
          cases hv
          refine ⟨f 0, ?_, (hr 0 hl).R⟩
          have h0 := hc 0 hl
          have ha : ad.add 0 = ad := by simp [Addr.add]
          rw [ha] at h0
          simp [Instr.loadAt, Instr.sureAddr, loadVar, run_isAgg hg, run_load, h0, Sem.run, pure]
        · cases hv
    · rename_i b r k
      obtain ⟨q, base, size, hm, rfl⟩ := hp.ptr_inv
      split at hv
      · rename_i B hb
        cases g with
        | true =>
          simp only [if_true] at hv
          split at hv
          · rename_i hl
            cases hv
            by_cases hz0 : B.size = 0
            · have hz' : z = 0 := by omega
              subst hz'
              refine ⟨.agg #[], ?_, by simpa using (Rp.agg [] #[] rfl (fun i hi => absurd hi (Nat.not_lt_zero _)))⟩
              have := run_loadCells (P := c.P) w ⟨q, base + (r * size + k), none⟩ 0 (fun _ => Go.undef) (fun j hj => absurd hj (Nat.not_lt_zero _))
              simp at this
              simp [Instr.loadAt, Instr.sureAddr, loadVar, run_isAgg hg, run_size hz, this, Sem.run, pure]
            · obtain ⟨hs, _⟩ := H.at hb hm hl.1 (show 0 < B.size by omega)
              subst hs
              have hcell : ∀ j, ∃ x, j < z → w.cell? ⟨q, base + (r * B.size + k) + j, none⟩ = some x ∧ R c h μ w (cellAt B.rows r (k + j)) x := by
                intro j
                by_cases hj : j < z
                · obtain ⟨_, x, h1, _, h3⟩ := H.at hb hm hl.1 (show k + j < B.size by omega)
                  exact ⟨x, fun _ => ⟨by rw [show base + (r * B.size + k) + j = base + (r * B.size + (k + j)) by omega]; exact h1, h3⟩⟩
                · exact ⟨Go.undef, fun h => absurd h hj⟩
              obtain ⟨f, hf⟩ := Classical.axiomOfChoice hcell
              refine ⟨.agg ((List.range z).map f).toArray, ?_, ?_⟩
              · have := run_loadCells (P := c.P) w ⟨q, base + (r * B.size + k), none⟩ z f (fun j hj => by rw [add_plain]; exact (hf j hj).1)
                simp [Instr.loadAt, Instr.sureAddr, loadVar, run_isAgg hg, run_size hz, this, Sem.run, pure]
              · have hlen : (B.rows.getD r []).length = B.size := by
                  rcases H.blk b B hb with ⟨h1, h2⟩ | ⟨k', base', h1, h2, h3, h4, h5⟩
                  · rw [hm] at h1; cases h1
                  · exact h4 _ (by rw [List.getD_eq_getElem?_getD, List.getElem?_eq_getElem hl.1]; exact List.getElem_mem _)
                refine .agg _ _ (by simp only [List.length_take, List.length_drop, hlen, List.size_toArray, List.length_map, List.length_range]; omega) fun i hi => ?_
                have hi' : i < z := by simp at hi; omega
                have h1 : (((B.rows.getD r []).drop k).take z).getD i .undef = cellAt B.rows r (k + i) := by simp [cellAt, List.getD_eq_getElem?_getD, List.getElem?_take, hi', List.getElem?_drop]
                rw [h1]
                simpa [hi'] using (hf i hi').2
          · cases hv
        | false =>
          simp only [Bool.false_eq_true, if_false] at hv
          split at hv
          · rename_i hl
            cases hv
            obtain ⟨hs, x, h1, _, h3⟩ := H.at hb hm hl.1 hl.2
            subst hs
            exact ⟨x, by simp [Instr.loadAt, Instr.sureAddr, loadVar, run_isAgg hg, run_load, h1, Sem.run, pure], h3⟩
          · cases hv
      · cases hv
    · cases hv
  · cases hv

theorem fldo_inv {P : Program} {S : TypeId} {f o z : Nat} {g : Bool} (hf : fldo P S f = some (o, z, g)) : ∃ fs fl, P.underlying S = some (.struct fs) ∧ fs[f]? = some fl ∧ fl.offset = o ∧ szo P fl.type = some z ∧ aggo P fl.type = some g := by
  unfold fldo at hf
  split at hf
  · rename_i fs hu
    split at hf
    · rename_i fl hfl
      split at hf
      · rename_i z' g' h1 h2
        cases hf
        exact ⟨fs, fl, hu, hfl, rfl, h1, h2⟩
      · cases hf
    · cases hf
  · cases hf

theorem run_part_agg {P : Program} {w : World} {T : TypeId} {xs : Array Value} {o z : Nat} (hg : aggo P T = some true) (hz : szo P T = some z) : (part T xs o).run P w = .ok (.agg (xs.extract o (o + z))) w := by
  simp [part, run_isAgg hg, run_size hz, Sem.run, pure]
theorem run_part_one {P : Program} {w : World} {T : TypeId} {xs : Array Value} {o : Nat} (hg : aggo P T = some false) (ho : o < xs.size) : (part T xs o).run P w = .ok (xs.getD o Go.undef) w := by
  simp [part, run_isAgg hg, ho, Sem.run, pure]

theorem field_sound {S : TypeId} {f : Nat} {p v : V} {x : Value} (hp : R c h μ w p x) (hv : afield c.P S p f = some v) : ∃ y, (Instr.field S x f).run c.P w = .ok y w ∧ R c h μ w v y := by
  unfold afield at hv
  split at hv
  · rename_i o z g cs hf
    obtain ⟨fs, fl, hu, hfl, ho, hz, hg⟩ := fldo_inv hf
    obtain ⟨xs, rfl, hl, hr⟩ := hp.agg_inv
    cases g with
    | true =>
      simp only [if_true] at hv
      split at hv
      · rename_i hb
        cases hv
        exact ⟨_, by simp [Instr.field, run_under hu, hfl, asAgg, ho, run_part_agg hg hz, Sem.run, pure], Rp.part hl hr o z hb⟩
      · cases hv
    | false =>
      simp only [Bool.false_eq_true, if_false] at hv
      split at hv
      · rename_i hb
        cases hv
        have h1 := run_part_one (P := c.P) (w := w) (xs := xs) (o := o) hg (by omega)
        exact ⟨xs.getD o Go.undef, by simp only [Instr.field, Sem.run_bind, run_under hu, hfl, asAgg, ho, Result.andThen_ok, Sem.run_pure, h1], hr o hb⟩
      · cases hv
  · cases hv

theorem fieldAddr_sound {S : TypeId} {f : Nat} {p v : V} {x : Value} (hp : R c h μ w p x) (hv : afieldAddr c.P S p f = some v) : ∃ y, (Instr.fieldAt S x f).run c.P w = .ok y w ∧ R c h μ w v y := by
  unfold afieldAddr at hv
  split at hv
  · rename_i o z g hf
    obtain ⟨fs, fl, hu, hfl, ho, hz, hg⟩ := fldo_inv hf
    split at hv
    · cases hv
    · rename_i hz0
      have hrun : ∀ ad : Addr, (Instr.fieldAt S (.pointer (some ad)) f).run c.P w = .ok (.pointer (some (ad.add o))) w := by
        intro ad
        simp [Instr.fieldAt, run_under hu, hfl, Instr.sureAddr, fieldPlace, run_size hz, hz0, ho, Sem.run, pure]
      split at hv
      · rename_i b r k
        cases hv
        obtain ⟨q, base, size, hm, rfl⟩ := hp.ptr_inv
        refine ⟨_, hrun _, ?_⟩
        rw [add_plain, show base + (r * size + k) + o = base + (r * size + (k + o)) by omega]
        exact .ptr b r (k + o) q base size hm
      · rename_i cs
        split at hv
        · rename_i hlt
          cases hv
          obtain ⟨ad, f', rfl, hok, hc, hr⟩ := hp.pc_inv
          refine ⟨_, hrun _, .pc _ _ (fun j => f' (o + j)) (by rw [add_block]; exact hok) (fun j hj => ?_) fun j hj => ?_⟩
          · rw [add_add]; exact hc _ (by simp at hj; omega)
          · have h1 : (cs.drop o).getD j .undef = cs.getD (o + j) .undef := by simp [List.getD_eq_getElem?_getD, List.getElem?_drop]
            rw [h1]; exact hr _ (by simp at hj; omega)
        · cases hv
      · cases hv
  · cases hv

theorem seqo_slice {P : Program} {T e z b : Nat} (hs : seqo P T = .slice e z b) : P.underlying T = some (.slice e) ∧ szo P e = some z ∧ byo P e = some b := by
  unfold seqo at hs
  split at hs
  · rename_i e' hu
    split at hs
    · rename_i z' b' h1 h2; cases hs; exact ⟨hu, h1, h2⟩
    · cases hs
  · split at hs <;> cases hs
  · cases hs
  · cases hs
theorem seqo_array {P : Program} {T e z n : Nat} (hs : seqo P T = .array n e z) : P.underlying T = some (.array n e) ∧ szo P e = some z := by
  unfold seqo at hs
  split at hs
  · split at hs <;> cases hs
  · rename_i n' e' hu
    split at hs
    · rename_i z' h1; cases hs; exact ⟨hu, h1⟩
    · cases hs
  · cases hs
  · cases hs
theorem seqo_str {P : Program} {T : Nat} (hs : seqo P T = .str) : P.underlying T = some .string := by
  unfold seqo at hs
  split at hs
  · split at hs <;> cases hs
  · split at hs <;> cases hs
  · rename_i hu; exact hu
  · cases hs

theorem indexAddr_sound (H : HS c h n μ w) {T : TypeId} {p i v : V} {x y : Value} (hp : R c h μ w p x) (hi : R c h μ w i y) (hv : aindexAddr c.P h T p i = some v) : ∃ z, (Instr.indexAt T x y).run c.P w = .ok z w ∧ R c h μ w v z := by
  unfold aindexAddr at hv
  split at hv
  · rename_i e z b m hs hm
    obtain ⟨hu, hz, hb⟩ := seqo_slice hs
    obtain ⟨k, rfl⟩ := hi.asN_eq hm
    have hrun : ∀ (ad : Addr) len cap, m < len → (Instr.indexAt T (.slice (some ad) len cap) (.int k m)).run c.P w = .ok (.pointer (some (ad.add (m * z)))) w := by
      intro ad len cap hlt
      have h1 : (0 : Int) ≤ (m : Int) ∧ (m : Int) < (len : Int) := ⟨by omega, by omega⟩
      simp [Instr.indexAt, run_getInt, run_under hu, run_size hz, h1, Sem.run, pure, hlt]
    split at hv
    · rename_i rows
      split at hv
      · rename_i hlt
        cases hv
        obtain ⟨cp, size, A, g, rfl, hc, hsz, hA, hr⟩ := hp.sl_inv
        obtain ⟨ad, rfl, hok, hcell⟩ := hA (by omega)
        have hrow : rows.getD m [] ∈ rows := by rw [List.getD_eq_getElem?_getD, List.getElem?_eq_getElem hlt.1]; exact List.getElem_mem _
        have hs1 := hsz _ hrow
        have hs2 := hlt.2.2 _ hrow
        have hze : size = z := by omega
        subst hze
        refine ⟨_, hrun _ _ _ hlt.1, .pc _ _ (fun j => g m j) (by rw [add_block]; exact hok) (fun j hj => ?_) fun j hj => hr m j hlt.1 (by omega)⟩
        rw [add_add]; exact hcell m j hlt.1 (by omega)
      · cases hv
    · rename_i bb off len cap
      split at hv
      · rename_i B hB
        split at hv
        · rename_i hlt
          cases hv
          obtain ⟨hlc, ⟨q, base, size, hmu, rfl⟩ | ⟨h0, _⟩⟩ := hp.loc_inv
          · refine ⟨_, hrun _ _ _ hlt.1, ?_⟩
            have hsz : size = B.size := by
              rcases H.blk bb B hB with ⟨h1, _⟩ | ⟨k', base', h1, _⟩
              · rw [hmu] at h1; cases h1
              · rw [hmu] at h1; cases h1; rfl
            rw [add_plain, ← hlt.2, ← hsz, Nat.add_assoc, ← Nat.add_mul]
            exact .ptr bb (off + m) 0 q base size hmu
          · omega
        · cases hv
      · cases hv
    · cases hv
  · rename_i nn e z m hs hm
    obtain ⟨hu, hz⟩ := seqo_array hs
    obtain ⟨k, rfl⟩ := hi.asN_eq hm
    split at hv
    · rename_i hlt
      have hrun : ∀ (ad : Addr), (Instr.indexAt T (.pointer (some ad)) (.int k m)).run c.P w = .ok (.pointer (some (ad.add (m * z)))) w := by
        intro ad
        have h1 : (0 : Int) ≤ (m : Int) ∧ (m : Int) < (nn : Int) := ⟨by omega, by omega⟩
        simp [Instr.indexAt, run_getInt, run_under hu, run_size hz, h1, Instr.sureAddr, Sem.run, pure, hlt.1]
      split at hv
      · rename_i b r k'
        cases hv
        obtain ⟨q, base, size, hmu, rfl⟩ := hp.ptr_inv
        refine ⟨_, hrun _, ?_⟩
        rw [add_plain, show base + (r * size + k') + m * z = base + (r * size + (k' + m * z)) by omega]
        exact .ptr b r _ q base size hmu
      · rename_i cs
        split at hv
        · rename_i hl
          cases hv
          obtain ⟨ad, f', rfl, hok, hc, hr⟩ := hp.pc_inv
          refine ⟨_, hrun _, .pc _ _ (fun j => f' (m * z + j)) (by rw [add_block]; exact hok) (fun j hj => ?_) fun j hj => ?_⟩
          · rw [add_add]; exact hc _ (by simp at hj; omega)
          · have h1 : (cs.drop (m * z)).getD j .undef = cs.getD (m * z + j) .undef := by simp [List.getD_eq_getElem?_getD, List.getElem?_drop]
            rw [h1]; exact hr _ (by simp at hj; omega)
        · cases hv
      · cases hv
    · cases hv
  · cases hv
end
end Go.Proofs.Ytgohmphhgglmbaa.Am

/- An abstract machine over values: the operations that turn no memory are right (2). -/
set_option linter.unusedVariables false
set_option linter.unusedSimpArgs false
namespace Go.Proofs.Ytgohmphhgglmbaa.Am
open Go Go.RowKit

section
variable {c : Cx} {h : Hp} {n : Nat} {μ : Mu} {w : World}
theorem index_sound {T : TypeId} {p i v : V} {x y : Value} (hp : R c h μ w p x) (hi : R c h μ w i y) (hv : aindex c.P T p i = some v) : ∃ z, (Instr.index T x y).run c.P w = .ok z w ∧ R c h μ w v z := by
  unfold aindex at hv
  split at hv
  · rename_i s m hs hm
    split at hv
    · rename_i hlt
      cases hv
      obtain ⟨k, rfl⟩ := hi.asN_eq hm
      obtain ⟨rfl, _⟩ := hp.s_eq
      refine ⟨.int .u8 (byteAt s m).toNat, ?_, .s _ rfl⟩
      have h1 : byteAt s m = s[m] := by
        have h2 : m < s.data.toList.length := by simpa using hlt
        simp [byteAt, List.getD_eq_getElem?_getD, List.getElem?_eq_getElem h2]
        rfl
      simp [Instr.index, run_getInt, run_under (seqo_str hs), Sem.run, pure, hlt, h1]
    · cases hv
  · rename_i nn e z cs m hs hm
    obtain ⟨hu, hz⟩ := seqo_array hs
    obtain ⟨k, rfl⟩ := hi.asN_eq hm
    obtain ⟨xs, rfl, hl, hr⟩ := hp.agg_inv
    split at hv
    · rename_i hg
      split at hv
      · rename_i hb
        cases hv
        have h1 : (0 : Int) ≤ (m : Int) ∧ (m : Int) < (nn : Int) := ⟨by omega, by omega⟩
        exact ⟨_, by simp [Instr.index, run_getInt, run_under hu, run_size hz, h1, run_part_agg hg hz, hb.1, Sem.run, pure], Rp.part hl hr _ _ hb.2⟩
      · cases hv
    · rename_i hg
      split at hv
      · rename_i hb
        cases hv
        have h1 : (0 : Int) ≤ (m : Int) ∧ (m : Int) < (nn : Int) := ⟨by omega, by omega⟩
        have h2 := run_part_one (P := c.P) (w := w) (xs := xs) (o := m * z) hg (by omega)
        exact ⟨xs.getD (m * z) Go.undef, by simp only [Instr.index, Sem.run_bind, run_getInt, run_under hu, Result.andThen_ok, if_pos h1, run_size hz, Int.toNat_natCast, h2], hr _ hb.2⟩
      · cases hv
    · cases hv
  · cases hv

theorem bnd_none {d l : Nat} (h : bnd none d = some l) : l = d := by simpa [bnd] using h.symm
theorem run_sliceBound {P : Program} {k : IntKind} {l y : Nat} {code : BoundsCode} (h : l ≤ y) : (Instr.sliceBound (.int k l) y code).run P w = .ok l w := by
  have h1 : (0 : Int) ≤ (l : Int) ∧ (l : Int) ≤ (y : Int) := ⟨by omega, by omega⟩
  simp [Instr.sliceBound, run_getInt, h1, Sem.run, pure, h]
/-- The bounds of a slice expression. -/
theorem run_bounds {P : Program} {iss : Bool} {len cap l r m : Nat} {lo hi mx : Option Operand} {e : Operand → V} {ρ : Operand → Value} (he : ∀ x, R c h μ w (e x) (ρ x))
    (h1 : bnd (lo.map e) 0 = some l) (h2 : bnd (hi.map e) len = some r) (h3 : bnd (mx.map e) cap = some m) (hb : l ≤ r ∧ r ≤ m ∧ m ≤ cap) (h4 : hi = none → mx = none) :
    (Instr.sliceBounds iss len cap (lo.map ρ) (hi.map ρ) (mx.map ρ)).run P w = .ok (l, r, m) w := by
  obtain ⟨b1, b2, b3⟩ := hb
  cases mx with
  | none =>
    obtain rfl := bnd_none h3
    cases hi with
    | none =>
      obtain rfl := bnd_none h2
      cases lo with
      | none => obtain rfl := bnd_none h1; simp [Instr.sliceBounds, Sem.run, pure]
      | some lo =>
        obtain ⟨k, hk⟩ := (he lo).asN_eq h1
        simp [Instr.sliceBounds, hk, run_sliceBound b1, Sem.run, pure]
    | some hi =>
      obtain ⟨k2, hk2⟩ := (he hi).asN_eq h2
      cases lo with
      | none => obtain rfl := bnd_none h1; simp [Instr.sliceBounds, hk2, run_sliceBound b2, Sem.run, pure]
      | some lo =>
        obtain ⟨k, hk⟩ := (he lo).asN_eq h1
        simp [Instr.sliceBounds, hk, hk2, run_sliceBound b1, run_sliceBound b2, Sem.run, pure]
  | some mx =>
    obtain ⟨k3, hk3⟩ := (he mx).asN_eq h3
    cases hi with
    | none => cases h4 rfl
    | some hi =>
      obtain ⟨k2, hk2⟩ := (he hi).asN_eq h2
      cases lo with
      | none => obtain rfl := bnd_none h1; simp [Instr.sliceBounds, hk2, hk3, run_sliceBound b2, run_sliceBound b3, Sem.run, pure]
      | some lo =>
        obtain ⟨k, hk⟩ := (he lo).asN_eq h1
        simp [Instr.sliceBounds, hk, hk2, hk3, run_sliceBound b1, run_sliceBound b2, run_sliceBound b3, Sem.run, pure]

/-- A piece of a slice that is only read. -/
theorem sl_piece {fv : Nat → Value} {ok : Nat → Prop} {rows : List (List V)} {size : Nat} {A : Option Addr} {g : Nat → Nat → Value} (hs : ∀ r ∈ rows, r.length = size)
    (hA : rows.length ≠ 0 → ∃ ad : Addr, A = some ad ∧ ok ad.block ∧ ∀ i j, i < rows.length → j < size → w.cell? (ad.add (i * size + j)) = some (g i j)) (hr : ∀ i j, i < rows.length → j < size → Dp w ok (cellAt rows i j) (g i j))
    (z : Nat) (hz : rows.length ≠ 0 → z = size) {l r m : Nat} (h1 : l ≤ r) (h2 : r ≤ rows.length) (h3 : r ≤ m) : Rp fv w ok μ (.sl ((rows.drop l).take (r - l))) (.slice (if m = l then A else A.map (·.add (l * z))) (r - l) (m - l)) := by
  have hlen : ((rows.drop l).take (r - l)).length = r - l := by simp; omega
  have hat : ∀ i, i < r - l → ((rows.drop l).take (r - l)).getD i [] = rows.getD (l + i) [] := by
    intro i hi
    simp [List.getD_eq_getElem?_getD, List.getElem?_take, hi, List.getElem?_drop]
  refine .sl _ _ _ size _ (fun i j => g (l + i) j) hlen (by omega) (fun q hq => hs q (List.mem_of_mem_drop (List.mem_of_mem_take hq))) (fun hn => ?_) fun i j hi hj => ?_
  · obtain ⟨ad, rfl, hok, hc⟩ := hA (by omega)
    rw [if_neg (by omega), hz (by omega)]
    refine ⟨_, rfl, by rw [add_block]; exact hok, fun i j hi hj => ?_⟩
    rw [add_add, ← Nat.add_assoc, ← Nat.add_mul]
    exact hc (l + i) j (by omega) hj
  · rw [hat i hi]
    exact hr (l + i) j (by omega) hj

theorem slice_sound (H : HS c h n μ w) {T : TypeId} {x : V} {xv : Value} {v : V} {lo hi mx : Option Operand} {e : Operand → V} {ρ : Operand → Value} (he : ∀ x, R c h μ w (e x) (ρ x)) (hx : R c h μ w x xv)
    (hv : aslice c.P h T x (lo.map e) (hi.map e) (mx.map e) = some v) : ∃ y, (Instr.sliceAt T xv (lo.map ρ) (hi.map ρ) (mx.map ρ)).run c.P w = .ok y w ∧ R c h μ w v y := by
  generalize hmx : mx.map e = mxe at hv
  unfold aslice at hv
  split at hv
  · -- a string
    rename_i s hs
    have hu := seqo_str hs
    have hmn : mx = none := by cases mx with | none => rfl | some m => cases hmx
    subst hmn
    split at hv
    · rename_i l r h1 h2
      split at hv
      · rename_i hb
        cases hv
        obtain ⟨rfl, _⟩ := hx.s_eq
        have hrun := run_bounds (P := c.P) (iss := false) (len := s.size) (cap := s.size) (mx := none) he h1 h2 rfl ⟨hb.1, hb.2, Nat.le_refl _⟩ (fun _ => rfl)
        simp only [Option.map_none] at hrun
        exact ⟨.string (s.extract l r), by simp [Instr.sliceAt, Instr.slice, run_under hu, hrun, Sem.run, pure], .s _ rfl⟩
      · cases hv
    · cases hv
  · -- read, no max
    rename_i el z by' rows hs
    obtain ⟨hu, hz, _⟩ := seqo_slice hs
    have hmn : mx = none := by cases mx with | none => rfl | some m => cases hmx
    subst hmn
    split at hv
    · rename_i l r h1 h2
      split at hv
      · rename_i hb
        cases hv
        obtain ⟨cp, size, A, g, rfl, hc, hsz, hA, hr⟩ := hx.sl_inv
        have hrun := run_bounds (P := c.P) (iss := true) (len := rows.length) (cap := cp) (mx := none) he h1 h2 rfl ⟨hb.1, by omega, Nat.le_refl _⟩ (fun _ => rfl)
        simp only [Option.map_none] at hrun
        refine ⟨.slice (if cp = l then A else A.map (·.add (l * z))) (r - l) (cp - l), by simp [Instr.sliceAt, Instr.slice, run_under hu, hrun, run_size hz, Sem.run, pure], ?_⟩
        refine sl_piece hsz hA hr z (fun hn => ?_) hb.1 hb.2.1 (by omega)
        have hrow : rows.getD 0 [] ∈ rows := by rw [List.getD_eq_getElem?_getD, List.getElem?_eq_getElem (by omega)]; exact List.getElem_mem _
        rw [← hb.2.2 _ hrow, hsz _ hrow]
      · cases hv
    · cases hv
  · -- read, a max
    rename_i el z by' rows mxv hs
    obtain ⟨hu, hz, _⟩ := seqo_slice hs
    obtain ⟨mo, rfl⟩ : ∃ mo, mx = some mo := by cases mx with | none => cases hmx | some m => exact ⟨m, rfl⟩
    have hmxv : e mo = mxv := by simpa using hmx
    split at hv
    · rename_i l r m h1 h2 h3
      split at hv
      · rename_i hb
        obtain ⟨cp, size, A, g, rfl, hc, hsz, hA, hr⟩ := hx.sl_inv
        obtain ⟨ho, rfl⟩ : ∃ ho, hi = some ho := by cases hi with | none => have := hb.2.2.2.1; cases this | some ho => exact ⟨ho, rfl⟩
        have hrun := run_bounds (P := c.P) (iss := true) (len := rows.length) (cap := cp) (hi := some ho) (mx := some mo) he h1 h2 (show bnd ((some mo).map e) cp = some m by simpa [bnd, hmxv] using h3) ⟨hb.1, hb.2.1, Nat.le_trans hb.2.2.1 hc⟩ (fun h => by cases h)
        have hy : (Instr.sliceAt T (.slice A rows.length cp) (lo.map ρ) ((some ho).map ρ) ((some mo).map ρ)).run c.P w = .ok (.slice (if m = l then A else A.map (·.add (l * z))) (r - l) (m - l)) w := by
          simp only [Instr.sliceAt, Instr.slice, Sem.run_bind, run_under hu, Result.andThen_ok, hrun, run_size hz, Sem.run_pure]
        refine ⟨_, hy, ?_⟩
        split at hv
        · rename_i hlm
          cases hv
          subst hlm
          rw [if_pos rfl, Nat.sub_self, show r - l = 0 by omega]
          exact .cap0 _
        · rename_i hlm
          cases hv
          refine sl_piece hsz hA hr z (fun hn => ?_) hb.1 (by omega) hb.2.1
          have hrow : rows.getD 0 [] ∈ rows := by rw [List.getD_eq_getElem?_getD, List.getElem?_eq_getElem (by omega)]; exact List.getElem_mem _
          rw [← hb.2.2.2.2 _ hrow, hsz _ hrow]
      · cases hv
    · cases hv
  · rename_i el z by' hs
    obtain ⟨hu, hz, _⟩ := seqo_slice hs
    have hmn : mx = none := by cases mx with | none => rfl | some m => cases hmx
    subst hmn
    split at hv
    · rename_i h1 h2
      cases hv
      obtain ⟨A, rfl⟩ := hx.cap0_inv
      have hrun := run_bounds (P := c.P) (iss := true) (len := 0) (cap := 0) (mx := none) he h1 h2 rfl ⟨Nat.le_refl _, Nat.le_refl _, Nat.le_refl _⟩ (fun _ => rfl)
      simp only [Option.map_none] at hrun
      exact ⟨.slice A 0 0, by simp [Instr.sliceAt, Instr.slice, run_under hu, hrun, run_size hz, Sem.run, pure], .cap0 _⟩
    · cases hv
  · rename_i el z by' b off len cap hs
    obtain ⟨hu, hz, _⟩ := seqo_slice hs
    split at hv
    · rename_i l r m h1 h2 h3
      split at hv
      · rename_i B hB
        split at hv
        · rename_i hb
          cases hv
          have h4 : hi = none → mx = none := by
            intro hn
            rcases hb.2.2.2.1 with h5 | h5
            · subst hn; cases h5
            · cases mx with | none => rfl | some m => subst hmx; cases h5
          have hrunx : ∀ len cap', bnd (hi.map e) len = some r → bnd (mx.map e) cap' = some m → m ≤ cap' → ∀ A, (Instr.sliceAt T (.slice A len cap') (lo.map ρ) (hi.map ρ) (mx.map ρ)).run c.P w = .ok (.slice (if m = l then A else A.map (·.add (l * z))) (r - l) (m - l)) w := by
            intro len cap' g2 g3 g4 A
            have hrun := run_bounds (P := c.P) (iss := true) (len := len) (cap := cap') he h1 g2 g3 ⟨hb.1, hb.2.1, g4⟩ h4
            simp only [Instr.sliceAt, Instr.slice, Sem.run_bind, run_under hu, Result.andThen_ok, hrun, run_size hz, Sem.run_pure]
          obtain ⟨hlc, ⟨q, base, size, hmu, rfl⟩ | ⟨h0, h00, A, t, hmu, rfl⟩⟩ := hx.loc_inv
          · refine ⟨_, hrunx len cap h2 (by rw [hmx]; exact h3) hb.2.2.1 _, ?_⟩
            have hsz : size = z := by
              rcases H.blk b B hB with ⟨g1, _⟩ | ⟨k', base', g1, _⟩
              · rw [hmu] at g1; cases g1
              · rw [hmu] at g1; cases g1; exact hb.2.2.2.2
            by_cases hml : m = l
            · rw [if_pos hml, show r - l = 0 by omega, show m - l = 0 by omega]
              exact .loc0 _ _ _ _ hmu
            · rw [if_neg hml]
              have := Rp.loc (fvals := c.fvals) (w := w) (ok := okB c h μ w) (μ := μ) b (off + l) (r - l) (m - l) q base size hmu (by omega)
              simp only [Option.map_some, add_plain]
              rw [show base + off * size + l * z = base + (off + l) * size by rw [hsz, Nat.add_mul, Nat.add_assoc]]
              exact this
          · subst h0 h00
            refine ⟨_, hrunx 0 0 h2 (by rw [hmx]; exact h3) hb.2.2.1 _, ?_⟩
            rw [show r - l = 0 by omega, show m - l = 0 by omega]
            exact .loc0 _ _ _ _ hmu
        · cases hv
      · cases hv
    · cases hv
  · cases hv
end
end Go.Proofs.Ytgohmphhgglmbaa.Am

/- An abstract machine over values: the operations that turn no memory are right (3). -/
set_option linter.unusedVariables false
set_option linter.unusedSimpArgs false
namespace Go.Proofs.Ytgohmphhgglmbaa.Am
open Go Go.RowKit

section
variable {c : Cx} {h : Hp} {n : Nat} {μ : Mu} {w : World}
theorem bytesOf_length : ∀ {rows : List (List V)} {l : List Int}, bytesOf rows = some l → l.length = rows.length ∧ ∀ i, i < rows.length → rows.getD i [] = [.s (.int .u8 (l.getD i 0))]
  | [], l, h => by simp [bytesOf] at h; subst h; simp
  | row :: rows, l, h => by
    unfold bytesOf at h
    split at h
    · rename_i heq; cases heq
    · rename_i n l' heq
      cases heq
      simp only [Option.map_eq_some_iff] at h
      obtain ⟨l2, h2, rfl⟩ := h
      obtain ⟨h3, h4⟩ := bytesOf_length h2
      refine ⟨by simp [h3], fun i hi => ?_⟩
      cases i with
      | zero => simp
      | succ i => simpa using h4 i (by simpa using hi)
    · cases h
theorem foldl_push : ∀ (ns : List Int) (s : ByteArray), ns.foldl (fun r n => r.push (UInt8.ofNat n.toNat)) s = ⟨s.data ++ (ns.map fun n => UInt8.ofNat n.toNat).toArray⟩
  | [], s => by simp
  | n :: ns, s => by
    rw [List.foldl_cons, foldl_push ns]
    congr 1
    simp [ByteArray.push]
/-- A slice whose rows are known is a slice in the machine, with these cells. -/
theorem rows_sound (H : HS c h n μ w) {x : V} {xv : Value} {rows : List (List V)} (hx : R c h μ w x xv) (hr : rowsOf h x = some rows) :
    ∃ A cp size, xv = .slice A rows.length cp ∧ rows.length ≤ cp ∧ (rows.length ≠ 0 → ∃ ad : Addr, A = some ad ∧ (∀ r ∈ rows, r.length = size) ∧ ∀ i j, i < rows.length → j < size → ∃ y, w.cell? (ad.add (i * size + j)) = some y ∧ R c h μ w (cellAt rows i j) y) := by
  unfold rowsOf at hr
  split at hr
  · rename_i rows'
    cases hr
    obtain ⟨cp, size, A, g, rfl, hc, hs, hA, hr⟩ := hx.sl_inv
    refine ⟨A, cp, size, rfl, hc, fun hn => ?_⟩
    obtain ⟨ad, rfl, hok, hcell⟩ := hA hn
    exact ⟨ad, rfl, hs, fun i j hi hj => ⟨_, hcell i j hi hj, (hr i j hi hj).R⟩⟩
  · cases hr
    obtain ⟨A, rfl⟩ := hx.cap0_inv
    exact ⟨A, 0, 0, rfl, Nat.le_refl _, fun hn => absurd rfl hn⟩
  · rename_i b off len cap
    split at hr
    · rename_i B hB
      split at hr
      · rename_i hb
        cases hr
        have hlen : ((B.rows.drop off).take len).length = len := by simp; omega
        rw [hlen]
        obtain ⟨hlc, ⟨q, base, size, hmu, rfl⟩ | ⟨h0, h00, A, t, hmu, rfl⟩⟩ := hx.loc_inv
        · refine ⟨_, cap, B.size, rfl, hlc, fun hn => ⟨_, rfl, ?_, fun i j hi hj => ?_⟩⟩
          · intro r hr
            rcases H.blk b B hB with ⟨g1, _⟩ | ⟨k', base', g1, g2, g3, g4, g5⟩
            · rw [hmu] at g1; cases g1
            · exact g4 r (List.mem_of_mem_drop (List.mem_of_mem_take hr))
          · obtain ⟨hs, y, h1, _, h3⟩ := H.at hB hmu (show off + i < B.rows.length by omega) hj
            subst hs
            refine ⟨y, ?_, ?_⟩
            · rw [add_plain, show base + off * B.size + (i * B.size + j) = base + ((off + i) * B.size + j) by rw [Nat.add_mul]; omega]
              exact h1
            · have h4 : cellAt ((B.rows.drop off).take len) i j = cellAt B.rows (off + i) j := by simp [cellAt, List.getD_eq_getElem?_getD, List.getElem?_take, hi, List.getElem?_drop]
              rw [h4]; exact h3
        · subst h0 h00
          exact ⟨A, 0, 0, rfl, Nat.le_refl _, fun hn => absurd rfl hn⟩
      · cases hr
    · cases hr
  · cases hr
theorem conv_sound (H : HS c h n μ w) {src dst : TypeId} {p v : V} {x : Value} (hp : R c h μ w p x) (hv : aconv c.P h src dst p = some v) : ∃ z, (convert src dst x).run c.P w = .ok z w ∧ R c h μ w v z := by
  unfold aconv at hv
  split at hv
  · rename_i d k k' m h1 h2
    cases hv
    obtain ⟨rfl, _⟩ := hp.s_eq
    refine ⟨.int k (k.wrap m), ?_, .s _ rfl⟩
    simp [convert, run_under h1, run_under h2, Conv.intToInt, Sem.run, pure]
  · rename_i b h1 h2
    cases hv
    obtain ⟨rfl, _⟩ := hp.s_eq
    exact ⟨.string b, by simp [convert, run_under h1, run_under h2, Sem.run, pure], .s _ rfl⟩
  · rename_i e h1 h2
    split at hv
    · rename_i rows h3 h4
      simp only [Option.map_eq_some_iff] at hv
      obtain ⟨l, hl, rfl⟩ := hv
      obtain ⟨A, cp, size, rfl, hc, hA⟩ := rows_sound H hp h4
      obtain ⟨hl1, hl2⟩ := bytesOf_length hl
      refine ⟨.string (strOf l), ?_, .s _ rfl⟩
      rw [run_convert_bytes_string w src dst e A rows.length cp h1 h3 h2]
      by_cases hn : rows.length = 0
      · obtain rfl : l = [] := List.eq_nil_of_length_eq_zero (by omega)
        rw [hn]
        cases A with
        | none => simp [Conv.bytesToString, Sem.run, pure]; rfl
        | some ad =>
          rw [run_bytesToString w ad 0 cp [] (by simp [loadCells, loadCellsFrom, Sem.run, pure])]
          rfl
      · obtain ⟨ad, rfl, hs, hcell⟩ := hA hn
        have hs1 : size = 1 := by
          have h5 := hl2 0 (by omega)
          have h6 := hs (rows.getD 0 []) (by rw [List.getD_eq_getElem?_getD, List.getElem?_eq_getElem (by omega)]; exact List.getElem_mem _)
          rw [h5] at h6
          simpa using h6.symm
        subst hs1
        have hload : (loadCells ad rows.length).run c.P w = .ok (l.map (Value.int .u8)).toArray w := by
          have h7 := run_loadCells_list (P := c.P) w ad (l.map (Value.int .u8)) (fun j v hj => by
            simp only [List.getElem?_map, Option.map_eq_some_iff] at hj
            obtain ⟨m, hm, rfl⟩ := hj
            have hj' : j < rows.length := by rw [← hl1]; exact (List.getElem?_eq_some_iff.1 hm).1
            obtain ⟨y, h8, h9⟩ := hcell j 0 hj' (by omega)
            have h10 : cellAt rows j 0 = .s (.int .u8 m) := by
              unfold cellAt
              rw [hl2 j hj']
              simp [List.getD_eq_getElem?_getD, hm]
            rw [h10] at h9
            obtain ⟨rfl, _⟩ := h9.s_eq
            simpa using h8)
          simpa [hl1] using h7
        rw [run_bytesToString w ad rows.length cp l hload, foldl_push]
        simp [strOf, ByteArray.empty, ByteArray.emptyWithCapacity]
        rfl
    · cases hv
  · cases hv

theorem cellish_sound {v : V} {x : Value} (hx : R c h μ w v x) (hc : cellish v = true) : (∀ xs, x ≠ .agg xs) ∧ x.oneCell' = true := by
  cases hx <;> simp [cellish, Value.oneCell'] at hc ⊢
  rename_i hf
  cases x <;> simp_all [flat]
/-- What a value's cells are, in the machine. -/
theorem cellsV_sound {v : V} {vs : List V} {x : Value} (hx : R c h μ w v x) (hv : cellsV v = some vs) : x.cells.size = vs.length ∧ (∀ i, i < vs.length → R c h μ w (vs.getD i .undef) (x.cells.getD i Go.undef)) ∧ ((∀ q ∈ vs, cellish q = true) → ∀ y ∈ x.cells.toList, y.oneCell' = true) := by
  have key : ∀ {v : V} {x : Value}, R c h μ w v x → cellish v = true → (∀ xs, x ≠ .agg xs) ∧ x.oneCell' = true := fun hx hc => cellish_sound hx hc
  unfold cellsV at hv
  split at hv
  · rename_i cs
    cases hv
    obtain ⟨xs, rfl, hl, hr⟩ := hx.agg_inv
    refine ⟨hl, hr, fun hq y hy => ?_⟩
    obtain ⟨i, hi, rfl⟩ := List.getElem_of_mem hy
    have hi' : i < xs.size := by simpa [Value.cells] using hi
    have h1 := hr i (by omega)
    have h2 := hq (vs.getD i .undef) (by rw [List.getD_eq_getElem?_getD, List.getElem?_eq_getElem (by omega)]; exact List.getElem_mem _)
    have h3 := (key h1 h2).2
    simpa [Value.cells, hi'] using h3
  · split at hv
    · rename_i hc
      cases hv
      obtain ⟨h1, h2⟩ := key hx hc
      have h3 : x.cells = #[x] := by
        cases x <;> simp_all [Value.cells]
      rw [h3]
      refine ⟨rfl, fun i hi => ?_, fun _ y hy => ?_⟩
      · obtain rfl : i = 0 := by simp at hi; exact hi
        simpa using hx
      · simp at hy; subst hy; exact h2
    · cases hv

theorem setAt_length (row : List V) (col : Nat) (cs : List V) (h : col + cs.length ≤ row.length) : (setAt row col cs).length = row.length := by
  unfold setAt
  simp
  omega
theorem setAt_get (row : List V) (col : Nat) (cs : List V) (h : col + cs.length ≤ row.length) (i : Nat) : (setAt row col cs).getD i .undef = if col ≤ i ∧ i < col + cs.length then cs.getD (i - col) .undef else row.getD i .undef := by
  unfold setAt
  simp only [List.getD_eq_getElem?_getD, List.append_assoc]
  have hl : (row.take col).length = col := by simp; omega
  rcases Nat.lt_or_ge i col with h1 | h1
  · rw [List.getElem?_append_left (by omega), if_neg (by omega), List.getElem?_take, if_pos h1]
  · rw [List.getElem?_append_right (by omega), hl]
    rcases Nat.lt_or_ge (i - col) cs.length with h2 | h2
    · rw [List.getElem?_append_left h2, if_pos (by omega)]
    · rw [List.getElem?_append_right h2, if_neg (by omega), List.getElem?_drop]
      congr 2
      omega

/-- What fill's inner loop does. -/
theorem foldl_set (off : Nat) : ∀ (xs : List Value) (j : Nat) (cells : Array Value), off + j + xs.length ≤ cells.size →
    ((xs.zipIdx j).foldl (fun cs (q : Value × Nat) => cs.setIfInBounds (off + q.2) q.1) cells).size = cells.size ∧
    ∀ i, ((xs.zipIdx j).foldl (fun cs (q : Value × Nat) => cs.setIfInBounds (off + q.2) q.1) cells).getD i Go.undef = if off + j ≤ i ∧ i < off + j + xs.length then xs.getD (i - (off + j)) Go.undef else cells.getD i Go.undef := by
  intro xs
  induction xs with
  | nil => intro j cells h; simp; intro i h1 h2; omega
  | cons x xs ih =>
    intro j cells h
    simp only [List.zipIdx_cons, List.foldl_cons]
    simp only [List.length_cons] at h
    obtain ⟨h1, h2⟩ := ih (j + 1) (cells.setIfInBounds (off + j) x) (by simp; omega)
    refine ⟨by rw [h1]; simp, fun i => ?_⟩
    rw [h2 i]
    simp only [List.length_cons]
    by_cases c1 : off + (j + 1) ≤ i ∧ i < off + (j + 1) + xs.length
    · rw [if_pos c1, if_pos (by omega)]
      rw [show i - (off + j) = (i - (off + (j + 1))) + 1 by omega]
      simp
    · rw [if_neg c1]
      by_cases c2 : i = off + j
      · subst c2
        rw [if_pos (by omega)]
        simp [Array.getD_eq_getD_getElem?, Array.getElem?_setIfInBounds]
        rw [if_pos (by omega)]
        rfl
      · rw [if_neg (by omega)]
        simp [Array.getD_eq_getD_getElem?, Array.getElem?_setIfInBounds]
        rw [if_neg (by omega)]

theorem fill_sound (pl : Nat → Option (Nat × Nat)) : ∀ (parts : List (Nat × V)) (xs : List (Nat × Value)) (cs cs' : List V) (cells : Array Value), parts.length = xs.length →
    (∀ (i : Nat) (p : Nat × V) (q : Nat × Value), parts[i]? = some p → xs[i]? = some q → p.1 = q.1 ∧ R c h μ w p.2 q.2) → cells.size = cs.length → (∀ i, i < cs.length → R c h μ w (cs.getD i .undef) (cells.getD i Go.undef)) → afill pl cs parts = some cs' →
    ∃ cells', Instr.fill pl cells xs = some cells' ∧ cells'.size = cs'.length ∧ ∀ i, i < cs'.length → R c h μ w (cs'.getD i .undef) (cells'.getD i Go.undef) := by
  intro parts
  induction parts with
  | nil =>
    intro xs cs cs' cells hl _ hs hr hf
    obtain rfl : xs = [] := List.eq_nil_of_length_eq_zero hl.symm
    simp only [afill, Option.some.injEq] at hf
    subst hf
    exact ⟨cells, rfl, hs, hr⟩
  | cons p parts ih =>
    intro xs cs cs' cells hl hp hs hr hf
    obtain ⟨i, v⟩ := p
    cases xs with
    | nil => simp at hl
    | cons q xs =>
      obtain ⟨j, x⟩ := q
      obtain ⟨hij, hvx⟩ := hp 0 _ _ rfl rfl
      simp only at hij hvx
      subst hij
      simp only [afill] at hf
      split at hf
      · rename_i o z vs hpl hvs
        split at hf
        · rename_i hb
          obtain ⟨k1, k2, _⟩ := cellsV_sound hvx hvs
          have hwl : (vs.map wk).length = z := by simp [hb.1]
          obtain ⟨g1, g2⟩ := foldl_set o x.cells.toList 0 cells (by simp; omega)
          obtain ⟨cells', e1, e2, e3⟩ := ih xs (setAt cs o (vs.map wk)) cs' (x.cells.zipIdx.foldl (fun cs (q : Value × Nat) => cs.setIfInBounds (o + q.2) q.1) cells) (by simpa using hl)
            (fun i p q h1 h2 => hp (i + 1) p q (by simpa using h1) (by simpa using h2)) (by
              rw [setAt_length _ _ _ (by omega), ← hs, ← g1, ← Array.foldl_toList]; simp) (fun i hi => by
              rw [setAt_length _ _ _ (by omega)] at hi
              rw [setAt_get _ _ _ (by omega)]
              have g3 := g2 i
              rw [← Array.foldl_toList, Array.toList_zipIdx, g3]
              simp only [Array.length_toList, Nat.add_zero]
              by_cases c1 : o ≤ i ∧ i < o + (vs.map wk).length
              · rw [if_pos c1, if_pos (by omega)]
                have h4 : (vs.map wk).getD (i - o) .undef = wk (vs.getD (i - o) .undef) := by simp [List.getD_eq_getElem?_getD, List.getElem?_eq_getElem (show i - o < vs.length by omega)]
                have h5 : x.cells.toList.getD (i - o) Go.undef = x.cells.getD (i - o) Go.undef := by simp [List.getD_eq_getElem?_getD, Array.getD_eq_getD_getElem?]
                rw [h4, h5]
                exact (k2 _ (by omega)).weak
              · rw [if_neg c1, if_neg (by omega)]
                exact hr i hi) hf
          refine ⟨cells', ?_, e2, e3⟩
          simp only [Instr.fill, hpl]
          rw [if_neg (by simp; omega)]
          exact e1
        · cases hf
      · cases hf
end
end Go.Proofs.Ytgohmphhgglmbaa.Am

/- An abstract machine over values: the operations that turn no memory are right (4). -/
set_option linter.unusedVariables false
set_option linter.unusedSimpArgs false
namespace Go.Proofs.Ytgohmphhgglmbaa.Am
open Go Go.RowKit

section
variable {c : Cx} {h : Hp} {n : Nat} {μ : Mu} {w : World}
theorem run_zero {P : Program} {T : TypeId} {z : Value} (hz : zro P T = some z) : (zeroValue T).run P w = .ok z w := by
  obtain ⟨i, hi, hz⟩ := Option.bind_eq_some_iff.1 hz
  simp [zeroValue, typeInfo, Sem.run, program, hi, hz]
theorem cellsZ_sound (z : Value) : z.cells.size = (cellsZ z).length ∧ ∀ i, i < (cellsZ z).length → R c h μ w ((cellsZ z).getD i .undef) (z.cells.getD i Go.undef) := by
  unfold cellsZ
  split
  · rename_i xs
    refine ⟨by simp [Value.cells], fun i hi => ?_⟩
    have hi' : i < xs.size := by simpa using hi
    have h1 : (xs.toList.map cellOf).getD i .undef = cellOf xs[i] := by simp [List.getD_eq_getElem?_getD, hi']
    have h2 : xs.getD i Go.undef = xs[i] := by simp [hi']
    rw [h1, show (Value.agg xs).cells = xs from rfl, h2]
    exact Rp.cell _
  · rename_i hz
    have h3 : z.cells = #[z] := by cases z <;> simp_all [Value.cells]
    rw [h3]
    refine ⟨rfl, fun i hi => ?_⟩
    obtain rfl : i = 0 := by simp at hi; exact hi
    simpa using Rp.val z

theorem build_sound {T : TypeId} {parts : Array (Nat × Operand)} {e : Operand → V} {ρ : Operand → Value} {v : V} (he : ∀ x, R c h μ w (e x) (ρ x)) (hv : abuild c.P e T parts.toList = some v) :
    ∃ y, (Instr.build T (parts.map fun q => (q.1, ρ q.2))).run c.P w = .ok y w ∧ R c h μ w v y := by
  have hparts : ∀ (i : Nat) (p : Nat × V) (q : Nat × Value), (parts.toList.map fun q => (q.1, e q.2))[i]? = some p → (parts.toList.map fun q => (q.1, ρ q.2))[i]? = some q → p.1 = q.1 ∧ R c h μ w p.2 q.2 := by
    intro i p q h1 h2
    simp only [List.getElem?_map, Option.map_eq_some_iff] at h1 h2
    obtain ⟨a, ha, rfl⟩ := h1
    obtain ⟨b, hb, rfl⟩ := h2
    rw [ha] at hb
    cases hb
    exact ⟨rfl, he _⟩
  have fin : ∀ (pl : Nat → Option (Nat × Nat)) z, (∀ xs, c.P.built T xs = Instr.fill pl z.cells xs) → (afill pl (cellsZ z) (parts.toList.map fun q => (q.1, e q.2))).map V.agg = some v →
      ∃ y, (Instr.build T (parts.map fun q => (q.1, ρ q.2))).run c.P w = .ok y w ∧ R c h μ w v y := by
    intro pl z hb hv
    obtain ⟨z1, z2⟩ := cellsZ_sound (c := c) (h := h) (μ := μ) (w := w) z
    simp only [Option.map_eq_some_iff] at hv
    obtain ⟨cs, hf, rfl⟩ := hv
    obtain ⟨cells', e1, e2, e3⟩ := fill_sound _ _ (parts.toList.map fun q => (q.1, ρ q.2)) _ cs z.cells (by simp) hparts z1 z2 hf
    exact ⟨.agg cells', run_build w T _ cells' (by rw [hb]; simpa using e1), .agg _ _ e2 e3⟩
  unfold abuild at hv
  split at hv
  · rename_i z l hz hl
    obtain ⟨i, hi, hz⟩ := Option.bind_eq_some_iff.1 hz
    unfold plc at hl
    split at hl
    · rename_i fs hu
      split at hl
      · rename_i l' hm
        cases hl
        exact fin _ z (fun xs => by simp [Program.built, hi, hu, hz, hm]) hv
      · cases hl
    · split at hl <;> cases hl
    · cases hl
  · rename_i z sz hz hl
    obtain ⟨i, hi, hz⟩ := Option.bind_eq_some_iff.1 hz
    unfold plc at hl
    split at hl
    · split at hl <;> cases hl
    · rename_i n' el hu
      split at hl
      · rename_i ie hie
        cases hl
        exact fin _ z (fun xs => by simp [Program.built, hi, hu, hz, hie]) hv
      · cases hl
    · cases hl
  · cases hv

theorem len_sound {T : TypeId} {p v : V} {x : Value} (hp : R c h μ w p x) (hv : alen c.P T p = some v) (t : TypeId) : ∃ z, (Builtin.len_ #[T] t #[x]).run c.P w = .ok z w ∧ R c h μ w v z := by
  unfold alen at hv
  split at hv
  · rename_i s hs
    cases hv
    obtain ⟨rfl, _⟩ := hp.s_eq
    exact ⟨goInt s.size, by simp [Builtin.len_, run_under (seqo_str hs), Sem.run, pure], .s _ rfl⟩
  · rename_i e z b rows hs
    cases hv
    obtain ⟨cp, size, A, g, rfl, _⟩ := hp.sl_inv
    exact ⟨goInt rows.length, by simp [Builtin.len_, run_under (seqo_slice hs).1, Sem.run, pure], .s _ rfl⟩
  · rename_i e z b q o m cp hs
    cases hv
    obtain ⟨_, ⟨k, base, size, _, rfl⟩ | ⟨rfl, rfl, A, t', _, rfl⟩⟩ := hp.loc_inv
    · exact ⟨goInt m, by simp [Builtin.len_, run_under (seqo_slice hs).1, Sem.run, pure], .s _ rfl⟩
    · exact ⟨goInt 0, by simp [Builtin.len_, run_under (seqo_slice hs).1, Sem.run, pure], .s _ rfl⟩
  · rename_i e z b hs
    cases hv
    obtain ⟨A, rfl⟩ := hp.cap0_inv
    exact ⟨goInt 0, by simp [Builtin.len_, run_under (seqo_slice hs).1, Sem.run, pure], .s _ rfl⟩
  · rename_i m e z hs
    cases hv
    exact ⟨goInt m, by simp [Builtin.len_, run_under (seqo_array hs).1, Sem.run, pure], .s _ rfl⟩
  · cases hv
theorem cap_sound {T : TypeId} {p v : V} {x : Value} (hp : R c h μ w p x) (hv : acap c.P T p = some v) (t : TypeId) : ∃ z, (Builtin.cap_ #[T] t #[x]).run c.P w = .ok z w ∧ R c h μ w v z := by
  unfold acap at hv
  split at hv
  · rename_i e z b q o m cp hs
    cases hv
    obtain ⟨_, ⟨k, base, size, _, rfl⟩ | ⟨rfl, rfl, A, t', _, rfl⟩⟩ := hp.loc_inv
    · exact ⟨goInt cp, by simp [Builtin.cap_, run_under (seqo_slice hs).1, Sem.run, pure], .s _ rfl⟩
    · exact ⟨goInt 0, by simp [Builtin.cap_, run_under (seqo_slice hs).1, Sem.run, pure], .s _ rfl⟩
  · rename_i e z b hs
    cases hv
    obtain ⟨A, rfl⟩ := hp.cap0_inv
    exact ⟨goInt 0, by simp [Builtin.cap_, run_under (seqo_slice hs).1, Sem.run, pure], .s _ rfl⟩
  · cases hv
theorem min_sound {a b v : V} {x y : Value} (hx : R c h μ w a x) (hy : R c h μ w b y) (hv : amin [a, b] = some v) (ts : Array TypeId) (t : TypeId) : ∃ z, (Builtin.min_ ts t #[x, y]).run c.P w = .ok z w ∧ R c h μ w v z := by
  unfold amin at hv
  split at hv
  · rename_i k m k' m' heq
    cases heq
    split at hv
    · rename_i hk; cases hv; subst hk
      obtain ⟨rfl, _⟩ := hx.s_eq
      obtain ⟨rfl, _⟩ := hy.s_eq
      exact ⟨_, by simp [Builtin.min_, Builtin.min2, Sem.run, pure], .s _ rfl⟩
    · cases hv
  · cases hv
theorem max_sound {a b v : V} {x y : Value} (hx : R c h μ w a x) (hy : R c h μ w b y) (hv : amax [a, b] = some v) (ts : Array TypeId) (t : TypeId) : ∃ z, (Builtin.max_ ts t #[x, y]).run c.P w = .ok z w ∧ R c h μ w v z := by
  unfold amax at hv
  split at hv
  · rename_i k m k' m' heq
    cases heq
    split at hv
    · rename_i hk; cases hv; subst hk
      obtain ⟨rfl, _⟩ := hx.s_eq
      obtain ⟨rfl, _⟩ := hy.s_eq
      exact ⟨_, by simp [Builtin.max_, Builtin.max2, Sem.run, pure], .s _ rfl⟩
    · cases hv
  · cases hv
theorem two_of_min {l : List V} {v : V} (hv : amin l = some v ∨ amax l = some v) : ∃ a b, l = [a, b] := by
  rcases hv with hv | hv
  · unfold amin at hv
    split at hv
    · exact ⟨_, _, rfl⟩
    · cases hv
  · unfold amax at hv
    split at hv
    · exact ⟨_, _, rfl⟩
    · cases hv

theorem pval_sound {plain : TypeId → Bool} (hp : PlainOk c.P plain) (H : HS c h n μ w) {e : Operand → V} {ρ : Operand → Value} (he : ∀ x, R c h μ w (e x) (ρ x)) {o : Oper} {v : V} (hv : pval c.P plain h e o.op = some v) :
    ∃ x, (execOp ρ o).run c.P w = .ok (.value x) w ∧ R c h μ w v x := by
  have fin : ∀ {s : Sem Value}, (∃ y, s.run c.P w = .ok y w ∧ R c h μ w v y) → ∃ x, (do pure (.value (← s)) : Sem Next).run c.P w = .ok (.value x) w ∧ R c h μ w v x := by
    rintro s ⟨y, h1, h2⟩
    exact ⟨y, by simp only [Sem.run_bind, h1, Result.andThen_ok, Sem.run_pure], h2⟩
  unfold execOp
  generalize o.op = op at hv ⊢
  cases op <;> simp only [pval] at hv <;> try (cases hv; done)
  case move x => cases hv; exact ⟨_, rfl, he x⟩
  case assign x => cases hv; exact ⟨_, rfl, he x⟩
  case pick cc a b =>
    split at hv
    · rename_i t ht
      cases hv
      have h1 := he cc
      rw [ht] at h1
      obtain ⟨h2, _⟩ := h1.s_eq
      refine ⟨if t then ρ a else ρ b, by simp [h2, asBool, Sem.run, pure], ?_⟩
      split <;> exact he _
    · cases hv
  case load T a => exact fin (load_sound H (he a) hv)
  case nilCheck x =>
    have h1 := he x
    split at hv
    · rename_i b r k hx
      cases hv
      rw [hx] at h1
      obtain ⟨q, base, size, hm, h2⟩ := h1.ptr_inv
      exact ⟨ρ x, by simp only [h2]; rfl, h1⟩
    · rename_i cs hx
      cases hv
      rw [hx] at h1
      obtain ⟨ad, g, h2, _⟩ := h1.pc_inv
      exact ⟨ρ x, by simp only [h2]; rfl, h1⟩
    · rename_i f cs hx
      cases hv
      rw [hx] at h1
      obtain ⟨xs, h2, _⟩ := h1.fn_inv
      exact ⟨ρ x, by simp only [h2]; rfl, h1⟩
    · cases hv
  case binOp op T x y yT =>
    obtain ⟨z, rfl, hz, h1⟩ := run_abin hp (he x) (he y) hv x y
    exact fin ⟨z, h1, .s _ hz⟩
  case unOp op T x =>
    have h1 := he x
    generalize e x = ex at hv h1
    cases ex <;> try (cases op <;> simp [aun] at hv; done)
    rename_i xv
    obtain ⟨h2, _⟩ := h1.s_eq
    obtain ⟨y, rfl, hy, h3⟩ := run_aun (P := c.P) (w := w) hv
    exact fin ⟨y, by rw [h2]; exact h3, .s _ hy⟩
  case convert src dst x => exact fin (conv_sound H (he x) hv)
  case slice T x lo hi mx => exact fin (slice_sound H he (he x) hv)
  case fieldAddr T x f => exact fin (fieldAddr_sound (he x) hv)
  case field T x f => exact fin (field_sound (he x) hv)
  case indexAddr T x i => exact fin (indexAddr_sound H (he x) (he i) hv)
  case index T x i => exact fin (index_sound (he x) (he i) hv)
  case build T parts => exact fin (build_sound he hv)
  case extract x i =>
    split at hv
    · rename_i vs hx
      have h1 := he x
      rw [hx] at h1
      obtain ⟨xs, h2, hl, hr⟩ := h1.tup_inv
      obtain ⟨hi, hvi⟩ := List.getElem?_eq_some_iff.1 hv
      have h3 := hr i hi
      have h4 : vs.getD i .undef = v := by simp [List.getD_eq_getElem?_getD, hv]
      rw [h4] at h3
      exact fin ⟨xs.getD i Go.undef, by simp [h2, Instr.extract, hl, hi, Sem.run, pure], h3⟩
    · cases hv
  case makeFunc fn first caps =>
    split at hv
    · rename_i f
      split at hv
      · rename_i hf
        cases hv
        subst hf
        refine fin ⟨.func (.func f) #[] (caps.map ρ), by simp [Instr.makeFunc, Sem.run, pure], .fn f _ _ (by simp) fun i hi => ?_⟩
        have hi' : i < caps.size := by simpa using hi
        have h1 : (caps.toList.map e).getD i .undef = e caps[i] := by simp [List.getD_eq_getElem?_getD, hi']
        have h2 : (caps.map ρ).getD i Go.undef = ρ caps[i] := by simp [hi']
        rw [h1, h2]
        exact he _
      · cases hv
    · cases hv
  case call cl =>
    obtain ⟨callee, args, argTypes⟩ := cl
    cases callee <;> simp only at hv <;> try (cases hv; done)
    rename_i b
    cases b <;> simp only at hv <;> try (cases hv; done)
    case cap =>
      split at hv
      · rename_i x T hx hT
        obtain rfl : args = #[x] := by simpa using congrArg List.toArray hx
        obtain rfl : argTypes = #[T] := by simpa using congrArg List.toArray hT
        obtain ⟨z, h1, h2⟩ := cap_sound (he x) hv o.type
        exact ⟨z, by simp [resolve, invoke, builtin, h1, Sem.run, pure], h2⟩
      · cases hv
    case len =>
      split at hv
      · rename_i x T hx hT
        obtain rfl : args = #[x] := by simpa using congrArg List.toArray hx
        obtain rfl : argTypes = #[T] := by simpa using congrArg List.toArray hT
        obtain ⟨z, h1, h2⟩ := len_sound (he x) hv o.type
        exact ⟨z, by simp [resolve, invoke, builtin, h1, Sem.run, pure], h2⟩
      · cases hv
    case max =>
      obtain ⟨a, b, hab⟩ := two_of_min (.inr hv)
      obtain ⟨x, l, hx⟩ : ∃ x l, args.toList = x :: l := by cases hl : args.toList with | nil => simp [hl] at hab | cons x l => exact ⟨x, l, rfl⟩
      obtain ⟨y, l', hy⟩ : ∃ y l', l = y :: l' := by cases l with | nil => simp [hx] at hab | cons y l' => exact ⟨y, l', rfl⟩
      subst hy
      obtain rfl : l' = [] := by simpa [hx] using congrArg List.length hab
      obtain rfl : args = #[x, y] := by simpa using congrArg List.toArray hx
      obtain ⟨z, h1, h2⟩ := max_sound (he x) (he y) (by simpa using hv) argTypes o.type
      exact ⟨z, by simp [resolve, invoke, builtin, h1, Sem.run, pure], h2⟩
    case min =>
      obtain ⟨a, b, hab⟩ := two_of_min (.inl hv)
      obtain ⟨x, l, hx⟩ : ∃ x l, args.toList = x :: l := by cases hl : args.toList with | nil => simp [hl] at hab | cons x l => exact ⟨x, l, rfl⟩
      obtain ⟨y, l', hy⟩ : ∃ y l', l = y :: l' := by cases l with | nil => simp [hx] at hab | cons y l' => exact ⟨y, l', rfl⟩
      subst hy
      obtain rfl : l' = [] := by simpa [hx] using congrArg List.length hab
      obtain rfl : args = #[x, y] := by simpa using congrArg List.toArray hx
      obtain ⟨z, h1, h2⟩ := min_sound (he x) (he y) (by simpa using hv) argTypes o.type
      exact ⟨z, by simp [resolve, invoke, builtin, h1, Sem.run, pure], h2⟩
end
end Go.Proofs.Ytgohmphhgglmbaa.Am

/- An abstract machine over values: new blocks, stores, append. -/
set_option linter.unusedVariables false
set_option linter.unusedSimpArgs false
namespace Go.Proofs.Ytgohmphhgglmbaa.Am
open Go Go.RowKit

structure St where
  t : Nat → V
  h : Hp
  n : Nat
def St.new (σ : St) (B : Blk) : St := ⟨σ.t, upd σ.h σ.n (some B), σ.n + 1⟩
def St.set (σ : St) (b : Nat) (B : Blk) : St := ⟨σ.t, upd σ.h b (some B), σ.n⟩
/-- Block b gives way to a new name. -/
def St.ren (σ : St) (b : Nat) (B : Blk) : St := ⟨σ.t, upd (upd σ.h b none) σ.n (some B), σ.n + 1⟩

def spare (z m : Nat) : List (List V) := List.replicate m (List.replicate z .any)

def Out (c : Cx) (σ : St) (μ : Mu) (w : World) (K : V → St → Prop) (r : Result Next) : Prop :=
  ∃ v x h' n' μ' w', (r = .ok (.value x) w' ∨ (r = .ok .skip w' ∧ x = Go.undef)) ∧ K v ⟨σ.t, h', n'⟩ ∧ HS c h' n' μ' w' ∧ Ext c σ.h μ w h' μ' w' ∧ R c h' μ' w' v x

section
variable {c : Cx} {h : Hp} {n : Nat} {μ : Mu} {w : World}
/-- A new block of rows. -/
theorem HS.newRow (H : HS c h n μ w) (B : Blk) (cells : Array Value) (e : TypeId) (fr : Nat × Nat) {w1 : World} (hw : Below w.heap.size w w1) (hsz : w1.heap.size = w.heap.size) (hl : ∀ r ∈ B.rows, r.length = B.size)
    (hfr : ∀ j, (B.size ≠ 1 ∨ j < B.rows.length * B.size) → ¬ (fr.1 ≤ j ∧ j < fr.2))
    (hc : ∀ i j, i < B.rows.length → j < B.size → ∃ x, cells[i * B.size + j]? = some x ∧ R c h μ w (cellAt B.rows i j) x) :
    HS c (upd h n (some B)) (n + 1) (upd μ n (some (.real w.heap.size 0 B.size))) (w1.alloc (.cells cells e fr)) ∧ Ext c h μ w (upd h n (some B)) (upd μ n (some (.real w.heap.size 0 B.size))) (w1.alloc (.cells cells e fr)) := by
  have hb : Below w.heap.size w (w1.alloc (.cells cells e fr)) := hw.alloc (by omega) _
  have hnew : (w1.alloc (.cells cells e fr)).heap[w.heap.size]? = some (.cells cells e fr) := by
    show (w1.heap.push _)[w.heap.size]? = _
    rw [← hsz]
    simp
  refine H.fresh hb w.heap.size 0 B (Nat.le_refl _) (by show w.heap.size < (w1.heap.push _).size; simp; omega) hl fun i j hi hj => ?_
  obtain ⟨x, h1, h2⟩ := hc i j hi hj
  have hlt : i * B.size + j < B.rows.length * B.size := by
    have : (i + 1) * B.size ≤ B.rows.length * B.size := Nat.mul_le_mul_right _ hi
    rw [Nat.add_mul] at this
    omega
  refine ⟨x, ?_, ?_, fun e => e.R h2⟩
  · simp only [World.cell?, hnew, Nat.zero_add]
    simpa using h1
  · intro o ho
    have := hfr o (ho.imp id fun e => by omega)
    simp only [World.frozen?, hnew]
    simpa using this

theorem grow_gen {P : Program} {t u e d : TypeId} {i : TypeInfo} {z : Value} {ty : TypeId} (ht : P.underlying t = some (.slice e)) (hu : P.underlying u = some (.slice d) ∨ P.underlying u = some .string) (hi : P.info? e = some i) (hz : i.zero = some z)
    {w : World} {b : Option Addr} {sLen sCap m : Nat} {olds news : Array Value} {x : Value}
    (ho : (Builtin.firstCells i.size sLen (.slice b sLen sCap)).run P w.drew = .ok olds w.drew) (hx : ∀ w', (Builtin.lenOf x).run P w' = .ok m w') (hn : (Builtin.firstCells i.size m x).run P w.drew = .ok news w.drew)
    (hg : sCap < sLen + m) (h63 : sLen + m ≤ 9223372036854775807) (hfit : Builtin.nextslicecap (sLen + m) sCap * i.bytes ≤ 281474976710656) :
    (Builtin.append_ #[t, u] ty #[.slice b sLen sCap, x]).run P w = .ok (.slice (some ⟨w.heap.size, 0, none⟩) (sLen + m) (grownCap w (sLen + m) sCap e))
      (w.drew.alloc (.cells (olds ++ news ++ Builtin.zeroCells z.cells (grownCap w (sLen + m) sCap e - (sLen + m))) e)) := by
  have hn' : ¬ (sLen + m ≤ sCap) := by omega
  have h63' : ¬ (9223372036854775807 < ((sLen : Int) + (m : Int))) := by omega
  have hfit' : ¬ (281474976710656 < Builtin.nextslicecap (sLen + m) sCap * i.bytes) := by omega
  have hd : { w with drawn := w.drawn + 1 } = w.drew := rfl
  rcases hu with hu | hu
  · simp [Builtin.append_, run_underlying ht, run_underlying hu, sizeOf, typeInfo, zeroValue, hi, hz, hx, hn', h63', hfit', Question.forced, newRow, grownCap, IntKind.max, IntKind.signed, IntKind.bits, ho, hn, hd]
  · simp [Builtin.append_, run_underlying ht, run_underlying hu, sizeOf, typeInfo, zeroValue, hi, hz, hx, hn', h63', hfit', Question.forced, newRow, grownCap, IntKind.max, IntKind.signed, IntKind.bits, ho, hn, hd]
theorem room_gen {P : Program} {t u e d : TypeId} {i : TypeInfo} {ty : TypeId} (ht : P.underlying t = some (.slice e)) (hu : P.underlying u = some (.slice d) ∨ P.underlying u = some .string) (hi : P.info? e = some i)
    {w w' : World} {b : Option Addr} {sLen sCap m : Nat} {news : Array Value} {x : Value}
    (hx : ∀ w', (Builtin.lenOf x).run P w' = .ok m w') (hn : (Builtin.firstCells i.size m x).run P w = .ok news w)
    (hg : sLen + m ≤ sCap) (hs : match b with | some a => (storeCells (a.add (sLen * i.size)) news.toList).run P w = .ok () w' | none => w' = w) :
    (Builtin.append_ #[t, u] ty #[.slice b sLen sCap, x]).run P w = .ok (.slice b (sLen + m) sCap) w' := by
  rcases hu with hu | hu
  · cases b with
    | none => subst hs; simp [Builtin.append_, run_underlying ht, run_underlying hu, sizeOf, typeInfo, hi, hx, hg, hn]
    | some a => simp only at hs; simp [Builtin.append_, run_underlying ht, run_underlying hu, sizeOf, typeInfo, hi, hx, hg, hn, hs]
  · cases b with
    | none => subst hs; simp [Builtin.append_, run_underlying ht, run_underlying hu, sizeOf, typeInfo, hi, hx, hg, hn]
    | some a => simp only at hs; simp [Builtin.append_, run_underlying ht, run_underlying hu, sizeOf, typeInfo, hi, hx, hg, hn, hs]
end
end Go.Proofs.Ytgohmphhgglmbaa.Am

/- An abstract machine over values: append. -/
set_option linter.unusedVariables false
set_option linter.unusedSimpArgs false
namespace Go.Proofs.Ytgohmphhgglmbaa.Am
open Go Go.RowKit

def brows (s : ByteArray) : List (List V) := s.data.toList.map fun q => [.s (.int .u8 q.toNat)]
/-- What is appended: a slice's rows, or a string's bytes. -/
def srcRows (P : Program) (h : Hp) (U : TypeId) (x : V) : Option (List (List V)) :=
  match P.underlying U, x with
  | some .string, .s (.string b) => some (brows b)
  | some (.slice _), x => rowsOf h x
  | _, _ => none
def okRows (z : Nat) (rows : List (List V)) : Prop := ∀ r ∈ rows, r.length = z ∧ ∀ q ∈ r, cellish q = true

/-- The zero value is as wide as the type. -/
def zok (P : Program) (e z : Nat) : Bool := (zro P e).any fun v => v.cells.size == z
def aappend (P : Program) (T U : TypeId) (s x : V) (σ : St) (K : V → St → Prop) : Prop :=
  match seqo P T with
  | .slice e z b8 => 0 < z ∧ 0 < b8 ∧ zok P e z = true ∧ ∃ nr, srcRows P σ.h U x = some nr ∧ okRows z nr ∧
      match s with
      | .cap0 => nr.length * b8 ≤ 140737488355328 ∧ ∀ cap, nr.length ≤ cap → K (.loc σ.n 0 nr.length cap) (σ.new ⟨z, nr ++ spare z (cap - nr.length), true⟩)
      | .loc b 0 len cap => ∃ B, σ.h b = some B ∧ B.wr = true ∧ B.size = z ∧ len ≤ cap ∧ cap ≤ B.rows.length ∧ (len + nr.length) * b8 ≤ 140737488355328 ∧
          ((∀ cap', len + nr.length ≤ cap' → K (.loc σ.n 0 (len + nr.length) cap') (σ.ren b ⟨z, B.rows.take len ++ nr ++ spare z (cap' - (len + nr.length)), true⟩)) ∨
           (cap < len + nr.length ∧ ∀ cap', len + nr.length ≤ cap' → K (.loc σ.n 0 (len + nr.length) cap') (σ.new ⟨z, B.rows.take len ++ nr ++ spare z (cap' - (len + nr.length)), true⟩)))
      | _ => False
  | _ => False

section
variable {c : Cx} {h : Hp} {n : Nat} {μ : Mu} {w : World}
theorem idx_lt {m z i j : Nat} (hi : i < m) (hj : j < z) : i * z + j < m * z := by
  have : (i + 1) * z ≤ m * z := Nat.mul_le_mul_right _ hi
  rw [Nat.add_mul] at this
  omega
theorem idx_div {z i j : Nat} (hj : j < z) : (i * z + j) / z = i ∧ (i * z + j) % z = j := by
  constructor
  · rw [Nat.add_comm, Nat.add_mul_div_right _ _ (by omega), Nat.div_eq_of_lt hj, Nat.zero_add]
  · rw [Nat.add_comm, Nat.add_mul_mod_self_right, Nat.mod_eq_of_lt hj]

theorem rows_load {P : Program} {rows : List (List V)} {A : Option Addr} {cp z : Nat} (hlen : rows.length ≠ 0 → ∀ r ∈ rows, r.length = z)
    (hA : rows.length ≠ 0 → ∃ ad : Addr, A = some ad ∧ ∀ i j, i < rows.length → j < z → ∃ y, w.cell? (ad.add (i * z + j)) = some y ∧ R c h μ w (cellAt rows i j) y) :
    ∃ vals : Array Value, (∀ w', (∀ a, w'.cell? a = w.cell? a) → (Builtin.firstCells z rows.length (.slice A rows.length cp)).run P w' = .ok vals w') ∧ vals.size = rows.length * z ∧
      ∀ i j, i < rows.length → j < z → R c h μ w (cellAt rows i j) (vals.getD (i * z + j) Go.undef) := by
  by_cases hn : rows.length = 0
  · refine ⟨#[], fun w' _ => ?_, by simp [hn], fun i j hi => by omega⟩
    cases A with
    | none => simp [Builtin.firstCells, Sem.run, pure]
    | some ad => simp [Builtin.firstCells, hn, loadCells, loadCellsFrom, Sem.run, pure]
  · obtain ⟨ad, rfl, hcell⟩ := hA hn
    have hex : ∀ q, ∃ y, q < rows.length * z → w.cell? (ad.add q) = some y ∧ R c h μ w (cellAt rows (q / z) (q % z)) y := by
      intro q
      by_cases hq : q < rows.length * z
      · have hz : 0 < z := by
          rcases Nat.eq_zero_or_pos z with h0 | h0
          · subst h0; simp at hq
          · exact h0
        obtain ⟨y, h1, h2⟩ := hcell (q / z) (q % z) (Nat.div_lt_of_lt_mul (by rw [Nat.mul_comm]; exact hq)) (Nat.mod_lt _ hz)
        refine ⟨y, fun _ => ⟨?_, h2⟩⟩
        rw [show q = q / z * z + q % z by rw [Nat.mul_comm]; exact (Nat.div_add_mod q z).symm]
        exact h1
      · exact ⟨Go.undef, fun h => absurd h hq⟩
    obtain ⟨f, hf⟩ := Classical.axiomOfChoice hex
    refine ⟨((List.range (rows.length * z)).map f).toArray, fun w' hw' => ?_, by simp, fun i j hi hj => ?_⟩
    · have := run_loadCells (P := P) w' ad (rows.length * z) f (fun j hj => by rw [hw']; exact (hf j hj).1)
      simp only [Builtin.firstCells, this]
    · have h1 := (hf _ (idx_lt hi hj)).2
      rw [(idx_div hj).1, (idx_div hj).2] at h1
      simpa [idx_lt hi hj] using h1

theorem lenOf_slice {P : Program} {A : Option Addr} {m cp : Nat} (w' : World) : (Builtin.lenOf (.slice A m cp)).run P w' = .ok m w' := by simp [Builtin.lenOf, Sem.run, pure]

theorem src_sound (H : HS c h n μ w) {U : TypeId} {x : V} {xv : Value} {nr : List (List V)} {z : Nat} (hx : R c h μ w x xv) (hs : srcRows c.P h U x = some nr) (hok : okRows z nr) :
    (∃ d, c.P.underlying U = some (.slice d) ∨ c.P.underlying U = some .string) ∧ ∃ news : Array Value, (∀ w', (Builtin.lenOf xv).run c.P w' = .ok nr.length w') ∧ (∀ w', (∀ a, w'.cell? a = w.cell? a) → (Builtin.firstCells z nr.length xv).run c.P w' = .ok news w') ∧ news.size = nr.length * z ∧
      (∀ i j, i < nr.length → j < z → R c h μ w (cellAt nr i j) (news.getD (i * z + j) Go.undef)) ∧ ∀ u ∈ news.toList, u.oneCell' = true := by
  have one : ∀ {news : Array Value}, news.size = nr.length * z → (∀ i j, i < nr.length → j < z → R c h μ w (cellAt nr i j) (news.getD (i * z + j) Go.undef)) → ∀ u ∈ news.toList, u.oneCell' = true := by
    intro news hsz hr u hu
    obtain ⟨q, hq, rfl⟩ := List.getElem_of_mem hu
    have hq' : q < news.size := by simpa using hq
    have hz : 0 < z := by
      rcases Nat.eq_zero_or_pos z with h0 | h0
      · subst h0; simp at hsz; subst hsz; simp at hq'
      · exact h0
    have hi : q / z < nr.length := Nat.div_lt_of_lt_mul (by rw [Nat.mul_comm, ← hsz]; exact hq')
    have hj := Nat.mod_lt q hz
    have h1 := hr (q / z) (q % z) hi hj
    rw [show q / z * z + q % z = q by rw [Nat.mul_comm]; exact Nat.div_add_mod q z] at h1
    have hmem : nr.getD (q / z) [] ∈ nr := by rw [List.getD_eq_getElem?_getD, List.getElem?_eq_getElem hi]; exact List.getElem_mem _
    have h2 : cellish (cellAt nr (q / z) (q % z)) = true := by
      refine (hok _ hmem).2 _ ?_
      unfold cellAt
      rw [List.getD_eq_getElem?_getD (l := nr.getD (q / z) []), List.getElem?_eq_getElem (by rw [(hok _ hmem).1]; exact hj)]
      exact List.getElem_mem _
    have h3 : news.getD q Go.undef = news[q] := by simp [hq']
    rw [h3] at h1
    simpa using (cellish_sound h1 h2).2
  unfold srcRows at hs
  split at hs
  · rename_i b hu
    cases hs
    obtain ⟨rfl, _⟩ := hx.s_eq
    have hlen : (brows b).length = b.size := by simp only [brows, List.length_map, Array.length_toList]; rfl
    refine ⟨⟨0, .inr hu⟩, b.data.map (fun q => .int .u8 q.toNat), fun w' => by simp [Builtin.lenOf, Sem.run, pure, hlen], fun w' _ => ?_, ?_, ?_, ?_⟩
    · rw [hlen, Lib.run_firstCells_string]
      congr 1
      rw [Lib.strCells]
      apply Array.ext'
      simp [Array.toList_map]
    · by_cases hb : (brows b).length = 0
      · rw [hb, Nat.zero_mul, Array.size_map]; rw [hlen] at hb; exact hb
      · have := (hok ((brows b).getD 0 []) (by rw [List.getD_eq_getElem?_getD, List.getElem?_eq_getElem (by omega)]; exact List.getElem_mem _)).1
        have hq : ((brows b).getD 0 []).length = 1 := by
          rw [List.getD_eq_getElem?_getD, List.getElem?_eq_getElem (by omega)]
          simp [brows]
        rw [hq] at this
        subst this
        rw [hlen, Nat.mul_one, Array.size_map]; rfl
    · intro i j hi hj
      have hmem : (brows b).getD i [] ∈ brows b := by rw [List.getD_eq_getElem?_getD, List.getElem?_eq_getElem hi]; exact List.getElem_mem _
      have h1 := (hok _ hmem).1
      have hi' : i < b.data.size := by rw [hlen] at hi; exact hi
      have h2 : (brows b).getD i [] = [.s (.int .u8 b.data[i].toNat)] := by
        simp [brows, List.getD_eq_getElem?_getD, List.getElem?_eq_getElem (show i < b.data.toList.length by simpa using hi')]
      rw [h2] at h1
      simp at h1
      subst h1
      obtain rfl : j = 0 := by omega
      unfold cellAt
      rw [h2]
      rw [show (b.data.map (fun q => Value.int .u8 q.toNat)).getD (i * 1 + 0) Go.undef = .int .u8 b.data[i].toNat by simp [Array.getElem?_eq_getElem hi']]
      exact .s _ rfl
    · intro u hu
      simp at hu
      obtain ⟨q, _, rfl⟩ := hu
      rfl
  · rename_i d hu
    obtain ⟨A, cp, size, rfl, hc, hA⟩ := rows_sound H hx hs
    have hsz : nr.length ≠ 0 → size = z := by
      intro hn
      obtain ⟨ad, _, h1, _⟩ := hA hn
      have hmem : nr.getD 0 [] ∈ nr := by rw [List.getD_eq_getElem?_getD, List.getElem?_eq_getElem (by omega)]; exact List.getElem_mem _
      rw [← h1 _ hmem, (hok _ hmem).1]
    obtain ⟨vals, v1, v2, v3⟩ := rows_load (P := c.P) (c := c) (h := h) (μ := μ) (w := w) (rows := nr) (A := A) (cp := cp) (z := z) (fun _ r hr => (hok r hr).1) (fun hn => by
      obtain ⟨ad, h0, _, h2⟩ := hA hn
      rw [hsz hn] at h2
      exact ⟨ad, h0, h2⟩)
    exact ⟨⟨d, .inl hu⟩, vals, fun w' => lenOf_slice w', v1, v2, v3, one v2 v3⟩
  · cases hs

theorem spare_length (z m : Nat) : (spare z m).length = m := by simp [spare]
theorem spare_rows (z m : Nat) : ∀ r ∈ spare z m, r.length = z := by
  intro r hr
  simp [spare] at hr
  rw [hr.2]; simp
theorem cellAt_append (a b : List (List V)) (i j : Nat) : cellAt (a ++ b) i j = if i < a.length then cellAt a i j else cellAt b (i - a.length) j := by
  unfold cellAt
  simp only [List.getD_eq_getElem?_getD]
  split
  · rename_i h; rw [List.getElem?_append_left h]
  · rename_i h; rw [List.getElem?_append_right (by omega)]
theorem cellAt_take (a : List (List V)) (m i j : Nat) (h : i < m) : cellAt (a.take m) i j = cellAt a i j := by
  unfold cellAt
  simp [List.getD_eq_getElem?_getD, List.getElem?_take, h]
theorem cellAt_spare (z m i j : Nat) (hi : i < m) (hj : j < z) : cellAt (spare z m) i j = .any := by
  unfold cellAt spare
  simp [List.getD_eq_getElem?_getD, hi, hj]

theorem okRows_len {z : Nat} {rows : List (List V)} (h : okRows z rows) : ∀ r ∈ rows, r.length = z := fun r hr => (h r hr).1

/-- What a row of old rows, new rows and spare room holds. -/
theorem grown_cells {olds news : List (List V)} {z cap : Nat} {ov nv zc : Array Value} (ho : ov.size = olds.length * z) (hn : nv.size = news.length * z) (hz : zc.size = (cap - (olds.length + news.length)) * z) (hcap : olds.length + news.length ≤ cap)
    (hro : ∀ i j, i < olds.length → j < z → R c h μ w (cellAt olds i j) (ov.getD (i * z + j) Go.undef)) (hrn : ∀ i j, i < news.length → j < z → R c h μ w (cellAt news i j) (nv.getD (i * z + j) Go.undef)) :
    ∀ i j, i < (olds ++ news ++ spare z (cap - (olds.length + news.length))).length → j < z → ∃ x, (ov ++ nv ++ zc)[i * z + j]? = some x ∧ R c h μ w (cellAt (olds ++ news ++ spare z (cap - (olds.length + news.length))) i j) x := by
  intro i j hi hj
  simp only [List.length_append, spare_length] at hi
  have hsz : (ov ++ nv ++ zc).size = cap * z := by
    simp only [Array.size_append, ho, hn, hz, ← Nat.add_mul]
    congr 1
    omega
  have hlt : i * z + j < cap * z := idx_lt (by omega) hj
  refine ⟨(ov ++ nv ++ zc)[i * z + j]'(by omega), Array.getElem?_eq_getElem _, ?_⟩
  rw [List.append_assoc, cellAt_append]
  split
  · rename_i h1
    have h2 := idx_lt (z := z) h1 hj
    have h3 := hro i j h1 hj
    have h4 : ov.getD (i * z + j) Go.undef = (ov ++ nv ++ zc)[i * z + j]'(by omega) := by
      have h5 : i * z + j < ov.size := by omega
      have h6 : i * z + j < (ov ++ nv).size := by simp; omega
      rw [Array.getElem_append_left h6, Array.getElem_append_left h5]
      simp [h5]
    rw [← h4]; exact h3
  · rename_i h1
    rw [cellAt_append]
    split
    · rename_i h2
      have h3 := hrn _ j h2 hj
      have h7 := idx_lt (z := z) h2 hj
      have h8 : i * z + j - ov.size = (i - olds.length) * z + j := by rw [ho, Nat.sub_mul]; have : olds.length * z ≤ i * z := Nat.mul_le_mul_right _ (by omega); omega
      have h9 : ov.size ≤ i * z + j := by rw [ho]; have : olds.length * z ≤ i * z := Nat.mul_le_mul_right _ (by omega); omega
      have h4 : nv.getD ((i - olds.length) * z + j) Go.undef = (ov ++ nv ++ zc)[i * z + j]'(by omega) := by
        have h5 : (i - olds.length) * z + j < nv.size := by omega
        have h6 : i * z + j < (ov ++ nv).size := by simp; omega
        rw [Array.getElem_append_left h6, Array.getElem_append_right h9]
        simp only [h8]
        simp [h5]
      rw [← h4]; exact h3
    · rename_i h2
      rw [cellAt_spare _ _ _ _ (by omega) hj]
      exact .any _

theorem setCells_fr (q : Nat) : ∀ (vs : List Value) (o : Nat) (w : World), Fr w (w.setCells q o vs) (fun k => k = q) ∧ (w.setCells q o vs).heap.size = w.heap.size
  | [], _, w => ⟨Fr.refl _ _, rfl⟩
  | v :: vs, o, w => by
    obtain ⟨h1, h2⟩ := setCells_fr q vs (o + 1) (w.setCell ⟨q, o, none⟩ v)
    have h3 : (w.setCell ⟨q, o, none⟩ v).heap.size = w.heap.size := by simp [World.setCell]
    refine ⟨⟨h1.os, h1.tape, h1.output, ?_, fun k hk hne => ?_⟩, by rw [World.setCells, h2, h3]⟩
    · have := h1.size; rw [h3] at this; exact this
    · rw [World.setCells, h1.block k (by omega) hne]
      exact Below.heap_setCell w ⟨q, o, none⟩ v k hne
theorem cells_drew (w : World) (a : Addr) : w.drew.cell? a = w.cell? a := rfl
theorem append_sound (H : HS c h n μ w) {T U ty : TypeId} {s x : V} {sv xv : Value} {t : Nat → V} {K : V → St → Prop} (hs : R c h μ w s sv) (hx : R c h μ w x xv) (hk : aappend c.P T U s x ⟨t, h, n⟩ K) :
    ∃ v y h' n' μ' w', (Builtin.append_ #[T, U] ty #[sv, xv]).run c.P w = .ok y w' ∧ K v ⟨t, h', n'⟩ ∧ HS c h' n' μ' w' ∧ Ext c h μ w h' μ' w' ∧ R c h' μ' w' v y := by
  unfold aappend at hk
  split at hk
  · rename_i e z b8 hseq
    obtain ⟨hT, hze, hbe⟩ := seqo_slice hseq
    obtain ⟨hz0, hb0, hzero, nr, hsrc, hok, hk⟩ := hk
    obtain ⟨i, hi, hiz⟩ := Option.map_eq_some_iff.1 hze
    obtain ⟨i', hi', hib⟩ := Option.map_eq_some_iff.1 hbe
    rw [hi] at hi'; cases hi'
    obtain ⟨zv, hzv, hzvs⟩ : ∃ zv, zro c.P e = some zv ∧ zv.cells.size = z := by
      unfold zok at hzero
      cases hq : zro c.P e with
      | none => rw [hq] at hzero; cases hzero
      | some zv => rw [hq] at hzero; exact ⟨zv, rfl, by simpa using hzero⟩
    obtain ⟨i', hi', hzv⟩ := Option.bind_eq_some_iff.1 hzv
    rw [hi] at hi'; cases hi'
    obtain ⟨⟨d, hU⟩, news, n1, n2, n3, n4, n5⟩ := src_sound H hx hsrc hok
    have grow : ∀ (h1 : Hp) (H1 : HS c h1 n μ w) (E1 : Ext c h μ w h1 μ w) (A : Option Addr) (sLen sCap : Nat) (olds : List (List V)) (ov : Array Value), sv = .slice A sLen sCap → olds.length = sLen → (∀ r ∈ olds, r.length = z) → ov.size = olds.length * z →
        (∀ w', (∀ a, w'.cell? a = w.cell? a) → (Builtin.firstCells z sLen (.slice A sLen sCap)).run c.P w' = .ok ov w') → (∀ i j, i < olds.length → j < z → R c h μ w (cellAt olds i j) (ov.getD (i * z + j) Go.undef)) →
        sCap < sLen + nr.length → (sLen + nr.length) * b8 ≤ 140737488355328 →
        (∀ cap', sLen + nr.length ≤ cap' → K (.loc n 0 (sLen + nr.length) cap') ⟨t, upd h1 n (some ⟨z, olds ++ nr ++ spare z (cap' - (sLen + nr.length)), true⟩), n + 1⟩) →
        ∃ v y h' n' μ' w', (Builtin.append_ #[T, U] ty #[sv, xv]).run c.P w = .ok y w' ∧ K v ⟨t, h', n'⟩ ∧ HS c h' n' μ' w' ∧ Ext c h μ w h' μ' w' ∧ R c h' μ' w' v y := by
      intro h1 H1 E1 A sLen sCap olds ov hsv hol hor hov hof hoc hlt hby hK
      subst hsv
      have hge := grownCap_ge w (sLen + nr.length) sCap e
      have h63 : sLen + nr.length ≤ 9223372036854775807 := by
        have : (sLen + nr.length) * 1 ≤ (sLen + nr.length) * b8 := Nat.mul_le_mul_left _ hb0
        omega
      have hrun := grow_gen (ty := ty) hT hU hi hzv (w := w) (b := A) (sLen := sLen) (sCap := sCap) (m := nr.length) (olds := ov) (news := news) (x := xv) (by rw [hiz]; exact hof w.drew (cells_drew w)) n1 (by rw [hiz]; exact n2 w.drew (cells_drew w)) hlt h63 (by rw [hib]; exact growslice_fits hlt hby)
      generalize grownCap w (sLen + nr.length) sCap e = cap at hrun hge
      have hzs : (Builtin.zeroCells zv.cells (cap - (sLen + nr.length))).size = (cap - (olds.length + nr.length)) * z := by rw [size_zeroCells, hzvs, hol]
      have hcells := grown_cells (c := c) (h := h) (μ := μ) (w := w) (cap := cap) hov n3 hzs (by omega) hoc n4
      have hE : ∀ v y, R c h μ w v y → R c h1 μ w v y := fun v y hr => E1.R hr
      have H2 := H1.newRow ⟨z, olds ++ nr ++ spare z (cap - (sLen + nr.length)), true⟩ (ov ++ news ++ Builtin.zeroCells zv.cells (cap - (sLen + nr.length))) e (0, 0) (w1 := w.drew) (Below.refl _ _).drew rfl
        (fun r hr => by
          simp only [List.mem_append] at hr
          rcases hr with (hr | hr) | hr
          · exact hor r hr
          · exact okRows_len hok r hr
          · exact spare_rows _ _ r hr) (fun j _ => by simp) (fun i j hi hj => by
          rw [hol] at hcells
          obtain ⟨x, h1, h2⟩ := hcells i j hi hj
          exact ⟨x, h1, hE _ _ h2⟩)
      refine ⟨_, _, _, _, _, _, hrun, hK cap hge, H2.1, E1.trans H2.2, ?_⟩
      have := Rp.loc (fvals := c.fvals) (w := w.drew.alloc (.cells (ov ++ news ++ Builtin.zeroCells zv.cells (cap - (sLen + nr.length))) e)) (ok := okB c (upd h1 n (some ⟨z, olds ++ nr ++ spare z (cap - (sLen + nr.length)), true⟩)) (upd μ n (some (.real w.heap.size 0 z))) (w.drew.alloc (.cells (ov ++ news ++ Builtin.zeroCells zv.cells (cap - (sLen + nr.length))) e)))
        (μ := upd μ n (some (.real w.heap.size 0 z))) n 0 (sLen + nr.length) cap w.heap.size 0 z (upd_same _ _ _) hge
      simpa using this
    split at hk
    · -- no room
      obtain ⟨hby, hK⟩ := hk
      obtain ⟨A, rfl⟩ := hs.cap0_inv
      by_cases hn : nr.length = 0
      · have hnr : nr = [] := List.eq_nil_of_length_eq_zero hn
        subst hnr
        have hnews : news = #[] := by apply Array.eq_empty_of_size_eq_zero; simpa using n3
        subst hnews
        have hrun := room_gen (ty := ty) hT hU hi (w := w) (w' := w) (b := A) (sLen := 0) (sCap := 0) (m := 0) (news := #[]) (x := xv) n1 (by rw [hiz]; exact n2 w (fun _ => rfl)) (Nat.le_refl _) (by cases A <;> rfl)
        have H2 := H.virt z
        have hK0 := hK 0 (Nat.le_refl _)
        refine ⟨_, _, _, _, _, _, hrun, hK0, H2.1, H2.2, ?_⟩
        exact .loc0 _ _ _ _ (upd_same _ _ _)
      · refine grow h H (Ext.refl _ _ _ _) A 0 0 [] #[] rfl rfl (fun r hr => by cases hr) (by simp) (fun w' _ => ?_) (fun i j hi => by simp at hi) (by omega) (by simpa using hby) (fun cap hc => by
          have := hK cap (by omega)
          simpa [St.new] using this)
        cases A <;> simp [Builtin.firstCells, loadCells, loadCellsFrom, Sem.run, pure]
    · -- a row of one's own
      rename_i b len cap
      obtain ⟨B, hB, hwr, hBz, hlc, hcl, hby, hK | ⟨hlt, hK⟩⟩ := hk
      case inr =>
        obtain ⟨_, ⟨q, base, size, hmu, rfl⟩ | ⟨h0, h00, A, t', hmu, rfl⟩⟩ := hs.loc_inv
        · have hsize : size = z := by
            rcases H.blk b B hB with ⟨g1, _⟩ | ⟨k', base', g1, _⟩
            · rw [hmu] at g1; cases g1
            · rw [hmu] at g1; cases g1; exact hBz
          subst hsize
          have hrows : ∀ r ∈ B.rows, r.length = size := by
            rcases H.blk b B hB with ⟨g1, _⟩ | ⟨k', base', g1, g2, g3, g4, g5⟩
            · rw [hmu] at g1; cases g1
            · rw [← hBz]; exact g4
          simp only [Nat.zero_mul, Nat.add_zero] at *
          have hro : rowsOf h (.loc b 0 len cap) = some (B.rows.take len) := by simp [rowsOf, hB]; omega
          have hlen : (B.rows.take len).length = len := by simp; omega
          obtain ⟨A', cp', size', heq, hc', hA'⟩ := rows_sound H hs hro
          rw [hlen] at heq
          cases heq
          obtain ⟨ov, o1, o2, o3⟩ := rows_load (P := c.P) (c := c) (h := h) (μ := μ) (w := w) (rows := B.rows.take len) (A := some ⟨q, base, none⟩) (cp := cap) (z := size) (fun _ r hr => hrows r (List.mem_of_mem_take hr)) (fun hn => by
            obtain ⟨ad, g0, g1, g2⟩ := hA' hn
            cases g0
            have hmem : (B.rows.take len).getD 0 [] ∈ B.rows.take len := by rw [List.getD_eq_getElem?_getD, List.getElem?_eq_getElem (by omega)]; exact List.getElem_mem _
            have hss : size' = size := by rw [← g1 _ hmem, hrows _ (List.mem_of_mem_take hmem)]
            subst hss
            exact ⟨_, rfl, g2⟩)
          rw [hlen] at o1
          exact grow h H (Ext.refl _ _ _ _) (some ⟨q, base, none⟩) len cap (B.rows.take len) ov rfl hlen (fun r hr => hrows r (List.mem_of_mem_take hr)) o2 o1 o3 (by omega) hby (fun cap' hc => hK cap' hc)
        · subst h0 h00
          refine grow h H (Ext.refl _ _ _ _) A 0 0 [] #[] rfl rfl (fun r hr => by cases hr) (by simp) (fun w' _ => ?_) (fun i j hi => by simp at hi) (by omega) (by simpa using hby) (fun cap hc => by
              have := hK cap hc
              simpa [St.new] using this)
          cases A <;> simp [Builtin.firstCells, loadCells, loadCellsFrom, Sem.run, pure]
      obtain ⟨_, ⟨q, base, size, hmu, rfl⟩ | ⟨h0, h00, A, t', hmu, rfl⟩⟩ := hs.loc_inv
      · have hsize : size = z := by
          rcases H.blk b B hB with ⟨g1, _⟩ | ⟨k', base', g1, _⟩
          · rw [hmu] at g1; cases g1
          · rw [hmu] at g1; cases g1; exact hBz
        subst hsize
        have hrows : ∀ r ∈ B.rows, r.length = size := by
          rcases H.blk b B hB with ⟨g1, _⟩ | ⟨k', base', g1, g2, g3, g4, g5⟩
          · rw [hmu] at g1; cases g1
          · rw [← hBz]; exact g4
        simp only [Nat.zero_mul, Nat.add_zero] at *
        by_cases hroom : len + nr.length ≤ cap
        · -- there is room
          have hst : ∀ j, j < news.toList.length → ∃ y, w.cell? ⟨q, base + len * size + 0 + j, none⟩ = some y ∧ w.frozen? ⟨q, base + len * size + 0 + j, none⟩ = false := by
            intro j hj
            have hj' : j < nr.length * size := by simpa [n3] using hj
            have hi' : j / size < nr.length := Nat.div_lt_of_lt_mul (by rw [Nat.mul_comm]; exact hj')
            obtain ⟨_, y, g1, g2, _⟩ := H.at (r := len + j / size) (j := j % size) hB hmu (by omega) (by rw [hBz]; exact Nat.mod_lt _ hz0)
            rw [hBz] at g1 g2
            have e1 : base + len * size + 0 + j = base + ((len + j / size) * size + j % size) := by
              rw [Nat.add_mul]
              have := Nat.div_add_mod j size
              rw [Nat.mul_comm] at this
              omega
            rw [e1]
            exact ⟨y, g1, g2 _ (.inr rfl)⟩
          have hrunst := run_storeCells_cells (P := c.P) q (base + len * size) news.toList 0 w (fun j hj => by obtain ⟨y, g1, _⟩ := hst j hj; rw [g1]; rfl) (fun j hj => by obtain ⟨y, _, g2⟩ := hst j hj; exact g2) n5
          have hrun := room_gen (ty := ty) hT hU hi (w := w) (w' := w.setCells q (base + len * size + 0) news.toList) (b := some ⟨q, base, none⟩) (sLen := len) (sCap := cap) (m := nr.length) (news := news) (x := xv) n1 (by rw [hiz]; exact n2 w (fun _ => rfl)) hroom (by simp only [add_plain, hiz]; exact hrunst)
          generalize hw' : w.setCells q (base + len * size + 0) news.toList = w' at hrun
          obtain ⟨f1, f2⟩ := setCells_fr q news.toList (base + len * size + 0) w
          rw [hw'] at f1 f2
          have hlen : (B.rows.take len).length = len := by simp; omega
          have H2 := H.rename (B' := ⟨size, B.rows.take len ++ nr ++ spare size (cap - (len + nr.length)), true⟩) (base' := base) hB hwr (by rw [hBz]; exact hmu) f1
            (fun r hr => by
              simp only [List.mem_append] at hr
              rcases hr with (hr | hr) | hr
              · exact hrows r (List.mem_of_mem_take hr)
              · exact okRows_len hok r hr
              · exact spare_rows _ _ r hr)
            (fun i j hi hj => by
              simp only [List.length_append, hlen, spare_length] at hi
              obtain ⟨_, y, g1, g2, g3⟩ := H.at (r := i) (j := j) hB hmu (by omega) (by rw [hBz]; exact hj)
              rw [hBz] at g1 g2
              have hfz : ∀ o, (size ≠ 1 ∨ o = base + (i * size + j)) → w'.frozen? ⟨q, o, none⟩ = false := fun o ho => by rw [← hw', World.frozen?_setCells]; exact g2 o (by first | exact ho | (rw [hBz]; exact ho))
              simp only at hj ⊢
              by_cases c1 : i < len
              · refine ⟨y, ?_, hfz, fun e => e.R ?_⟩
                · rw [← hw', World.cell?_setCells_out _ _ _ _ _ (fun _ _ => .inl (by have := idx_lt c1 hj; simp; omega))]
                  exact g1
                · rw [List.append_assoc, cellAt_append, if_pos (by omega), cellAt_take _ _ _ _ c1]
                  exact g3
              · by_cases c2 : i < len + nr.length
                · have hidx := idx_lt (show i - len < nr.length by omega) hj
                  have hj2 : (i - len) * size + j < news.toList.length := by simpa [n3] using hidx
                  have hin := World.cell?_setCells_in q news.toList (base + len * size + 0) w (fun j hj => by obtain ⟨y, g1, _⟩ := hst j hj; rw [g1]; rfl) _ hj2
                  have e1 : base + len * size + 0 + ((i - len) * size + j) = base + (i * size + j) := by
                    have : len * size ≤ i * size := Nat.mul_le_mul_right _ (by omega)
                    rw [Nat.sub_mul]; omega
                  rw [e1, hw'] at hin
                  refine ⟨_, hin, hfz, fun e => e.R ?_⟩
                  rw [List.append_assoc, cellAt_append, if_neg (by omega), hlen, cellAt_append, if_pos (by omega)]
                  have := n4 (i - len) j (by omega) hj
                  have h3 : news.getD ((i - len) * size + j) Go.undef = news.toList[(i - len) * size + j] := by
                    have : (i - len) * size + j < news.size := by omega
                    simp [this]
                  rw [h3] at this
                  exact this
                · refine ⟨y, ?_, hfz, fun e => ?_⟩
                  · rw [← hw', World.cell?_setCells_out _ _ _ _ _ (fun _ _ => .inr (by
                      have : (len + nr.length) * size ≤ i * size := Nat.mul_le_mul_right _ (by omega)
                      rw [Nat.add_mul] at this
                      simp [n3]; omega))]
                    exact g1
                  · rw [List.append_assoc, cellAt_append, if_neg (by omega), hlen, cellAt_append, if_neg (by omega), cellAt_spare _ _ _ _ (by omega) hj]
                    exact .any _)
          refine ⟨_, _, _, _, _, _, hrun, hK cap hroom, H2.1, H2.2, ?_⟩
          have := Rp.loc (fvals := c.fvals) (w := w') (ok := okB c (upd (upd h b none) n (some ⟨size, B.rows.take len ++ nr ++ spare size (cap - (len + nr.length)), true⟩)) (upd μ n (some (.real q base size))) w')
            (μ := upd μ n (some (.real q base size))) n 0 (len + nr.length) cap q base size (upd_same _ _ _) hroom
          simpa using this
        · have hro : rowsOf h (.loc b 0 len cap) = some (B.rows.take len) := by simp [rowsOf, hB]; omega
          have hlen : (B.rows.take len).length = len := by simp; omega
          obtain ⟨A', cp', size', heq, hc', hA'⟩ := rows_sound H hs hro
          rw [hlen] at heq
          cases heq
          obtain ⟨ov, o1, o2, o3⟩ := rows_load (P := c.P) (c := c) (h := h) (μ := μ) (w := w) (rows := B.rows.take len) (A := some ⟨q, base, none⟩) (cp := cap) (z := size) (fun _ r hr => hrows r (List.mem_of_mem_take hr)) (fun hn => by
            obtain ⟨ad, g0, g1, g2⟩ := hA' hn
            cases g0
            have hmem : (B.rows.take len).getD 0 [] ∈ B.rows.take len := by rw [List.getD_eq_getElem?_getD, List.getElem?_eq_getElem (by omega)]; exact List.getElem_mem _
            have hss : size' = size := by rw [← g1 _ hmem, hrows _ (List.mem_of_mem_take hmem)]
            subst hss
            exact ⟨_, rfl, g2⟩)
          rw [hlen] at o1
          refine grow (upd h b none) (H.drop b).1 (H.drop b).2 (some ⟨q, base, none⟩) len cap (B.rows.take len) ov rfl hlen (fun r hr => hrows r (List.mem_of_mem_take hr)) o2 o1 o3 (by omega) hby (fun cap' hc => ?_)
          exact hK cap' hc
      · subst h0 h00
        by_cases hn : nr.length = 0
        · have hnr : nr = [] := List.eq_nil_of_length_eq_zero hn
          subst hnr
          have hnews : news = #[] := by apply Array.eq_empty_of_size_eq_zero; simpa using n3
          subst hnews
          have hrun := room_gen (ty := ty) hT hU hi (w := w) (w' := w) (b := A) (sLen := 0) (sCap := 0) (m := 0) (news := #[]) (x := xv) n1 (by rw [hiz]; exact n2 w (fun _ => rfl)) (Nat.le_refl _) (by cases A <;> rfl)
          have H1 := H.drop b
          have H2 := H1.1.virt z
          have hK0 := hK 0 (Nat.le_refl _)
          refine ⟨_, _, _, _, _, _, hrun, hK0, ?_, H1.2.trans H2.2, ?_⟩
          · simpa [spare] using H2.1
          · exact .loc0 _ _ _ _ (upd_same _ _ _)
        · refine grow (upd h b none) (H.drop b).1 (H.drop b).2 A 0 0 [] #[] rfl rfl (fun r hr => by cases hr) (by simp) (fun w' _ => ?_) (fun i j hi => by simp at hi) (by omega) (by simpa using hby) (fun cap hc => by
            have := hK cap hc
            simpa [St.ren] using this)
          cases A <;> simp [Builtin.firstCells, loadCells, loadCellsFrom, Sem.run, pure]
    · exact hk.elim
  · exact hk.elim
end
end Go.Proofs.Ytgohmphhgglmbaa.Am

/- An abstract machine over values: append of a made row, where the row has no room for it: what is made is not told (it is written over). -/
set_option linter.unusedVariables false
set_option linter.unusedSimpArgs false
namespace Go.Proofs.Ytgohmphhgglmbaa.Am
open Go Go.RowKit

def isIntT (P : Program) (T : TypeId) : Bool := match P.underlying T with
  | some (.int _) => true
  | _ => false
def aappendZ (P : Program) (T U : TypeId) (s x : V) (σ : St) (K : V → St → Prop) : Prop :=
  match seqo P T, s, asN x with
  | .slice e z b8, .loc b 0 len cap, some m => isIntT P U = true ∧ 0 < z ∧ 0 < b8 ∧ zok P e z = true ∧ ∃ B, σ.h b = some B ∧ B.wr = true ∧ B.size = z ∧ len ≤ cap ∧ cap ≤ B.rows.length ∧ (len + m) * b8 ≤ 140737488355328 ∧ cap < len + m ∧
      ∀ cap', len + m ≤ cap' → K (.loc σ.n 0 (len + m) cap') (σ.new ⟨z, B.rows.take len ++ spare z m ++ spare z (cap' - (len + m)), true⟩)
  | _, _, _ => False

section
variable {c : Cx} {h : Hp} {n : Nat} {μ : Mu} {w : World}
theorem grow_genZ {P : Program} {t u e : TypeId} {k k' : IntKind} {i : TypeInfo} {z : Value} {ty : TypeId} (ht : P.underlying t = some (.slice e)) (hu : P.underlying u = some (.int k)) (hi : P.info? e = some i) (hz : i.zero = some z)
    {w : World} {b : Option Addr} {sLen sCap m : Nat} {olds : Array Value}
    (ho : (Builtin.firstCells i.size sLen (.slice b sLen sCap)).run P w.drew = .ok olds w.drew) (hm : m ≤ 281474976710656) (hb : (m : Int) * i.bytes ≤ 281474976710656) (hn0 : m * i.size ≠ 0)
    (hg : sCap < sLen + m) (h63 : sLen + m ≤ 9223372036854775807) (hfit : Builtin.nextslicecap (sLen + m) sCap * i.bytes ≤ 281474976710656) :
    (Builtin.append_ #[t, u] ty #[.slice b sLen sCap, .int k' m]).run P w = .ok (.slice (some ⟨w.heap.size, 0, none⟩) (sLen + m) (grownCap w (sLen + m) sCap e))
      (w.drew.alloc (.cells (olds ++ Builtin.zeroCells z.cells m ++ Builtin.zeroCells z.cells (grownCap w (sLen + m) sCap e - (sLen + m))) e)) := by
  have hn' : ¬ (sLen + m ≤ sCap) := by omega
  have h63' : ¬ (9223372036854775807 < ((sLen : Int) + (m : Int))) := by omega
  have hfit' : ¬ (281474976710656 < Builtin.nextslicecap (sLen + m) sCap * i.bytes) := by omega
  have hd : { w with drawn := w.drawn + 1 } = w.drew := rfl
  have hw : IntKind.i64.wrap (m : Int) = m := by
    have h1 : (m : Int) % 18446744073709551616 = m := by omega
    have h2 : ¬ (9223372036854775808 ≤ (m : Int)) := by omega
    simp [IntKind.wrap, IntKind.bits, IntKind.signed, h1, h2]
  have hl : ¬ ((m : Int) < 0) := by omega
  have hb' : ¬ (281474976710656 < (m : Int) * i.bytes) := by omega
  have hi1 : ∀ w : World, (asInt (.int k' (m : Int))).run P w = .ok (m : Int) w := fun w => by simp [asInt, asIntOf, Sem.run, pure]
  simp [Builtin.append_, run_underlying ht, run_underlying hu, sizeOf, typeInfo, zeroValue, hi, hz, hi1, hw, hl, hb', hn', h63', hfit', hn0, Question.forced, newRow, grownCap, IntKind.max, IntKind.signed, IntKind.bits, ho, hd]
theorem appendZ_sound (H : HS c h n μ w) {T U ty : TypeId} {s x : V} {sv xv : Value} {t : Nat → V} {K : V → St → Prop} (hs : R c h μ w s sv) (hx : R c h μ w x xv) (hk : aappendZ c.P T U s x ⟨t, h, n⟩ K) :
    ∃ v y h' n' μ' w', (Builtin.append_ #[T, U] ty #[sv, xv]).run c.P w = .ok y w' ∧ K v ⟨t, h', n'⟩ ∧ HS c h' n' μ' w' ∧ Ext c h μ w h' μ' w' ∧ R c h' μ' w' v y := by
  unfold aappendZ at hk
  split at hk
  · rename_i e z b8 b len cap m hseq hm
    obtain ⟨hT, hze, hbe⟩ := seqo_slice hseq
    obtain ⟨hU, hz0, hb0, hzero, B, hB, hwr, hBz, hlc, hcl, hby, hlt, hK⟩ := hk
    obtain ⟨i, hi, hiz⟩ := Option.map_eq_some_iff.1 hze
    obtain ⟨i', hi', hib⟩ := Option.map_eq_some_iff.1 hbe
    rw [hi] at hi'; cases hi'
    obtain ⟨zv, hzv, hzvs⟩ : ∃ zv, zro c.P e = some zv ∧ zv.cells.size = z := by
      unfold zok at hzero
      cases hq : zro c.P e with
      | none => rw [hq] at hzero; cases hzero
      | some zv => rw [hq] at hzero; exact ⟨zv, rfl, by simpa using hzero⟩
    obtain ⟨i', hi', hzv⟩ := Option.bind_eq_some_iff.1 hzv
    rw [hi] at hi'; cases hi'
    obtain ⟨k, hUk⟩ : ∃ k, c.P.underlying U = some (.int k) := by
      unfold isIntT at hU
      split at hU
      · rename_i k hk; exact ⟨k, hk⟩
      · cases hU
    obtain ⟨k', rfl⟩ := hx.asN_eq hm
    have hm0 : 0 < m := by omega
    have hm1 : (len + m) * 1 ≤ (len + m) * b8 := Nat.mul_le_mul_left _ hb0
    have hm2 : m * b8 ≤ (len + m) * b8 := Nat.mul_le_mul_right _ (by omega)
    have fin : ∀ (A : Option Addr) (olds : List (List V)) (ov : Array Value), sv = .slice A len cap → olds = B.rows.take len → olds.length = len → (∀ r ∈ olds, r.length = z) → ov.size = olds.length * z →
        (∀ w', (∀ a, w'.cell? a = w.cell? a) → (Builtin.firstCells z len (.slice A len cap)).run c.P w' = .ok ov w') → (∀ i j, i < olds.length → j < z → R c h μ w (cellAt olds i j) (ov.getD (i * z + j) Go.undef)) →
        ∃ v y h' n' μ' w', (Builtin.append_ #[T, U] ty #[sv, .int k' m]).run c.P w = .ok y w' ∧ K v ⟨t, h', n'⟩ ∧ HS c h' n' μ' w' ∧ Ext c h μ w h' μ' w' ∧ R c h' μ' w' v y := by
      intro A olds ov hsv hoe hol hor hov hof hoc
      subst hsv
      have hge := grownCap_ge w (len + m) cap e
      have hrun := grow_genZ (ty := ty) (k' := k') hT hUk hi hzv (w := w) (b := A) (sLen := len) (sCap := cap) (m := m) (olds := ov) (by rw [hiz]; exact hof w.drew (cells_drew w)) (by omega) (by
        rw [hib]
        have : ((m * b8 : Nat) : Int) ≤ 281474976710656 := by omega
        push_cast at this
        exact this) (by rw [hiz]; exact Nat.mul_ne_zero (by omega) (by omega)) hlt (by omega) (by rw [hib]; exact growslice_fits hlt hby)
      generalize grownCap w (len + m) cap e = cap' at hrun hge
      have hzs : (Builtin.zeroCells zv.cells (cap' - (len + m))).size = (cap' - (olds.length + (spare z m).length)) * z := by rw [size_zeroCells, hzvs, hol, spare_length]
      have hns : (Builtin.zeroCells zv.cells m).size = (spare z m).length * z := by rw [size_zeroCells, hzvs, spare_length]
      have hcells := grown_cells (c := c) (h := h) (μ := μ) (w := w) (cap := cap') hov hns hzs (by rw [spare_length]; omega) hoc (fun i j hi hj => by
        rw [spare_length] at hi
        rw [cellAt_spare _ _ _ _ hi hj]; exact .any _)
      rw [hol, spare_length] at hcells
      have H2 := H.newRow ⟨z, olds ++ spare z m ++ spare z (cap' - (len + m)), true⟩ (ov ++ Builtin.zeroCells zv.cells m ++ Builtin.zeroCells zv.cells (cap' - (len + m))) e (0, 0) (w1 := w.drew) (Below.refl _ _).drew rfl
        (fun r hr => by
          simp only [List.mem_append] at hr
          rcases hr with (hr | hr) | hr
          · exact hor r hr
          · exact spare_rows _ _ r hr
          · exact spare_rows _ _ r hr) (fun j _ => by simp) (fun i j hi hj => hcells i j hi hj)
      refine ⟨_, _, _, _, _, _, hrun, by rw [hoe] at H2 ⊢; exact hK cap' hge, H2.1, H2.2, ?_⟩
      have := Rp.loc (fvals := c.fvals) (w := w.drew.alloc (.cells (ov ++ Builtin.zeroCells zv.cells m ++ Builtin.zeroCells zv.cells (cap' - (len + m))) e)) (ok := okB c (upd h n (some ⟨z, olds ++ spare z m ++ spare z (cap' - (len + m)), true⟩)) (upd μ n (some (.real w.heap.size 0 z))) (w.drew.alloc (.cells (ov ++ Builtin.zeroCells zv.cells m ++ Builtin.zeroCells zv.cells (cap' - (len + m))) e)))
        (μ := upd μ n (some (.real w.heap.size 0 z))) n 0 (len + m) cap' w.heap.size 0 z (upd_same _ _ _) hge
      simpa using this
    obtain ⟨_, ⟨q, base, size, hmu, rfl⟩ | ⟨h0, h00, A, t', hmu, rfl⟩⟩ := hs.loc_inv
    · have hsize : size = z := by
        rcases H.blk b B hB with ⟨g1, _⟩ | ⟨k', base', g1, _⟩
        · rw [hmu] at g1; cases g1
        · rw [hmu] at g1; cases g1; exact hBz
      subst hsize
      have hrows : ∀ r ∈ B.rows, r.length = size := by
        rcases H.blk b B hB with ⟨g1, _⟩ | ⟨k', base', g1, g2, g3, g4, g5⟩
        · rw [hmu] at g1; cases g1
        · rw [← hBz]; exact g4
      simp only [Nat.zero_mul, Nat.add_zero] at *
      have hro : rowsOf h (.loc b 0 len cap) = some (B.rows.take len) := by simp [rowsOf, hB]; omega
      have hlen : (B.rows.take len).length = len := by simp; omega
      obtain ⟨A', cp', size', heq, hc', hA'⟩ := rows_sound H hs hro
      rw [hlen] at heq
      cases heq
      obtain ⟨ov, o1, o2, o3⟩ := rows_load (P := c.P) (c := c) (h := h) (μ := μ) (w := w) (rows := B.rows.take len) (A := some ⟨q, base, none⟩) (cp := cap) (z := size) (fun _ r hr => hrows r (List.mem_of_mem_take hr)) (fun hn => by
        obtain ⟨ad, g0, g1, g2⟩ := hA' hn
        cases g0
        have hmem : (B.rows.take len).getD 0 [] ∈ B.rows.take len := by rw [List.getD_eq_getElem?_getD, List.getElem?_eq_getElem (by omega)]; exact List.getElem_mem _
        have hss : size' = size := by rw [← g1 _ hmem, hrows _ (List.mem_of_mem_take hmem)]
        subst hss
        exact ⟨_, rfl, g2⟩)
      rw [hlen] at o1
      exact fin (some ⟨q, base, none⟩) (B.rows.take len) ov rfl rfl hlen (fun r hr => hrows r (List.mem_of_mem_take hr)) o2 o1 o3
    · subst h0 h00
      refine fin A [] #[] rfl (by simp) rfl (fun r hr => by cases hr) (by simp) (fun w' _ => ?_) (fun i j hi => by simp at hi)
      cases A <;> simp [Builtin.firstCells, loadCells, loadCellsFrom, Sem.run, pure]
  · exact hk.elim
end
end Go.Proofs.Ytgohmphhgglmbaa.Am

/- An abstract machine over values: operations that turn memory. -/
set_option linter.unusedVariables false
set_option linter.unusedSimpArgs false
namespace Go.Proofs.Ytgohmphhgglmbaa.Am
open Go Go.RowKit

def chunks (z len : Nat) (cs : List V) : List (List V) := (List.range len).map fun i => (cs.drop (i * z)).take z
def repCells (zs : List V) (m : Nat) : List V := (List.replicate m zs).flatten

def astore (P : Program) (T : TypeId) (p x : V) (σ : St) (K : V → St → Prop) : Prop :=
  match p, cellsV x, szo P T with
  | .ptr b r k, some cs, some z => ∃ B, σ.h b = some B ∧ B.wr = true ∧ cs.length = z ∧ (∀ q ∈ cs, cellish q = true) ∧ r < B.rows.length ∧ k + z ≤ B.size ∧
      K .undef (σ.set b { B with rows := B.rows.set r (setAt (B.rows.getD r []) k cs) })
  | _, _, _ => False
def aalloc (P : Program) (T : TypeId) (σ : St) (K : V → St → Prop) : Prop :=
  match zro P T with
  | some z => K (.ptr σ.n 0 0) (σ.new ⟨(cellsZ z).length, [cellsZ z], true⟩)
  | none => False
def abox (x : V) (σ : St) (K : V → St → Prop) : Prop :=
  match cellsV x with
  | some cs => K (.ptr σ.n 0 0) (σ.new ⟨cs.length, [cs], true⟩)
  | none => False
def abuildSlice (P : Program) (e : Operand → V) (T : TypeId) (len : Nat) (parts : List (Nat × Operand)) (σ : St) (K : V → St → Prop) : Prop :=
  match seqo P T with
  | .slice el z _ => match zro P el with
    | some zv => match afill (fun i => some (i * z, z)) (repCells (cellsZ zv) len) (parts.map fun q => (q.1, e q.2)) with
      | some cs => len * z ≤ 16777216 ∧ 0 < z ∧ (cellsZ zv).length = z ∧ K (.loc σ.n 0 len len) (σ.new ⟨z, chunks z len cs, true⟩)
      | none => False
    | none => False
  | _ => False
def amakeSlice (P : Program) (T : TypeId) (l k : V) (σ : St) (K : V → St → Prop) : Prop :=
  match seqo P T with
  | .slice el z b8 => match zro P el, asN l, asN k with
    | some zv, some m, some m' => m ≤ m' ∧ m' * b8 ≤ 281474976710656 ∧ m' ≤ 281474976710656 ∧ (cellsZ zv).length = z ∧ K (.loc σ.n 0 m m') (σ.new ⟨z, List.replicate m' (cellsZ zv), true⟩)
    | _, _, _ => False
  | _ => False
def atoBytes (P : Program) (src dst : TypeId) (x : V) (σ : St) (K : V → St → Prop) : Prop :=
  match P.underlying src, P.underlying dst, x with
  | some .string, some (.slice e), .s (.string s) => P.underlying e = some (.int .u8) ∧ ∀ cap, s.size ≤ cap → K (.loc σ.n 0 s.size cap) (σ.new ⟨1, brows s ++ spare 1 (cap - s.size), true⟩)
  | _, _, _ => False

section
variable {c : Cx} {h : Hp} {n : Nat} {μ : Mu} {w : World}
theorem getD_map_range (f : Nat → List V) (m i : Nat) (hi : i < m) : ((List.range m).map f).getD i [] = f i := by simp [List.getD_eq_getElem?_getD, hi]
theorem cellAt_one (cs : List V) (i j : Nat) (hi : i < 1) : cellAt [cs] i j = cs.getD j .undef := by
  obtain rfl : i = 0 := by omega
  simp [cellAt]

theorem store_sound (H : HS c h n μ w) {T : TypeId} {p x : V} {pv xv : Value} {t : Nat → V} {K : V → St → Prop} (hp : R c h μ w p pv) (hx : R c h μ w x xv) (hk : astore c.P T p x ⟨t, h, n⟩ K) :
    ∃ h' w', (Instr.storeAt T pv xv).run c.P w = .ok () w' ∧ K .undef ⟨t, h', n⟩ ∧ HS c h' n μ w' ∧ Ext c h μ w h' μ w' := by
  unfold astore at hk
  split at hk
  · rename_i b r k cs z hcs hz
    obtain ⟨B, hB, hwr, hl, hce, hr, hkz, hK⟩ := hk
    obtain ⟨q, base, size, hmu, rfl⟩ := hp.ptr_inv
    obtain ⟨s1, s2, s3⟩ := cellsV_sound hx hcs
    have s4 := s3 hce
    by_cases hz0 : z = 0
    · subst hz0
      have hcs0 : cs = [] := List.eq_nil_of_length_eq_zero hl
      subst hcs0
      have hx0 : xv.cells = #[] := Array.eq_empty_of_size_eq_zero (by simpa using s1)
      have hset : setAt (B.rows.getD r []) k [] = B.rows.getD r [] := by simp [setAt]
      have hB' : { B with rows := B.rows.set r (setAt (B.rows.getD r []) k []) } = B := by
        rw [hset]
        have : B.rows.set r (B.rows.getD r []) = B.rows := by
          apply List.ext_getElem?
          intro i
          rw [List.getElem?_set]
          split
          · rename_i e; subst e; simp [List.getD_eq_getElem?_getD, hr]
          · rfl
        rw [this]
      refine ⟨upd h b (some B), w, ?_, by have := hK; simp only [St.set] at this; rw [hB'] at this; exact this, ?_, ?_⟩
      · simp [Instr.storeAt, Instr.sureAddr, storeVar, run_size hz, hx0, storeCells, Sem.run, pure]
      · have : upd h b (some B) = h := by funext j; unfold upd; split <;> simp_all
        rw [this]; exact H
      · have : upd h b (some B) = h := by funext j; unfold upd; split <;> simp_all
        rw [this]; exact Ext.refl _ _ _ _
    · obtain ⟨hs, _⟩ := H.at hB hmu hr (show 0 < B.size by omega)
      subst hs
      have hst : ∀ j, j < xv.cells.toList.length → ∃ y, w.cell? ⟨q, base + (r * B.size + k) + 0 + j, none⟩ = some y ∧ w.frozen? ⟨q, base + (r * B.size + k) + 0 + j, none⟩ = false := by
        intro j hj
        have hj' : j < z := by simp [s1, hl] at hj; omega
        obtain ⟨_, y, g1, g2, _⟩ := H.at (j := k + j) hB hmu hr (by omega)
        rw [show base + (r * B.size + k) + 0 + j = base + (r * B.size + (k + j)) by omega]
        exact ⟨y, g1, g2 _ (.inr rfl)⟩
      have hrun := run_storeCells_cells (P := c.P) q (base + (r * B.size + k)) xv.cells.toList 0 w (fun j hj => by obtain ⟨y, g1, _⟩ := hst j hj; rw [g1]; rfl) (fun j hj => by obtain ⟨y, _, g2⟩ := hst j hj; exact g2) s4
      generalize hw' : w.setCells q (base + (r * B.size + k) + 0) xv.cells.toList = w' at hrun
      obtain ⟨f1, f2⟩ := setCells_fr q xv.cells.toList (base + (r * B.size + k) + 0) w
      rw [hw'] at f1 f2
      have hrows : ∀ r ∈ B.rows, r.length = B.size := by
        rcases H.blk b B hB with ⟨g1, _⟩ | ⟨k', base', g1, g2, g3, g4, g5⟩
        · rw [hmu] at g1; cases g1
        · exact g4
      have hrow : (B.rows.getD r []).length = B.size := hrows _ (by rw [List.getD_eq_getElem?_getD, List.getElem?_eq_getElem hr]; exact List.getElem_mem _)
      have H2 := H.write (B' := { B with rows := B.rows.set r (setAt (B.rows.getD r []) k cs) }) hB hwr hmu f1 f2.symm rfl
        (fun r' hr' => by
          rcases List.mem_or_eq_of_mem_set hr' with h1 | h1
          · exact hrows _ h1
          · rw [h1, setAt_length _ _ _ (by omega)]; exact hrow)
        (fun i j hi hj => by
          simp only [List.length_set] at hi
          obtain ⟨_, y, g1, g2, g3⟩ := H.at (r := i) (j := j) hB hmu hi hj
          have hfz : ∀ o, (B.size ≠ 1 ∨ o = base + (i * B.size + j)) → w'.frozen? ⟨q, o, none⟩ = false := fun o ho => by rw [← hw', World.frozen?_setCells]; exact g2 o (by first | exact ho | (rw [hBz]; exact ho))
          by_cases hir : i = r
          · subst hir
            have hc1 : cellAt (B.rows.set i (setAt (B.rows.getD i []) k cs)) i j = (setAt (B.rows.getD i []) k cs).getD j .undef := by
              unfold cellAt
              rw [List.getD_eq_getElem?_getD (l := B.rows.set _ _), List.getElem?_set_self hi]
              rfl
            rw [hc1, setAt_get _ _ _ (by omega)]
            by_cases c1 : k ≤ j ∧ j < k + cs.length
            · rw [if_pos c1]
              have hj2 : j - k < xv.cells.toList.length := by simp [s1]; omega
              have hin := World.cell?_setCells_in q xv.cells.toList (base + (i * B.size + k) + 0) w (fun j hj => by obtain ⟨y, g1, _⟩ := hst j hj; rw [g1]; rfl) _ hj2
              rw [show base + (i * B.size + k) + 0 + (j - k) = base + (i * B.size + j) by omega, hw'] at hin
              refine ⟨_, hin, hfz, fun e => e.R ?_⟩
              have := s2 (j - k) (by omega)
              have h3 : xv.cells.getD (j - k) Go.undef = xv.cells.toList[j - k] := by
                have : j - k < xv.cells.size := by omega
                simp [this]
              rw [h3] at this
              exact this
            · rw [if_neg c1]
              refine ⟨y, ?_, hfz, fun e => e.R g3⟩
              rw [← hw', World.cell?_setCells_out _ _ _ _ _ (fun _ _ => by simp [s1]; omega)]
              exact g1
          · have hc1 : cellAt (B.rows.set r (setAt (B.rows.getD r []) k cs)) i j = cellAt B.rows i j := by
              unfold cellAt
              rw [List.getD_eq_getElem?_getD (l := B.rows.set _ _), List.getElem?_set_ne (by omega)]
              rfl
            rw [hc1]
            refine ⟨y, ?_, hfz, fun e => e.R g3⟩
            rw [← hw', World.cell?_setCells_out _ _ _ _ _ (fun _ _ => by
              simp [s1]
              rcases Nat.lt_or_ge i r with h1 | h1
              · have : (i + 1) * B.size ≤ r * B.size := Nat.mul_le_mul_right _ h1
                rw [Nat.add_mul] at this
                omega
              · have : (r + 1) * B.size ≤ i * B.size := Nat.mul_le_mul_right _ (by omega)
                rw [Nat.add_mul] at this
                omega)]
            exact g1)
      refine ⟨_, w', ?_, hK, H2.1, H2.2⟩
      simp [Instr.storeAt, Instr.sureAddr, storeVar, run_size hz, s1, hl, hrun, Sem.run, pure]
  · exact hk.elim

/-- A new block, at the operation. -/
theorem fresh_row (H : HS c h n μ w) {w1 : World} (hw : Below w.heap.size w w1) (hsz : w1.heap.size = w.heap.size) (B : Blk) (cells : Array Value) (e : TypeId) (fr : Nat × Nat) (hl : ∀ r ∈ B.rows, r.length = B.size)
    (hfr : ∀ j, (B.size ≠ 1 ∨ j < B.rows.length * B.size) → ¬ (fr.1 ≤ j ∧ j < fr.2))
    (hc : ∀ i j, i < B.rows.length → j < B.size → ∃ x, cells[i * B.size + j]? = some x ∧ R c h μ w (cellAt B.rows i j) x) (m cap : Nat) (hm : m ≤ cap) :
    ∃ μ', HS c (upd h n (some B)) (n + 1) μ' (w1.alloc (.cells cells e fr)) ∧ Ext c h μ w (upd h n (some B)) μ' (w1.alloc (.cells cells e fr)) ∧
      R c (upd h n (some B)) μ' (w1.alloc (.cells cells e fr)) (.ptr n 0 0) (.pointer (some ⟨w.heap.size, 0, none⟩)) ∧
      R c (upd h n (some B)) μ' (w1.alloc (.cells cells e fr)) (.loc n 0 m cap) (.slice (some ⟨w.heap.size, 0, none⟩) m cap) := by
  have H2 := H.newRow B cells e fr hw hsz hl hfr hc
  refine ⟨_, H2.1, H2.2, ?_, ?_⟩
  · have := Rp.ptr (fvals := c.fvals) (w := w1.alloc (.cells cells e fr)) (ok := okB c (upd h n (some B)) (upd μ n (some (.real w.heap.size 0 B.size))) (w1.alloc (.cells cells e fr))) (μ := upd μ n (some (.real w.heap.size 0 B.size))) n 0 0 w.heap.size 0 B.size (upd_same _ _ _)
    simpa using this
  · have := Rp.loc (fvals := c.fvals) (w := w1.alloc (.cells cells e fr)) (ok := okB c (upd h n (some B)) (upd μ n (some (.real w.heap.size 0 B.size))) (w1.alloc (.cells cells e fr))) (μ := upd μ n (some (.real w.heap.size 0 B.size))) n 0 m cap w.heap.size 0 B.size (upd_same _ _ _) hm
    simpa using this

theorem alloc_sound (H : HS c h n μ w) {T : TypeId} {t : Nat → V} {K : V → St → Prop} (hk : aalloc c.P T ⟨t, h, n⟩ K) (old : Value) :
    ∃ v y h' n' μ' w', (Instr.alloc T true old).run c.P w = .ok y w' ∧ K v ⟨t, h', n'⟩ ∧ HS c h' n' μ' w' ∧ Ext c h μ w h' μ' w' ∧ R c h' μ' w' v y := by
  unfold aalloc at hk
  split at hk
  · rename_i z hz
    obtain ⟨z1, z2⟩ := cellsZ_sound (c := c) (h := h) (μ := μ) (w := w) z
    obtain ⟨μ', H1, H2, H3, _⟩ := fresh_row H (Below.refl _ _) rfl ⟨(cellsZ z).length, [cellsZ z], true⟩ z.cells T (0, 0) (by simp) (fun j _ => by simp) (fun i j hi hj => by
      simp at hi
      rw [cellAt_one _ _ _ (by simp [hi])]
      subst hi
      simp only [Nat.zero_mul, Nat.zero_add] at *
      have := z2 j hj
      have h1 : j < z.cells.size := by omega
      rw [show z.cells.getD j Go.undef = z.cells[j] by simp [h1]] at this
      exact ⟨_, Array.getElem?_eq_getElem h1, this⟩) 0 0 (Nat.le_refl _)
    refine ⟨_, _, _, _, _, _, ?_, hk, H1, H2, H3⟩
    simp [Instr.alloc, run_zero hz, newVar, newRow, newObj, Sem.run, pure]
  · exact hk.elim
theorem box_sound (H : HS c h n μ w) {T : TypeId} {x : V} {xv : Value} {t : Nat → V} {K : V → St → Prop} (hx : R c h μ w x xv) (hk : abox x ⟨t, h, n⟩ K) :
    ∃ v y h' n' μ' w', (Instr.box T xv).run c.P w = .ok y w' ∧ K v ⟨t, h', n'⟩ ∧ HS c h' n' μ' w' ∧ Ext c h μ w h' μ' w' ∧ R c h' μ' w' v y := by
  unfold abox at hk
  split at hk
  · rename_i cs hcs
    obtain ⟨z1, z2, _⟩ := cellsV_sound hx hcs
    obtain ⟨μ', H1, H2, H3, _⟩ := fresh_row H (Below.refl _ _) rfl ⟨cs.length, [cs], true⟩ xv.cells T (0, 0) (by simp) (fun j _ => by simp) (fun i j hi hj => by
      simp at hi
      rw [cellAt_one _ _ _ (by simp [hi])]
      subst hi
      simp only [Nat.zero_mul, Nat.zero_add] at *
      have := z2 j hj
      have h1 : j < xv.cells.size := by omega
      rw [show xv.cells.getD j Go.undef = xv.cells[j] by simp [h1]] at this
      exact ⟨_, Array.getElem?_eq_getElem h1, this⟩) 0 0 (Nat.le_refl _)
    refine ⟨_, _, _, _, _, _, ?_, hk, H1, H2, H3⟩
    simp [Instr.box, newVar, newRow, newObj, Sem.run, pure]
  · exact hk.elim

theorem getD_flatten_rep (zs : List V) : ∀ (m i j : Nat), i < m → j < zs.length → (repCells zs m).getD (i * zs.length + j) .undef = zs.getD j .undef := by
  intro m
  induction m with
  | zero => intro i j hi; omega
  | succ m ih =>
    intro i j hi hj
    unfold repCells at ih ⊢
    rw [List.replicate_succ, List.flatten_cons]
    cases i with
    | zero =>
      rw [Nat.zero_mul, Nat.zero_add]
      simp only [List.getD_eq_getElem?_getD]
      rw [List.getElem?_append_left hj]
    | succ i =>
      have h1 : (i + 1) * zs.length + j = zs.length + (i * zs.length + j) := by rw [Nat.add_mul]; omega
      simp only [List.getD_eq_getElem?_getD] at ih ⊢
      rw [h1, List.getElem?_append_right (by omega), Nat.add_sub_cancel_left]
      exact ih i j (by omega) hj
theorem repCells_length (zs : List V) (m : Nat) : (repCells zs m).length = m * zs.length := by
  unfold repCells
  simp
theorem zero_cells (zv : Value) (m : Nat) (hz : 0 < zv.cells.size) : ((Array.range (m * zv.cells.size)).map (zv.cells[· % zv.cells.size]!)).size = m * zv.cells.size ∧
    ∀ i j, i < m → j < zv.cells.size → ((Array.range (m * zv.cells.size)).map (zv.cells[· % zv.cells.size]!)).getD (i * zv.cells.size + j) Go.undef = zv.cells.getD j Go.undef := by
  refine ⟨by simp, fun i j hi hj => ?_⟩
  have h1 := idx_lt hi hj
  have h2 : ((Array.range (m * zv.cells.size)).map (zv.cells[· % zv.cells.size]!)).getD (i * zv.cells.size + j) Go.undef = zv.cells[(i * zv.cells.size + j) % zv.cells.size]! := by
    simp [h1]
  rw [h2, (idx_div hj).2]
  simp [hj]
theorem afill_length (pl : Nat → Option (Nat × Nat)) : ∀ (parts : List (Nat × V)) (cs cs' : List V), afill pl cs parts = some cs' → cs'.length = cs.length := by
  intro parts
  induction parts with
  | nil => intro cs cs' h; simp [afill] at h; rw [h]
  | cons p parts ih =>
    intro cs cs' h
    obtain ⟨i, v⟩ := p
    simp only [afill] at h
    split at h
    · split at h
      · rename_i hb
        rw [ih _ _ h, setAt_length _ _ _ (by simp; omega)]
      · cases h
    · cases h

theorem arange0 : Array.range 0 = #[] := rfl
theorem run_buildSlice {P : Program} {w : World} {T el len z b8 : Nat} {zv : Value} {ps : Array (Nat × Value)} {cells' : Array Value} (hs : seqo P T = .slice el z b8) (hzv : zro P el = some zv) (h24 : len * z ≤ 16777216)
    (hf : Instr.fill (fun i => some (i * z, z)) ((Array.range (len * z)).map (zv.cells[· % zv.cells.size]!)) ps.toList = some cells') :
    (Instr.buildSlice T len ps).run P w = .ok (.slice (some ⟨w.heap.size, 0, none⟩) len len) (w.alloc (.cells cells' el)) := by
  obtain ⟨hu, hz, hb⟩ := seqo_slice hs
  have h24' : ¬ (len * z > 2 ^ 24) := by omega
  unfold Instr.buildSlice
  simp only [Sem.run_bind, run_under hu, run_size hz, Result.andThen_ok, if_neg h24']
  by_cases h0 : len * z = 0
  · rw [if_pos h0]
    rw [h0, arange0] at hf ⊢
    simp only [Sem.run_bind, Sem.run_pure, Result.andThen_ok, Array.map_empty] at hf ⊢
    rw [hf]
    simp [newRow, newObj, Sem.run, pure]
  · rw [if_neg h0]
    simp only [Sem.run_bind, run_zero hzv, Sem.run_pure, Result.andThen_ok] at hf ⊢
    rw [hf]
    simp [newRow, newObj, Sem.run, pure]
theorem buildSlice_sound (H : HS c h n μ w) {T : TypeId} {len : Nat} {parts : Array (Nat × Operand)} {e : Operand → V} {ρ : Operand → Value} {t : Nat → V} {K : V → St → Prop} (he : ∀ x, R c h μ w (e x) (ρ x)) (hk : abuildSlice c.P e T len parts.toList ⟨t, h, n⟩ K) :
    ∃ v y h' n' μ' w', (Instr.buildSlice T len (parts.map fun q => (q.1, ρ q.2))).run c.P w = .ok y w' ∧ K v ⟨t, h', n'⟩ ∧ HS c h' n' μ' w' ∧ Ext c h μ w h' μ' w' ∧ R c h' μ' w' v y := by
  unfold abuildSlice at hk
  split at hk
  · rename_i el z b8 hs
    obtain ⟨hu, hz, hb⟩ := seqo_slice hs
    split at hk
    · rename_i zv hzv
      split at hk
      · rename_i cs hcs
        obtain ⟨h24, hz0, hzl, hK⟩ := hk
        obtain ⟨z1, z2⟩ := cellsZ_sound (c := c) (h := h) (μ := μ) (w := w) zv
        have hzs : zv.cells.size = z := by omega
        have hparts : ∀ (i : Nat) (p : Nat × V) (q : Nat × Value), (parts.toList.map fun q => (q.1, e q.2))[i]? = some p → (parts.toList.map fun q => (q.1, ρ q.2))[i]? = some q → p.1 = q.1 ∧ R c h μ w p.2 q.2 := by
          intro i p q h1 h2
          simp only [List.getElem?_map, Option.map_eq_some_iff] at h1 h2
          obtain ⟨a, ha, rfl⟩ := h1
          obtain ⟨b, hb, rfl⟩ := h2
          rw [ha] at hb
          cases hb
          exact ⟨rfl, he _⟩
        obtain ⟨i1, i2⟩ := zero_cells zv len (by omega)
        obtain ⟨cells', e1, e2, e3⟩ := fill_sound _ _ (parts.toList.map fun q => (q.1, ρ q.2)) _ cs ((Array.range (len * z)).map (zv.cells[· % zv.cells.size]!)) (by simp) hparts (by rw [repCells_length, hzl, ← hzs]; exact i1)
          (fun q hq => by
            rw [repCells_length, hzl] at hq
            have h1 : q / z < len := Nat.div_lt_of_lt_mul (by rw [Nat.mul_comm]; exact hq)
            have h2 := Nat.mod_lt q hz0
            have h3 : q / z * z + q % z = q := by rw [Nat.mul_comm]; exact Nat.div_add_mod q z
            have h4 := getD_flatten_rep (cellsZ zv) len (q / z) (q % z) h1 (by omega)
            have h5 := i2 (q / z) (q % z) h1 (by omega)
            rw [hzl, h3] at h4
            rw [hzs, h3] at h5
            rw [hzs, h4, h5]
            exact z2 _ (by omega)) hcs
        have hcl : cs.length = len * z := by rw [afill_length _ _ _ _ hcs, repCells_length, hzl]
        have hchunk : ∀ i j, i < len → j < z → cellAt (chunks z len cs) i j = cs.getD (i * z + j) .undef := by
          intro i j hi hj
          unfold cellAt chunks
          rw [getD_map_range _ _ _ hi]
          simp [List.getD_eq_getElem?_getD, List.getElem?_take, hj, List.getElem?_drop]
        have hlen : (chunks z len cs).length = len := by simp [chunks]
        obtain ⟨μ', H1, H2, _, H3⟩ := fresh_row H (Below.refl _ _) rfl ⟨z, chunks z len cs, true⟩ cells' el (0, 0) (fun r hr => by
            simp [chunks] at hr
            obtain ⟨i, hi, rfl⟩ := hr
            have := idx_lt (z := z) hi (show z - 1 < z by omega)
            simp; omega) (fun j _ => by simp) (fun i j hi hj => by
            simp only [hlen] at hi
            simp only at hj ⊢
            rw [hchunk i j hi hj]
            have h1 := idx_lt hi hj
            have := e3 (i * z + j) (by omega)
            have h2 : i * z + j < cells'.size := by omega
            rw [show cells'.getD (i * z + j) Go.undef = cells'[i * z + j] by simp [h2]] at this
            exact ⟨_, Array.getElem?_eq_getElem h2, this⟩) len len (Nat.le_refl _)
        refine ⟨_, _, _, _, _, _, ?_, hK, H1, H2, H3⟩
        exact run_buildSlice hs hzv h24 (by simpa using e1)
      · exact hk.elim
    · exact hk.elim
  · exact hk.elim

end
end Go.Proofs.Ytgohmphhgglmbaa.Am

/- An abstract machine over values: make, a string's bytes, copy. -/
set_option linter.unusedVariables false
set_option linter.unusedSimpArgs false
namespace Go.Proofs.Ytgohmphhgglmbaa.Am
open Go Go.RowKit

def acopy (P : Program) (T U : TypeId) (d x : V) (σ : St) (K : V → St → Prop) : Prop :=
  match seqo P T, d with
  | .slice _ z _, .loc b off len _ => 0 < z ∧ ∃ nr, rowsOf σ.h x = some nr ∧ okRows z (nr.take (min nr.length len)) ∧ ∃ B, σ.h b = some B ∧ B.wr = true ∧ B.size = z ∧ off + len ≤ B.rows.length ∧
      K (.s (.int .i64 ((min nr.length len : Nat) : Int))) (σ.set b { B with rows := B.rows.take off ++ nr.take (min nr.length len) ++ B.rows.drop (off + min nr.length len) })
  | _, _ => False

/-- A slice against nil: what is empty may be nil or not. -/
def slLen : V → Option Nat
  | .sl rows => some rows.length
  | .cap0 => some 0
  | .loc _ _ len _ => some len
  | _ => none
def isSliceT (P : Program) (T : TypeId) : Bool := match P.underlying T with
  | some (.slice _) => true
  | _ => false
def anil (P : Program) (op : BinOp) (T : TypeId) (v : V) (σ : St) (K : V → St → Prop) : Prop :=
  isSliceT P T = true ∧ ∃ m, slLen v = some m ∧ match op with
    | .eql => ∀ b : Bool, (0 < m → b = false) → K (.s (.bool b)) σ
    | .neq => ∀ b : Bool, (0 < m → b = true) → K (.s (.bool b)) σ
    | _ => False
def aclear (P : Program) (T : TypeId) (d : V) (σ : St) (K : V → St → Prop) : Prop :=
  match seqo P T, d with
  | .slice e z _, .loc b off len _ => 0 < z ∧ ∃ zv, zro P e = some zv ∧ zv.cells.size = z ∧ (zv.cells.toList.all fun u => u.oneCell') = true ∧ ∃ B, σ.h b = some B ∧ B.wr = true ∧ B.size = z ∧ off + len ≤ B.rows.length ∧
      K (.tup []) (σ.set b { B with rows := B.rows.take off ++ spare z len ++ B.rows.drop (off + len) })
  | _, _ => False

section
variable {c : Cx} {h : Hp} {n : Nat} {μ : Mu} {w : World}
theorem wrap_small {m : Nat} (h : m ≤ 281474976710656) : IntKind.i64.wrap (m : Int) = m := by
  have h1 : (m : Int) % 18446744073709551616 = m := by omega
  have h2 : ¬ (9223372036854775808 ≤ (m : Int)) := by omega
  simp [IntKind.wrap, IntKind.bits, IntKind.signed, h1, h2]
theorem fresh_row' (H : HS c h n μ w) {w' : World} (hw : Below w.heap.size w w') (B : Blk) (cells : Array Value) (e : TypeId) (fr : Nat × Nat) (hnew : w'.heap[w.heap.size]? = some (.cells cells e fr)) (hl : ∀ r ∈ B.rows, r.length = B.size)
    (hfr : ∀ j, (B.size ≠ 1 ∨ j < B.rows.length * B.size) → ¬ (fr.1 ≤ j ∧ j < fr.2))
    (hc : ∀ i j, i < B.rows.length → j < B.size → ∃ x, cells[i * B.size + j]? = some x ∧ R c h μ w (cellAt B.rows i j) x) (m cap : Nat) (hm : m ≤ cap) :
    ∃ μ', HS c (upd h n (some B)) (n + 1) μ' w' ∧ Ext c h μ w (upd h n (some B)) μ' w' ∧ R c (upd h n (some B)) μ' w' (.loc n 0 m cap) (.slice (some ⟨w.heap.size, 0, none⟩) m cap) := by
  have hk' : w.heap.size < w'.heap.size := (Array.getElem?_eq_some_iff.1 hnew).1
  have H2 := H.fresh hw w.heap.size 0 B (Nat.le_refl _) hk' hl fun i j hi hj => by
    obtain ⟨x, h1, h2⟩ := hc i j hi hj
    have hlt := idx_lt hi hj
    refine ⟨x, ?_, ?_, fun e => e.R h2⟩
    · simp only [World.cell?, hnew, Nat.zero_add]
      simpa using h1
    · intro o ho
      have := hfr o (ho.imp id fun e => by omega)
      simp only [World.frozen?, hnew]
      simpa using this
  refine ⟨_, H2.1, H2.2, ?_⟩
  have := Rp.loc (fvals := c.fvals) (w := w') (ok := okB c (upd h n (some B)) (upd μ n (some (.real w.heap.size 0 B.size))) w') (μ := upd μ n (some (.real w.heap.size 0 B.size))) n 0 m cap w.heap.size 0 B.size (upd_same _ _ _) hm
  simpa using this
theorem run_askRoom {P : Program} {w : World} {m : Nat} : (askRoom m).run P w = .ok () w := by
  unfold askRoom
  split
  · simp [mark, Sem.run]
  · simp [Sem.run, pure]
theorem makeSlice_sound (H : HS c h n μ w) {T : TypeId} {l k : V} {lv kv : Value} {t : Nat → V} {K : V → St → Prop} (hl : R c h μ w l lv) (hkv : R c h μ w k kv) (hk : amakeSlice c.P T l k ⟨t, h, n⟩ K) :
    ∃ v y h' n' μ' w', (Instr.makeSlice T lv kv).run c.P w = .ok y w' ∧ K v ⟨t, h', n'⟩ ∧ HS c h' n' μ' w' ∧ Ext c h μ w h' μ' w' ∧ R c h' μ' w' v y := by
  unfold amakeSlice at hk
  split at hk
  · rename_i el z b8 hs
    obtain ⟨hu, hz, hb⟩ := seqo_slice hs
    obtain ⟨inf, hinf, hib⟩ := Option.map_eq_some_iff.1 hb
    split at hk
    · rename_i zv m m' hzv hm hm'
      obtain ⟨h1, h2, h3, hzl, hK⟩ := hk
      obtain ⟨k1, rfl⟩ := hl.asN_eq hm
      obtain ⟨k2, rfl⟩ := hkv.asN_eq hm'
      obtain ⟨z1, z2⟩ := cellsZ_sound (c := c) (h := h) (μ := μ) (w := w) zv
      have hzs : zv.cells.size = z := by omega
      have hcell : ∀ i j, i < m' → j < z → cellAt (List.replicate m' (cellsZ zv)) i j = (cellsZ zv).getD j .undef := by
        intro i j hi hj
        unfold cellAt
        simp [List.getD_eq_getElem?_getD, hi]
      have hrun : ∃ cells, (Instr.makeSlice T (.int k1 m) (.int k2 m')).run c.P w = .ok (.slice (some ⟨w.heap.size, 0, none⟩) m m') (w.alloc (.cells cells el)) ∧ cells.size = m' * z ∧ ∀ i j, i < m' → j < z → cells.getD (i * z + j) Go.undef = zv.cells.getD j Go.undef := by
        have hw1 := wrap_small (show m ≤ 281474976710656 by omega)
        have hw2 := wrap_small h3
        have t1 : ¬ ((m' : Int) < 0) := by omega
        have t2 : ¬ ((inf.bytes : Int) * (m' : Int) > 2 ^ 48) := by
          have : ((m' * b8 : Nat) : Int) ≤ 281474976710656 := by omega
          rw [hib, Int.mul_comm]
          push_cast at this
          omega
        have t3 : ¬ ((m : Int) < 0) := by omega
        have t4 : ¬ ((m : Int) > (m' : Int)) := by omega
        have hti : (typeInfo el).run c.P w = .ok inf w := by simp [typeInfo, hinf, program, Sem.run, pure]
        have hi1 : (asInt (.int k1 (m : Int))).run c.P w = .ok (m : Int) w := by simp [asInt, run_getInt]
        have hi2 : (asInt (.int k2 (m' : Int))).run c.P w = .ok (m' : Int) w := by simp [asInt, run_getInt]
        have hc : ¬ (((decide ((m' : Int) < 0) || decide ((inf.bytes : Int) * (m' : Int) > 2 ^ 48)) = true ∨ (m : Int) < 0) ∨ (m : Int) > (m' : Int)) := by simp only [Bool.or_eq_true, decide_eq_true_eq]; omega
        by_cases h0 : m' * z = 0
        · refine ⟨#[], ?_, by simp [h0], fun i j hi hj => by have := idx_lt hi hj; omega⟩
          simp only [Instr.makeSlice, Sem.run_bind, run_under hu, Result.andThen_ok, hi1, hi2, hti, hw1, hw2]
          simp only [Bool.or_eq_true, decide_eq_true_eq] at hc ⊢
          rw [if_neg (by omega)]
          simp [run_askRoom, run_size hz, h0, newRow, newObj, arange0, Sem.run, pure]
        · obtain ⟨i1, i2⟩ := zero_cells zv m' (by rw [hzs]; rcases Nat.eq_zero_or_pos z with q | q; (· subst q; simp at h0); exact q)
          rw [hzs] at i1 i2
          refine ⟨_, ?_, i1, i2⟩
          simp only [Instr.makeSlice, Sem.run_bind, run_under hu, Result.andThen_ok, hi1, hi2, hti, hw1, hw2]
          simp only [Bool.or_eq_true, decide_eq_true_eq] at hc ⊢
          rw [if_neg (by omega)]
          simp [run_askRoom, run_size hz, h0, newRow, newObj, run_zero hzv, hzs, Sem.run, pure]
      obtain ⟨cells, hrun, hcs, hcg⟩ := hrun
      obtain ⟨μ', H1, H2, _, H3⟩ := fresh_row H (Below.refl _ _) rfl ⟨z, List.replicate m' (cellsZ zv), true⟩ cells el (0, 0) (fun r hr => by
          simp at hr; rw [hr.2]; exact hzl) (fun j _ => by simp) (fun i j hi hj => by
          simp only [List.length_replicate] at hi
          simp only at hj ⊢
          rw [hcell i j hi hj]
          have h1 := idx_lt hi hj
          have h2 : i * z + j < cells.size := by omega
          have h3 := hcg i j hi hj
          rw [show cells.getD (i * z + j) Go.undef = cells[i * z + j] by simp [h2]] at h3
          refine ⟨_, Array.getElem?_eq_getElem h2, ?_⟩
          rw [h3]
          exact z2 j (by omega)) m m' h1
      exact ⟨_, _, _, _, _, _, hrun, hK, H1, H2, H3⟩
    · exact hk.elim
  · exact hk.elim

theorem toBytes_sound (H : HS c h n μ w) {src dst : TypeId} {x : V} {xv : Value} {t : Nat → V} {K : V → St → Prop} (hx : R c h μ w x xv) (hk : atoBytes c.P src dst x ⟨t, h, n⟩ K) :
    ∃ v y h' n' μ' w', (convert src dst xv).run c.P w = .ok y w' ∧ K v ⟨t, h', n'⟩ ∧ HS c h' n' μ' w' ∧ Ext c h μ w h' μ' w' ∧ R c h' μ' w' v y := by
  unfold atoBytes at hk
  split at hk
  · rename_i e s h1 h2
    obtain ⟨h3, hK⟩ := hk
    obtain ⟨rfl, _⟩ := hx.s_eq
    have hrun := Lib.run_convert_string_bytes (P := c.P) w src dst e s h1 h2 h3
    have hge := grownCap_ge w s.size 0 e
    generalize hcap : grownCap w s.size 0 e = cap at hrun hge
    have hlen : (brows s).length = s.size := by simp only [brows, List.length_map, Array.length_toList]; rfl
    have hbc : (Lib.bytesCells w e s).size = cap ∧ ∀ j, j < s.size → (Lib.bytesCells w e s).getD j Go.undef = .int .u8 (byteAt s j).toNat := by
      constructor
      · simp only [Lib.bytesCells, Array.size_append, Array.size_map, Array.size_replicate, hcap]
        have : s.data.size = s.size := rfl
        omega
      · intro j hj
        have h1 : j < s.data.size := hj
        simp [Lib.bytesCells, Array.getElem?_append, h1, byteAt, List.getD_eq_getElem?_getD]
        rw [if_pos hj, Array.getElem?_eq_getElem h1]
        rfl
    have hbel : Below w.heap.size w (Lib.bytesWorld w e s) := ⟨rfl, rfl, rfl, by rw [Lib.bytesWorld_size]; omega, fun k hk => Lib.bytesWorld_at_old w e s k hk⟩
    obtain ⟨μ', H1, H2, H3⟩ := fresh_row' H hbel ⟨1, brows s ++ spare 1 (cap - s.size), true⟩ (Lib.bytesCells w e s) e _ (Lib.bytesWorld_at_new w e s) (fun r hr => by
        simp only [List.mem_append] at hr
        rcases hr with hr | hr
        · simp [brows] at hr; obtain ⟨q, _, rfl⟩ := hr; rfl
        · exact spare_rows _ _ r hr) (fun j hj => by simp [hlen, spare_length] at hj; rw [hbc.1]; simp; omega) (fun i j hi hj => by
        simp only [List.length_append, hlen, spare_length] at hi
        simp only at hj ⊢
        obtain rfl : j = 0 := by omega
        have h5 : i * 1 + 0 < (Lib.bytesCells w e s).size := by rw [hbc.1]; omega
        refine ⟨_, Array.getElem?_eq_getElem h5, ?_⟩
        rw [cellAt_append]
        split
        · rename_i h6
          have h7 := hbc.2 i (by omega)
          have h8 : (Lib.bytesCells w e s)[i * 1 + 0] = (Lib.bytesCells w e s).getD i Go.undef := by simp at h5; simp [h5]
          rw [h8, h7]
          have h9 : cellAt (brows s) i 0 = .s (.int .u8 (byteAt s i).toNat) := by
            have h10 : i < s.data.toList.length := by rw [hlen] at h6; simpa using h6
            simp [cellAt, brows, byteAt, List.getD_eq_getElem?_getD, List.getElem?_eq_getElem h10]
          rw [h9]
          exact .s _ rfl
        · rename_i h6
          rw [cellAt_spare _ _ _ _ (by omega) (by omega)]
          exact .any _) s.size cap hge
    exact ⟨_, _, _, _, _, _, hrun, hK cap hge, H1, H2, H3⟩
  · exact hk.elim

theorem cellAt_drop (a : List (List V)) (m i j : Nat) : cellAt (a.drop m) i j = cellAt a (m + i) j := by
  unfold cellAt
  simp [List.getD_eq_getElem?_getD, List.getElem?_drop]
theorem copy_sound (H : HS c h n μ w) {T U ty : TypeId} {d x : V} {dv xv : Value} {t : Nat → V} {K : V → St → Prop} (hd : R c h μ w d dv) (hx : R c h μ w x xv) (hk : acopy c.P T U d x ⟨t, h, n⟩ K) :
    ∃ v y h' n' μ' w', (Builtin.copy_ #[T, U] ty #[dv, xv]).run c.P w = .ok y w' ∧ K v ⟨t, h', n'⟩ ∧ HS c h' n' μ' w' ∧ Ext c h μ w h' μ' w' ∧ R c h' μ' w' v y := by
  unfold acopy at hk
  split at hk
  · rename_i e z b8 b off len cap hseq
    obtain ⟨hT, hze, hbe⟩ := seqo_slice hseq
    obtain ⟨hz0, nr, hsrc, hok, B, hB, hwr, hBz, hfit, hK⟩ := hk
    obtain ⟨i, hi, hiz⟩ := Option.map_eq_some_iff.1 hze
    obtain ⟨A, cp, size, rfl, hc, hA⟩ := rows_sound H hx hsrc
    generalize hm : min nr.length len = m at hK hok
    have hml : (nr.take m).length = m := by simp; omega
    have hok' : okRows z (nr.take m) := hok
    have hrows := okRows_len hok'
    obtain ⟨news, o1, n3, n4⟩ := rows_load (P := c.P) (c := c) (h := h) (μ := μ) (w := w) (rows := nr.take m) (A := A) (cp := cp) (z := z) (fun _ => hrows) (fun hn => by
      rw [hml] at hn
      obtain ⟨ad, g0, g1, g2⟩ := hA (by omega)
      have hmem : nr.getD 0 [] ∈ nr := by rw [List.getD_eq_getElem?_getD, List.getElem?_eq_getElem (by omega)]; exact List.getElem_mem _
      have hmem2 : nr.getD 0 [] ∈ nr.take m := by
        have h0 : (nr.take m)[0]? = nr[0]? := by rw [List.getElem?_take]; simp; omega
        rw [List.getD_eq_getElem?_getD, ← h0, List.getElem?_eq_getElem (by omega)]; exact List.getElem_mem _
      have hss : size = z := by rw [← g1 _ hmem, (hok _ hmem2).1]
      subst hss
      exact ⟨ad, g0, fun i j hi hj => by
        rw [hml] at hi
        obtain ⟨y, y1, y2⟩ := g2 i j (by omega) hj
        exact ⟨y, y1, by rw [cellAt_take _ _ _ _ hi]; exact y2⟩⟩)
    rw [hml] at n3
    have hone : ∀ u ∈ news.toList, u.oneCell' = true := by
      intro u hu
      obtain ⟨q, hq, rfl⟩ := List.getElem_of_mem hu
      have hq' : q < m * z := by simpa [n3] using hq
      have hi : q / z < m := Nat.div_lt_of_lt_mul (by rw [Nat.mul_comm]; exact hq')
      have hj := Nat.mod_lt q hz0
      have h1 := n4 (q / z) (q % z) (by omega) hj
      rw [show q / z * z + q % z = q by rw [Nat.mul_comm]; exact Nat.div_add_mod q z] at h1
      have hmem : (nr.take m).getD (q / z) [] ∈ nr.take m := by rw [List.getD_eq_getElem?_getD, List.getElem?_eq_getElem (by omega)]; exact List.getElem_mem _
      have h2 : cellish (cellAt (nr.take m) (q / z) (q % z)) = true := by
        refine (hok' _ hmem).2 _ ?_
        unfold cellAt
        rw [List.getD_eq_getElem?_getD (l := (nr.take m).getD (q / z) []), List.getElem?_eq_getElem (by rw [(hok' _ hmem).1]; exact hj)]
        exact List.getElem_mem _
      have h3 : news.getD q Go.undef = news[q]'(by omega) := by have : q < news.size := by omega
                                                                simp [this]
      rw [h3] at h1
      simpa using (cellish_sound h1 h2).2
    have hload : (Builtin.firstCells z m (.slice A nr.length cp)).run c.P w = .ok news w := by
      have := o1 w (fun _ => rfl)
      rw [hml] at this
      rw [← this]
      cases A <;> rfl
    have hrun0 : ∀ (A' : Option Addr) (cap' : Nat) (w' : World), (match A' with | some a => storeCells a news.toList | none => pure () : Sem Unit).run c.P w = .ok () w' →
        (Builtin.copy_ #[T, U] ty #[.slice A' len cap', .slice A nr.length cp]).run c.P w = .ok (goInt m) w' := by
      intro A' cap' w' hst
      have hlen : (Builtin.lenOf (.slice A nr.length cp)).run c.P w = .ok nr.length w := lenOf_slice w
      have hmm : Nat.min nr.length len = m := hm
      cases A' with
      | none =>
        have hw : w' = w := by simpa [Sem.run, pure] using hst.symm
        subst hw
        simp [Builtin.copy_, run_underlying hT, hlen, hmm, sizeOf, typeInfo, hi, hiz, hload]
      | some a =>
        simp only at hst
        simp [Builtin.copy_, run_underlying hT, hlen, hmm, sizeOf, typeInfo, hi, hiz, hload, hst]
    have hret : ∀ {h' : Hp} {μ' : Mu} {w' : World}, R c h' μ' w' (.s (.int .i64 m)) (goInt m) := .s _ rfl
    obtain ⟨_, ⟨q, base, size', hmu, rfl⟩ | ⟨h0, h00, A', t', hmu, rfl⟩⟩ := hd.loc_inv
    · have hsize : size' = z := by
        rcases H.blk b B hB with ⟨g1, _⟩ | ⟨k', base', g1, _⟩
        · rw [hmu] at g1; cases g1
        · rw [hmu] at g1; cases g1; exact hBz
      subst hsize
      have hBr : ∀ r ∈ B.rows, r.length = size' := by
        rcases H.blk b B hB with ⟨g1, _⟩ | ⟨k', base', g1, g2, g3, g4, g5⟩
        · rw [hmu] at g1; cases g1
        · rw [← hBz]; exact g4
      have hst : ∀ j, j < news.toList.length → ∃ y, w.cell? ⟨q, base + off * size' + 0 + j, none⟩ = some y ∧ w.frozen? ⟨q, base + off * size' + 0 + j, none⟩ = false := by
        intro j hj
        have hj' : j < m * size' := by simpa [n3] using hj
        have hi' : j / size' < m := Nat.div_lt_of_lt_mul (by rw [Nat.mul_comm]; exact hj')
        obtain ⟨_, y, g1, g2, _⟩ := H.at (r := off + j / size') (j := j % size') hB hmu (by omega) (by rw [hBz]; exact Nat.mod_lt _ hz0)
        rw [hBz] at g1 g2
        have e1 : base + off * size' + 0 + j = base + ((off + j / size') * size' + j % size') := by
          rw [Nat.add_mul]
          have := Nat.div_add_mod j size'
          rw [Nat.mul_comm] at this
          omega
        rw [e1]
        exact ⟨y, g1, g2 _ (.inr rfl)⟩
      have hrunst := run_storeCells_cells (P := c.P) q (base + off * size') news.toList 0 w (fun j hj => by obtain ⟨y, g1, _⟩ := hst j hj; rw [g1]; rfl) (fun j hj => by obtain ⟨y, _, g2⟩ := hst j hj; exact g2) hone
      have hrun := hrun0 (some ⟨q, base + off * size', none⟩) cap _ hrunst
      generalize hw' : w.setCells q (base + off * size' + 0) news.toList = w' at hrun
      obtain ⟨f1, f2⟩ := setCells_fr q news.toList (base + off * size' + 0) w
      rw [hw'] at f1 f2
      have hlt : (B.rows.take off).length = off := by simp; omega
      have hrl : (B.rows.take off ++ nr.take m ++ B.rows.drop (off + m)).length = B.rows.length := by simp; omega
      have H2 := H.write (B' := { B with rows := B.rows.take off ++ nr.take m ++ B.rows.drop (off + m) }) hB hwr (by rw [hBz]; exact hmu) f1 f2.symm rfl
        (fun r hr => by
          simp only [List.mem_append] at hr
          simp only [hBz]
          rcases hr with (hr | hr) | hr
          · exact hBr r (List.mem_of_mem_take hr)
          · exact hrows r hr
          · exact hBr r (List.mem_of_mem_drop hr))
        (fun i j hi hj => by
          simp only at hi ⊢
          rw [hrl] at hi
          rw [hBz] at hj ⊢
          obtain ⟨_, y, g1, g2, g3⟩ := H.at (r := i) (j := j) hB hmu hi (by rw [hBz]; exact hj)
          rw [hBz] at g1 g2
          have hfz : ∀ o, (size' ≠ 1 ∨ o = base + (i * size' + j)) → w'.frozen? ⟨q, o, none⟩ = false := fun o ho => by rw [← hw', World.frozen?_setCells]; exact g2 o (by first | exact ho | (rw [hBz]; exact ho))
          by_cases c1 : i < off
          · refine ⟨y, ?_, hfz, fun e => e.R ?_⟩
            · rw [← hw', World.cell?_setCells_out _ _ _ _ _ (fun _ _ => .inl (by have := idx_lt c1 hj; simp; omega))]
              exact g1
            · rw [List.append_assoc, cellAt_append, if_pos (by omega), cellAt_take _ _ _ _ c1]
              exact g3
          · by_cases c2 : i < off + m
            · have hidx := idx_lt (show i - off < m by omega) hj
              have hj2 : (i - off) * size' + j < news.toList.length := by simpa [n3] using hidx
              have hin := World.cell?_setCells_in q news.toList (base + off * size' + 0) w (fun j hj => by obtain ⟨y, g1, _⟩ := hst j hj; rw [g1]; rfl) _ hj2
              have e1 : base + off * size' + 0 + ((i - off) * size' + j) = base + (i * size' + j) := by
                have : off * size' ≤ i * size' := Nat.mul_le_mul_right _ (by omega)
                rw [Nat.sub_mul]; omega
              rw [e1, hw'] at hin
              refine ⟨_, hin, hfz, fun e => e.R ?_⟩
              rw [List.append_assoc, cellAt_append, if_neg (by omega), hlt, cellAt_append, if_pos (by omega)]
              have := n4 (i - off) j (by omega) hj
              have h3 : news.getD ((i - off) * size' + j) Go.undef = news.toList[(i - off) * size' + j] := by
                have : (i - off) * size' + j < news.size := by omega
                simp [this]
              rw [h3] at this
              exact this
            · refine ⟨y, ?_, hfz, fun e => e.R ?_⟩
              · rw [← hw', World.cell?_setCells_out _ _ _ _ _ (fun _ _ => .inr (by
                  have : (off + m) * size' ≤ i * size' := Nat.mul_le_mul_right _ (by omega)
                  rw [Nat.add_mul] at this
                  simp [n3]; omega))]
                exact g1
              · rw [List.append_assoc, cellAt_append, if_neg (by omega), hlt, cellAt_append, if_neg (by omega), hml, cellAt_drop]
                rw [show off + m + (i - off - m) = i by omega]
                exact g3)
      exact ⟨_, _, _, _, _, _, hrun, hK, H2.1, H2.2, hret⟩
    · subst h0 h00
      have hm0 : m = 0 := by omega
      subst hm0
      have hnews : news = #[] := by apply Array.eq_empty_of_size_eq_zero; simpa using n3
      subst hnews
      have hrun := hrun0 A' 0 w (by cases A' <;> simp [storeCells, Sem.run, pure])
      have hBe : ({ B with rows := B.rows.take off ++ nr.take 0 ++ B.rows.drop (off + 0) } : Blk) = B := by simp
      have hu : upd h b (some B) = h := by
        funext k
        unfold upd
        split
        · rename_i e; subst e; exact hB.symm
        · rfl
      simp only [St.set, hBe, hu] at hK
      exact ⟨_, _, h, n, μ, _, hrun, hK, H, Ext.refl _ _ _ _, hret⟩
  · exact hk.elim
theorem nil_sound {op : BinOp} {T : TypeId} {v : V} {xv : Value} {t : Nat → V} {K : V → St → Prop} (hx : R c h μ w v xv) (hk : anil c.P op T v ⟨t, h, n⟩ K) (xo yo : Operand) (q r : Nat) :
    ∃ b, K (.s (.bool b)) ⟨t, h, n⟩ ∧ (do eqGuard op T xo yo xv (.slice none q r); binOp op T xv (.slice none q r) : Sem Value).run c.P w = .ok (.bool b) w := by
  obtain ⟨hT, m, hm, hk⟩ := hk
  obtain ⟨A, cp, rfl, hA⟩ : ∃ A cp, xv = .slice A m cp ∧ (0 < m → A.isNone = false) := by
    unfold slLen at hm
    split at hm
    · cases hm
      obtain ⟨c', size, A, g, h1, h2, h3, h4, h5⟩ := hx.sl_inv
      exact ⟨A, c', h1, fun hp => by obtain ⟨ad, h6, _⟩ := h4 (by omega); rw [h6]; rfl⟩
    · cases hm
      obtain ⟨A, rfl⟩ := hx.cap0_inv
      exact ⟨A, 0, rfl, fun hp => by omega⟩
    · cases hm
      obtain ⟨_, ⟨k, base, size, _, rfl⟩ | ⟨rfl, rfl, A, t', _, rfl⟩⟩ := hx.loc_inv
      · exact ⟨_, _, rfl, fun _ => rfl⟩
      · exact ⟨_, _, rfl, fun hp => by omega⟩
    · cases hm
  obtain ⟨e, hu⟩ : ∃ e, c.P.underlying T = some (.slice e) := by
    unfold isSliceT at hT
    split at hT
    · rename_i e he; exact ⟨e, he⟩
    · cases hT
  have hg : (eqGuard op T xo yo (.slice A m cp) (.slice none q r)).run c.P w = .ok () w := by
    unfold eqGuard
    cases op <;> simp [Sem.run, pure]
  have he : (Op.equal T (.slice A m cp) (.slice none q r)).run c.P w = .ok A.isNone w := by
    show (Op.equalIn (9999 + 1) T _ _).run c.P w = _
    generalize 9999 = dd
    cases A <;> simp [Op.equalIn, run_under hu, Sem.run, pure]
  cases op <;> simp only at hk
  case eql =>
    refine ⟨A.isNone, hk _ hA, ?_⟩
    simp only [Sem.run_bind, hg, Result.andThen_ok]
    unfold binOp
    simp only [Sem.run_bind, he, Result.andThen_ok, Sem.run_pure]
  case neq =>
    refine ⟨!A.isNone, hk _ (fun hp => by rw [hA hp]; rfl), ?_⟩
    simp only [Sem.run_bind, hg, Result.andThen_ok]
    unfold binOp
    simp only [Sem.run_bind, he, Result.andThen_ok, Sem.run_pure]
theorem zeroCells_mem (z : Array Value) (m : Nat) : ∀ u ∈ (Builtin.zeroCells z m).toList, u ∈ z.toList := by
  intro u hu
  simp only [Builtin.zeroCells] at hu
  simp only [Array.toList_map, List.mem_map] at hu
  obtain ⟨a, ha, rfl⟩ := hu
  simp at ha
  have hz : 0 < z.size := by
    rcases Nat.eq_zero_or_pos z.size with h0 | h0
    · rw [h0] at ha; simp at ha
    · exact h0
  have := Nat.mod_lt a hz
  rw [getElem!_pos z (a % z.size) this]
  simp
theorem clear_sound (H : HS c h n μ w) {T ty : TypeId} {d : V} {dv : Value} {t : Nat → V} {K : V → St → Prop} (hd : R c h μ w d dv) (hk : aclear c.P T d ⟨t, h, n⟩ K) :
    ∃ v y h' n' μ' w', (Builtin.clear_ #[T] ty #[dv]).run c.P w = .ok y w' ∧ K v ⟨t, h', n'⟩ ∧ HS c h' n' μ' w' ∧ Ext c h μ w h' μ' w' ∧ R c h' μ' w' v y := by
  unfold aclear at hk
  split at hk
  · rename_i e z b8 b off len cap hseq
    obtain ⟨hT, hze, hbe⟩ := seqo_slice hseq
    obtain ⟨hz0, zv, hzv, hzs, hz1, B, hB, hwr, hBz, hfit, hK⟩ := hk
    have hret : ∀ {h' : Hp} {μ' : Mu} {w' : World}, R c h' μ' w' (.tup []) (.tuple #[]) := .tup [] #[] rfl (fun i hi => by simp at hi)
    obtain ⟨_, ⟨q, base, size', hmu, rfl⟩ | ⟨h0, h00, A', t', hmu, rfl⟩⟩ := hd.loc_inv
    · have hsize : size' = z := by
        rcases H.blk b B hB with ⟨g1, _⟩ | ⟨k', base', g1, _⟩
        · rw [hmu] at g1; cases g1
        · rw [hmu] at g1; cases g1; exact hBz
      subst hsize
      have hBr : ∀ r ∈ B.rows, r.length = size' := by
        rcases H.blk b B hB with ⟨g1, _⟩ | ⟨k', base', g1, g2, g3, g4, g5⟩
        · rw [hmu] at g1; cases g1
        · rw [← hBz]; exact g4
      have n3 : (Builtin.zeroCells zv.cells len).size = len * size' := by rw [size_zeroCells, hzs]
      generalize hnews : (Builtin.zeroCells zv.cells len).toList = news at *
      have n3' : news.length = len * size' := by rw [← hnews]; simpa using n3
      have hone : ∀ u ∈ news, u.oneCell' = true := fun u hu => by
        rw [← hnews] at hu
        rw [List.all_eq_true] at hz1
        exact hz1 u (zeroCells_mem _ _ u hu)
      have hst : ∀ j, j < news.length → ∃ y, w.cell? ⟨q, base + off * size' + 0 + j, none⟩ = some y ∧ w.frozen? ⟨q, base + off * size' + 0 + j, none⟩ = false := by
        intro j hj
        have hj' : j < len * size' := by omega
        have hi' : j / size' < len := Nat.div_lt_of_lt_mul (by rw [Nat.mul_comm]; exact hj')
        obtain ⟨_, y, g1, g2, _⟩ := H.at (r := off + j / size') (j := j % size') hB hmu (by omega) (by rw [hBz]; exact Nat.mod_lt _ hz0)
        rw [hBz] at g1 g2
        have e1 : base + off * size' + 0 + j = base + ((off + j / size') * size' + j % size') := by
          rw [Nat.add_mul]
          have := Nat.div_add_mod j size'
          rw [Nat.mul_comm] at this
          omega
        rw [e1]
        exact ⟨y, g1, g2 _ (.inr rfl)⟩
      have hrunst := run_storeCells_cells (P := c.P) q (base + off * size') news 0 w (fun j hj => by obtain ⟨y, g1, _⟩ := hst j hj; rw [g1]; rfl) (fun j hj => by obtain ⟨y, _, g2⟩ := hst j hj; exact g2) hone
      have hrun : (Builtin.clear_ #[T] ty #[.slice (some ⟨q, base + off * size', none⟩) len cap]).run c.P w = .ok (.tuple #[]) (w.setCells q (base + off * size' + 0) news) := by
        by_cases hl0 : len = 0
        · subst hl0
          have : news = [] := List.eq_nil_of_length_eq_zero (by omega)
          subst this
          simp [Builtin.clear_, run_underlying hT, Sem.run, pure, World.setCells]
        · obtain ⟨k, rfl⟩ : ∃ k, len = k + 1 := ⟨len - 1, by omega⟩
          simp [Builtin.clear_, run_underlying hT, run_zero hzv, hnews, hrunst, Sem.run_bind, Sem.run_pure]
      generalize hw' : w.setCells q (base + off * size' + 0) news = w' at hrun
      obtain ⟨f1, f2⟩ := setCells_fr q news (base + off * size' + 0) w
      rw [hw'] at f1 f2
      have hlt : (B.rows.take off).length = off := by simp; omega
      have hrl : (B.rows.take off ++ spare size' len ++ B.rows.drop (off + len)).length = B.rows.length := by simp [spare_length]; omega
      have H2 := H.write (B' := { B with rows := B.rows.take off ++ spare size' len ++ B.rows.drop (off + len) }) hB hwr (by rw [hBz]; exact hmu) f1 f2.symm rfl
        (fun r hr => by
          simp only [List.mem_append] at hr
          simp only [hBz]
          rcases hr with (hr | hr) | hr
          · exact hBr r (List.mem_of_mem_take hr)
          · exact spare_rows _ _ r hr
          · exact hBr r (List.mem_of_mem_drop hr))
        (fun i j hi hj => by
          simp only at hi ⊢
          rw [hrl] at hi
          rw [hBz] at hj ⊢
          obtain ⟨_, y, g1, g2, g3⟩ := H.at (r := i) (j := j) hB hmu hi (by rw [hBz]; exact hj)
          rw [hBz] at g1 g2
          have hfz : ∀ o, (size' ≠ 1 ∨ o = base + (i * size' + j)) → w'.frozen? ⟨q, o, none⟩ = false := fun o ho => by rw [← hw', World.frozen?_setCells]; exact g2 o (by first | exact ho | (rw [hBz]; exact ho))
          by_cases c1 : i < off
          · refine ⟨y, ?_, hfz, fun e => e.R ?_⟩
            · rw [← hw', World.cell?_setCells_out _ _ _ _ _ (fun _ _ => .inl (by have := idx_lt c1 hj; simp; omega))]
              exact g1
            · rw [List.append_assoc, cellAt_append, if_pos (by omega), cellAt_take _ _ _ _ c1]
              exact g3
          · by_cases c2 : i < off + len
            · have hidx := idx_lt (show i - off < len by omega) hj
              have hj2 : (i - off) * size' + j < news.length := by omega
              have hin := World.cell?_setCells_in q news (base + off * size' + 0) w (fun j hj => by obtain ⟨y, g1, _⟩ := hst j hj; rw [g1]; rfl) _ hj2
              have e1 : base + off * size' + 0 + ((i - off) * size' + j) = base + (i * size' + j) := by
                have : off * size' ≤ i * size' := Nat.mul_le_mul_right _ (by omega)
                rw [Nat.sub_mul]; omega
              rw [e1, hw'] at hin
              refine ⟨_, hin, hfz, fun e => ?_⟩
              rw [List.append_assoc, cellAt_append, if_neg (by omega), hlt, cellAt_append, if_pos (by simp [spare_length]; omega), cellAt_spare _ _ _ _ (by omega) hj]
              exact .any _
            · refine ⟨y, ?_, hfz, fun e => e.R ?_⟩
              · rw [← hw', World.cell?_setCells_out _ _ _ _ _ (fun _ _ => .inr (by
                  have : (off + len) * size' ≤ i * size' := Nat.mul_le_mul_right _ (by omega)
                  rw [Nat.add_mul] at this
                  simp only; omega))]
                exact g1
              · rw [List.append_assoc, cellAt_append, if_neg (by omega), hlt, cellAt_append, if_neg (by simp [spare_length]; omega), spare_length, cellAt_drop]
                rw [show off + len + (i - off - len) = i by omega]
                exact g3)
      exact ⟨_, _, _, _, _, _, hrun, hK, H2.1, H2.2, hret⟩
    · subst h0 h00
      have hrun : (Builtin.clear_ #[T] ty #[.slice A' 0 0]).run c.P w = .ok (.tuple #[]) w := by
        cases A' <;> simp [Builtin.clear_, run_underlying hT, Sem.run, pure]
      have hBe : ({ B with rows := B.rows.take off ++ spare z 0 ++ B.rows.drop (off + 0) } : Blk) = B := by simp [spare]
      have hu : upd h b (some B) = h := by
        funext k
        unfold upd
        split
        · rename_i e; subst e; exact hB.symm
        · rfl
      simp only [St.set, hBe, hu] at hK
      exact ⟨_, _, h, n, μ, _, hrun, hK, H, Ext.refl _ _ _ _, hret⟩
  · exact hk.elim
end
end Go.Proofs.Ytgohmphhgglmbaa.Am

/- An abstract machine over values: what is handed to a call, what comes back. -/
set_option linter.unusedVariables false
set_option linter.unusedSimpArgs false
namespace Go.Proofs.Ytgohmphhgglmbaa.Am
open Go Go.RowKit

def allO {α β : Type} (f : α → Option β) : List α → Option (List β)
  | [] => some []
  | a :: l => match f a, allO f l with
    | some b, some r => some (b :: r)
    | _, _ => none
theorem allO_spec {α β : Type} {f : α → Option β} : ∀ {l : List α} {r : List β}, allO f l = some r → r.length = l.length ∧ ∀ (i : Nat) (a : α) (b : β), l[i]? = some a → r[i]? = some b → f a = some b
  | [], r, h => by simp [allO] at h; subst h; simp
  | a :: l, r, h => by
    unfold allO at h
    split at h
    · rename_i b r' h1 h2
      cases h
      obtain ⟨h3, h4⟩ := allO_spec h2
      refine ⟨by simp [h3], fun i x y hx hy => ?_⟩
      cases i with
      | zero => simp at hx hy; subst hx hy; exact h1
      | succ i => exact h4 i x y (by simpa using hx) (by simpa using hy)
    · cases h

/-- What a cell is for a callee: data that is only read. -/
def expo (h : Hp) : Nat → V → Option V
  | 0, v => match v with
    | .s v => some (.s v)
    | .sl r => some (.sl r)
    | .cap0 => some (.sl [])
    | _ => none
  | d + 1, v => match v with
    | .s v => some (.s v)
    | .sl r => some (.sl r)
    | .cap0 => some (.sl [])
    | .loc b off len cap => match rowsOf h (.loc b off len cap) with
      | some rows => (allO (allO (expo h d)) rows).map .sl
      | none => none
    | _ => none
/-- The blocks that a callee sees in a value. -/
def touch (h : Hp) : Nat → V → List Nat
  | 0, _ => []
  | d + 1, v => match v with
    | .loc b off len cap => b :: (match rowsOf h (.loc b off len cap) with
      | some rows => rows.flatMap fun r => r.flatMap (touch h d)
      | none => [])
    | _ => []
def touchA (h : Hp) (v : V) : List Nat := match v with
  | .agg cs => cs.flatMap (touch h 2)
  | .ptr b r k => b :: (match h b with
    | some B => ((B.rows.getD r []).drop k).flatMap (touch h 2)
    | none => [])
  | v => touch h 2 v
def expoA (h : Hp) (v : V) : Option V := match v with
  | .agg cs => (allO (expo h 2) cs).map .agg
  | .ptr b r k => match h b with
    | some B => if r < B.rows.length ∧ k < B.size then (allO (expo h 2) ((B.rows.getD r []).drop k)).map .pc else none
    | none => none
  | .pc cs => some (.pc cs)
  | v => expo h 2 v

def deepc : V → Bool
  | .s _ | .sl _ => true
  | _ => false
theorem expo_deep (h : Hp) (d : Nat) {v : V} (hv : deepc v = true) : expo h d v = some v := by
  cases d <;> cases v <;> simp_all [deepc, expo]
theorem allO_id {α : Type} {f : α → Option α} : ∀ {l : List α}, (∀ a ∈ l, f a = some a) → allO f l = some l
  | [], _ => rfl
  | a :: l, h => by
    unfold allO
    rw [h a (by simp), allO_id (fun b hb => h b (by simp [hb]))]
theorem allO_rows (h : Hp) (d : Nat) {rows : List (List V)} (hr : ∀ r ∈ rows, ∀ v ∈ r, deepc v = true) : allO (allO (expo h d)) rows = some rows :=
  allO_id fun r hr' => allO_id fun v hv => expo_deep h d (hr r hr' v hv)

section
variable {c : Cx} {h : Hp} {n : Nat} {μ : Mu} {w : World}

theorem Dp.nil {w : World} {ok : Nat → Prop} (A : Option Addr) (cp : Nat) : Dp w ok (.sl []) (.slice A 0 cp) := .sl [] 0 cp 0 A (fun _ _ => Go.undef) rfl (Nat.zero_le _) (by simp) (fun h => absurd rfl h) (fun i j h => absurd h (Nat.not_lt_zero _))
theorem Rp.sl_dp {v : List (List V)} {x : Value} (hx : R c h μ w (.sl v) x) : Dp w (okB c h μ w) (.sl v) x := by
  cases hx with | sl _ n' cp size A g hn hc hs hA hr => exact .sl _ n' cp size A g hn hc hs hA hr
theorem expo_sound (H : HS c h n μ w) (p : Nat → Bool) : ∀ (d : Nat) {v v' : V} {x : Value}, R c h μ w v x → expo h d v = some v' → (∀ b ∈ touch h d v, p b = true) → Dp w (okB c (frz h p) μ w) v' x := by
  have allm : ∀ {v : V} {x : Value}, Dp w (okB c h μ w) v x → Dp w (okB c (frz h p) μ w) v x := fun hd => hd.mono fun k hk => ⟨((H.freezeP p).2.ok k hk).1, rfl⟩
  intro d
  induction d with
  | zero =>
    intro v v' x hx he hp
    simp only [expo] at he
    split at he
    · cases he; cases hx with | s _ hf => exact .s _ hf
    · cases he; exact allm hx.sl_dp
    · cases he; obtain ⟨A, rfl⟩ := hx.cap0_inv; exact Dp.nil A 0
    · cases he
  | succ d ih =>
    intro v v' x hx he hp
    simp only [expo] at he
    split at he
    · cases he; cases hx with | s _ hf => exact .s _ hf
    · cases he; exact allm hx.sl_dp
    · cases he; obtain ⟨A, rfl⟩ := hx.cap0_inv; exact Dp.nil A 0
    · rename_i b off len cap
      split at he
      · rename_i rows hrows
        simp only [Option.map_eq_some_iff] at he
        obtain ⟨rows', hr', rfl⟩ := he
        obtain ⟨A, cp, size, rfl, hc, hA⟩ := rows_sound H hx hrows
        obtain ⟨e1, e2⟩ := allO_spec hr'
        have hrow : ∀ i, i < rows.length → ∃ r r', rows[i]? = some r ∧ rows'[i]? = some r' ∧ allO (expo h d) r = some r' := by
          intro i hi
          have h1 : rows[i]? = some rows[i] := List.getElem?_eq_getElem hi
          have h2 : rows'[i]? = some (rows'[i]'(by omega)) := List.getElem?_eq_getElem (by omega)
          exact ⟨_, _, h1, h2, e2 i _ _ h1 h2⟩
        by_cases hn : rows.length = 0
        · have : rows' = [] := List.eq_nil_of_length_eq_zero (by omega)
          subst this
          rw [hn]
          exact Dp.nil A cp
        · obtain ⟨ad, rfl, hs, hcell⟩ := hA hn
          have hblk : okB c (frz h p) μ w ad.block := by
            obtain ⟨_, ⟨q, base, sz, hmu, heq⟩ | ⟨h0, _⟩⟩ := hx.loc_inv
            · cases heq
              unfold rowsOf at hrows
              simp only at hrows
              split at hrows
              · rename_i B hB
                exact H.frz_ok hB hmu (hp b (by simp [touch]))
              · cases hrows
            · exfalso
              unfold rowsOf at hrows
              simp only at hrows
              split at hrows
              · split at hrows
                · cases hrows; subst h0; simp at hn
                · cases hrows
              · cases hrows
          have hex : ∀ i, ∃ f : Nat → Value, ∀ j, i < rows.length → j < size → w.cell? (ad.add (i * size + j)) = some (f j) ∧ R c h μ w (cellAt rows i j) (f j) := by
            intro i
            have : ∀ j, ∃ y, i < rows.length → j < size → w.cell? (ad.add (i * size + j)) = some y ∧ R c h μ w (cellAt rows i j) y := by
              intro j
              by_cases hij : i < rows.length ∧ j < size
              · obtain ⟨y, h1, h2⟩ := hcell i j hij.1 hij.2
                exact ⟨y, fun _ _ => ⟨h1, h2⟩⟩
              · exact ⟨Go.undef, fun h1 h2 => absurd ⟨h1, h2⟩ hij⟩
            exact Classical.axiomOfChoice this
          obtain ⟨g, hg⟩ := Classical.axiomOfChoice hex
          have hlen' : ∀ r' ∈ rows', r'.length = size := by
            intro r' hr'
            obtain ⟨i, hi, rfl⟩ := List.getElem_of_mem hr'
            obtain ⟨r, r'', h1, h2, h3⟩ := hrow i (by omega)
            rw [List.getElem?_eq_getElem hi] at h2
            cases h2
            rw [(allO_spec h3).1]
            exact hs r (List.mem_of_getElem? h1)
          rw [← e1]
          refine .sl rows' _ cp size _ g rfl (by omega) hlen' (fun _ => ⟨ad, rfl, hblk, fun i j hi hj => (hg i j (by omega) hj).1⟩) fun i j hi hj => ?_
          obtain ⟨r, r', h1, h2, h3⟩ := hrow i (by omega)
          obtain ⟨e3, e4⟩ := allO_spec h3
          have hrl := hs r (List.mem_of_getElem? h1)
          have h5 : r[j]? = some (r[j]'(by omega)) := List.getElem?_eq_getElem (by omega)
          have h6 : r'[j]? = some (r'[j]'(by omega)) := List.getElem?_eq_getElem (by omega)
          have h7 := e4 j _ _ h5 h6
          have h8 := (hg i j (by omega) hj).2
          have h9 : cellAt rows i j = r[j]'(by omega) := by simp [cellAt, List.getD_eq_getElem?_getD, h1, h5]
          have h10 : (rows'.getD i []).getD j .undef = r'[j]'(by omega) := by simp [List.getD_eq_getElem?_getD, h2, h6]
          rw [h9] at h8
          rw [h10]
          refine ih h8 h7 fun b2 hb2 => hp b2 ?_
          simp only [touch, hrows, List.mem_cons, List.mem_flatMap]
          exact .inr ⟨r, List.mem_of_getElem? h1, _, List.mem_of_getElem? h5, hb2⟩
      · cases he
    · cases he
end
end Go.Proofs.Ytgohmphhgglmbaa.Am

/- An abstract machine over values: what a function's contract says, and a call by its contract. -/
set_option linter.unusedVariables false
set_option linter.unusedSimpArgs false
namespace Go.Proofs.Ytgohmphhgglmbaa.Am
open Go Go.RowKit

abbrev FvSpec := Nat → Option (List V → Value → Prop)
/-- A contract: what is handed in (function values are told by what they answer), what comes back. -/
abbrev Fspec := FvSpec → List V → V → Prop

def noMu : Mu := fun _ => none
def ArgsR (fv : Nat → Value) (w : World) (ok : Nat → Prop) (ds : List V) (vals : Array Value) : Prop :=
  vals.size = ds.length ∧ ∀ i, i < ds.length → Rp fv w ok noMu (ds.getD i .undef) (vals.getD i Go.undef)
def fnOk (P : Program) (f : FuncId) : Bool := match P.funcs[f]? with
  | some fn => !(fn.name == "runtime.NumGoroutine") && fn.body.isSome
  | none => false
def FvOk (c : Cx) (Φ : FvSpec) : Prop :=
  ∀ k S, Φ k = some S → ∃ f caps, c.fvals k = .func (.func f) #[] caps ∧ fnOk c.P f = true ∧ ∀ w1, Fr c.w0 w1 c.X → ∀ ok1 fv1 ds x vals, (∀ q, ok1 q → q < w1.heap.size) → S ds x → ArgsR fv1 w1 ok1 ds vals →
    Calls c.P f (vals ++ caps) w1 (fun e w' => e = .returned x ∧ Below w1.heap.size w1 w')
def AllB (c : Cx) (w : World) (k : Nat) : Prop := (c.ok0 k ∨ c.w0.heap.size ≤ k ∨ c.X k) ∧ k < w.heap.size
def OwnRes (c : Cx) (w' : World) (z : Nat) (rows : List (List V)) (x : Value) : Prop :=
  (rows = [] ∧ ∃ A, x = .slice A 0 0) ∨ ∃ k base cap, x = .slice (some ⟨k, base, none⟩) rows.length cap ∧ rows.length ≤ cap ∧ (c.w0.heap.size ≤ k ∨ c.X k) ∧ k < w'.heap.size ∧ (∀ r ∈ rows, r.length = z) ∧
    ∀ i j, i < cap → j < z → ∃ y, w'.cell? ⟨k, base + (i * z + j), none⟩ = some y ∧ (∀ o, (z ≠ 1 ∨ o = base + (i * z + j)) → w'.frozen? ⟨k, o, none⟩ = false) ∧ (i < rows.length → Dp w' (fun q => AllB c w' q ∧ q ≠ k) (cellAt rows i j) y)
def Res (c : Cx) (w' : World) (r : V) (x : Value) : Prop := match r with
  | .own z rows => OwnRes c w' z rows x
  | r => ∀ fv, Rp fv w' (AllB c w') noMu r x
def Sound (P : Program) (g : FuncId) (F : Fspec) : Prop :=
  ∀ (c : Cx) (Φ : FvSpec) (ds : List V) (r : V) (vals : Array Value), c.P = P → (∀ k, c.ok0 k → k < c.w0.heap.size) → (∀ k, ¬ c.X k) → FvOk c Φ → F Φ ds r → ArgsR c.fvals c.w0 c.ok0 ds vals →
    Calls P g vals c.w0 (fun e w' => ∃ x, e = .returned x ∧ Below c.w0.heap.size c.w0 w' ∧ Res c w' r x)

/-- A call that works on what it is handed: told over the caller's own values. -/
abbrev Pt := FvSpec → List V → St → (V → St → Prop) → Prop
def CallsO (P : Program) (g : FuncId) (vals : Array Value) (w : World) (post : Value → World → Prop) : Prop :=
  (fnOk P g = true ∧ Calls P g vals w (fun e w' => ∃ x, e = .returned x ∧ post x w')) ∨ (∃ x w', (callFunc g vals).run P w = .ok (.value x) w' ∧ post x w')
def SoundT (P : Program) (g : FuncId) (T : Pt) : Prop :=
  ∀ (c : Cx) (Φ : FvSpec) (h : Hp) (n : Nat) (μ : Mu) (w : World) (args : List V) (vals : Array Value) (t : Nat → V) (K : V → St → Prop), c.P = P → FvOk c Φ → HS c h n μ w → vals.size = args.length → (∀ i, i < args.length → R c h μ w (args.getD i .undef) (vals.getD i Go.undef)) → T Φ args ⟨t, h, n⟩ K →
    CallsO P g vals w (fun x w' => ∃ v h' n' μ', K v ⟨t, h', n'⟩ ∧ HS c h' n' μ' w' ∧ Ext c h μ w h' μ' w' ∧ R c h' μ' w' v x)
structure Env where
  P : Program
  plain : TypeId → Bool
  Γ : FuncId → Option Fspec
  Δ : FuncId → Option Pt
  Φ : FvSpec
  nt : Nat
structure EnvOk (E : Env) : Prop where
  plain : PlainOk E.P E.plain
  sound : ∀ g F, E.Γ g = some F → Sound E.P g F
  fn : ∀ g F, E.Γ g = some F → fnOk E.P g = true
  mixed : E.P.follows .mixedOrders = true
  soundT : ∀ g T, E.Δ g = some T → SoundT E.P g T

def isS : V → Bool
  | .s _ => true
  | _ => false
def noSl : V → Bool
  | .s _ => true
  | .tup vs => vs.all isS
  | .agg vs => vs.all isS
  | _ => false
def closS (E : Env) (h : Hp) (g : FuncId) (caps : List V) : Option (List V → Value → Prop) :=
  match allO (expoA h) caps, E.Γ g with
  | some cd, some F => some fun ds x => F (fun _ => none) (ds ++ cd) (.s x)
  | _, _ => none
def phi (E : Env) (h : Hp) (args : List V) : FvSpec := fun i => match args[i]? with
  | some (.fn g caps) => closS E h g caps
  | some (.fv k) => E.Φ k
  | _ => none
def expArg (h : Hp) (i : Nat) (v : V) : Option V := match v with
  | .fn _ _ => some (.fv i)
  | .fv _ => some (.fv i)
  | v => expoA h v
def expArgs (h : Hp) : Nat → List V → Option (List V)
  | _, [] => some []
  | i, v :: l => match expArg h i v, expArgs h (i + 1) l with
    | some d, some r => some (d :: r)
    | _, _ => none
def frzOf (h : Hp) (args : List V) : Hp := frz h fun b => (args.flatMap (touchA h)).contains b
def aret (args : List V) (r : V) (σ : St) (K : V → St → Prop) : Prop :=
  match r with
  | .own z rows => ∀ cap, rows.length ≤ cap → K (.loc σ.n 0 rows.length cap) ⟨σ.t, upd (frzOf σ.h args) σ.n (some ⟨z, rows ++ spare z (cap - rows.length), true⟩), σ.n + 1⟩
  | r => K r ⟨σ.t, if noSl r then σ.h else frzOf σ.h args, σ.n⟩
def acall (E : Env) (g : FuncId) (args : List V) (σ : St) (K : V → St → Prop) : Prop :=
  match E.Γ g, expArgs σ.h 0 args with
  | some F, some ds => ∃ r, F (phi E σ.h args) ds r ∧ aret args r σ K
  | _, _ => False

section
variable {c : Cx} {h : Hp} {n : Nat} {μ : Mu} {w : World}
theorem expArgs_spec : ∀ {l : List V} {i : Nat} {r : List V}, expArgs h i l = some r → r.length = l.length ∧ ∀ (j : Nat) (a b : V), l[j]? = some a → r[j]? = some b → expArg h (i + j) a = some b
  | [], i, r, he => by simp [expArgs] at he; subst he; simp
  | a :: l, i, r, he => by
    unfold expArgs at he
    split at he
    · rename_i d r' h1 h2
      cases he
      obtain ⟨h3, h4⟩ := expArgs_spec h2
      refine ⟨by simp [h3], fun j x y hx hy => ?_⟩
      cases j with
      | zero => simp at hx hy; subst hx hy; exact h1
      | succ j => have := h4 j x y (by simpa using hx) (by simpa using hy); rwa [show i + 1 + j = i + (j + 1) by omega] at this
    · cases he

theorem expoA_sound (H : HS c h n μ w) (p : Nat → Bool) {v v' : V} {x : Value} {fv : Nat → Value} (hx : R c h μ w v x) (he : expoA h v = some v') (hp : ∀ b ∈ touchA h v, p b = true) : Rp fv w (okB c (frz h p) μ w) noMu v' x := by
  have frm : ∀ {v : V} {x : Value}, Dp w (okB c h μ w) v x → Dp w (okB c (frz h p) μ w) v x := fun hd => hd.mono fun k hk => ⟨((H.freezeP p).2.ok k hk).1, rfl⟩
  unfold expoA at he
  split at he
  · rename_i cs
    simp only [Option.map_eq_some_iff] at he
    obtain ⟨cs', hcs, rfl⟩ := he
    obtain ⟨xs, rfl, hl, hr⟩ := hx.agg_inv
    obtain ⟨e1, e2⟩ := allO_spec hcs
    refine .agg _ _ (by omega) fun i hi => ?_
    have h1 : cs[i]? = some (cs[i]'(by omega)) := List.getElem?_eq_getElem (by omega)
    have h2 : cs'[i]? = some cs'[i] := List.getElem?_eq_getElem hi
    have h3 := hr i (by omega)
    have h4 : cs.getD i .undef = cs[i]'(by omega) := by simp [List.getD_eq_getElem?_getD, h1]
    have h5 : cs'.getD i .undef = cs'[i] := by simp [List.getD_eq_getElem?_getD, h2]
    rw [h4] at h3
    rw [h5]
    exact (expo_sound H p 2 h3 (e2 i _ _ h1 h2) fun b hb => hp b (by simp only [touchA, List.mem_flatMap]; exact ⟨_, List.mem_of_getElem? h1, hb⟩)).R
  · rename_i b r k
    split at he
    · rename_i B hB
      split at he
      · rename_i hlt
        simp only [Option.map_eq_some_iff] at he
        obtain ⟨cs', hcs, rfl⟩ := he
        obtain ⟨q, base, size, hmu, rfl⟩ := hx.ptr_inv
        obtain ⟨hs, _⟩ := H.at hB hmu hlt.1 hlt.2
        subst hs
        obtain ⟨e1, e2⟩ := allO_spec hcs
        have hlen : (B.rows.getD r []).length = B.size := by
          rcases H.blk b B hB with ⟨g1, _⟩ | ⟨k', base', g1, g2, g3, g4, g5⟩
          · rw [hmu] at g1; cases g1
          · exact g4 _ (by rw [List.getD_eq_getElem?_getD, List.getElem?_eq_getElem hlt.1]; exact List.getElem_mem _)
        have hex : ∀ j, ∃ y, j < cs'.length → w.cell? ((⟨q, base + (r * B.size + k), none⟩ : Addr).add j) = some y ∧ Dp w (okB c (frz h p) μ w) (cs'.getD j .undef) y := by
          intro j
          by_cases hj : j < cs'.length
          · have hj2 : j < ((B.rows.getD r []).drop k).length := by omega
            obtain ⟨_, y, g1, _, g3⟩ := H.at (j := k + j) hB hmu hlt.1 (by have hj3 := hj2; rw [List.length_drop, hlen] at hj3; omega)
            refine ⟨y, fun _ => ⟨by rw [add_plain, show base + (r * B.size + k) + j = base + (r * B.size + (k + j)) by omega]; exact g1, ?_⟩⟩
            have h1 : ((B.rows.getD r []).drop k)[j]? = some (((B.rows.getD r []).drop k)[j]) := List.getElem?_eq_getElem hj2
            have h2 : cs'[j]? = some cs'[j] := List.getElem?_eq_getElem hj
            have h4 : cellAt B.rows r (k + j) = ((B.rows.getD r []).drop k)[j] := by
              rw [List.getElem?_drop] at h1
              rw [cellAt, List.getD_eq_getElem?_getD (l := B.rows.getD r []), h1]
              rfl
            have h5 : cs'.getD j .undef = cs'[j] := by simp [List.getD_eq_getElem?_getD, h2]
            rw [h4] at g3
            rw [h5]
            exact expo_sound H p 2 g3 (e2 j _ _ h1 h2) fun b2 hb2 => hp b2 (by simp only [touchA, hB, List.mem_cons, List.mem_flatMap]; exact .inr ⟨_, List.mem_of_getElem? h1, hb2⟩)
          · exact ⟨Go.undef, fun h => absurd h hj⟩
        obtain ⟨g, hg⟩ := Classical.axiomOfChoice hex
        exact .pc cs' _ g (H.frz_ok hB hmu (hp b (by simp [touchA]))) (fun j hj => (hg j hj).1) (fun j hj => (hg j hj).2)
      · cases he
    · cases he
  · rename_i cs
    cases he
    obtain ⟨ad, g, rfl, hb, hc, hr⟩ := hx.pc_inv
    exact .pc _ ad g ((H.freezeP p).2.ok _ hb).1 hc (fun j hj => frm (hr j hj))
  · rename_i n1 n2 n3
    refine (expo_sound H p 2 hx he fun b hb => hp b ?_).R
    unfold touchA
    split
    · exact absurd rfl (n1 _)
    · exact absurd rfl (n2 _ _ _)
    · exact hb

/-- What a captured value is in every later world. -/
theorem caps_later {E : Env} (hE : EnvOk E) (H : HS c h n μ w) {g : FuncId} {caps : List V} {S : List V → Value → Prop} {xs : Array Value} (hc : c.P = E.P) (hx : R c h μ w (.fn g caps) (.func (.func g) #[] xs)) (hS : closS E h g caps = some S)
    {w1 : World} (hw : Below w.heap.size w w1) {ok1 : Nat → Prop} {fv1 : Nat → Value} {ds : List V} {x : Value} {vals : Array Value} (hok : ∀ q, ok1 q → q < w1.heap.size) (hSx : S ds x) (ha : ArgsR fv1 w1 ok1 ds vals) :
    Calls c.P g (vals ++ xs) w1 (fun e w' => e = .returned x ∧ Below w1.heap.size w1 w') := by
  unfold closS at hS
  split at hS
  · rename_i cd F hcd hF
    cases hS
    obtain ⟨xs', he, hl, hr⟩ := hx.fn_inv
    cases he
    obtain ⟨e1, e2⟩ := allO_spec hcd
    have hs := hE.sound g F hF
    have hres := hs ⟨E.P, w1, fun q => q < w1.heap.size, fun _ => False, fv1⟩ (fun _ => none) (ds ++ cd) (.s x) (vals ++ xs) rfl (fun _ h => h) (fun _ h => h) (fun k S h => by cases h) hSx ⟨by simp [ha.1, e1, hl], fun i hi => by
      by_cases hid : i < ds.length
      · have h1 := ha.2 i hid
        have h2 : (ds ++ cd).getD i .undef = ds.getD i .undef := by simp [List.getD_eq_getElem?_getD, List.getElem?_append_left hid]
        have h3 : (vals ++ xs).getD i Go.undef = vals.getD i Go.undef := by
          have : i < vals.size := by have := ha.1; omega
          simp [Array.getElem?_append_left this]
        rw [h2, h3]
        exact h1.mono (fun q hq => ⟨hok q hq, rfl⟩) (fun _ _ h => h)
      · have hi2 : i - ds.length < cd.length := by simp at hi; omega
        have h2 : (ds ++ cd).getD i .undef = cd.getD (i - ds.length) .undef := by simp [List.getD_eq_getElem?_getD, List.getElem?_append_right (show ds.length ≤ i by omega)]
        have h3 : (vals ++ xs).getD i Go.undef = xs.getD (i - ds.length) Go.undef := by
          have hvs := ha.1
          simp only [Array.getD_eq_getD_getElem?, Array.getElem?_append]
          rw [if_neg (by omega), hvs]
        rw [h2, h3]
        have h4 : caps[i - ds.length]? = some (caps[i - ds.length]'(by omega)) := List.getElem?_eq_getElem (by omega)
        have h5 : cd[i - ds.length]? = some (cd[i - ds.length]) := List.getElem?_eq_getElem hi2
        have h6 := hr (i - ds.length) (by omega)
        have h7 : caps.getD (i - ds.length) .undef = caps[i - ds.length]'(by omega) := by simp [List.getD_eq_getElem?_getD, h4]
        have h8 : cd.getD (i - ds.length) .undef = cd[i - ds.length] := by simp [List.getD_eq_getElem?_getD, h5]
        rw [h7] at h6
        rw [h8]
        exact (expoA_sound H (fun _ => true) (fv := fv1) h6 (e2 _ _ _ h4 h5) (fun _ _ => rfl)).mono (fun q hq => ⟨Nat.lt_of_lt_of_le hq.2.1 hw.size, hw.block q hq.2.1⟩) (fun _ _ h => h)⟩
    rw [hc]
    refine hres.mono ?_
    rintro e w' ⟨x', rfl, hb, hR⟩
    have := (hR fv1).s_eq.1
    subst this
    exact ⟨rfl, hb⟩
  · cases hS

theorem noSl_any {fv fv' : Nat → Value} {w w2 : World} {ok ok2 : Nat → Prop} {μ1 μ2 : Mu} {r : V} {x : Value} (h : Rp fv w ok μ1 r x) (hn : noSl r = true) : Rp fv' w2 ok2 μ2 r x := by
  have one : ∀ {q : V} {y : Value}, Rp fv w ok μ1 q y → isS q = true → Rp fv' w2 ok2 μ2 q y := by
    intro q y hq hs
    cases hq <;> simp [isS] at hs
    rename_i h; exact .s _ h
  cases h <;> simp [noSl] at hn
  · rename_i h; exact .s _ h
  · rename_i cs xs hl h
    exact .agg cs xs hl fun i hi => one (h i hi) (hn _ (by rw [List.getD_eq_getElem?_getD, List.getElem?_eq_getElem hi]; exact List.getElem_mem _))
  · rename_i cs xs hl h
    exact .tup cs xs hl fun i hi => one (h i hi) (hn _ (by rw [List.getD_eq_getElem?_getD, List.getElem?_eq_getElem hi]; exact List.getElem_mem _))
def cxOf (E : Env) (c : Cx) (h : Hp) (μ : Mu) (w : World) (args : List V) (vals : Array Value) : Cx := ⟨E.P, w, okB c (frzOf h args) μ w, fun _ => False, fun i => vals.getD i Go.undef⟩
/-- A call by its contract: what comes back. -/
theorem call_core {E : Env} (hE : EnvOk E) (hc : c.P = E.P) (hΦ : FvOk c E.Φ) (H : HS c h n μ w) {g : FuncId} {args : List V} {vals : Array Value} {F : Fspec} {ds : List V} {r : V}
    (hl : vals.size = args.length) (ha : ∀ i, i < args.length → R c h μ w (args.getD i .undef) (vals.getD i Go.undef)) (hF : E.Γ g = some F) (hds : expArgs h 0 args = some ds) (hS : F (phi E h args) ds r) :
    Calls c.P g vals w (fun e w' => ∃ x, e = .returned x ∧ Below w.heap.size w w' ∧ Res (cxOf E c h μ w args vals) w' r x) := by
  obtain ⟨e1, e2⟩ := expArgs_spec hds
  have hpall : ∀ (i : Nat) (a : V), args[i]? = some a → ∀ b ∈ touchA h a, (args.flatMap (touchA h)).contains b = true := by
    intro i a hia b hb
    simp only [List.contains_iff_mem, List.mem_flatMap]
    exact ⟨a, List.mem_of_getElem? hia, hb⟩
  have hfv : FvOk ⟨E.P, w, okB c (frzOf h args) μ w, fun _ => False, fun i => vals.getD i Go.undef⟩ (phi E h args) := by
    intro k S hS
    unfold phi at hS
    split at hS
    · rename_i g' caps hk
      have hki : k < args.length := (List.getElem?_eq_some_iff.1 hk).1
      have h1 := ha k hki
      have h2 : args.getD k .undef = .fn g' caps := by simp [List.getD_eq_getElem?_getD, hk]
      rw [h2] at h1
      obtain ⟨xs, h3, _⟩ := h1.fn_inv
      have hfn : fnOk E.P g' = true := by
        unfold closS at hS
        split at hS
        · rename_i cd F h8 h9; exact hE.fn g' F h9
        · cases hS
      refine ⟨g', xs, h3, hfn, fun w1 hw1 ok1 fv1 ds x vals1 hok hSx hargs => ?_⟩
      rw [h3] at h1
      have := caps_later hE H hc h1 hS hw1.below hok hSx hargs
      rw [hc] at this
      exact this
    · rename_i k' hk
      have hki : k < args.length := (List.getElem?_eq_some_iff.1 hk).1
      have h1 := ha k hki
      have h2 : args.getD k .undef = .fv k' := by simp [List.getD_eq_getElem?_getD, hk]
      rw [h2] at h1
      obtain ⟨f, caps, h3, hfn, h4⟩ := hΦ k' S hS
      have h5 : vals.getD k Go.undef = c.fvals k' := by generalize vals.getD k Go.undef = y at h1; cases h1; rfl
      refine ⟨f, caps, by simp only [h5]; exact h3, by rw [hc] at hfn; exact hfn, fun w1 hw1 ok1 fv1 ds x vals1 hok hSx hargs => ?_⟩
      have := h4 w1 ⟨hw1.os.trans H.fr.os, hw1.tape.trans H.fr.tape, hw1.output.trans H.fr.output, Nat.le_trans H.fr.size hw1.size, fun q hq hx => by
        rw [hw1.block q (Nat.lt_of_lt_of_le hq H.fr.size) (fun h => h)]; exact H.fr.block q hq hx⟩ ok1 fv1 ds x vals1 hok hSx hargs
      rw [hc] at this
      exact this
    · cases hS
  have hres := hE.sound g F hF ⟨E.P, w, okB c (frzOf h args) μ w, fun _ => False, fun i => vals.getD i Go.undef⟩ (phi E h args) ds r vals rfl (fun q hq => hq.2.1) (fun _ h => h) hfv hS ⟨by omega, fun i hi => by
    have h1 : args[i]? = some (args[i]'(by omega)) := List.getElem?_eq_getElem (by omega)
    have h2 : ds[i]? = some ds[i] := List.getElem?_eq_getElem hi
    have h3 := e2 i _ _ h1 h2
    have h4 := ha i (by omega)
    have h5 : args.getD i .undef = args[i]'(by omega) := by simp [List.getD_eq_getElem?_getD, h1]
    have h6 : ds.getD i .undef = ds[i] := by simp [List.getD_eq_getElem?_getD, h2]
    rw [h5] at h4
    rw [h6]
    simp only [Nat.zero_add] at h3
    generalize hav : args[i]'(by omega) = av at h3 h4 h1
    unfold expArg at h3
    split at h3
    · rw [← Option.some.inj h3]; exact .fv i
    · rw [← Option.some.inj h3]; exact .fv i
    · exact expoA_sound H _ h4 h3 (hpall i av h1)⟩
  rw [hc]
  exact hres
theorem res_ok {E : Env} (H : HS c h n μ w) {w' : World} (hb : Below w.heap.size w w') (args : List V) (vals : Array Value) : ∀ q, AllB (cxOf E c h μ w args vals) w' q → (c.ok0 q ∨ c.w0.heap.size ≤ q ∨ c.X q) ∧ q < w'.heap.size ∧ ¬ live (frzOf h args) μ q := by
  have H1 := H.freezeP (fun b => (args.flatMap (touchA h)).contains b)
  rintro q ⟨hq, hq2⟩
  rcases hq with hq | hq | hq
  · exact ⟨hq.1, hq2, hq.2.2⟩
  · simp only [cxOf] at hq
    refine ⟨.inr (.inl (Nat.le_trans H.fr.size hq)), hq2, fun hl => ?_⟩
    have := (H1.1.wr_block hl).2
    omega
  · exact hq.elim
/-- A call by its contract. -/
theorem call_sound {E : Env} (hE : EnvOk E) (hc : c.P = E.P) (hΦ : FvOk c E.Φ) (H : HS c h n μ w) {g : FuncId} {args : List V} {vals : Array Value} {t : Nat → V} {K : V → St → Prop}
    (hl : vals.size = args.length) (ha : ∀ i, i < args.length → R c h μ w (args.getD i .undef) (vals.getD i Go.undef)) (hk : acall E g args ⟨t, h, n⟩ K) :
    Calls c.P g vals w (fun e w' => ∃ x v h' n' μ', e = .returned x ∧ K v ⟨t, h', n'⟩ ∧ HS c h' n' μ' w' ∧ Ext c h μ w h' μ' w' ∧ R c h' μ' w' v x) := by
  unfold acall at hk
  split at hk
  · rename_i F ds hF hds
    obtain ⟨r, hS, hK⟩ := hk
    simp only at hS hK
    refine (call_core hE hc hΦ H hl ha hF hds hS).mono ?_
    rintro e w' ⟨x, rfl, hb, hR⟩
    have H1 := H.freezeP (fun b => (args.flatMap (touchA h)).contains b)
    have hall := res_ok H hb (E := E) args vals
    unfold aret at hK
    unfold Res at hR
    split at hK
    · rename_i z rows
      rcases hR with ⟨rfl, A, rfl⟩ | ⟨k, base, cap, rfl, hcap, hk, hkl, hlen, hcell⟩
      · have H2 := H1.1.below hb
        have H3 := H2.1.virt z
        exact ⟨_, _, _, _, _, rfl, hK 0 (Nat.le_refl _), H3.1, H1.2.trans (H2.2.trans H3.2), .loc0 _ _ _ _ (upd_same _ _ _)⟩
      · have hkw : w.heap.size ≤ k := by rcases hk with hk | hk; (· exact hk); exact hk.elim
        have H3 := H1.1.fresh hb k base ⟨z, rows ++ spare z (cap - rows.length), true⟩ hkw hkl (fun r hr => by
            simp only [List.mem_append] at hr
            rcases hr with hr | hr
            · exact hlen r hr
            · exact spare_rows _ _ r hr) (fun i j hi hj => by
            simp only [List.length_append, spare_length] at hi
            simp only at hj ⊢
            obtain ⟨y, y1, y2, y3⟩ := hcell i j (by omega) hj
            refine ⟨y, y1, y2, fun e => ?_⟩
            rw [cellAt_append]
            split
            · rename_i hir
              refine ((y3 hir).mono fun q hq => ?_).R
              obtain ⟨g1, g2, g3⟩ := hall q hq.1
              refine ⟨⟨g1, g2, ?_⟩, rfl⟩
              rintro ⟨b2, B2, base2, size2, f1, f2, f3⟩
              by_cases hbn : b2 = n
              · subst hbn
                rw [upd_same] at f3
                cases f3
                exact hq.2 rfl
              · rw [upd_ne _ _ _ _ hbn] at f1 f3
                exact g3 ⟨b2, B2, base2, size2, f1, f2, f3⟩
            · rw [cellAt_spare _ _ _ _ (by omega) hj]
              exact .any _)
        refine ⟨_, _, _, _, _, rfl, hK cap hcap, H3.1, H1.2.trans H3.2, ?_⟩
        have := Rp.loc (fvals := c.fvals) (w := w') (ok := okB c (upd (frzOf h args) n (some ⟨z, rows ++ spare z (cap - rows.length), true⟩)) (upd μ n (some (.real k base z))) w') (μ := upd μ n (some (.real k base z))) n 0 rows.length cap k base z (upd_same _ _ _) hcap
        simpa using this
    · rename_i hno
      split at hR
      · rename_i z rows; exact absurd rfl (hno z rows)
      · simp only at hK
        split at hK
        · rename_i hns
          have H2 := H.below hb
          exact ⟨_, _, _, _, _, rfl, hK, H2.1, H2.2, noSl_any (hR c.fvals) hns⟩
        · have H2 := H1.1.below hb
          refine ⟨_, _, _, _, _, rfl, hK, H2.1, H1.2.trans H2.2, (hR c.fvals).mono (fun q hq => ⟨?_, rfl⟩) (fun _ _ h => by cases h)⟩
          exact hall q hq
  · exact hk.elim
end
end Go.Proofs.Ytgohmphhgglmbaa.Am

/- An abstract machine over values: operations, regions, control. -/
set_option linter.unusedVariables false
set_option linter.unusedSimpArgs false
namespace Go.Proofs.Ytgohmphhgglmbaa.Am
open Go Go.RowKit

def toB (P : Program) (src dst : TypeId) : Bool := match P.underlying src, P.underlying dst with
  | some .string, some (.slice _) => true
  | _, _ => false
def afv (E : Env) (k : Nat) (args : List V) (σ : St) (K : V → St → Prop) : Prop :=
  match E.Φ k, allO (expoA σ.h) args with
  | some S, some ds => ∃ x, flat x = true ∧ S ds x ∧ K (.s x) σ
  | _, _ => False
def acl (E : Env) (cl : Call) (e : Operand → V) (op : Op) (σ : St) (K : V → St → Prop) : Prop :=
  match cl.callee with
  | .builtin .append => match cl.args.toList, cl.argTypes.toList with
    | [s, x], [T, U] => aappend E.P T U (e s) (e x) σ K ∨ aappendZ E.P T U (e s) (e x) σ K
    | _, _ => False
  | .builtin .copy => match cl.args.toList, cl.argTypes.toList with
    | [s, x], [T, U] => acopy E.P T U (e s) (e x) σ K
    | _, _ => False
  | .builtin .clear => match cl.args.toList, cl.argTypes.toList with
    | [s], [T] => aclear E.P T (e s) σ K
    | _, _ => False
  | .builtin _ => ∃ v, pval E.P E.plain σ.h e op = some v ∧ K v σ
  | .value f => match e f with
    | .fn g caps => (∃ T, E.Δ g = some T ∧ T E.Φ (cl.args.toList.map e ++ caps) σ K) ∨ acall E g (cl.args.toList.map e ++ caps) σ K
    | .fv k => afv E k (cl.args.toList.map e) σ K
    | _ => False
  | _ => False
def aop (E : Env) (op : Op) (σ : St) (K : V → St → Prop) : Prop :=
  match op with
  | .store T a x => astore E.P T (ev σ.t a) (ev σ.t x) σ K
  | .alloc T => aalloc E.P T σ K
  | .box T x => abox (ev σ.t x) σ K
  | .buildSlice T len parts => abuildSlice E.P (ev σ.t) T len parts.toList σ K
  | .makeSlice T l k => amakeSlice E.P T (ev σ.t l) (ev σ.t k) σ K
  | .convert src dst x => if toB E.P src dst then atoBytes E.P src dst (ev σ.t x) σ K else ∃ v, pval E.P E.plain σ.h (ev σ.t) (.convert src dst x) = some v ∧ K v σ
  | .call cl => acl E cl (ev σ.t) (.call cl) σ K
  | .binOp op T x (.const (.slice none q r)) p => anil E.P op T (ev σ.t x) σ K
  | op => ∃ v, pval E.P E.plain σ.h (ev σ.t) op = some v ∧ K v σ
def putS (dst : Option Tmp) (v : V) (σ : St) : St := match dst with
  | some d => ⟨upd σ.t d v, σ.h, σ.n⟩
  | none => σ
/-- Is the operation carried out? -/
def gd (ops : Array Oper) (o : Oper) (σ : St) (run skip : Prop) : Prop :=
  match o.guard with
  | none => run
  | some (j, want) => match (ops[j]?).bind (·.dst) with
    | some d => match σ.t d with
      | .s (.bool b) => (b = want → run) ∧ (b ≠ want → skip)
      | .undef => skip
      | _ => False
    | none => False
def awpOps (E : Env) (ops : Array Oper) : List Oper → (St → Prop) → St → Prop
  | [], K, σ => K σ
  | o :: rest, K, σ => gd ops o σ (aop E o.op σ fun v σ' => awpOps E ops rest K (putS o.dst v σ')) (awpOps E ops rest K (putS o.dst .undef σ))

structure Sim (ps : Hp × Mu × World) (E : Env) (c : Cx) (σ : St) (μ : Mu) (a : Act) (w : World) : Prop where
  hs : HS c σ.h σ.n μ w
  tm : ∀ i, R c σ.h μ w (σ.t i) (a.tmps.getD i Go.undef)
  nt : a.tmps.size = E.nt
  df : a.defers = []
  ex : Ext c ps.1 ps.2.1 ps.2.2 σ.h μ w

def dstOk (nt : Nat) (o : Oper) : Bool := match o.dst with
  | some d => decide (d < nt)
  | none => true

section
variable {ps : Hp × Mu × World} {E : Env} {c : Cx} {σ : St} {μ : Mu} {a : Act} {w : World}
theorem Sim.put (S : Sim ps E c σ μ a w) {h' : Hp} {n' : Nat} {μ' : Mu} {w' : World} (H : HS c h' n' μ' w') (X : Ext c σ.h μ w h' μ' w') {v : V} {x : Value} (r : R c h' μ' w' v x) {dst : Option Tmp} (hd : ∀ d, dst = some d → d < E.nt) :
    Sim ps E c (putS dst v ⟨σ.t, h', n'⟩) μ' (a.put dst x) w' := by
  cases dst with
  | none => exact ⟨H, fun i => X.R (S.tm i), S.nt, S.df, S.ex.trans X⟩
  | some d =>
    have hdn := hd d rfl
    refine ⟨H, fun i => ?_, by simp [Act.put, S.nt], S.df, S.ex.trans X⟩
    simp only [putS, Act.put]
    by_cases hid : i = d
    · subst hid
      rw [upd_same]
      have : (a.tmps.setIfInBounds i x).getD i Go.undef = x := by
        have : i < a.tmps.size := by rw [S.nt]; exact hdn
        simp [this]
      rw [this]
      exact r
    · rw [upd_ne _ _ _ _ hid]
      have : (a.tmps.setIfInBounds d x).getD i Go.undef = a.tmps.getD i Go.undef := by
        simp only [Array.getD_eq_getD_getElem?, Array.getElem?_setIfInBounds]
        rw [if_neg (by omega)]
      rw [this]
      exact X.R (S.tm i)

theorem run_value {P : Program} {s : Sem Value} {w w' : World} {y : Value} (h : s.run P w = .ok y w') : (do pure (.value (← s)) : Sem Next).run P w = .ok (.value y) w' := by
  simp only [Sem.run_bind, h, Result.andThen_ok, Sem.run_pure]

theorem run_enter {P : Program} {f : FuncId} (h : fnOk P f = true) (args : Array Value) : (callFunc f args).run P w = .ok (.enter f args) w := by
  unfold fnOk at h
  split at h
  · rename_i fn hfn
    simp only [Bool.and_eq_true, Bool.not_eq_true'] at h
    have hb : ¬ (fn.body = none) := by intro e; rw [e] at h; simp at h
    have hn : ¬ (fn.name = "runtime.NumGoroutine") := by simpa using h.1
    simp [callFunc, program, Sem.run, pure, hfn, hn, hb]
  · cases h
theorem run_callv' {P : Program} {o : Oper} {cl : Call} {f : Operand} {g : FuncId} {xs : Array Value} (ho : o.op = .call cl) (hcal : cl.callee = .value f) (hx : a.eval f = .func (.func g) #[] xs) :
    (execOp a.eval o).run P w = (callFunc g (cl.args.map a.eval ++ xs)).run P w := by
  simp [execOp, ho, resolve, hcal, hx, Deferred.ofValue, invoke]
theorem run_callv {P : Program} {o : Oper} {cl : Call} {f : Operand} {g : FuncId} {xs : Array Value} (ho : o.op = .call cl) (hcal : cl.callee = .value f) (hx : a.eval f = .func (.func g) #[] xs) (h : fnOk P g = true) :
    (execOp a.eval o).run P w = .ok (.enter g (cl.args.map a.eval ++ xs)) w := by
  simp [execOp, ho, resolve, hcal, hx, Deferred.ofValue, invoke, run_enter h]

/-- What an operation comes to. -/
theorem op_sound (hE : EnvOk E) (hc : c.P = E.P) (hΦ : FvOk c E.Φ) (S : Sim ps E c σ μ a w) {o : Oper} {K : V → St → Prop} (hk : aop E o.op σ K) {next : Act → World → Prop} {Q : Exit → Act → World → Prop}
    (hn : ∀ v h' n' μ' x w', K v ⟨σ.t, h', n'⟩ → HS c h' n' μ' w' → Ext c σ.h μ w h' μ' w' → R c h' μ' w' v x → next (a.put o.dst x) w') : o.wp c.P a w next Q := by
  have he : ∀ x, R c σ.h μ w (ev σ.t x) (a.eval x) := fun x => Rp.ev S.tm x
  have fin : (∃ v x h' n' μ' w', (execOp a.eval o).run c.P w = .ok (.value x) w' ∧ K v ⟨σ.t, h', n'⟩ ∧ HS c h' n' μ' w' ∧ Ext c σ.h μ w h' μ' w' ∧ R c h' μ' w' v x) → o.wp c.P a w next Q := by
    rintro ⟨v, x, h', n', μ', w', h1, h2, h3, h4, h5⟩
    unfold Oper.wp
    rw [h1]
    exact hn v h' n' μ' x w' h2 h3 h4 h5
  have pure_ : (∃ v, pval E.P E.plain σ.h (ev σ.t) o.op = some v ∧ K v σ) → o.wp c.P a w next Q := by
    rintro ⟨v, h1, h2⟩
    rw [← hc] at h1
    obtain ⟨x, h3, h4⟩ := pval_sound (by rw [hc]; exact hE.plain) S.hs he h1
    exact fin ⟨v, x, σ.h, σ.n, μ, w, h3, h2, S.hs, Ext.refl _ _ _ _, h4⟩
  have call_ : ∀ {g : FuncId} {args : List V} {vals : Array Value}, (execOp a.eval o).run c.P w = .ok (.enter g vals) w → vals.size = args.length → (∀ i, i < args.length → R c σ.h μ w (args.getD i .undef) (vals.getD i Go.undef)) → acall E g args σ K → o.wp c.P a w next Q := by
    intro g args vals h1 h2 h3 h4
    unfold Oper.wp
    rw [h1]
    refine (call_sound hE hc hΦ S.hs h2 h3 (t := σ.t) h4).mono ?_
    rintro e w' ⟨x, v, h', n', μ', rfl, g1, g2, g3, g4⟩
    exact hn v h' n' μ' x w' g1 g2 g3 g4
  unfold aop at hk
  split at hk
  · rename_i T p x ho
    rw [← hc] at hk
    obtain ⟨h', w', h1, h2, h3, h4⟩ := store_sound S.hs (t := σ.t) (he p) (he x) hk
    have hr : (execOp a.eval o).run c.P w = .ok .skip w' := by simp only [execOp, ho, Sem.run_bind, h1, Result.andThen_ok, Sem.run_pure]
    unfold Oper.wp
    rw [hr]
    exact hn .undef h' σ.n μ Go.undef w' h2 h3 h4 .undef
  · rename_i T ho
    rw [← hc] at hk
    obtain ⟨v, y, h', n', μ', w', h1, h2, h3, h4, h5⟩ := alloc_sound S.hs (t := σ.t) hk (.tuple #[])
    exact fin ⟨v, y, h', n', μ', w', by simp only [execOp, ho]; exact run_value h1, h2, h3, h4, h5⟩
  · rename_i T x ho
    obtain ⟨v, y, h', n', μ', w', h1, h2, h3, h4, h5⟩ := box_sound S.hs (T := T) (t := σ.t) (he x) hk
    exact fin ⟨v, y, h', n', μ', w', by simp only [execOp, ho]; exact run_value h1, h2, h3, h4, h5⟩
  · rename_i T len parts ho
    rw [← hc] at hk
    obtain ⟨v, y, h', n', μ', w', h1, h2, h3, h4, h5⟩ := buildSlice_sound S.hs (t := σ.t) he hk
    exact fin ⟨v, y, h', n', μ', w', by simp only [execOp, ho]; exact run_value h1, h2, h3, h4, h5⟩
  · rename_i T l k ho
    rw [← hc] at hk
    obtain ⟨v, y, h', n', μ', w', h1, h2, h3, h4, h5⟩ := makeSlice_sound S.hs (t := σ.t) (he l) (he k) hk
    exact fin ⟨v, y, h', n', μ', w', by simp only [execOp, ho]; exact run_value h1, h2, h3, h4, h5⟩
  · rename_i src dst x ho
    split at hk
    · rw [← hc] at hk
      obtain ⟨v, y, h', n', μ', w', h1, h2, h3, h4, h5⟩ := toBytes_sound S.hs (t := σ.t) (he x) hk
      exact fin ⟨v, y, h', n', μ', w', by simp only [execOp, ho]; exact run_value h1, h2, h3, h4, h5⟩
    · rw [← ho] at hk; exact pure_ hk
  · rename_i cl ho
    unfold acl at hk
    split at hk
    · rename_i hcal
      split at hk
      · rename_i s x T U ha hT
        rw [← hc] at hk
        obtain ⟨v, y, h', n', μ', w', h1, h2, h3, h4, h5⟩ : ∃ v y h' n' μ' w', (Builtin.append_ #[T, U] o.type #[a.eval s, a.eval x]).run c.P w = .ok y w' ∧ K v ⟨σ.t, h', n'⟩ ∧ HS c h' n' μ' w' ∧ Ext c σ.h μ w h' μ' w' ∧ R c h' μ' w' v y := by
          rcases hk with hk | hk
          · exact append_sound S.hs (ty := o.type) (t := σ.t) (he s) (he x) hk
          · exact appendZ_sound S.hs (ty := o.type) (t := σ.t) (he s) (he x) hk
        refine fin ⟨v, y, h', n', μ', w', ?_, h2, h3, h4, h5⟩
        have ha' : cl.args = #[s, x] := by simpa using congrArg List.toArray ha
        have hT' : cl.argTypes = #[T, U] := by simpa using congrArg List.toArray hT
        simp [execOp, ho, resolve, hcal, ha', hT', invoke, builtin, h1, Sem.run, pure]
      · exact hk.elim
    · rename_i hcal
      split at hk
      · rename_i s x T U ha hT
        rw [← hc] at hk
        obtain ⟨v, y, h', n', μ', w', h1, h2, h3, h4, h5⟩ := copy_sound S.hs (ty := o.type) (t := σ.t) (he s) (he x) hk
        refine fin ⟨v, y, h', n', μ', w', ?_, h2, h3, h4, h5⟩
        have ha' : cl.args = #[s, x] := by simpa using congrArg List.toArray ha
        have hT' : cl.argTypes = #[T, U] := by simpa using congrArg List.toArray hT
        simp [execOp, ho, resolve, hcal, ha', hT', invoke, builtin, h1, Sem.run, pure]
      · exact hk.elim
    · rename_i hcal
      split at hk
      · rename_i s T ha hT
        rw [← hc] at hk
        obtain ⟨v, y, h', n', μ', w', h1, h2, h3, h4, h5⟩ := clear_sound S.hs (ty := o.type) (t := σ.t) (he s) hk
        refine fin ⟨v, y, h', n', μ', w', ?_, h2, h3, h4, h5⟩
        have ha' : cl.args = #[s] := by simpa using congrArg List.toArray ha
        have hT' : cl.argTypes = #[T] := by simpa using congrArg List.toArray hT
        simp [execOp, ho, resolve, hcal, ha', hT', invoke, builtin, h1, Sem.run, pure]
      · exact hk.elim
    · rw [← ho] at hk; exact pure_ hk
    · rename_i f hcal
      have h1 := he f
      split at hk
      · rename_i g caps hf
        rw [hf] at h1
        obtain ⟨xs, hx, hl, hr⟩ := h1.fn_inv
        have hargs : ∀ i, i < (cl.args.toList.map (ev σ.t) ++ caps).length → R c σ.h μ w ((cl.args.toList.map (ev σ.t) ++ caps).getD i .undef) ((cl.args.map a.eval ++ xs).getD i Go.undef) := fun i hi => ?_
        · rcases hk with ⟨T, hT, hk⟩ | hk
          · have hs := hE.soundT g T hT c E.Φ σ.h σ.n μ w _ _ σ.t K hc hΦ S.hs (show (cl.args.map a.eval ++ xs).size = (cl.args.toList.map (ev σ.t) ++ caps).length by simp [hl]) hargs hk
            rw [← hc] at hs
            rcases hs with ⟨h2, h3⟩ | ⟨x, w', h2, v, h', n', μ', h3⟩
            · have hrun := run_callv (w := w) ho hcal hx h2
              unfold Oper.wp
              rw [hrun]
              refine h3.mono ?_
              rintro e w' ⟨x, rfl, v, h', n', μ', g1, g2, g3, g4⟩
              exact hn v h' n' μ' x w' g1 g2 g3 g4
            · exact fin ⟨v, x, h', n', μ', w', by rw [run_callv' ho hcal hx, h2], h3⟩
          · have hΓ : fnOk c.P g = true := by
              unfold acall at hk
              split at hk
              · rename_i F ds hF _; rw [hc]; exact hE.fn g F hF
              · exact hk.elim
            have hrun := run_callv (w := w) ho hcal hx hΓ
            exact call_ hrun (by simp [hl]) hargs hk
        by_cases hia : i < cl.args.size
        · have h2 : (cl.args.toList.map (ev σ.t) ++ caps).getD i .undef = ev σ.t cl.args[i] := by simp [List.getD_eq_getElem?_getD, List.getElem?_append_left, hia]
          have h3 : (cl.args.map a.eval ++ xs).getD i Go.undef = a.eval cl.args[i] := by
            simp [Array.getElem?_append_left, hia]
          rw [h2, h3]; exact he _
        · have h2 : (cl.args.toList.map (ev σ.t) ++ caps).getD i .undef = caps.getD (i - cl.args.size) .undef := by
            simp only [List.getD_eq_getElem?_getD]
            rw [List.getElem?_append_right (by simp; omega)]
            simp
          have h3 : (cl.args.map a.eval ++ xs).getD i Go.undef = xs.getD (i - cl.args.size) Go.undef := by
            simp only [Array.getD_eq_getD_getElem?]
            rw [Array.getElem?_append_right (by simp; omega)]
            simp
          rw [h2, h3]
          exact hr _ (by simp at hi; omega)
      · rename_i k hf
        rw [hf] at h1
        unfold afv at hk
        split at hk
        · rename_i Sp ds hSp hds
          obtain ⟨x, hxf, hSx, hK⟩ := hk
          obtain ⟨f', xs, g1, g2, g3⟩ := hΦ k Sp hSp
          have hxe : a.eval f = .func (.func f') #[] xs := by rw [← g1]; generalize a.eval f = y at h1; cases h1; rfl
          have hrun := run_callv (w := w) ho hcal hxe g2
          obtain ⟨e1, e2⟩ := allO_spec hds
          have hargs : ArgsR c.fvals w (okB c (frz σ.h fun _ => true) μ w) ds (cl.args.map a.eval) := by
            refine ⟨by simp [e1], fun i hi => ?_⟩
            have hia : i < cl.args.size := by simp at e1; omega
            have h2 : (cl.args.toList.map (ev σ.t))[i]? = some (ev σ.t cl.args[i]) := by simp [hia]
            have h3 : ds[i]? = some ds[i] := List.getElem?_eq_getElem hi
            have h4 : ds.getD i .undef = ds[i] := by simp [List.getD_eq_getElem?_getD, h3]
            have h5 : (cl.args.map a.eval).getD i Go.undef = a.eval cl.args[i] := by simp [hia]
            rw [h4, h5]
            exact expoA_sound S.hs (fun _ => true) (he _) (e2 i _ _ h2 h3) (fun _ _ => rfl)
          unfold Oper.wp
          rw [hrun]
          refine (g3 w S.hs.fr _ _ ds x _ (fun q hq => hq.2.1) hSx hargs).mono ?_
          rintro e w' ⟨rfl, hb⟩
          have H2 := S.hs.below hb
          exact hn (.s x) σ.h σ.n μ x w' hK H2.1 H2.2 (.s x hxf)
        · exact hk.elim
      · exact hk.elim
    · exact hk.elim
  · rename_i op T x q r p ho
    rw [← hc] at hk
    obtain ⟨b, h1, h2⟩ := nil_sound (t := σ.t) (h := σ.h) (n := σ.n) (he x) hk x (.const (.slice none q r)) q r
    refine fin ⟨.s (.bool b), .bool b, σ.h, σ.n, μ, w, ?_, h1, S.hs, Ext.refl _ _ _ _, .s _ rfl⟩
    simp only [execOp, ho]
    exact run_value h2
  · exact pure_ hk
end
end Go.Proofs.Ytgohmphhgglmbaa.Am

/- An abstract machine over values: a region whose order is open. -/
set_option linter.unusedVariables false
set_option linter.unusedSimpArgs false
namespace Go.Proofs.Ytgohmphhgglmbaa.Am
open Go Go.RowKit

/-- What a quiet operation comes to: it turns no block of one's own. -/
def qcall (E : Env) (g : FuncId) (args : List V) (h : Hp) (v : V) : Prop :=
  match E.Γ g, expArgs h 0 args with
  | some F, some ds => ∃ r, F (phi E h args) ds r ∧ ((noSl r = true ∧ v = r) ∨ (args.flatMap (touchA h) = [] ∧ (match r with | .own _ rows => v = .sl rows | r => v = r)))
  | _, _ => False
def qfv (E : Env) (k : Nat) (args : List V) (h : Hp) (v : V) : Prop :=
  match E.Φ k, allO (expoA h) args with
  | some S, some ds => ∃ x, flat x = true ∧ S ds x ∧ v = .s x
  | _, _ => False
def qcl (E : Env) (cl : Call) (e : Operand → V) (op : Op) (h : Hp) (v : V) : Prop :=
  match cl.callee with
  | .builtin .append => False
  | .builtin _ => pval E.P E.plain h e op = some v
  | .value f => match e f with
    | .fn g caps => qcall E g (cl.args.toList.map e ++ caps) h v
    | .fv k => qfv E k (cl.args.toList.map e) h v
    | _ => False
  | _ => False
def qv (E : Env) (op : Op) (e : Operand → V) (h : Hp) (v : V) : Prop :=
  match op with
  | .call cl => qcl E cl e (.call cl) h v
  | op => pval E.P E.plain h e op = some v
def eff : Op → Bool
  | .store .. | .alloc _ | .box .. | .buildSlice .. | .makeSlice .. => true
  | .call cl => match cl.callee with
    | .builtin .append | .builtin .copy => true
    | _ => false
  | _ => false
/-- Quiet: no memory is turned, and no variable that is read in the region is set. -/
def quiet (ops : Array Oper) (o : Oper) : Bool := !eff o.op && (match o.op, o.dst with
  | .assign _, some d => ops.toList.all fun o' => !(o'.looksAt ops).contains d
  | _, _ => true)
/-- A region whose order is open: quiet operations in whatever order, then the rest in its own. -/
def awpD (E : Env) (ops : Array Oper) : List Oper → (St → Prop) → St → Prop
  | [], K, σ => K σ
  | o :: rest, K, σ => if quiet ops o then
      gd ops o σ (∃ v, qv E o.op (ev σ.t) σ.h v ∧ awpD E ops rest K (putS o.dst v σ)) (awpD E ops rest K (putS o.dst .undef σ))
    else awpOps E ops (o :: rest) K σ

section
variable {ps : Hp × Mu × World} {E : Env} {c : Cx} {σ : St} {μ : Mu} {a : Act} {w : World}
theorem q_sound (hE : EnvOk E) (hc : c.P = E.P) (hΦ : FvOk c E.Φ) {h : Hp} {n : Nat} (H : HS c h n μ w) {t : Nat → V} (ht : ∀ i, R c h μ w (t i) (a.tmps.getD i Go.undef)) {o : Oper} {v : V} (hk : qv E o.op (ev t) h v) {next : Act → World → Prop} {Q : Exit → Act → World → Prop}
    (hn : ∀ x w', HS c h n μ w' → Ext c h μ w h μ w' → R c h μ w' v x → next (a.put o.dst x) w') : o.wp c.P a w next Q := by
  have he : ∀ x, R c h μ w (ev t x) (a.eval x) := fun x => Rp.ev ht x
  have pure_ : pval E.P E.plain h (ev t) o.op = some v → o.wp c.P a w next Q := by
    intro h1
    rw [← hc] at h1
    obtain ⟨x, h3, h4⟩ := pval_sound (by rw [hc]; exact hE.plain) H he h1
    unfold Oper.wp
    rw [h3]
    exact hn x w H (Ext.refl _ _ _ _) h4
  unfold qv at hk
  split at hk
  · rename_i cl ho
    unfold qcl at hk
    split at hk
    · exact hk.elim
    · rw [← ho] at hk; exact pure_ hk
    · rename_i f hcal
      have h1 := he f
      split at hk
      · rename_i g caps hf
        rw [hf] at h1
        obtain ⟨xs, hx, hl, hr⟩ := h1.fn_inv
        unfold qcall at hk
        split at hk
        · rename_i F ds hF hds
          obtain ⟨r, hS, hv⟩ := hk
          have hΓ : fnOk c.P g = true := by rw [hc]; exact hE.fn g F hF
          have hrun := run_callv (w := w) ho hcal hx hΓ
          have hargs : ∀ i, i < (cl.args.toList.map (ev t) ++ caps).length → R c h μ w ((cl.args.toList.map (ev t) ++ caps).getD i .undef) ((cl.args.map a.eval ++ xs).getD i Go.undef) := by
            intro i hi
            by_cases hia : i < cl.args.size
            · have h2 : (cl.args.toList.map (ev t) ++ caps).getD i .undef = ev t cl.args[i] := by simp [List.getD_eq_getElem?_getD, List.getElem?_append_left, hia]
              have h3 : (cl.args.map a.eval ++ xs).getD i Go.undef = a.eval cl.args[i] := by
                simp [Array.getElem?_append_left, hia]
              rw [h2, h3]; exact he _
            · have h2 : (cl.args.toList.map (ev t) ++ caps).getD i .undef = caps.getD (i - cl.args.size) .undef := by
                simp only [List.getD_eq_getElem?_getD]
                rw [List.getElem?_append_right (by simp; omega)]
                simp
              have h3 : (cl.args.map a.eval ++ xs).getD i Go.undef = xs.getD (i - cl.args.size) Go.undef := by
                simp only [Array.getD_eq_getD_getElem?]
                rw [Array.getElem?_append_right (by simp; omega)]
                simp
              rw [h2, h3]
              exact hr _ (by simp at hi; omega)
          unfold Oper.wp
          rw [hrun]
          have hls : (cl.args.map a.eval ++ xs).size = (cl.args.toList.map (ev t) ++ caps).length := by simp [hl]
          generalize cl.args.toList.map (ev t) ++ caps = args at hS hds hv hargs hls
          refine (call_core hE hc hΦ H hls hargs hF hds hS).mono ?_
          rintro e w' ⟨x, rfl, hb, hR⟩
          have H2 := H.below hb
          rcases hv with ⟨hns, rfl⟩ | ⟨htouch, hv⟩
          · refine hn x w' H2.1 H2.2 ?_
            unfold Res at hR
            split at hR
            · simp [noSl] at hns
            · exact noSl_any (hR c.fvals) hns
          · have hall := res_ok H hb (E := E) args (cl.args.map a.eval ++ xs)
            have hfr : frzOf h args = h := by
              unfold frzOf
              rw [htouch]
              funext b
              simp [frz]
            rw [hfr] at hall
            unfold Res at hR
            split at hR
            · rename_i z rows
              subst hv
              refine hn x w' H2.1 H2.2 ?_
              rcases hR with ⟨rfl, A, rfl⟩ | ⟨k, base, cap, rfl, hcap, hk, hkl, hlen, hcell⟩
              · exact Rp.nil A 0
              · have hex : ∀ i, ∃ f : Nat → Value, ∀ j, i < rows.length → j < z → w'.cell? ⟨k, base + (i * z + j), none⟩ = some (f j) ∧ Dp w' (okB c h μ w') (cellAt rows i j) (f j) := by
                  intro i
                  have : ∀ j, ∃ y, i < rows.length → j < z → w'.cell? ⟨k, base + (i * z + j), none⟩ = some y ∧ Dp w' (okB c h μ w') (cellAt rows i j) y := by
                    intro j
                    by_cases hij : i < rows.length ∧ j < z
                    · obtain ⟨y, h1, _, h3⟩ := hcell i j (by omega) hij.2
                      exact ⟨y, fun _ _ => ⟨h1, (h3 hij.1).mono fun q hq => ⟨hall q hq.1, rfl⟩⟩⟩
                    · exact ⟨Go.undef, fun h1 h2 => absurd ⟨h1, h2⟩ hij⟩
                  exact Classical.axiomOfChoice this
                obtain ⟨g', hg⟩ := Classical.axiomOfChoice hex
                refine .sl rows _ cap z _ g' rfl hcap hlen (fun _ => ⟨_, rfl, hall k ⟨?_, hkl⟩, fun i j hi hj => by rw [add_plain]; exact (hg i j hi hj).1⟩) (fun i j hi hj => (hg i j hi hj).2)
                rcases hk with hk | hk
                · exact .inr (.inl hk)
                · exact hk.elim
            · rename_i hno
              have hvr : v = r := by
                split at hv
                · exact absurd rfl (hno _ _)
                · exact hv
              subst hvr
              exact hn x w' H2.1 H2.2 ((hR c.fvals).mono (fun q hq => ⟨hall q hq, rfl⟩) (fun _ _ h => by cases h))
        · exact hk.elim
      · rename_i k hf
        rw [hf] at h1
        unfold qfv at hk
        split at hk
        · rename_i Sp ds hSp hds
          obtain ⟨x, hxf, hSx, rfl⟩ := hk
          obtain ⟨f', xs, g1, g2, g3⟩ := hΦ k Sp hSp
          have hxe : a.eval f = .func (.func f') #[] xs := by rw [← g1]; generalize a.eval f = y at h1; cases h1; rfl
          have hrun := run_callv (w := w) ho hcal hxe g2
          obtain ⟨e1, e2⟩ := allO_spec hds
          have hargs : ArgsR c.fvals w (okB c (frz h fun _ => true) μ w) ds (cl.args.map a.eval) := by
            refine ⟨by simp [e1], fun i hi => ?_⟩
            have hia : i < cl.args.size := by simp at e1; omega
            have h2 : (cl.args.toList.map (ev t))[i]? = some (ev t cl.args[i]) := by simp [hia]
            have h3 : ds[i]? = some ds[i] := List.getElem?_eq_getElem hi
            have h4 : ds.getD i .undef = ds[i] := by simp [List.getD_eq_getElem?_getD, h3]
            have h5 : (cl.args.map a.eval).getD i Go.undef = a.eval cl.args[i] := by simp [hia]
            rw [h4, h5]
            exact expoA_sound H (fun _ => true) (he _) (e2 i _ _ h2 h3) (fun _ _ => rfl)
          unfold Oper.wp
          rw [hrun]
          refine (g3 w H.fr _ _ ds x _ (fun q hq => hq.2.1) hSx hargs).mono ?_
          rintro e w' ⟨rfl, hb⟩
          have H2 := H.below hb
          exact hn x w' H2.1 H2.2 (.s x hxf)
        · exact hk.elim
      · exact hk.elim
    · exact hk.elim
  · exact pure_ hk

/-- What is asked of one operation's guard, in the machine. -/
theorem gd_wanted (ops : Array Oper) {o : Oper} {t : Nat → V} {h : Hp} {n : Nat} (ht : ∀ i, R c h μ w (t i) (a.tmps.getD i Go.undef)) {run skip : Prop} (hk : gd ops o ⟨t, h, n⟩ run skip) :
    (Region.wanted o (yielded ops a.tmps) = true ∧ run) ∨ (Region.wanted o (yielded ops a.tmps) = false ∧ skip) := by
  unfold gd at hk
  unfold Region.wanted
  split at hk
  · rename_i hg; rw [hg]; exact .inl ⟨rfl, hk⟩
  · rename_i j want hg
    rw [hg]
    simp only
    split at hk
    · rename_i d hd
      simp only at hk
      have htd := ht d
      unfold yielded
      rw [hd]
      simp only [Option.bind_some]
      split at hk
      · rename_i b hb
        rw [hb] at htd
        have h1 := htd.s_eq.1
        have h2 : a.tmps[d]? = some (.bool b) := by
          by_cases hlt : d < a.tmps.size
          · simp [hlt] at h1 ⊢; exact h1
          · simp [Array.getElem?_eq_none (Nat.le_of_not_lt hlt)] at h1
            cases h1
        rw [h2]
        by_cases hbw : b = want
        · exact .inl ⟨by simp [hbw], hk.1 hbw⟩
        · exact .inr ⟨by simp [hbw], hk.2 hbw⟩
      · rename_i hb
        rw [hb] at htd
        have h1 : a.tmps.getD d Go.undef = Go.undef := by generalize a.tmps.getD d Go.undef = y at htd; cases htd; rfl
        refine .inr ⟨?_, hk⟩
        by_cases hlt : d < a.tmps.size
        · simp [hlt] at h1
          have h2 : a.tmps[d]? = some Go.undef := by simp [hlt, h1]
          rw [h2]; rfl
        · rw [Array.getElem?_eq_none (Nat.le_of_not_lt hlt)]; rfl
      · exact hk.elim
    · exact hk.elim

theorem ops_sound (hE : EnvOk E) (hc : c.P = E.P) (hΦ : FvOk c E.Φ) (ops : Array Oper) {Q : Exit → Act → World → Prop} {K : St → Prop} (hQ : ∀ σ μ a w, K σ → Sim ps E c σ μ a w → Q .normal a w) : ∀ (l : List Oper) {σ : St} {μ : Mu} {a : Act} {w : World},
    (∀ o ∈ l, dstOk E.nt o = true) → awpOps E ops l K σ → Sim ps E c σ μ a w → wpList c.P ops Q l a w := by
  intro l
  induction l with
  | nil => intro σ μ a w _ hk S; exact hQ σ μ a w hk S
  | cons o l ih =>
    intro σ μ a w hd hk S
    have hdo : ∀ d, o.dst = some d → d < E.nt := by
      intro d hd'
      have := hd o (by simp)
      simp [dstOk, hd'] at this
      exact this
    unfold awpOps at hk
    unfold wpList
    rcases gd_wanted ops (n := σ.n) S.tm hk with ⟨h1, h2⟩ | ⟨h1, h2⟩
    · rw [if_pos h1]
      refine .inl (op_sound hE hc hΦ S h2 ?_)
      intro v h' n' μ' x w' g1 g2 g3 g4
      exact ih (fun o ho => hd o (by simp [ho])) g1 (S.put g2 g3 g4 hdo)
    · rw [if_neg (by simp [h1])]
      exact ih (fun o ho => hd o (by simp [ho])) h2 (S.put S.hs (Ext.refl _ _ _ _) .undef hdo)
end
end Go.Proofs.Ytgohmphhgglmbaa.Am
