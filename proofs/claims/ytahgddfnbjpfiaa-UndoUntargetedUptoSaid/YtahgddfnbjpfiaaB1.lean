/- Texts that the law's proof stands on: AmBase, AmHeap, AmTurn, AmPure, AmVal, AmOps, AmSnd, AmSnd2, AmSnd3, AmSnd4, AmMem. -/
import Derived.Tactics
import Derived.Below
import Derived.Deep.Draws
import Derived.Orders
import Derived.LoopN
import Derived.Laws.Cells
import Derived.Laws.Entries
import Derived.Laws.IdiomCopy
import Derived.KernelRfl
import Derived.Laws.BytesString
import Derived.Laws.Tables
import Derived.Laws.AppendOwn
import Derived.Maps.AppendAt
import Derived.Lib.ConvBytes
/- An abstract machine over values: the values, and what a machine's value must be to stand for one. -/
namespace Go.Proofs.Ytahgddfnbjpfiaa.Am
open Go Go.RowKit

/-- Abstract values. 'sl': a slice that is only read, row by row; 'cap0': an empty slice without room (nil among them); 'pc': a pointer to cells that are only read; 'ptr', 'loc': into a block of the call's own; 'own': a slice that is handed over. -/
inductive V where
  | undef
  | any
  | s (v : Value)
  | sl (rows : List (List V))
  | cap0
  | agg (cs : List V)
  | tup (vs : List V)
  | pc (cells : List V)
  | ptr (b row col : Nat)
  | loc (b off len cap : Nat)
  | fn (f : Nat) (caps : List V)
  | fv (k : Nat)
  | own (size : Nat) (rows : List (List V))
  | glb (g : Nat)
  | mp (k : Nat)
  deriving Inhabited

def flat : Value → Bool
  | .bool _ | .int _ _ | .string _ | .nilFunc | .nilIface => true
  | .map r => r.isNone
  | .pointer a => a.isNone
  | _ => false

/-- Where a block of the call's own lies: nowhere (a nil slice was handed over), or in block k from base on, its rows 'size' cells wide. -/
inductive Lc where
  | virt
  | real (k base size : Nat)
abbrev Mu := Nat → Option Lc

section
variable (w : World) (ok : Nat → Prop)
/-- Data that is only read, all the way down. -/
inductive Dp : V → Value → Prop
  | s (v : Value) (h : flat v = true) : Dp (.s v) v
  | sl (rows : List (List V)) (n c size : Nat) (A : Option Addr) (g : Nat → Nat → Value) (hn : rows.length = n) (hc : n ≤ c) (hs : ∀ r ∈ rows, r.length = size)
      (hA : n ≠ 0 → ∃ ad : Addr, A = some ad ∧ ok ad.block ∧ ∀ i j, i < n → j < size → w.cell? (ad.add (i * size + j)) = some (g i j))
      (hr : ∀ i j, i < n → j < size → Dp ((rows.getD i []).getD j .undef) (g i j)) : Dp (.sl rows) (.slice A n c)
end
section
variable (fvals : Nat → Value) (w : World) (ok : Nat → Prop) (μ : Mu)
inductive Rp : V → Value → Prop
  | undef : Rp .undef Go.undef
  | any (x : Value) : Rp .any x
  | s (v : Value) (h : flat v = true) : Rp (.s v) v
  | cap0 (A : Option Addr) : Rp .cap0 (.slice A 0 0)
  | sl (rows : List (List V)) (n c size : Nat) (A : Option Addr) (g : Nat → Nat → Value) (hn : rows.length = n) (hc : n ≤ c) (hs : ∀ r ∈ rows, r.length = size)
      (hA : n ≠ 0 → ∃ ad : Addr, A = some ad ∧ ok ad.block ∧ ∀ i j, i < n → j < size → w.cell? (ad.add (i * size + j)) = some (g i j))
      (hr : ∀ i j, i < n → j < size → Dp w ok ((rows.getD i []).getD j .undef) (g i j)) : Rp (.sl rows) (.slice A n c)
  | agg (cs : List V) (xs : Array Value) (hl : xs.size = cs.length) (h : ∀ i, i < cs.length → Rp (cs.getD i .undef) (xs.getD i Go.undef)) : Rp (.agg cs) (.agg xs)
  | tup (cs : List V) (xs : Array Value) (hl : xs.size = cs.length) (h : ∀ i, i < cs.length → Rp (cs.getD i .undef) (xs.getD i Go.undef)) : Rp (.tup cs) (.tuple xs)
  | pc (cells : List V) (ad : Addr) (g : Nat → Value) (hb : ok ad.block) (hc : ∀ j, j < cells.length → w.cell? (ad.add j) = some (g j))
      (hr : ∀ j, j < cells.length → Dp w ok (cells.getD j .undef) (g j)) : Rp (.pc cells) (.pointer (some ad))
  | ptr (b row col k base size : Nat) (h : μ b = some (.real k base size)) : Rp (.ptr b row col) (.pointer (some ⟨k, base + (row * size + col), none⟩))
  | loc (b off len cap k base size : Nat) (h : μ b = some (.real k base size)) (hc : len ≤ cap) : Rp (.loc b off len cap) (.slice (some ⟨k, base + off * size, none⟩) len cap)
  | loc0 (b off : Nat) (A : Option Addr) (t : Lc) (h : μ b = some t) : Rp (.loc b off 0 0) (.slice A 0 0)
  | fn (f : Nat) (caps : List V) (xs : Array Value) (hl : xs.size = caps.length) (h : ∀ i, i < caps.length → Rp (caps.getD i .undef) (xs.getD i Go.undef)) : Rp (.fn f caps) (.func (.func f) #[] xs)
  | fv (k : Nat) : Rp (.fv k) (fvals k)
  | glb (g : Nat) : Rp (.glb g) (.pointer (some ⟨g, 0, none⟩))
  | mp (k : Nat) : Rp (.mp k) (.map (some k))
end

theorem cell_same {w w' : World} {a : Addr} (h : w'.heap[a.block]? = w.heap[a.block]?) : w'.cell? a = w.cell? a := by
  unfold World.cell?
  rw [h]
theorem frozen_same {w w' : World} {a : Addr} (h : w'.heap[a.block]? = w.heap[a.block]?) : w'.frozen? a = w.frozen? a := by
  unfold World.frozen?
  rw [h]
theorem add_block (a : Addr) (n : Nat) : (a.add n).block = a.block := by
  unfold Addr.add
  split <;> rfl
theorem add_plain (k o n : Nat) : (⟨k, o, none⟩ : Addr).add n = ⟨k, o + n, none⟩ := by
  unfold Addr.add
  split <;> simp_all
theorem add_add (a : Addr) (m n : Nat) : (a.add m).add n = a.add (m + n) := by
  unfold Addr.add
  by_cases h1 : m = 0 <;> by_cases h2 : n = 0 <;> simp [h1, h2, Nat.add_assoc]

theorem Dp.R {fvals : Nat → Value} {w : World} {ok : Nat → Prop} {μ : Mu} {v : V} {x : Value} (h : Dp w ok v x) : Rp fvals w ok μ v x := by
  cases h with
  | s _ h => exact .s _ h
  | sl rows n c size A g hn hc hs hA hr => exact .sl rows n c size A g hn hc hs hA hr
theorem Dp.mono {w w' : World} {ok ok' : Nat → Prop} {v : V} {x : Value} (h : Dp w ok v x) (hw : ∀ k, ok k → ok' k ∧ w'.heap[k]? = w.heap[k]?) : Dp w' ok' v x := by
  induction h with
  | s v h => exact .s v h
  | sl rows n c size A g hn hc hs hA hr ih =>
    refine .sl rows n c size A g hn hc hs (fun h => ?_) ih
    obtain ⟨ad, rfl, hk, hcell⟩ := hA h
    refine ⟨ad, rfl, (hw _ hk).1, fun i j hi hj => ?_⟩
    rw [← hcell i j hi hj]
    exact cell_same (by rw [add_block]; exact (hw _ hk).2)
theorem Rp.mono {fvals : Nat → Value} {w w' : World} {ok ok' : Nat → Prop} {μ μ' : Mu} {v : V} {x : Value} (h : Rp fvals w ok μ v x)
    (hw : ∀ k, ok k → ok' k ∧ w'.heap[k]? = w.heap[k]?) (hμ' : ∀ b t, μ b = some t → μ' b = some t) : Rp fvals w' ok' μ' v x := by
  induction h with
  | undef => exact .undef
  | any x => exact .any x
  | s v h => exact .s v h
  | cap0 A => exact .cap0 A
  | sl rows n c size A g hn hc hs hA hr =>
    refine .sl rows n c size A g hn hc hs (fun h => ?_) (fun i j hi hj => (hr i j hi hj).mono hw)
    obtain ⟨ad, rfl, hk, hcell⟩ := hA h
    refine ⟨ad, rfl, (hw _ hk).1, fun i j hi hj => ?_⟩
    rw [← hcell i j hi hj]
    exact cell_same (by rw [add_block]; exact (hw _ hk).2)
  | agg cs xs hl h ih => exact .agg cs xs hl ih
  | tup cs xs hl h ih => exact .tup cs xs hl ih
  | pc cells ad g hb hc hr =>
    refine .pc cells ad g (hw _ hb).1 (fun j hj => ?_) (fun j hj => (hr j hj).mono hw)
    rw [← hc j hj]
    exact cell_same (by rw [add_block]; exact (hw _ hb).2)
  | ptr b row col k base size h => exact .ptr b row col k base size (hμ' _ _ h)
  | loc b off len cap k base size h hc => exact .loc b off len cap k base size (hμ' _ _ h) hc
  | loc0 b off A t h => exact .loc0 b off A t (hμ' _ _ h)
  | fn f caps xs hl h ih => exact .fn f caps xs hl ih
  | fv k => exact .fv k
  | glb g => exact .glb g
  | mp k => exact .mp k

end Go.Proofs.Ytahgddfnbjpfiaa.Am

/- An abstract machine over values: the blocks of a call's own, and what a step may turn. -/
set_option linter.unusedVariables false
namespace Go.Proofs.Ytahgddfnbjpfiaa.Am
open Go Go.RowKit

structure Blk where
  size : Nat
  rows : List (List V)
  wr : Bool

/-- Only blocks in X may have turned. -/
structure Fr (w w' : World) (X : Nat → Prop) : Prop where
  os : w'.os = w.os
  tape : w'.tape = w.tape
  output : w'.output = w.output
  size : w.heap.size ≤ w'.heap.size
  block : ∀ k, k < w.heap.size → ¬ X k → w'.heap[k]? = w.heap[k]?

/-- What a world of the seat holds beside: tables of the library (laid by mkam.py). -/
def gtab (P : Program) (g : Nat) : Option (List Value) := none
def WMore (P : Program) (w : World) : Prop := True
def WInv (P : Program) (w : World) : Prop := WMore P w ∧ ∀ g vs, gtab P g = some vs → (∀ v ∈ vs, flat v = true) ∧ ∀ j, j < vs.length → w.cell? ⟨g, j, none⟩ = some (vs.getD j Go.undef)

structure Cx where
  P : Program
  w0 : World
  ok0 : Nat → Prop
  X : Nat → Prop
  fvals : Nat → Value
  inv : ∀ w1, Fr w0 w1 X → WInv P w1

abbrev Hp := Nat → Option Blk

theorem Fr.refl (w : World) (X : Nat → Prop) : Fr w w X := ⟨rfl, rfl, rfl, Nat.le_refl _, fun _ _ _ => rfl⟩
theorem Fr.more {w w1 w2 : World} {X : Nat → Prop} (a : Fr w w1 X) (b : Fr w1 w2 fun _ => False) : Fr w w2 X :=
  ⟨b.os.trans a.os, b.tape.trans a.tape, b.output.trans a.output, Nat.le_trans a.size b.size, fun k hk hx => (b.block k (Nat.lt_of_lt_of_le hk a.size) id).trans (a.block k hk hx)⟩
theorem Fr.of_below {w w' : World} {X : Nat → Prop} (h : Below w.heap.size w w') : Fr w w' X := ⟨h.os, h.tape, h.output, h.size, fun k hk _ => h.block k hk⟩
theorem Fr.below {w w' : World} (h : Fr w w' fun _ => False) : Below w.heap.size w w' := ⟨h.os, h.tape, h.output, h.size, fun k hk => h.block k hk id⟩

def live (h : Hp) (μ : Mu) (k : Nat) : Prop := ∃ b B base size, h b = some B ∧ B.wr = true ∧ μ b = some (.real k base size)
def okB (c : Cx) (h : Hp) (μ : Mu) (w : World) (k : Nat) : Prop := (c.ok0 k ∨ c.w0.heap.size ≤ k ∨ c.X k) ∧ k < w.heap.size ∧ ¬ live h μ k

abbrev R (c : Cx) (h : Hp) (μ : Mu) (w : World) : V → Value → Prop := Rp c.fvals w (okB c h μ w) μ

def cellAt (rows : List (List V)) (i j : Nat) : V := (rows.getD i []).getD j .undef

def BlkAt (c : Cx) (h : Hp) (μ : Mu) (w : World) (b : Nat) (B : Blk) : Prop :=
  (μ b = some .virt ∧ B.rows = []) ∨ ∃ k base, μ b = some (.real k base B.size) ∧ k < w.heap.size ∧ ((c.ok0 k ∨ c.w0.heap.size ≤ k ∨ c.X k) ∧ (B.wr = true → c.w0.heap.size ≤ k ∨ c.X k)) ∧ (∀ r ∈ B.rows, r.length = B.size) ∧
    ∀ i j, i < B.rows.length → j < B.size → ∃ x, w.cell? ⟨k, base + (i * B.size + j), none⟩ = some x ∧ (∀ o, (B.size ≠ 1 ∨ o = base + (i * B.size + j)) → w.frozen? ⟨k, o, none⟩ = false) ∧ R c h μ w (cellAt B.rows i j) x

structure HS (c : Cx) (h : Hp) (n : Nat) (μ : Mu) (w : World) : Prop where
  fr : Fr c.w0 w c.X
  hfresh : ∀ b, n ≤ b → h b = none
  mfresh : ∀ b, n ≤ b → μ b = none
  blk : ∀ b B, h b = some B → BlkAt c h μ w b B
  inj : ∀ b b' B B' k base size base' size', h b = some B → h b' = some B' → B.wr = true → μ b = some (.real k base size) → μ b' = some (.real k base' size') → b = b'

structure Ext (c : Cx) (h : Hp) (μ : Mu) (w : World) (h' : Hp) (μ' : Mu) (w' : World) : Prop where
  ok : ∀ k, okB c h μ w k → okB c h' μ' w' k ∧ w'.heap[k]? = w.heap[k]?
  mu : ∀ b t, μ b = some t → μ' b = some t
  sz : w.heap.size ≤ w'.heap.size
theorem Ext.refl (c : Cx) (h : Hp) (μ : Mu) (w : World) : Ext c h μ w h μ w := ⟨fun _ h => ⟨h, rfl⟩, fun _ _ h => h, Nat.le_refl _⟩
theorem Ext.trans {c : Cx} {h h1 h2 : Hp} {μ μ1 μ2 : Mu} {w w1 w2 : World} (a : Ext c h μ w h1 μ1 w1) (b : Ext c h1 μ1 w1 h2 μ2 w2) : Ext c h μ w h2 μ2 w2 :=
  ⟨fun k hk => ⟨(b.ok k (a.ok k hk).1).1, (b.ok k (a.ok k hk).1).2.trans (a.ok k hk).2⟩, fun x t hx => b.mu x t (a.mu x t hx), Nat.le_trans a.sz b.sz⟩
theorem Ext.R {c : Cx} {h h' : Hp} {μ μ' : Mu} {w w' : World} (e : Ext c h μ w h' μ' w') {v : V} {x : Value} (r : R c h μ w v x) : R c h' μ' w' v x := r.mono e.ok e.mu

theorem HS.wr_block {c : Cx} {h : Hp} {n : Nat} {μ : Mu} {w : World} (H : HS c h n μ w) {k : Nat} (hl : live h μ k) : (c.w0.heap.size ≤ k ∨ c.X k) ∧ k < w.heap.size := by
  obtain ⟨b, B, base, size, hb, hw, hm⟩ := hl
  rcases H.blk b B hb with ⟨hv, _⟩ | ⟨k', base', hm', hk, hx, _⟩
  · rw [hm] at hv; cases hv
  · rw [hm] at hm'
    cases hm'
    exact ⟨hx.2 hw, hk⟩

/-- Whatever a step does: the blocks that could be written before it alone have turned, what can be written behind it could be written before it or is new. -/
theorem HS.step {c : Cx} {h h' : Hp} {n n' : Nat} {μ μ' : Mu} {w w' : World} (H : HS c h n μ w) (hf : Fr w w' (live h μ))
    (hmu : ∀ b t, μ b = some t → μ' b = some t) (hmn : ∀ b, n' ≤ b → μ' b = none) (hhn : ∀ b, n' ≤ b → h' b = none)
    (hl : ∀ k, live h' μ' k → live h μ k ∨ w.heap.size ≤ k)
    (hb : Ext c h μ w h' μ' w' → ∀ b B, h' b = some B → BlkAt c h' μ' w' b B)
    (hi : ∀ b b' B B' k base size base' size', h' b = some B → h' b' = some B' → B.wr = true → μ' b = some (.real k base size) → μ' b' = some (.real k base' size') → b = b') :
    HS c h' n' μ' w' ∧ Ext c h μ w h' μ' w' := by
  have e : Ext c h μ w h' μ' w' := by
    refine ⟨fun k hk => ⟨⟨hk.1, Nat.lt_of_lt_of_le hk.2.1 hf.size, fun hl' => ?_⟩, hf.block k hk.2.1 hk.2.2⟩, hmu, hf.size⟩
    rcases hl k hl' with h1 | h1
    · exact hk.2.2 h1
    · exact absurd hk.2.1 (by omega)
  refine ⟨⟨⟨hf.os.trans H.fr.os, hf.tape.trans H.fr.tape, hf.output.trans H.fr.output, Nat.le_trans H.fr.size hf.size, fun k hk hx => ?_⟩, hhn, hmn, hb e, hi⟩, e⟩
  rw [hf.block k (Nat.lt_of_lt_of_le hk H.fr.size) (fun hl' => by
    rcases (H.wr_block hl').1 with h1 | h1
    · omega
    · exact hx h1)]
  exact H.fr.block k hk hx

/-- A block that a step leaves alone. -/
theorem BlkAt.keep {c : Cx} {h h' : Hp} {μ μ' : Mu} {w w' : World} (e : Ext c h μ w h' μ' w') (hs : w.heap.size ≤ w'.heap.size) {b : Nat} {B : Blk} (hB : BlkAt c h μ w b B)
    (hk : ∀ k base size, μ b = some (.real k base size) → w'.heap[k]? = w.heap[k]?) : BlkAt c h' μ' w' b B := by
  rcases hB with ⟨h1, h2⟩ | ⟨k, base, h1, h2, h3, h4, h5⟩
  · exact .inl ⟨e.mu _ _ h1, h2⟩
  · refine .inr ⟨k, base, e.mu _ _ h1, by omega, h3, h4, fun i j hi hj => ?_⟩
    obtain ⟨x, hx, hz, hr⟩ := h5 i j hi hj
    exact ⟨x, by rw [← hx]; exact cell_same (hk _ _ _ h1), fun o ho => by rw [← hz o ho]; exact frozen_same (hk _ _ _ h1), e.R hr⟩

def upd {α : Type} (f : Nat → α) (k : Nat) (v : α) : Nat → α := fun j => if j = k then v else f j
theorem upd_same {α : Type} (f : Nat → α) (k : Nat) (v : α) : upd f k v k = v := by simp [upd]
theorem upd_ne {α : Type} (f : Nat → α) (k j : Nat) (v : α) (h : j ≠ k) : upd f k v j = f j := by simp [upd, h]

/-- A call that lets all old blocks be; a new block that nobody knows; a draw. -/
theorem HS.below {c : Cx} {h : Hp} {n : Nat} {μ : Mu} {w w' : World} (H : HS c h n μ w) (hb : Below w.heap.size w w') : HS c h n μ w' ∧ Ext c h μ w h μ w' := by
  refine H.step (Fr.of_below hb) (fun _ _ h => h) H.mfresh H.hfresh (fun _ h => .inl h) (fun e b B hB => ?_) H.inj
  refine (H.blk b B hB).keep e hb.size fun k base size hk => hb.block k ?_
  rcases H.blk b B hB with ⟨h1, h2⟩ | ⟨k', base', h1, h2, _⟩
  · rw [hk] at h1; cases h1
  · rw [hk] at h1; cases h1; exact h2

/-- A new block of one's own: it lies in a block that was not there. -/
theorem HS.fresh {c : Cx} {h : Hp} {n : Nat} {μ : Mu} {w w' : World} (H : HS c h n μ w) (hb : Below w.heap.size w w') (k base : Nat) (B : Blk) (hk : w.heap.size ≤ k) (hk' : k < w'.heap.size)
    (hl : ∀ r ∈ B.rows, r.length = B.size)
    (hc : ∀ i j, i < B.rows.length → j < B.size → ∃ x, w'.cell? ⟨k, base + (i * B.size + j), none⟩ = some x ∧ (∀ o, (B.size ≠ 1 ∨ o = base + (i * B.size + j)) → w'.frozen? ⟨k, o, none⟩ = false) ∧
      (Ext c h μ w (upd h n (some B)) (upd μ n (some (.real k base B.size))) w' → R c (upd h n (some B)) (upd μ n (some (.real k base B.size))) w' (cellAt B.rows i j) x)) :
    HS c (upd h n (some B)) (n + 1) (upd μ n (some (.real k base B.size))) w' ∧ Ext c h μ w (upd h n (some B)) (upd μ n (some (.real k base B.size))) w' := by
  have hne : ∀ b t, μ b = some t → b ≠ n := fun b t h e => by rw [e, H.mfresh n (Nat.le_refl _)] at h; cases h
  have hne' : ∀ b t, h b = some t → b ≠ n := fun b t h e => by rw [e, H.hfresh n (Nat.le_refl _)] at h; cases h
  have hreal : ∀ b B' k' base' size', h b = some B' → μ b = some (.real k' base' size') → k' < w.heap.size := by
    intro b B' k' base' size' hb' hm'
    rcases H.blk b B' hb' with ⟨h1, h2⟩ | ⟨k2, base2, h1, h2, _⟩
    · rw [hm'] at h1; cases h1
    · rw [hm'] at h1; cases h1; exact h2
  refine H.step (Fr.of_below hb) (fun b t hm => by rw [upd_ne _ _ _ _ (hne b t hm)]; exact hm) (fun b hb' => by rw [upd_ne _ _ _ _ (by omega)]; exact H.mfresh b (by omega))
    (fun b hb' => by rw [upd_ne _ _ _ _ (by omega)]; exact H.hfresh b (by omega)) ?_ (fun e b B' hB => ?_) ?_
  · rintro k' ⟨b, B', base', size', h1, h2, h3⟩
    by_cases hbn : b = n
    · subst hbn
      rw [upd_same] at h3
      cases h3
      exact .inr hk
    · rw [upd_ne _ _ _ _ hbn] at h1 h3
      exact .inl ⟨b, B', base', size', h1, h2, h3⟩
  · by_cases hbn : b = n
    · subst hbn
      rw [upd_same] at hB
      cases hB
      refine .inr ⟨k, base, by rw [upd_same], hk', ⟨.inr (.inl (Nat.le_trans H.fr.size hk)), fun _ => .inl (Nat.le_trans H.fr.size hk)⟩, hl, fun i j hi hj => ?_⟩
      obtain ⟨x, h1, h2, h3⟩ := hc i j hi hj
      exact ⟨x, h1, h2, h3 e⟩
    · rw [upd_ne _ _ _ _ hbn] at hB
      exact (H.blk b B' hB).keep e hb.size fun k' base' size' hm => hb.block k' (hreal _ _ _ _ _ hB hm)
  · intro b b' B1 B2 k' base1 size1 base2 size2 h1 h2 h3 h4 h5
    by_cases hbn : b = n <;> by_cases hbn' : b' = n
    · rw [hbn, hbn']
    · subst hbn
      rw [upd_same] at h4
      rw [upd_ne _ _ _ _ hbn'] at h2 h5
      cases h4
      have := hreal _ _ _ _ _ h2 h5
      omega
    · subst hbn'
      rw [upd_same] at h5
      rw [upd_ne _ _ _ _ hbn] at h1 h4
      cases h5
      have := hreal _ _ _ _ _ h1 h4
      omega
    · rw [upd_ne _ _ _ _ hbn] at h1 h4
      rw [upd_ne _ _ _ _ hbn'] at h2 h5
      exact H.inj _ _ _ _ _ _ _ _ _ h1 h2 h3 h4 h5

end Go.Proofs.Ytahgddfnbjpfiaa.Am

/- An abstract machine over values: blocks that are written, dropped, bound anew. -/
set_option linter.unusedVariables false
namespace Go.Proofs.Ytahgddfnbjpfiaa.Am
open Go Go.RowKit

theorem HS.real_lt {c : Cx} {h : Hp} {n : Nat} {μ : Mu} {w : World} (H : HS c h n μ w) {b : Nat} {B : Blk} {k base size : Nat} (hb : h b = some B) (hm : μ b = some (.real k base size)) : k < w.heap.size := by
  rcases H.blk b B hb with ⟨h1, h2⟩ | ⟨k2, base2, h1, h2, _⟩
  · rw [hm] at h1; cases h1
  · rw [hm] at h1; cases h1; exact h2
theorem HS.id_ne {c : Cx} {h : Hp} {n : Nat} {μ : Mu} {w : World} (H : HS c h n μ w) {b : Nat} {B : Blk} (hb : h b = some B) : b ≠ n :=
  fun e => by rw [e, H.hfresh n (Nat.le_refl _)] at hb; cases hb
theorem HS.mu_ne {c : Cx} {h : Hp} {n : Nat} {μ : Mu} {w : World} (H : HS c h n μ w) {b : Nat} {t : Lc} (hb : μ b = some t) : b ≠ n :=
  fun e => by rw [e, H.mfresh n (Nat.le_refl _)] at hb; cases hb
theorem HS.id_lt {c : Cx} {h : Hp} {n : Nat} {μ : Mu} {w : World} (H : HS c h n μ w) {b : Nat} {B : Blk} (hb : h b = some B) : b < n := by
  rcases Nat.lt_or_ge b n with h1 | h1
  · exact h1
  · rw [H.hfresh b h1] at hb; cases hb

/-- A block's content is written anew. -/
theorem HS.write {c : Cx} {h : Hp} {n : Nat} {μ : Mu} {w w' : World} (H : HS c h n μ w) {b : Nat} {B B' : Blk} {k base : Nat} (hb : h b = some B) (hw : B.wr = true) (hm : μ b = some (.real k base B.size))
    (hf : Fr w w' (fun q => q = k)) (hs : w.heap.size = w'.heap.size) (hB' : B'.size = B.size) (hl : ∀ r ∈ B'.rows, r.length = B'.size)
    (hc : ∀ i j, i < B'.rows.length → j < B.size → ∃ x, w'.cell? ⟨k, base + (i * B.size + j), none⟩ = some x ∧ (∀ o, (B.size ≠ 1 ∨ o = base + (i * B.size + j)) → w'.frozen? ⟨k, o, none⟩ = false) ∧
      (Ext c h μ w (upd h b (some B')) μ w' → R c (upd h b (some B')) μ w' (cellAt B'.rows i j) x)) :
    HS c (upd h b (some B')) n μ w' ∧ Ext c h μ w (upd h b (some B')) μ w' := by
  have hlive : live h μ k := ⟨b, B, base, _, hb, hw, hm⟩
  have hkw := H.wr_block hlive
  refine H.step ⟨hf.os, hf.tape, hf.output, hf.size, fun q hq hnl => hf.block q hq (fun e => hnl (e ▸ hlive))⟩ (fun _ _ h => h) H.mfresh ?_ ?_ (fun e b2 B2 hB => ?_) ?_
  · intro b2 hb2
    rw [upd_ne _ _ _ _ (by have := H.id_lt hb; omega)]
    exact H.hfresh b2 hb2
  · rintro q ⟨b2, B2, base2, size2, h1, h2, h3⟩
    by_cases hbb : b2 = b
    · subst hbb
      rw [hm] at h3
      cases h3
      exact .inl hlive
    · rw [upd_ne _ _ _ _ hbb] at h1
      exact .inl ⟨b2, B2, base2, size2, h1, h2, h3⟩
  · by_cases hbb : b2 = b
    · subst hbb
      rw [upd_same] at hB
      cases hB
      refine .inr ⟨k, base, by rw [hB']; exact hm, by omega, ⟨.inr hkw.1, fun _ => hkw.1⟩, hl, fun i j hi hj => ?_⟩
      rw [hB'] at hj ⊢
      obtain ⟨x, h1, h2, h3⟩ := hc i j hi hj
      exact ⟨x, h1, h2, h3 e⟩
    · rw [upd_ne _ _ _ _ hbb] at hB
      refine (H.blk b2 B2 hB).keep e (by omega) fun q base2 size2 hm2 => hf.block q (H.real_lt hB hm2) (fun eq => ?_)
      subst eq
      exact hbb (H.inj b b2 B B2 q base B.size base2 size2 hb hB hw hm hm2).symm
  · intro b1 b2 B1 B2 q base1 size1 base2 size2 h1 h2 h3 h4 h5
    by_cases e1 : b1 = b <;> by_cases e2 : b2 = b
    · rw [e1, e2]
    · subst e1
      rw [upd_ne _ _ _ _ e2] at h2
      exact H.inj _ _ _ _ _ _ _ _ _ hb h2 hw h4 h5
    · subst e2
      rw [upd_ne _ _ _ _ e1] at h1
      exact H.inj _ _ _ _ _ _ _ _ _ h1 hb h3 h4 h5
    · rw [upd_ne _ _ _ _ e1] at h1
      rw [upd_ne _ _ _ _ e2] at h2
      exact H.inj _ _ _ _ _ _ _ _ _ h1 h2 h3 h4 h5

/-- A block is forgotten, or turned into one that is only read. -/
theorem HS.drop {c : Cx} {h : Hp} {n : Nat} {μ : Mu} {w : World} (H : HS c h n μ w) (b : Nat) : HS c (upd h b none) n μ w ∧ Ext c h μ w (upd h b none) μ w := by
  refine H.step (Fr.refl _ _) (fun _ _ h => h) H.mfresh ?_ ?_ (fun e b2 B2 hB => ?_) ?_
  · intro b2 hb2
    unfold upd
    split
    · rfl
    · exact H.hfresh b2 hb2
  · rintro q ⟨b2, B2, base2, size2, h1, h2, h3⟩
    by_cases hbb : b2 = b
    · subst hbb; rw [upd_same] at h1; cases h1
    · rw [upd_ne _ _ _ _ hbb] at h1
      exact .inl ⟨b2, B2, base2, size2, h1, h2, h3⟩
  · by_cases hbb : b2 = b
    · subst hbb; rw [upd_same] at hB; cases hB
    · rw [upd_ne _ _ _ _ hbb] at hB
      exact (H.blk b2 B2 hB).keep e (Nat.le_refl _) fun _ _ _ _ => rfl
  · intro b1 b2 B1 B2 q base1 size1 base2 size2 h1 h2 h3 h4 h5
    by_cases e1 : b1 = b
    · subst e1; rw [upd_same] at h1; cases h1
    · by_cases e2 : b2 = b
      · subst e2; rw [upd_same] at h2; cases h2
      · rw [upd_ne _ _ _ _ e1] at h1
        rw [upd_ne _ _ _ _ e2] at h2
        exact H.inj _ _ _ _ _ _ _ _ _ h1 h2 h3 h4 h5
def Blk.froz (B : Blk) : Blk := { B with wr := false }
theorem HS.freeze {c : Cx} {h : Hp} {n : Nat} {μ : Mu} {w : World} (H : HS c h n μ w) (b : Nat) {B : Blk} (hb : h b = some B) : HS c (upd h b (some B.froz)) n μ w ∧ Ext c h μ w (upd h b (some B.froz)) μ w := by
  refine H.step (Fr.refl _ _) (fun _ _ h => h) H.mfresh ?_ ?_ (fun e b2 B2 hB => ?_) ?_
  · intro b2 hb2
    rw [upd_ne _ _ _ _ (by have := H.id_lt hb; omega)]
    exact H.hfresh b2 hb2
  · rintro q ⟨b2, B2, base2, size2, h1, h2, h3⟩
    by_cases hbb : b2 = b
    · subst hbb; rw [upd_same] at h1; cases h1; cases h2
    · rw [upd_ne _ _ _ _ hbb] at h1
      exact .inl ⟨b2, B2, base2, size2, h1, h2, h3⟩
  · by_cases hbb : b2 = b
    · subst hbb
      rw [upd_same] at hB
      cases hB
      rcases (H.blk b2 B hb).keep e (Nat.le_refl _) fun _ _ _ _ => rfl with h1 | ⟨k, base, h1, h2, h3, h4, h5⟩
      · exact .inl h1
      · exact .inr ⟨k, base, h1, h2, ⟨h3.1, fun h => by cases h⟩, h4, h5⟩
    · rw [upd_ne _ _ _ _ hbb] at hB
      exact (H.blk b2 B2 hB).keep e (Nat.le_refl _) fun _ _ _ _ => rfl
  · intro b1 b2 B1 B2 q base1 size1 base2 size2 h1 h2 h3 h4 h5
    by_cases e1 : b1 = b
    · subst e1; rw [upd_same] at h1; cases h1; cases h3
    · by_cases e2 : b2 = b
      · subst e2
        rw [upd_ne _ _ _ _ e1] at h1
        exact H.inj _ _ _ _ _ _ _ _ _ h1 hb h3 h4 h5
      · rw [upd_ne _ _ _ _ e1] at h1
        rw [upd_ne _ _ _ _ e2] at h2
        exact H.inj _ _ _ _ _ _ _ _ _ h1 h2 h3 h4 h5

/-- Some blocks are only read from here on. -/
def frz (h : Hp) (p : Nat → Bool) : Hp := fun b => if p b then (h b).map Blk.froz else h b
theorem frz_inv {h : Hp} {p : Nat → Bool} {b : Nat} {B : Blk} (hb : frz h p b = some B) : ∃ B', h b = some B' ∧ B.size = B'.size ∧ B.rows = B'.rows ∧ (B.wr = true → B'.wr = true ∧ p b = false) := by
  unfold frz at hb
  split at hb
  · simp only [Option.map_eq_some_iff] at hb
    obtain ⟨B', h1, rfl⟩ := hb
    exact ⟨B', h1, rfl, rfl, fun h => by cases h⟩
  · rename_i hp
    exact ⟨B, hb, rfl, rfl, fun h => ⟨h, by simpa using hp⟩⟩
theorem HS.freezeP {c : Cx} {h : Hp} {n : Nat} {μ : Mu} {w : World} (H : HS c h n μ w) (p : Nat → Bool) : HS c (frz h p) n μ w ∧ Ext c h μ w (frz h p) μ w := by
  refine H.step (Fr.refl _ _) (fun _ _ h => h) H.mfresh (fun b hb => by simp [frz, H.hfresh b hb]) ?_ (fun e b2 B2 hB => ?_) ?_
  · rintro q ⟨b2, B2, base2, size2, h1, h2, h3⟩
    obtain ⟨B, g1, g2, g3, g4⟩ := frz_inv h1
    exact .inl ⟨b2, B, base2, size2, g1, (g4 h2).1, h3⟩
  · obtain ⟨B, g1, g2, g3, g4⟩ := frz_inv hB
    rcases (H.blk b2 B g1).keep e (Nat.le_refl _) fun _ _ _ _ => rfl with ⟨h1, h2⟩ | ⟨k, base, h1, h2, h3, h4, h5⟩
    · exact .inl ⟨h1, by rw [g3]; exact h2⟩
    · exact .inr ⟨k, base, by rw [g2]; exact h1, h2, ⟨h3.1, fun h => h3.2 (g4 h).1⟩, by rw [g2, g3]; exact h4, by rw [g2, g3]; exact h5⟩
  · intro b1 b2 B1 B2 q base1 size1 base2 size2 h1 h2 h3 h4 h5
    obtain ⟨B, g1, _, _, g4⟩ := frz_inv h1
    obtain ⟨B', g1', _⟩ := frz_inv h2
    exact H.inj _ _ _ _ _ _ _ _ _ g1 g1' (g4 h3).1 h4 h5
/-- A block that is only read from here on may be read by data. -/
theorem HS.frz_ok {c : Cx} {h : Hp} {n : Nat} {μ : Mu} {w : World} (H : HS c h n μ w) {p : Nat → Bool} {b : Nat} {B : Blk} {k base size : Nat} (hb : h b = some B) (hm : μ b = some (.real k base size)) (hp : p b = true) : okB c (frz h p) μ w k := by
  rcases H.blk b B hb with ⟨g1, _⟩ | ⟨k', base', g1, g2, g3, _⟩
  · rw [hm] at g1; cases g1
  · rw [hm] at g1
    cases g1
    refine ⟨g3.1, g2, ?_⟩
    rintro ⟨b2, B2, base2, size2, h1, h2, h3⟩
    obtain ⟨B', g5, _, _, g6⟩ := frz_inv h1
    have := H.inj b2 b B' B k base2 size2 base B.size g5 hb (g6 h2).1 h3 hm
    subst this
    rw [hp] at g6
    cases (g6 h2).2
/-- A block b gives way to a new name n for it: what it held may have turned. -/
theorem HS.rename {c : Cx} {h : Hp} {n : Nat} {μ : Mu} {w w' : World} (H : HS c h n μ w) {b : Nat} {B B' : Blk} {k base base' : Nat} (hb : h b = some B) (hw : B.wr = true) (hm : μ b = some (.real k base B.size))
    (hf : Fr w w' (fun q => q = k)) (hl : ∀ r ∈ B'.rows, r.length = B'.size)
    (hc : ∀ i j, i < B'.rows.length → j < B'.size → ∃ x, w'.cell? ⟨k, base' + (i * B'.size + j), none⟩ = some x ∧ (∀ o, (B'.size ≠ 1 ∨ o = base' + (i * B'.size + j)) → w'.frozen? ⟨k, o, none⟩ = false) ∧
      (Ext c h μ w (upd (upd h b none) n (some B')) (upd μ n (some (.real k base' B'.size))) w' → R c (upd (upd h b none) n (some B')) (upd μ n (some (.real k base' B'.size))) w' (cellAt B'.rows i j) x)) :
    HS c (upd (upd h b none) n (some B')) (n + 1) (upd μ n (some (.real k base' B'.size))) w' ∧ Ext c h μ w (upd (upd h b none) n (some B')) (upd μ n (some (.real k base' B'.size))) w' := by
  have hlive : live h μ k := ⟨b, B, base, _, hb, hw, hm⟩
  have hkw := H.wr_block hlive
  have hbn := H.id_ne hb
  have hold : ∀ b2 B2, upd (upd h b none) n (some B') b2 = some B2 → b2 ≠ n → b2 ≠ b ∧ h b2 = some B2 := by
    intro b2 B2 hB hn
    rw [upd_ne _ _ _ _ hn] at hB
    by_cases hbb : b2 = b
    · subst hbb; rw [upd_same] at hB; cases hB
    · rw [upd_ne _ _ _ _ hbb] at hB; exact ⟨hbb, hB⟩
  refine H.step ⟨hf.os, hf.tape, hf.output, hf.size, fun q hq hnl => hf.block q hq (fun e => hnl (e ▸ hlive))⟩ (fun b2 t hm2 => by rw [upd_ne _ _ _ _ (H.mu_ne hm2)]; exact hm2)
    (fun b2 hb2 => by rw [upd_ne _ _ _ _ (by omega)]; exact H.mfresh b2 (by omega)) ?_ ?_ (fun e b2 B2 hB => ?_) ?_
  · intro b2 hb2
    rw [upd_ne _ _ _ _ (by omega), upd_ne _ _ _ _ (by have := H.id_lt hb; omega)]
    exact H.hfresh b2 (by omega)
  · rintro q ⟨b2, B2, base2, size2, h1, h2, h3⟩
    by_cases hn : b2 = n
    · subst hn
      rw [upd_same] at h3
      cases h3
      exact .inl hlive
    · rw [upd_ne _ _ _ _ hn] at h3
      exact .inl ⟨b2, B2, base2, size2, (hold b2 B2 h1 hn).2, h2, h3⟩
  · by_cases hn : b2 = n
    · subst hn
      rw [upd_same] at hB
      cases hB
      refine .inr ⟨k, base', by rw [upd_same], Nat.lt_of_lt_of_le hkw.2 hf.size, ⟨.inr hkw.1, fun _ => hkw.1⟩, hl, fun i j hi hj => ?_⟩
      obtain ⟨x, h1, h2, h3⟩ := hc i j hi hj
      exact ⟨x, h1, h2, h3 e⟩
    · obtain ⟨hbb, hB⟩ := hold b2 B2 hB hn
      refine (H.blk b2 B2 hB).keep e hf.size fun q base2 size2 hm2 => hf.block q (H.real_lt hB hm2) (fun eq => ?_)
      subst eq
      exact hbb (H.inj b b2 B B2 q base B.size base2 size2 hb hB hw hm hm2).symm
  · intro b1 b2 B1 B2 q base1 size1 base2 size2 h1 h2 h3 h4 h5
    by_cases e1 : b1 = n <;> by_cases e2 : b2 = n
    · rw [e1, e2]
    · subst e1
      rw [upd_same] at h4
      cases h4
      rw [upd_ne _ _ _ _ e2] at h5
      obtain ⟨hbb, h2⟩ := hold b2 B2 h2 e2
      exact absurd (H.inj _ _ _ _ _ _ _ _ _ hb h2 hw hm h5).symm hbb
    · subst e2
      rw [upd_same] at h5
      cases h5
      rw [upd_ne _ _ _ _ e1] at h4
      obtain ⟨hbb, h1⟩ := hold b1 B1 h1 e1
      exact absurd (H.inj _ _ _ _ _ _ _ _ _ h1 hb h3 h4 hm) hbb
    · rw [upd_ne _ _ _ _ e1] at h4
      rw [upd_ne _ _ _ _ e2] at h5
      exact H.inj _ _ _ _ _ _ _ _ _ (hold b1 B1 h1 e1).2 (hold b2 B2 h2 e2).2 h3 h4 h5

/-- A call to which block b was handed over. -/
theorem HS.given {c : Cx} {h : Hp} {n : Nat} {μ : Mu} {w w' : World} (H : HS c h n μ w) {b : Nat} {B : Blk} (hb : h b = some B) (hw : B.wr = true)
    (hf : Fr w w' (fun q => ∃ base size, μ b = some (.real q base size))) : HS c (upd h b none) n μ w' ∧ Ext c h μ w (upd h b none) μ w' := by
  have hX : ∀ q, (∃ base size, μ b = some (.real q base size)) → live h μ q := fun q ⟨base, size, hm⟩ => ⟨b, B, base, size, hb, hw, hm⟩
  refine H.step ⟨hf.os, hf.tape, hf.output, hf.size, fun q hq hnl => hf.block q hq (fun e => hnl (hX q e))⟩ (fun _ _ h => h) H.mfresh ?_ ?_ (fun e b2 B2 hB => ?_) ?_
  · intro b2 hb2
    unfold upd
    split
    · rfl
    · exact H.hfresh b2 hb2
  · rintro q ⟨b2, B2, base2, size2, h1, h2, h3⟩
    by_cases hbb : b2 = b
    · subst hbb; rw [upd_same] at h1; cases h1
    · rw [upd_ne _ _ _ _ hbb] at h1
      exact .inl ⟨b2, B2, base2, size2, h1, h2, h3⟩
  · by_cases hbb : b2 = b
    · subst hbb; rw [upd_same] at hB; cases hB
    · rw [upd_ne _ _ _ _ hbb] at hB
      refine (H.blk b2 B2 hB).keep e hf.size fun q base2 size2 hm2 => hf.block q (H.real_lt hB hm2) ?_
      rintro ⟨base, size, hm⟩
      exact hbb (H.inj b b2 B B2 q base size base2 size2 hb hB hw hm hm2).symm
  · intro b1 b2 B1 B2 q base1 size1 base2 size2 h1 h2 h3 h4 h5
    by_cases e1 : b1 = b
    · subst e1; rw [upd_same] at h1; cases h1
    · by_cases e2 : b2 = b
      · subst e2; rw [upd_same] at h2; cases h2
      · rw [upd_ne _ _ _ _ e1] at h1
        rw [upd_ne _ _ _ _ e2] at h2
        exact H.inj _ _ _ _ _ _ _ _ _ h1 h2 h3 h4 h5
/-- A name for a nil slice that is the call's own. -/
theorem HS.virt {c : Cx} {h : Hp} {n : Nat} {μ : Mu} {w : World} (H : HS c h n μ w) (size : Nat) : HS c (upd h n (some ⟨size, [], true⟩)) (n + 1) (upd μ n (some .virt)) w ∧ Ext c h μ w (upd h n (some ⟨size, [], true⟩)) (upd μ n (some .virt)) w := by
  refine H.step (Fr.refl _ _) (fun b2 t hm2 => by rw [upd_ne _ _ _ _ (H.mu_ne hm2)]; exact hm2) (fun b2 hb2 => by rw [upd_ne _ _ _ _ (by omega)]; exact H.mfresh b2 (by omega))
    (fun b2 hb2 => by rw [upd_ne _ _ _ _ (by omega)]; exact H.hfresh b2 (by omega)) ?_ (fun e b2 B2 hB => ?_) ?_
  · rintro q ⟨b2, B2, base2, size2, h1, h2, h3⟩
    by_cases e2 : b2 = n
    · subst e2; rw [upd_same] at h3; cases h3
    · rw [upd_ne _ _ _ _ e2] at h1 h3
      exact .inl ⟨b2, B2, base2, size2, h1, h2, h3⟩
  · by_cases e2 : b2 = n
    · subst e2; rw [upd_same] at hB; cases hB
      exact .inl ⟨by rw [upd_same], rfl⟩
    · rw [upd_ne _ _ _ _ e2] at hB
      exact (H.blk b2 B2 hB).keep e (Nat.le_refl _) fun _ _ _ _ => rfl
  · intro b1 b2 B1 B2 q base1 size1 base2 size2 h1 h2 h3 h4 h5
    by_cases e1 : b1 = n
    · subst e1; rw [upd_same] at h4; cases h4
    · by_cases e2 : b2 = n
      · subst e2; rw [upd_same] at h5; cases h5
      · rw [upd_ne _ _ _ _ e1] at h1 h4
        rw [upd_ne _ _ _ _ e2] at h2 h5
        exact H.inj _ _ _ _ _ _ _ _ _ h1 h2 h3 h4 h5
end Go.Proofs.Ytahgddfnbjpfiaa.Am

/- An abstract machine over values: operations that turn no memory. -/
set_option linter.unusedVariables false
set_option linter.unusedSimpArgs false
namespace Go.Proofs.Ytahgddfnbjpfiaa.Am
open Go Go.RowKit

def szo (P : Program) (T : TypeId) : Option Nat := (P.info? T).map (·.size)
def byo (P : Program) (T : TypeId) : Option Nat := (P.info? T).map (·.bytes)
def zro (P : Program) (T : TypeId) : Option Value := (P.info? T).bind (·.zero)
def aggo (P : Program) (T : TypeId) : Option Bool := (P.underlying T).map fun | .struct _ => true | .array _ _ => true | _ => false
/-- A field: its offset, its cells, is it an aggregate. -/
def fldo (P : Program) (T : TypeId) (f : Nat) : Option (Nat × Nat × Bool) := match P.underlying T with
  | some (.struct fs) => match fs[f]? with
    | some fl => match szo P fl.type, aggo P fl.type with
      | some z, some g => some (fl.offset, z, g)
      | _, _ => none
    | none => none
  | _ => none
/-- A slice's or an array's element: its cells; an array's length. -/
inductive Seq where
  | slice (elem size bytes : Nat)
  | array (len elem size : Nat)
  | str
  | other
def seqo (P : Program) (T : TypeId) : Seq := match P.underlying T with
  | some (.slice e) => match szo P e, byo P e with
    | some z, some b => .slice e z b
    | _, _ => .other
  | some (.array n e) => match szo P e with
    | some z => .array n e z
    | none => .other
  | some .string => .str
  | _ => .other
def into (P : Program) (T : TypeId) : Option IntKind := match P.underlying T with
  | some (.int k) => some k
  | _ => none

section
variable {P : Program} {w : World}
theorem run_size {T : TypeId} {z : Nat} (h : szo P T = some z) : (sizeOf T).run P w = .ok z w := by
  obtain ⟨i, hi, hz⟩ := Option.map_eq_some_iff.1 h
  simp [sizeOf, typeInfo, Sem.run, program, hi, hz]
theorem run_under {T : TypeId} {d : TypeDesc} (h : P.underlying T = some d) : (underlying T).run P w = .ok d w := run_underlying h w
theorem run_isAgg {T : TypeId} {g : Bool} (h : aggo P T = some g) : (isAgg T).run P w = .ok g w := by
  obtain ⟨d, hd, hg⟩ := Option.map_eq_some_iff.1 h
  subst hg
  simp only [isAgg, Sem.run_bind, run_under hd, Result.andThen_ok]
  cases d <;> rfl
end

def cellish : V → Bool
  | .s _ | .sl _ | .cap0 | .pc _ | .ptr .. | .loc .. | .fn .. | .mp _ => true
  | _ => false
def wk : V → V
  | .cap0 => .sl []
  | v => v
def cellOf (x : Value) : V := if flat x then .s x else match x with
  | .slice _ 0 0 => .sl []
  | _ => .any
def ofVal (x : Value) : V := if flat x then .s x else match x with
  | .slice _ 0 0 => .cap0
  | .agg xs => .agg (xs.toList.map cellOf)
  | _ => .any
def ev (t : Nat → V) : Operand → V
  | .tmp i => t i
  | .const v => ofVal v
  | .func f => .fn f []
  | .global g => .glb g

section
variable {fv : Nat → Value} {w : World} {ok : Nat → Prop} {μ : Mu}
theorem Rp.nil (A : Option Addr) (c : Nat) : Rp fv w ok μ (.sl []) (.slice A 0 c) := .sl [] 0 c 0 A (fun _ _ => Go.undef) rfl (Nat.zero_le _) (by simp) (fun h => absurd rfl h) (fun i j h => absurd h (Nat.not_lt_zero _))
theorem Rp.weak {v : V} {x : Value} (h : Rp fv w ok μ v x) : Rp fv w ok μ (Am.wk v) x := by
  cases h with
  | cap0 A => exact Rp.nil A 0
  | undef => exact .undef
  | any x => exact .any x
  | s _ h => exact .s _ h
  | sl rows n c size A g hn hc hs hA hr => exact .sl rows n c size A g hn hc hs hA hr
  | agg cs xs hl h => exact .agg cs xs hl h
  | tup cs xs hl h => exact .tup cs xs hl h
  | pc cells ad g hb hc hr => exact .pc cells ad g hb hc hr
  | ptr b row col k base size h => exact .ptr b row col k base size h
  | loc b off len cap k base size h hc => exact .loc b off len cap k base size h hc
  | loc0 b off A t h => exact .loc0 b off A t h
  | fn f caps xs hl h => exact .fn f caps xs hl h
  | fv k => exact .fv k
  | glb g => exact .glb g
  | mp k => exact .mp k
theorem Rp.cell (x : Value) : Rp fv w ok μ (cellOf x) x := by
  unfold cellOf
  split
  · rename_i h; exact .s x h
  · split
    · exact Rp.nil _ _
    · exact .any _
theorem Rp.val (x : Value) : Rp fv w ok μ (ofVal x) x := by
  unfold ofVal
  split
  · rename_i h; exact .s x h
  · split
    · exact .cap0 _
    · rename_i xs _
      refine .agg _ _ (by simp) fun i hi => ?_
      have hi' : i < xs.size := by simpa using hi
      have h1 : (xs.toList.map cellOf).getD i .undef = cellOf xs[i] := by simp [List.getD_eq_getElem?_getD, hi']
      have h2 : xs.getD i Go.undef = xs[i] := by simp [hi']
      rw [h1, h2]
      exact Rp.cell _
    · exact .any _
theorem Rp.ev {t : Nat → V} {a : Act} (h : ∀ i, Rp fv w ok μ (t i) (a.tmps.getD i Go.undef)) (x : Operand) : Rp fv w ok μ (ev t x) (a.eval x) := by
  cases x with
  | tmp i => exact h i
  | const v => exact Rp.val v
  | global g => exact .glb g
  | func f => exact .fn f [] #[] rfl (fun i hi => absurd hi (Nat.not_lt_zero _))
theorem Rp.part {cs : List V} {xs : Array Value} (hl : xs.size = cs.length) (h : ∀ i, i < cs.length → Rp fv w ok μ (cs.getD i .undef) (xs.getD i Go.undef)) (o n : Nat) (ho : o + n ≤ cs.length) :
    Rp fv w ok μ (.agg ((cs.drop o).take n)) (.agg (xs.extract o (o + n))) := by
  refine .agg _ _ (by simp; omega) fun i hi => ?_
  have hi' : i < n := by simp at hi; omega
  have h1 : ((cs.drop o).take n).getD i .undef = cs.getD (o + i) .undef := by simp [List.getD_eq_getElem?_getD, List.getElem?_drop, hi']
  have h2 : (xs.extract o (o + n)).getD i Go.undef = xs.getD (o + i) Go.undef := by
    simp only [Array.getD_eq_getD_getElem?, Array.getElem?_extract]
    rw [if_pos (by omega)]
  rw [h1, h2]
  exact h _ (by omega)
end

end Go.Proofs.Ytahgddfnbjpfiaa.Am

/- An abstract machine over values: what an operation that turns no memory comes to. -/
set_option linter.unusedVariables false
set_option linter.unusedSimpArgs false
namespace Go.Proofs.Ytahgddfnbjpfiaa.Am
open Go Go.RowKit

def aint (op : BinOp) (k : IntKind) (a b : Int) : Option V :=
  match op with
  | .add => some (.s (.int k (k.wrap (a + b))))
  | .sub => some (.s (.int k (k.wrap (a - b))))
  | .mul => some (.s (.int k (k.wrap (a * b))))
  | .quo => if b = 0 then none else some (.s (.int k (k.wrap (a.tdiv b))))
  | .rem => if b = 0 then none else some (.s (.int k (a.tmod b)))
  | .and => some (.s (.int k (k.wrap (BitVec.ofInt k.bits a &&& BitVec.ofInt k.bits b).toNat)))
  | .or => some (.s (.int k (k.wrap (BitVec.ofInt k.bits a ||| BitVec.ofInt k.bits b).toNat)))
  | .xor => some (.s (.int k (k.wrap (BitVec.ofInt k.bits a ^^^ BitVec.ofInt k.bits b).toNat)))
  | .andNot => some (.s (.int k (k.wrap (BitVec.ofInt k.bits a &&& ~~~(BitVec.ofInt k.bits b)).toNat)))
  | .eql => some (.s (.bool (a == b)))
  | .neq => some (.s (.bool (a != b)))
  | .lss => some (.s (.bool (decide (a < b))))
  | .leq => some (.s (.bool (decide (a ≤ b))))
  | .gtr => some (.s (.bool (decide (a > b))))
  | .geq => some (.s (.bool (decide (a ≥ b))))
  | _ => none
def astr (op : BinOp) (a b : ByteArray) : Option V :=
  match op with
  | .add => if a.size + b.size ≤ 9223372036854775807 then some (.s (.string (a ++ b))) else none
  | .eql => some (.s (.bool (a.toList == b.toList)))
  | .neq => some (.s (.bool (!(a.toList == b.toList))))
  | .lss => some (.s (.bool (Op.bytesLess a.toList b.toList)))
  | .leq => some (.s (.bool (Op.bytesLess a.toList b.toList || a.toList == b.toList)))
  | .gtr => some (.s (.bool (!(Op.bytesLess a.toList b.toList || a.toList == b.toList))))
  | .geq => some (.s (.bool (!Op.bytesLess a.toList b.toList)))
  | _ => none
def ashift (op : BinOp) (k : IntKind) (a b : Int) : Option V :=
  if b < 0 then none else match op with
    | .shl => some (.s (.int k (k.wrap (a * 2 ^ min b.toNat k.bits))))
    | .shr => some (.s (.int k (a.fdiv (2 ^ min b.toNat k.bits))))
    | _ => none
/-- '==' of plain cells. -/
def eqL : List Value → List Value → Option Bool
  | [], [] => some true
  | .int k a :: xs, .int k' b :: ys => if k = k' then (eqL xs ys).map ((a == b) && ·) else none
  | .string a :: xs, .string b :: ys => (eqL xs ys).map ((a.toList == b.toList) && ·)
  | .bool a :: xs, .bool b :: ys => (eqL xs ys).map ((a == b) && ·)
  | _, _ => none
/-- A list of cells of the kinds that a zero value has. -/
def fit1 : Value → Value → Bool
  | .int k _, .int k' _ => if k = k' then true else false
  | .string _, .string _ => true
  | .bool _, .bool _ => true
  | _, _ => false
def fits : List Value → List Value → Bool
  | [], [] => true
  | z :: zs, x :: xs => fit1 z x && fits zs xs
  | _, _ => false
def sOf : V → Option Value
  | .s v => some v
  | _ => none
def allS : List V → Option (List Value)
  | [] => some []
  | .s v :: l => (allS l).map (v :: ·)
  | _ => none
def isBoolT (P : Program) (T : TypeId) : Bool := match P.underlying T with
  | some .bool => true
  | _ => false
def aeq (P : Program) (plain : TypeId → Bool) (T : TypeId) (x y : V) : Option Bool :=
  match x, y with
  | .s (.bool a), .s (.bool b) => if isBoolT P T then some (a == b) else none
  | .agg xs, .agg ys => if plain T then match allS xs, allS ys, zro P T with
      | some X, some Y, some (.agg zs) => if (fits zs.toList X && fits zs.toList Y) = true then eqL X Y else none
      | _, _, _ => none
    else none
  | _, _ => none
def abin (P : Program) (plain : TypeId → Bool) (op : BinOp) (T : TypeId) (x y : V) : Option V :=
  match op, x, y with
  | .shl, .s (.int k a), .s (.int _ b) => ashift .shl k a b
  | .shr, .s (.int k a), .s (.int _ b) => ashift .shr k a b
  | op, .s (.int k a), .s (.int k' b) => if k = k' then aint op k a b else none
  | op, .s (.string a), .s (.string b) => astr op a b
  | .eql, x, y => (aeq P plain T x y).map fun b => .s (.bool b)
  | .neq, x, y => (aeq P plain T x y).map fun b => .s (.bool !b)
  | _, _, _ => none
def aun (op : UnOp) (x : V) : Option V :=
  match op, x with
  | .neg, .s (.int k n) => some (.s (.int k (k.wrap (0 - n))))
  | .xor, .s (.int k n) => some (.s (.int k (k.wrap (BitVec.ofInt k.bits (if k.signed then -1 else k.max) ^^^ BitVec.ofInt k.bits n).toNat)))
  | .not, .s (.bool b) => some (.s (.bool !b))
  | _, _ => none

/-- Plain struct types: '==' of two of them is '==' of their cells. -/
structure PlainOk (P : Program) (plain : TypeId → Bool) : Prop where
  eq : ∀ T, plain T = true → ∀ zs X Y b, zro P T = some (.agg zs) → fits zs.toList X = true → fits zs.toList Y = true → eqL X Y = some b → ∀ w, (Op.equal T (.agg X.toArray) (.agg Y.toArray)).run P w = .ok b w
  guard : ∀ T, plain T = true → P.eqGuardType P.depth T = false

section
variable {P : Program} {w : World}
theorem run_aint {op : BinOp} {k : IntKind} {a b : Int} {v : V} (h : aint op k a b = some v) (T : TypeId) : ∃ x, v = .s x ∧ flat x = true ∧ (binOp op T (.int k a) (.int k b)).run P w = .ok x w := by
  cases op <;> simp only [aint, Option.some.injEq, reduceCtorEq] at h
  case quo =>
    split at h
    · cases h
    · rename_i hb; cases h
      exact ⟨_, rfl, rfl, by simp [binOp, Op.intDiv, hb, Sem.run, pure]⟩
  case rem =>
    split at h
    · cases h
    · rename_i hb; cases h
      exact ⟨_, rfl, rfl, by simp [binOp, Op.intDiv, hb, Sem.run, pure]⟩
  all_goals
    subst h
    exact ⟨_, rfl, rfl, by simp [binOp, Op.intArith, Op.intBits, Op.intCmp, Sem.run, pure]⟩
theorem run_astr {op : BinOp} {a b : ByteArray} {v : V} (h : astr op a b = some v) (T : TypeId) : ∃ x, v = .s x ∧ flat x = true ∧ (binOp op T (.string a) (.string b)).run P w = .ok x w := by
  cases op <;> simp only [astr, Option.some.injEq, reduceCtorEq] at h
  case add =>
    split at h
    · rename_i hb; cases h
      refine ⟨_, rfl, rfl, ?_⟩
      have hm : ¬ ((a.size + b.size : Nat) : Int) > IntKind.i64.max := by simp [IntKind.max, IntKind.signed, IntKind.bits]; omega
      simp only [binOp, Op.stringOp, if_neg hm]
      simp [Sem.run, pure]
    · cases h
  all_goals
    subst h
    exact ⟨_, rfl, rfl, by simp [binOp, Op.stringOp, Sem.run, pure]⟩
theorem run_ashift {op : BinOp} {k k' : IntKind} {a b : Int} {v : V} (h : ashift op k a b = some v) (T : TypeId) : ∃ x, v = .s x ∧ flat x = true ∧ (binOp op T (.int k a) (.int k' b)).run P w = .ok x w := by
  unfold ashift at h
  split at h
  · cases h
  · rename_i hb
    cases op <;> simp only [Option.some.injEq, reduceCtorEq] at h <;> subst h <;> exact ⟨_, rfl, rfl, by simp [binOp, Op.shift, hb, Sem.run, pure]⟩
theorem run_aun {op : UnOp} {x : Value} {v : V} (h : aun op (.s x) = some v) : ∃ y, v = .s y ∧ flat y = true ∧ (Op.unary op x).run P w = .ok y w := by
  cases op <;> cases x <;> simp only [aun, Option.some.injEq, reduceCtorEq] at h <;> subst h <;> exact ⟨_, rfl, rfl, by simp [Op.unary, Op.intArith, Op.intBits, Sem.run, pure]⟩
end

section
variable {fv : Nat → Value} {w : World} {ok : Nat → Prop} {μ : Mu}
theorem Rp.s_eq {v x : Value} (h : Rp fv w ok μ (.s v) x) : x = v ∧ flat v = true := by cases h with | s _ h => exact ⟨rfl, h⟩
theorem allS_eq : ∀ {cs : List V} {X : List Value}, allS cs = some X → cs = X.map .s
  | [], X, h => by simp [allS] at h; subst h; rfl
  | .s v :: l, X, h => by
    simp only [allS, Option.map_eq_some_iff] at h
    obtain ⟨X', h1, rfl⟩ := h
    rw [allS_eq h1]; rfl
  | .undef :: l, X, h => by simp [allS] at h
  | .any :: l, X, h => by simp [allS] at h
  | .sl _ :: l, X, h => by simp [allS] at h
  | .cap0 :: l, X, h => by simp [allS] at h
  | .agg _ :: l, X, h => by simp [allS] at h
  | .tup _ :: l, X, h => by simp [allS] at h
  | .pc _ :: l, X, h => by simp [allS] at h
  | .ptr .. :: l, X, h => by simp [allS] at h
  | .loc .. :: l, X, h => by simp [allS] at h
  | .fn .. :: l, X, h => by simp [allS] at h
  | .fv _ :: l, X, h => by simp [allS] at h
  | .own .. :: l, X, h => by simp [allS] at h
  | .glb _ :: l, X, h => by simp [allS] at h
  | .mp _ :: l, X, h => by simp [allS] at h
theorem Rp.agg_plain {X : List Value} {x : Value} (h : Rp fv w ok μ (.agg (X.map .s)) x) : x = .agg X.toArray := by
  cases h with
  | agg _ xs hl h =>
    congr 1
    apply Array.ext
    · simpa using hl
    · intro i h1 h2
      have h2' : i < X.length := by simpa using h2
      have h3 := h i (by simpa using h2')
      have h4 : (X.map V.s).getD i .undef = .s X[i] := by simp [List.getD_eq_getElem?_getD, h2']
      rw [h4] at h3
      have := h3.s_eq.1
      simpa [h1] using this
theorem run_guard_plain {P : Program} {plain : TypeId → Bool} (hp : PlainOk P plain) {op : BinOp} {T : TypeId} {x y : Operand} {X Y : Array Value} (h : plain T = true) :
    (eqGuard op T x y (.agg X) (.agg Y)).run P w = .ok () w := by
  unfold eqGuard
  cases op <;> simp [Sem.run, pure, program, hp.guard T h, bind, Sem.bind]
theorem run_guard_s {P : Program} {op : BinOp} {T : TypeId} {x y : Operand} {a b : Value} (ha : ∀ X, a ≠ .agg X) (hb : a ≠ .nilIface) :
    (eqGuard op T x y a b).run P w = .ok () w := by
  unfold eqGuard
  cases op <;> simp [Sem.run, pure] <;> split <;> simp_all [Sem.run, pure]
theorem run_abin {P : Program} {plain : TypeId → Bool} (hp : PlainOk P plain) {op : BinOp} {T : TypeId} {x y : V} {a b : Value} {v : V} (hx : Rp fv w ok μ x a) (hy : Rp fv w ok μ y b) (h : abin P plain op T x y = some v) (xo yo : Operand) :
    ∃ z, v = .s z ∧ flat z = true ∧ (do eqGuard op T xo yo a b; binOp op T a b : Sem Value).run P w = .ok z w := by
  have key : ∀ {u : V}, aeq P plain T x y = (match u with | .s (.bool q) => some q | _ => none) → (∃ q, u = .s (.bool q)) → ∃ q, u = .s (.bool q) ∧ (eqGuard op T xo yo a b).run P w = .ok () w ∧ (Op.equal T a b).run P w = .ok q w ∧ (∀ k n, a ≠ .int k n) ∧ (∀ s, a ≠ .string s) ∧ (∀ k n, a ≠ .float k n) ∧ (∀ k n m, a ≠ .complex k n m) ∧ (∀ p, a ≠ .pointer p) := by
    rintro u hq ⟨q, rfl⟩
    refine ⟨q, rfl, ?_⟩
    simp only at hq
    unfold aeq at hq
    split at hq
    · split at hq
      · rename_i p r hT
        cases hq
        obtain ⟨rfl, _⟩ := hx.s_eq
        obtain ⟨rfl, _⟩ := hy.s_eq
        refine ⟨run_guard_s (by simp) (by simp), ?_, by simp, by simp, by simp, by simp, by simp⟩
        have hu : P.underlying T = some .bool := by unfold isBoolT at hT; split at hT <;> simp_all
        show (Op.equalIn (9999 + 1) T _ _).run P w = _
        generalize 9999 = dd
        simp [Op.equalIn, run_under hu, Sem.run, pure]
      · cases hq
    · split at hq
      · rename_i xs ys hT
        split at hq
        · rename_i X Y zs hX hY hZ
          split at hq
          case isFalse => cases hq
          rename_i hft
          simp only [Bool.and_eq_true] at hft
          rw [allS_eq hX] at hx
          rw [allS_eq hY] at hy
          obtain rfl := hx.agg_plain
          obtain rfl := hy.agg_plain
          exact ⟨run_guard_plain hp hT, hp.eq T hT zs X Y q hZ hft.1 hft.2 hq w, by simp, by simp, by simp, by simp, by simp⟩
        · cases hq
      · cases hq
    · cases hq
  unfold abin at h
  split at h
  · obtain ⟨rfl, _⟩ := hx.s_eq
    obtain ⟨rfl, _⟩ := hy.s_eq
    obtain ⟨z, h1, h2, h3⟩ := run_ashift (P := P) (w := w) (k' := ‹IntKind›) h T
    exact ⟨z, h1, h2, by simp [run_guard_s (P := P) (w := w) (op := .shl) (T := T) (x := xo) (y := yo) (a := .int _ _) (b := .int _ _), h3]⟩
  · obtain ⟨rfl, _⟩ := hx.s_eq
    obtain ⟨rfl, _⟩ := hy.s_eq
    obtain ⟨z, h1, h2, h3⟩ := run_ashift (P := P) (w := w) (k' := ‹IntKind›) h T
    exact ⟨z, h1, h2, by simp [run_guard_s (P := P) (w := w) (op := .shr) (T := T) (x := xo) (y := yo) (a := .int _ _) (b := .int _ _), h3]⟩
  · split at h
    · rename_i hk
      subst hk
      obtain ⟨rfl, _⟩ := hx.s_eq
      obtain ⟨rfl, _⟩ := hy.s_eq
      obtain ⟨z, h1, h2, h3⟩ := run_aint (P := P) (w := w) h T
      exact ⟨z, h1, h2, by simp [run_guard_s (P := P) (w := w) (T := T) (x := xo) (y := yo) (a := .int _ _) (b := .int _ _), h3]⟩
    · cases h
  · obtain ⟨rfl, _⟩ := hx.s_eq
    obtain ⟨rfl, _⟩ := hy.s_eq
    obtain ⟨z, h1, h2, h3⟩ := run_astr (P := P) (w := w) h T
    exact ⟨z, h1, h2, by simp [run_guard_s (P := P) (w := w) (T := T) (x := xo) (y := yo) (a := .string _) (b := .string _), h3]⟩
  · simp only [Option.map_eq_some_iff] at h
    obtain ⟨q, hq, rfl⟩ := h
    obtain ⟨q', he, h1, h2, n1, n2, n3, n4, n5⟩ := key (u := .s (.bool q)) (by simpa using hq) ⟨q, rfl⟩
    cases he
    refine ⟨_, rfl, rfl, ?_⟩
    simp only [Sem.run_bind, h1, Result.andThen_ok]
    unfold binOp
    split <;> simp_all [Sem.run, pure]
  · simp only [Option.map_eq_some_iff] at h
    obtain ⟨q, hq, rfl⟩ := h
    obtain ⟨q', he, h1, h2, n1, n2, n3, n4, n5⟩ := key (u := .s (.bool q)) (by simpa using hq) ⟨q, rfl⟩
    cases he
    refine ⟨_, rfl, rfl, ?_⟩
    simp only [Sem.run_bind, h1, Result.andThen_ok]
    unfold binOp
    split <;> simp_all [Sem.run, pure]
  · cases h
end
end Go.Proofs.Ytahgddfnbjpfiaa.Am

/- An abstract machine over values: operations on their operands' values. -/
set_option linter.unusedVariables false
set_option linter.unusedSimpArgs false
namespace Go.Proofs.Ytahgddfnbjpfiaa.Am
open Go Go.RowKit

def byteAt (s : ByteArray) (i : Nat) : UInt8 := s.data.toList.getD i 0
def asN : V → Option Nat
  | .s (.int _ n) => if 0 ≤ n then some n.toNat else none
  | _ => none
/-- A value's cells, where it is one that can be stored. -/
def cellsV : V → Option (List V)
  | .agg cs => some cs
  | v => if cellish v then some [v] else none
def setAt (row : List V) (col : Nat) (cs : List V) : List V := row.take col ++ cs ++ row.drop (col + cs.length)
def cellsZ : Value → List V
  | .agg xs => xs.toList.map cellOf
  | v => [ofVal v]
def afill (pl : Nat → Option (Nat × Nat)) : List V → List (Nat × V) → Option (List V)
  | cs, [] => some cs
  | cs, (i, v) :: r => match pl i, cellsV v with
    | some (o, z), some vs => if vs.length = z ∧ o + z ≤ cs.length then afill pl (setAt cs o (vs.map wk)) r else none
    | _, _ => none
def aload (P : Program) (h : Hp) (T : TypeId) (p : V) : Option V :=
  match aggo P T, szo P T with
  | some g, some z => match p with
    | .pc cs => if g then (if z ≤ cs.length then some (.agg (cs.take z)) else none) else (if 0 < cs.length then some (cs.getD 0 .undef) else none)
    | .ptr b r k => match h b with
      | some B => if g then (if r < B.rows.length ∧ k + z ≤ B.size then some (.agg (((B.rows.getD r []).drop k).take z)) else none)
          else (if r < B.rows.length ∧ k < B.size then some (cellAt B.rows r k) else none)
      | none => none
    | .glb q => match gtab P q with
      | some vs => if g then (if z ≤ vs.length then some (.agg ((vs.take z).map .s)) else none) else (if 0 < vs.length then some (.s (vs.getD 0 Go.undef)) else none)
      | none => none
    | _ => none
  | _, _ => none
def bnd (v : Option V) (d : Nat) : Option Nat := match v with
  | none => some d
  | some v => asN v
def aslice (P : Program) (h : Hp) (T : TypeId) (x : V) (lo hi mx : Option V) : Option V :=
  match seqo P T, x, mx with
  | .str, .s (.string s), none => match bnd lo 0, bnd hi s.size with
    | some l, some r => if l ≤ r ∧ r ≤ s.size then some (.s (.string (s.extract l r))) else none
    | _, _ => none
  | .slice _ z _, .sl rows, none => match bnd lo 0, bnd hi rows.length with
    | some l, some r => if l ≤ r ∧ r ≤ rows.length ∧ (∀ q ∈ rows, q.length = z) then some (.sl ((rows.drop l).take (r - l))) else none
    | _, _ => none
  | .slice _ z _, .sl rows, some mx => match bnd lo 0, bnd hi rows.length, asN mx with
    | some l, some r, some m => if l ≤ r ∧ r ≤ m ∧ m ≤ rows.length ∧ hi.isSome ∧ (∀ q ∈ rows, q.length = z) then (if l = m then some .cap0 else some (.sl ((rows.drop l).take (r - l)))) else none
    | _, _, _ => none
  | .slice _ _ _, .cap0, none => match bnd lo 0, bnd hi 0 with
    | some 0, some 0 => some .cap0
    | _, _ => none
  | .slice _ z _, .loc b off len cap, mx => match bnd lo 0, bnd hi len, bnd mx cap with
    | some l, some r, some m => match h b with
      | some B => if l ≤ r ∧ r ≤ m ∧ m ≤ cap ∧ (hi.isSome ∨ mx.isNone) ∧ B.size = z then some (.loc b (off + l) (r - l) (m - l)) else none
      | none => none
    | _, _, _ => none
  | _, _, _ => none
def afield (P : Program) (S : TypeId) (x : V) (f : Nat) : Option V :=
  match fldo P S f, x with
  | some (o, z, g), .agg cs => if g then (if o + z ≤ cs.length then some (.agg ((cs.drop o).take z)) else none) else (if o < cs.length then some (cs.getD o .undef) else none)
  | _, _ => none
def afieldAddr (P : Program) (S : TypeId) (x : V) (f : Nat) : Option V :=
  match fldo P S f with
  | some (o, z, _) => if z = 0 then none else match x with
    | .ptr b r k => some (.ptr b r (k + o))
    | .pc cs => if o < cs.length then some (.pc (cs.drop o)) else none
    | _ => none
  | none => none
def aindexAddr (P : Program) (h : Hp) (T : TypeId) (x ix : V) : Option V :=
  match seqo P T, asN ix with
  | .slice _ z _, some i => match x with
    | .sl rows => if i < rows.length ∧ 0 < z ∧ (∀ r ∈ rows, r.length = z) then some (.pc (rows.getD i [])) else none
    | .loc b off len cap => match h b with
      | some B => if i < len ∧ B.size = z then some (.ptr b (off + i) 0) else none
      | none => none
    | _ => none
  | .array n _ z, some i => if i < n ∧ 0 < z then (match x with
    | .ptr b r k => some (.ptr b r (k + i * z))
    | .pc cs => if i * z < cs.length then some (.pc (cs.drop (i * z))) else none
    | _ => none) else none
  | _, _ => none
def aindex (P : Program) (T : TypeId) (x ix : V) : Option V :=
  match seqo P T, x, asN ix with
  | .str, .s (.string s), some i => if i < s.size then some (.s (.int .u8 (byteAt s i).toNat)) else none
  | .array n e z, .agg cs, some i => match aggo P e with
    | some true => if i < n ∧ i * z + z ≤ cs.length then some (.agg ((cs.drop (i * z)).take z)) else none
    | some false => if i < n ∧ i * z < cs.length then some (cs.getD (i * z) .undef) else none
    | none => none
  | _, _, _ => none
/-- Where the parts of a struct or of an array lie. -/
inductive Pl where
  | fields (l : List (Nat × Nat))
  | elems (size : Nat)
  | other
def plc (P : Program) (T : TypeId) : Pl := match P.underlying T with
  | some (.struct fs) => match fs.toList.mapM (fun f => (P.info? f.type).map fun i => (f.offset, i.size)) with
    | some l => .fields l
    | none => .other
  | some (.array _ e) => match P.info? e with
    | some ie => .elems ie.size
    | none => .other
  | _ => .other
def abuild (P : Program) (e : Operand → V) (T : TypeId) (parts : List (Nat × Operand)) : Option V :=
  match zro P T, plc P T with
  | some z, .fields l => (afill (fun i => l[i]?) (cellsZ z) (parts.map fun q => (q.1, e q.2))).map .agg
  | some z, .elems sz => (afill (fun i => some (i * sz, sz)) (cellsZ z) (parts.map fun q => (q.1, e q.2))).map .agg
  | _, _ => none
def alen (P : Program) (T : TypeId) (x : V) : Option V :=
  match seqo P T, x with
  | .str, .s (.string s) => some (.s (.int .i64 s.size))
  | .slice _ _ _, .sl rows => some (.s (.int .i64 rows.length))
  | .slice _ _ _, .loc _ _ n _ => some (.s (.int .i64 n))
  | .slice _ _ _, .cap0 => some (.s (.int .i64 0))
  | .array n _ _, _ => some (.s (.int .i64 n))
  | _, _ => none
def acap (P : Program) (T : TypeId) (x : V) : Option V :=
  match seqo P T, x with
  | .slice _ _ _, .loc _ _ _ n => some (.s (.int .i64 n))
  | .slice _ _ _, .cap0 => some (.s (.int .i64 0))
  | _, _ => none
def amin : List V → Option V
  | [.s (.int k x), .s (.int k' y)] => if k = k' then some (.s (.int k (if y < x then y else x))) else none
  | _ => none
def amax : List V → Option V
  | [.s (.int k x), .s (.int k' y)] => if k = k' then some (.s (.int k (if x < y then y else x))) else none
  | _ => none
/-- The rows of a slice. -/
def rowsOf (h : Hp) : V → Option (List (List V))
  | .sl rows => some rows
  | .cap0 => some []
  | .loc b off len _ => match h b with
    | some B => if off + len ≤ B.rows.length then some ((B.rows.drop off).take len) else none
    | none => none
  | _ => none
def bytesOf : List (List V) → Option (List Int)
  | [] => some []
  | [.s (.int .u8 n)] :: l => (bytesOf l).map (n :: ·)
  | _ => none
def strOf (l : List Int) : ByteArray := ⟨(l.map fun n => UInt8.ofNat n.toNat).toArray⟩
def aconv (P : Program) (h : Hp) (src dst : TypeId) (x : V) : Option V :=
  match P.underlying src, P.underlying dst, x with
  | some _, some (.int k), .s (.int _ n) => some (.s (.int k (k.wrap n)))
  | some .string, some .string, .s (.string b) => some (.s (.string b))
  | some (.slice e), some .string, x => match P.underlying e, rowsOf h x with
    | some (.int .u8), some rows => (bytesOf rows).map fun l => .s (.string (strOf l))
    | _, _ => none
  | _, _, _ => none

def pval (P : Program) (plain : TypeId → Bool) (h : Hp) (e : Operand → V) : Op → Option V
  | .move x | .assign x => some (e x)
  | .pick c a b => match e c with
    | .s (.bool t) => some (if t then e a else e b)
    | _ => none
  | .load T a => aload P h T (e a)
  | .nilCheck x => match e x with
    | .ptr b r k => some (.ptr b r k)
    | .pc cs => some (.pc cs)
    | .fn f cs => some (.fn f cs)
    | _ => none
  | .binOp op T x y _ => abin P plain op T (e x) (e y)
  | .unOp op _ x => aun op (e x)
  | .convert src dst x => aconv P h src dst (e x)
  | .slice T x lo hi mx => aslice P h T (e x) (lo.map e) (hi.map e) (mx.map e)
  | .field T x f => afield P T (e x) f
  | .fieldAddr T x f => afieldAddr P T (e x) f
  | .indexAddr T x i => aindexAddr P h T (e x) (e i)
  | .index T x i => aindex P T (e x) (e i)
  | .extract x i => match e x with
    | .tup vs => vs[i]?
    | _ => none
  | .makeFunc fn first caps => match fn with
    | .func f => if first = #[] then some (.fn f (caps.toList.map e)) else none
    | _ => none
  | .build T parts => abuild P e T parts.toList
  | .call cl => match cl.callee with
    | .builtin .len => match cl.args.toList, cl.argTypes.toList with
      | [x], [T] => alen P T (e x)
      | _, _ => none
    | .builtin .cap => match cl.args.toList, cl.argTypes.toList with
      | [x], [T] => acap P T (e x)
      | _, _ => none
    | .builtin .min => amin (cl.args.toList.map e)
    | .builtin .max => amax (cl.args.toList.map e)
    | _ => none
  | _ => none
end Go.Proofs.Ytahgddfnbjpfiaa.Am

/- An abstract machine over values: the operations that turn no memory are right. -/
set_option linter.unusedVariables false
set_option linter.unusedSimpArgs false
namespace Go.Proofs.Ytahgddfnbjpfiaa.Am
open Go Go.RowKit

section
variable {fv : Nat → Value} {w : World} {ok : Nat → Prop} {μ : Mu}
theorem Rp.pc_inv {cs : List V} {x : Value} (h : Rp fv w ok μ (.pc cs) x) : ∃ (ad : Addr) (g : Nat → Value), x = .pointer (some ad) ∧ ok ad.block ∧ (∀ j, j < cs.length → w.cell? (ad.add j) = some (g j)) ∧ ∀ j, j < cs.length → Dp w ok (cs.getD j .undef) (g j) := by
  cases h with | pc _ ad g hb hc hr => exact ⟨ad, g, rfl, hb, hc, hr⟩
theorem Rp.ptr_inv {b r k : Nat} {x : Value} (h : Rp fv w ok μ (.ptr b r k) x) : ∃ q base size, μ b = some (.real q base size) ∧ x = .pointer (some ⟨q, base + (r * size + k), none⟩) := by
  cases h with | ptr _ _ _ q base size h => exact ⟨q, base, size, h, rfl⟩
theorem Rp.agg_inv {cs : List V} {x : Value} (h : Rp fv w ok μ (.agg cs) x) : ∃ xs : Array Value, x = .agg xs ∧ xs.size = cs.length ∧ ∀ i, i < cs.length → Rp fv w ok μ (cs.getD i .undef) (xs.getD i Go.undef) := by
  cases h with | agg _ xs hl h => exact ⟨xs, rfl, hl, h⟩
theorem Rp.tup_inv {cs : List V} {x : Value} (h : Rp fv w ok μ (.tup cs) x) : ∃ xs : Array Value, x = .tuple xs ∧ xs.size = cs.length ∧ ∀ i, i < cs.length → Rp fv w ok μ (cs.getD i .undef) (xs.getD i Go.undef) := by
  cases h with | tup _ xs hl h => exact ⟨xs, rfl, hl, h⟩
theorem Rp.fn_inv {f : Nat} {cs : List V} {x : Value} (h : Rp fv w ok μ (.fn f cs) x) : ∃ xs : Array Value, x = .func (.func f) #[] xs ∧ xs.size = cs.length ∧ ∀ i, i < cs.length → Rp fv w ok μ (cs.getD i .undef) (xs.getD i Go.undef) := by
  cases h with | fn _ _ xs hl h => exact ⟨xs, rfl, hl, h⟩
theorem Rp.sl_inv {rows : List (List V)} {x : Value} (h : Rp fv w ok μ (.sl rows) x) : ∃ (c size : Nat) (A : Option Addr) (g : Nat → Nat → Value), x = .slice A rows.length c ∧ rows.length ≤ c ∧ (∀ r ∈ rows, r.length = size) ∧
    (rows.length ≠ 0 → ∃ ad : Addr, A = some ad ∧ ok ad.block ∧ ∀ i j, i < rows.length → j < size → w.cell? (ad.add (i * size + j)) = some (g i j)) ∧ ∀ i j, i < rows.length → j < size → Dp w ok (cellAt rows i j) (g i j) := by
  cases h with | sl _ n c size A g hn hc hs hA hr => subst hn; exact ⟨c, size, A, g, rfl, hc, hs, hA, hr⟩
theorem Rp.loc_inv {b off len cap : Nat} {x : Value} (h : Rp fv w ok μ (.loc b off len cap) x) : len ≤ cap ∧ ((∃ k base size, μ b = some (.real k base size) ∧ x = .slice (some ⟨k, base + off * size, none⟩) len cap) ∨ (len = 0 ∧ cap = 0 ∧ ∃ A t, μ b = some t ∧ x = .slice A 0 0)) := by
  cases h with
  | loc _ _ _ _ k base size h hc => exact ⟨hc, .inl ⟨k, base, size, h, rfl⟩⟩
  | loc0 _ _ A t h => exact ⟨Nat.le_refl _, .inr ⟨rfl, rfl, A, t, h, rfl⟩⟩
theorem Rp.cap0_inv {x : Value} (h : Rp fv w ok μ .cap0 x) : ∃ A, x = .slice A 0 0 := by cases h with | cap0 A => exact ⟨A, rfl⟩
theorem Rp.asN_eq {v : V} {x : Value} {n : Nat} (h : Rp fv w ok μ v x) (hn : asN v = some n) : ∃ k, x = .int k n := by
  unfold asN at hn
  split at hn
  · split at hn
    · rename_i k m h0
      cases hn
      obtain ⟨rfl, _⟩ := h.s_eq
      exact ⟨k, by congr 1; omega⟩
    · cases hn
  · cases hn
end

theorem run_getInt {P : Program} {w : World} {k : IntKind} {n : Int} : (asIntOf (.int k n)).run P w = .ok (k, n) w := by simp [asIntOf, Sem.run, pure]

section
variable {c : Cx} {h : Hp} {n : Nat} {μ : Mu} {w : World}
/-- The cells behind a pointer into a block of one's own. -/
theorem HS.at (H : HS c h n μ w) {b : Nat} {B : Blk} {q base size r j : Nat} (hb : h b = some B) (hm : μ b = some (.real q base size)) (hr : r < B.rows.length) (hj : j < B.size) :
    size = B.size ∧ ∃ x, w.cell? ⟨q, base + (r * B.size + j), none⟩ = some x ∧ (∀ o, (B.size ≠ 1 ∨ o = base + (r * B.size + j)) → w.frozen? ⟨q, o, none⟩ = false) ∧ R c h μ w (cellAt B.rows r j) x := by
  rcases H.blk b B hb with ⟨h1, h2⟩ | ⟨k, base', h1, h2, h3, h4, h5⟩
  · rw [h2] at hr; exact absurd hr (Nat.not_lt_zero _)
  · rw [hm] at h1
    cases h1
    exact ⟨rfl, h5 r j hr hj⟩

theorem load_sound (H : HS c h n μ w) {T : TypeId} {p v : V} {x : Value} (hp : R c h μ w p x) (hv : aload c.P h T p = some v) : ∃ y, (Instr.loadAt T x).run c.P w = .ok y w ∧ R c h μ w v y := by
  unfold aload at hv
  split at hv
  · rename_i g z hg hz
    split at hv
    · rename_i cs
      obtain ⟨ad, f, rfl, hok, hc, hr⟩ := hp.pc_inv
      cases g with
      | true =>
        simp only [if_true] at hv
        split at hv
        · rename_i hl
          cases hv
          refine ⟨.agg ((List.range z).map f).toArray, ?_, ?_⟩
          · simp [Instr.loadAt, Instr.sureAddr, loadVar, run_isAgg hg, run_size hz, run_loadCells w ad z f (fun j hj => hc j (by omega)), Sem.run, pure]
          · refine .agg _ _ (by simp; omega) fun i hi => ?_
            have hi' : i < z := by simp at hi; omega
            have h1 : (cs.take z).getD i .undef = cs.getD i .undef := by simp [List.getD_eq_getElem?_getD, List.getElem?_take, hi']
            rw [h1]
            have := (hr i (by omega)).R (fvals := c.fvals) (μ := μ)
            simpa [hi'] using this
        · cases hv
      | false =>
        simp only [Bool.false_eq_true, if_false] at hv
        split at hv
        · rename_i hl
          cases hv
          refine ⟨f 0, ?_, (hr 0 hl).R⟩
          have h0 := hc 0 hl
          have ha : ad.add 0 = ad := by simp [Addr.add]
          rw [ha] at h0
          simp [Instr.loadAt, Instr.sureAddr, loadVar, run_isAgg hg, run_load, h0, Sem.run, pure]
        · cases hv
    · rename_i b r k
      obtain ⟨q, base, size, hm, rfl⟩ := hp.ptr_inv
      split at hv
      · rename_i B hb
        cases g with
        | true =>
          simp only [if_true] at hv
          split at hv
          · rename_i hl
            cases hv
            by_cases hz0 : B.size = 0
            · have hz' : z = 0 := by omega
              subst hz'
              refine ⟨.agg #[], ?_, by simpa using (Rp.agg [] #[] rfl (fun i hi => absurd hi (Nat.not_lt_zero _)))⟩
              have := run_loadCells (P := c.P) w ⟨q, base + (r * size + k), none⟩ 0 (fun _ => Go.undef) (fun j hj => absurd hj (Nat.not_lt_zero _))
              simp at this
              simp [Instr.loadAt, Instr.sureAddr, loadVar, run_isAgg hg, run_size hz, this, Sem.run, pure]
            · obtain ⟨hs, _⟩ := H.at hb hm hl.1 (show 0 < B.size by omega)
              subst hs
              have hcell : ∀ j, ∃ x, j < z → w.cell? ⟨q, base + (r * B.size + k) + j, none⟩ = some x ∧ R c h μ w (cellAt B.rows r (k + j)) x := by
                intro j
                by_cases hj : j < z
                · obtain ⟨_, x, h1, _, h3⟩ := H.at hb hm hl.1 (show k + j < B.size by omega)
                  exact ⟨x, fun _ => ⟨by rw [show base + (r * B.size + k) + j = base + (r * B.size + (k + j)) by omega]; exact h1, h3⟩⟩
                · exact ⟨Go.undef, fun h => absurd h hj⟩
              obtain ⟨f, hf⟩ := Classical.axiomOfChoice hcell
              refine ⟨.agg ((List.range z).map f).toArray, ?_, ?_⟩
              · have := run_loadCells (P := c.P) w ⟨q, base + (r * B.size + k), none⟩ z f (fun j hj => by rw [add_plain]; exact (hf j hj).1)
                simp [Instr.loadAt, Instr.sureAddr, loadVar, run_isAgg hg, run_size hz, this, Sem.run, pure]
              · have hlen : (B.rows.getD r []).length = B.size := by
                  rcases H.blk b B hb with ⟨h1, h2⟩ | ⟨k', base', h1, h2, h3, h4, h5⟩
                  · rw [hm] at h1; cases h1
                  · exact h4 _ (by rw [List.getD_eq_getElem?_getD, List.getElem?_eq_getElem hl.1]; exact List.getElem_mem _)
                refine .agg _ _ (by simp only [List.length_take, List.length_drop, hlen, List.size_toArray, List.length_map, List.length_range]; omega) fun i hi => ?_
                have hi' : i < z := by simp at hi; omega
                have h1 : (((B.rows.getD r []).drop k).take z).getD i .undef = cellAt B.rows r (k + i) := by simp [cellAt, List.getD_eq_getElem?_getD, List.getElem?_take, hi', List.getElem?_drop]
                rw [h1]
                simpa [hi'] using (hf i hi').2
          · cases hv
        | false =>
          simp only [Bool.false_eq_true, if_false] at hv
          split at hv
          · rename_i hl
            cases hv
            obtain ⟨hs, x, h1, _, h3⟩ := H.at hb hm hl.1 hl.2
            subst hs
            exact ⟨x, by simp [Instr.loadAt, Instr.sureAddr, loadVar, run_isAgg hg, run_load, h1, Sem.run, pure], h3⟩
          · cases hv
      · cases hv
    · rename_i q
      obtain rfl : x = .pointer (some ⟨q, 0, none⟩) := by cases hp; rfl
      split at hv
      · rename_i vs hvs
        obtain ⟨hfl, hcell⟩ := (c.inv w H.fr).2 q vs hvs
        have hD : ∀ j, j < vs.length → flat (vs.getD j Go.undef) = true := fun j hj => by
          have h1 : vs.getD j Go.undef = vs[j] := by simp [List.getD_eq_getElem?_getD, hj]
          rw [h1]; exact hfl _ (List.getElem_mem hj)
        cases g with
        | true =>
          simp only [if_true] at hv
          split at hv
          · rename_i hl
            cases hv
            refine ⟨.agg ((List.range z).map fun j => vs.getD j Go.undef).toArray, ?_, ?_⟩
            · simp [Instr.loadAt, Instr.sureAddr, loadVar, run_isAgg hg, run_size hz, run_loadCells w ⟨q, 0, none⟩ z (fun j => vs.getD j Go.undef) (fun j hj => by rw [add_plain, Nat.zero_add]; exact hcell j (by omega)), Sem.run, pure]
            · refine .agg _ _ (by simp; omega) fun i hi => ?_
              have hi' : i < z := by simp at hi; omega
              have hi2 : i < vs.length := by omega
              have h1 : ((vs.take z).map V.s).getD i .undef = .s (vs.getD i Go.undef) := by simp [List.getD_eq_getElem?_getD, List.getElem?_take, hi', hi2]
              rw [h1]
              have := Rp.s (fvals := c.fvals) (w := w) (ok := okB c h μ w) (μ := μ) _ (hD i hi2)
              simpa [hi'] using this
          · cases hv
        | false =>
          simp only [Bool.false_eq_true, if_false] at hv
          split at hv
          · rename_i hl
            cases hv
            refine ⟨vs.getD 0 Go.undef, ?_, .s _ (hD 0 hl)⟩
            simp [Instr.loadAt, Instr.sureAddr, loadVar, run_isAgg hg, run_load, hcell 0 hl, Sem.run, pure]
          · cases hv
      · cases hv
    · cases hv
  · cases hv

theorem fldo_inv {P : Program} {S : TypeId} {f o z : Nat} {g : Bool} (hf : fldo P S f = some (o, z, g)) : ∃ fs fl, P.underlying S = some (.struct fs) ∧ fs[f]? = some fl ∧ fl.offset = o ∧ szo P fl.type = some z ∧ aggo P fl.type = some g := by
  unfold fldo at hf
  split at hf
  · rename_i fs hu
    split at hf
    · rename_i fl hfl
      split at hf
      · rename_i z' g' h1 h2
        cases hf
        exact ⟨fs, fl, hu, hfl, rfl, h1, h2⟩
      · cases hf
    · cases hf
  · cases hf

theorem run_part_agg {P : Program} {w : World} {T : TypeId} {xs : Array Value} {o z : Nat} (hg : aggo P T = some true) (hz : szo P T = some z) : (part T xs o).run P w = .ok (.agg (xs.extract o (o + z))) w := by
  simp [part, run_isAgg hg, run_size hz, Sem.run, pure]
theorem run_part_one {P : Program} {w : World} {T : TypeId} {xs : Array Value} {o : Nat} (hg : aggo P T = some false) (ho : o < xs.size) : (part T xs o).run P w = .ok (xs.getD o Go.undef) w := by
  simp [part, run_isAgg hg, ho, Sem.run, pure]

theorem field_sound {S : TypeId} {f : Nat} {p v : V} {x : Value} (hp : R c h μ w p x) (hv : afield c.P S p f = some v) : ∃ y, (Instr.field S x f).run c.P w = .ok y w ∧ R c h μ w v y := by
  unfold afield at hv
  split at hv
  · rename_i o z g cs hf
    obtain ⟨fs, fl, hu, hfl, ho, hz, hg⟩ := fldo_inv hf
    obtain ⟨xs, rfl, hl, hr⟩ := hp.agg_inv
    cases g with
    | true =>
      simp only [if_true] at hv
      split at hv
      · rename_i hb
        cases hv
        exact ⟨_, by simp [Instr.field, run_under hu, hfl, asAgg, ho, run_part_agg hg hz, Sem.run, pure], Rp.part hl hr o z hb⟩
      · cases hv
    | false =>
      simp only [Bool.false_eq_true, if_false] at hv
      split at hv
      · rename_i hb
        cases hv
        have h1 := run_part_one (P := c.P) (w := w) (xs := xs) (o := o) hg (by omega)
        exact ⟨xs.getD o Go.undef, by simp only [Instr.field, Sem.run_bind, run_under hu, hfl, asAgg, ho, Result.andThen_ok, Sem.run_pure, h1], hr o hb⟩
      · cases hv
  · cases hv

theorem fieldAddr_sound {S : TypeId} {f : Nat} {p v : V} {x : Value} (hp : R c h μ w p x) (hv : afieldAddr c.P S p f = some v) : ∃ y, (Instr.fieldAt S x f).run c.P w = .ok y w ∧ R c h μ w v y := by
  unfold afieldAddr at hv
  split at hv
  · rename_i o z g hf
    obtain ⟨fs, fl, hu, hfl, ho, hz, hg⟩ := fldo_inv hf
    split at hv
    · cases hv
    · rename_i hz0
      have hrun : ∀ ad : Addr, (Instr.fieldAt S (.pointer (some ad)) f).run c.P w = .ok (.pointer (some (ad.add o))) w := by
        intro ad
        simp [Instr.fieldAt, run_under hu, hfl, Instr.sureAddr, fieldPlace, run_size hz, hz0, ho, Sem.run, pure]
      split at hv
      · rename_i b r k
        cases hv
        obtain ⟨q, base, size, hm, rfl⟩ := hp.ptr_inv
        refine ⟨_, hrun _, ?_⟩
        rw [add_plain, show base + (r * size + k) + o = base + (r * size + (k + o)) by omega]
        exact .ptr b r (k + o) q base size hm
      · rename_i cs
        split at hv
        · rename_i hlt
          cases hv
          obtain ⟨ad, f', rfl, hok, hc, hr⟩ := hp.pc_inv
          refine ⟨_, hrun _, .pc _ _ (fun j => f' (o + j)) (by rw [add_block]; exact hok) (fun j hj => ?_) fun j hj => ?_⟩
          · rw [add_add]; exact hc _ (by simp at hj; omega)
          · have h1 : (cs.drop o).getD j .undef = cs.getD (o + j) .undef := by simp [List.getD_eq_getElem?_getD, List.getElem?_drop]
            rw [h1]; exact hr _ (by simp at hj; omega)
        · cases hv
      · cases hv
  · cases hv

theorem seqo_slice {P : Program} {T e z b : Nat} (hs : seqo P T = .slice e z b) : P.underlying T = some (.slice e) ∧ szo P e = some z ∧ byo P e = some b := by
  unfold seqo at hs
  split at hs
  · rename_i e' hu
    split at hs
    · rename_i z' b' h1 h2; cases hs; exact ⟨hu, h1, h2⟩
    · cases hs
  · split at hs <;> cases hs
  · cases hs
  · cases hs
theorem seqo_array {P : Program} {T e z n : Nat} (hs : seqo P T = .array n e z) : P.underlying T = some (.array n e) ∧ szo P e = some z := by
  unfold seqo at hs
  split at hs
  · split at hs <;> cases hs
  · rename_i n' e' hu
    split at hs
    · rename_i z' h1; cases hs; exact ⟨hu, h1⟩
    · cases hs
  · cases hs
  · cases hs
theorem seqo_str {P : Program} {T : Nat} (hs : seqo P T = .str) : P.underlying T = some .string := by
  unfold seqo at hs
  split at hs
  · split at hs <;> cases hs
  · split at hs <;> cases hs
  · rename_i hu; exact hu
  · cases hs

theorem indexAddr_sound (H : HS c h n μ w) {T : TypeId} {p i v : V} {x y : Value} (hp : R c h μ w p x) (hi : R c h μ w i y) (hv : aindexAddr c.P h T p i = some v) : ∃ z, (Instr.indexAt T x y).run c.P w = .ok z w ∧ R c h μ w v z := by
  unfold aindexAddr at hv
  split at hv
  · rename_i e z b m hs hm
    obtain ⟨hu, hz, hb⟩ := seqo_slice hs
    obtain ⟨k, rfl⟩ := hi.asN_eq hm
    have hrun : ∀ (ad : Addr) len cap, m < len → (Instr.indexAt T (.slice (some ad) len cap) (.int k m)).run c.P w = .ok (.pointer (some (ad.add (m * z)))) w := by
      intro ad len cap hlt
      have h1 : (0 : Int) ≤ (m : Int) ∧ (m : Int) < (len : Int) := ⟨by omega, by omega⟩
      simp [Instr.indexAt, run_getInt, run_under hu, run_size hz, h1, Sem.run, pure, hlt]
    split at hv
    · rename_i rows
      split at hv
      · rename_i hlt
        cases hv
        obtain ⟨cp, size, A, g, rfl, hc, hsz, hA, hr⟩ := hp.sl_inv
        obtain ⟨ad, rfl, hok, hcell⟩ := hA (by omega)
        have hrow : rows.getD m [] ∈ rows := by rw [List.getD_eq_getElem?_getD, List.getElem?_eq_getElem hlt.1]; exact List.getElem_mem _
        have hs1 := hsz _ hrow
        have hs2 := hlt.2.2 _ hrow
        have hze : size = z := by omega
        subst hze
        refine ⟨_, hrun _ _ _ hlt.1, .pc _ _ (fun j => g m j) (by rw [add_block]; exact hok) (fun j hj => ?_) fun j hj => hr m j hlt.1 (by omega)⟩
        rw [add_add]; exact hcell m j hlt.1 (by omega)
      · cases hv
    · rename_i bb off len cap
      split at hv
      · rename_i B hB
        split at hv
        · rename_i hlt
          cases hv
          obtain ⟨hlc, ⟨q, base, size, hmu, rfl⟩ | ⟨h0, _⟩⟩ := hp.loc_inv
          · refine ⟨_, hrun _ _ _ hlt.1, ?_⟩
            have hsz : size = B.size := by
              rcases H.blk bb B hB with ⟨h1, _⟩ | ⟨k', base', h1, _⟩
              · rw [hmu] at h1; cases h1
              · rw [hmu] at h1; cases h1; rfl
            rw [add_plain, ← hlt.2, ← hsz, Nat.add_assoc, ← Nat.add_mul]
            exact .ptr bb (off + m) 0 q base size hmu
          · omega
        · cases hv
      · cases hv
    · cases hv
  · rename_i nn e z m hs hm
    obtain ⟨hu, hz⟩ := seqo_array hs
    obtain ⟨k, rfl⟩ := hi.asN_eq hm
    split at hv
    · rename_i hlt
      have hrun : ∀ (ad : Addr), (Instr.indexAt T (.pointer (some ad)) (.int k m)).run c.P w = .ok (.pointer (some (ad.add (m * z)))) w := by
        intro ad
        have h1 : (0 : Int) ≤ (m : Int) ∧ (m : Int) < (nn : Int) := ⟨by omega, by omega⟩
        simp [Instr.indexAt, run_getInt, run_under hu, run_size hz, h1, Instr.sureAddr, Sem.run, pure, hlt.1]
      split at hv
      · rename_i b r k'
        cases hv
        obtain ⟨q, base, size, hmu, rfl⟩ := hp.ptr_inv
        refine ⟨_, hrun _, ?_⟩
        rw [add_plain, show base + (r * size + k') + m * z = base + (r * size + (k' + m * z)) by omega]
        exact .ptr b r _ q base size hmu
      · rename_i cs
        split at hv
        · rename_i hl
          cases hv
          obtain ⟨ad, f', rfl, hok, hc, hr⟩ := hp.pc_inv
          refine ⟨_, hrun _, .pc _ _ (fun j => f' (m * z + j)) (by rw [add_block]; exact hok) (fun j hj => ?_) fun j hj => ?_⟩
          · rw [add_add]; exact hc _ (by simp at hj; omega)
          · have h1 : (cs.drop (m * z)).getD j .undef = cs.getD (m * z + j) .undef := by simp [List.getD_eq_getElem?_getD, List.getElem?_drop]
            rw [h1]; exact hr _ (by simp at hj; omega)
        · cases hv
      · cases hv
    · cases hv
  · cases hv
end
end Go.Proofs.Ytahgddfnbjpfiaa.Am

/- An abstract machine over values: the operations that turn no memory are right (2). -/
set_option linter.unusedVariables false
set_option linter.unusedSimpArgs false
namespace Go.Proofs.Ytahgddfnbjpfiaa.Am
open Go Go.RowKit

section
variable {c : Cx} {h : Hp} {n : Nat} {μ : Mu} {w : World}
theorem index_sound {T : TypeId} {p i v : V} {x y : Value} (hp : R c h μ w p x) (hi : R c h μ w i y) (hv : aindex c.P T p i = some v) : ∃ z, (Instr.index T x y).run c.P w = .ok z w ∧ R c h μ w v z := by
  unfold aindex at hv
  split at hv
  · rename_i s m hs hm
    split at hv
    · rename_i hlt
      cases hv
      obtain ⟨k, rfl⟩ := hi.asN_eq hm
      obtain ⟨rfl, _⟩ := hp.s_eq
      refine ⟨.int .u8 (byteAt s m).toNat, ?_, .s _ rfl⟩
      have h1 : byteAt s m = s[m] := by
        have h2 : m < s.data.toList.length := by simpa using hlt
        simp [byteAt, List.getD_eq_getElem?_getD, List.getElem?_eq_getElem h2]
        rfl
      simp [Instr.index, run_getInt, run_under (seqo_str hs), Sem.run, pure, hlt, h1]
    · cases hv
  · rename_i nn e z cs m hs hm
    obtain ⟨hu, hz⟩ := seqo_array hs
    obtain ⟨k, rfl⟩ := hi.asN_eq hm
    obtain ⟨xs, rfl, hl, hr⟩ := hp.agg_inv
    split at hv
    · rename_i hg
      split at hv
      · rename_i hb
        cases hv
        have h1 : (0 : Int) ≤ (m : Int) ∧ (m : Int) < (nn : Int) := ⟨by omega, by omega⟩
        exact ⟨_, by simp [Instr.index, run_getInt, run_under hu, run_size hz, h1, run_part_agg hg hz, hb.1, Sem.run, pure], Rp.part hl hr _ _ hb.2⟩
      · cases hv
    · rename_i hg
      split at hv
      · rename_i hb
        cases hv
        have h1 : (0 : Int) ≤ (m : Int) ∧ (m : Int) < (nn : Int) := ⟨by omega, by omega⟩
        have h2 := run_part_one (P := c.P) (w := w) (xs := xs) (o := m * z) hg (by omega)
        exact ⟨xs.getD (m * z) Go.undef, by simp only [Instr.index, Sem.run_bind, run_getInt, run_under hu, Result.andThen_ok, if_pos h1, run_size hz, Int.toNat_natCast, h2], hr _ hb.2⟩
      · cases hv
    · cases hv
  · cases hv

theorem bnd_none {d l : Nat} (h : bnd none d = some l) : l = d := by simpa [bnd] using h.symm
theorem run_sliceBound {P : Program} {k : IntKind} {l y : Nat} {code : BoundsCode} (h : l ≤ y) : (Instr.sliceBound (.int k l) y code).run P w = .ok l w := by
  have h1 : (0 : Int) ≤ (l : Int) ∧ (l : Int) ≤ (y : Int) := ⟨by omega, by omega⟩
  simp [Instr.sliceBound, run_getInt, h1, Sem.run, pure, h]
/-- The bounds of a slice expression. -/
theorem run_bounds {P : Program} {iss : Bool} {len cap l r m : Nat} {lo hi mx : Option Operand} {e : Operand → V} {ρ : Operand → Value} (he : ∀ x, R c h μ w (e x) (ρ x))
    (h1 : bnd (lo.map e) 0 = some l) (h2 : bnd (hi.map e) len = some r) (h3 : bnd (mx.map e) cap = some m) (hb : l ≤ r ∧ r ≤ m ∧ m ≤ cap) (h4 : hi = none → mx = none) :
    (Instr.sliceBounds iss len cap (lo.map ρ) (hi.map ρ) (mx.map ρ)).run P w = .ok (l, r, m) w := by
  obtain ⟨b1, b2, b3⟩ := hb
  cases mx with
  | none =>
    obtain rfl := bnd_none h3
    cases hi with
    | none =>
      obtain rfl := bnd_none h2
      cases lo with
      | none => obtain rfl := bnd_none h1; simp [Instr.sliceBounds, Sem.run, pure]
      | some lo =>
        obtain ⟨k, hk⟩ := (he lo).asN_eq h1
        simp [Instr.sliceBounds, hk, run_sliceBound b1, Sem.run, pure]
    | some hi =>
      obtain ⟨k2, hk2⟩ := (he hi).asN_eq h2
      cases lo with
      | none => obtain rfl := bnd_none h1; simp [Instr.sliceBounds, hk2, run_sliceBound b2, Sem.run, pure]
      | some lo =>
        obtain ⟨k, hk⟩ := (he lo).asN_eq h1
        simp [Instr.sliceBounds, hk, hk2, run_sliceBound b1, run_sliceBound b2, Sem.run, pure]
  | some mx =>
    obtain ⟨k3, hk3⟩ := (he mx).asN_eq h3
    cases hi with
    | none => cases h4 rfl
    | some hi =>
      obtain ⟨k2, hk2⟩ := (he hi).asN_eq h2
      cases lo with
      | none => obtain rfl := bnd_none h1; simp [Instr.sliceBounds, hk2, hk3, run_sliceBound b2, run_sliceBound b3, Sem.run, pure]
      | some lo =>
        obtain ⟨k, hk⟩ := (he lo).asN_eq h1
        simp [Instr.sliceBounds, hk, hk2, hk3, run_sliceBound b1, run_sliceBound b2, run_sliceBound b3, Sem.run, pure]

/-- A piece of a slice that is only read. -/
theorem sl_piece {fv : Nat → Value} {ok : Nat → Prop} {rows : List (List V)} {size : Nat} {A : Option Addr} {g : Nat → Nat → Value} (hs : ∀ r ∈ rows, r.length = size)
    (hA : rows.length ≠ 0 → ∃ ad : Addr, A = some ad ∧ ok ad.block ∧ ∀ i j, i < rows.length → j < size → w.cell? (ad.add (i * size + j)) = some (g i j)) (hr : ∀ i j, i < rows.length → j < size → Dp w ok (cellAt rows i j) (g i j))
    (z : Nat) (hz : rows.length ≠ 0 → z = size) {l r m : Nat} (h1 : l ≤ r) (h2 : r ≤ rows.length) (h3 : r ≤ m) : Rp fv w ok μ (.sl ((rows.drop l).take (r - l))) (.slice (if m = l then A else A.map (·.add (l * z))) (r - l) (m - l)) := by
  have hlen : ((rows.drop l).take (r - l)).length = r - l := by simp; omega
  have hat : ∀ i, i < r - l → ((rows.drop l).take (r - l)).getD i [] = rows.getD (l + i) [] := by
    intro i hi
    simp [List.getD_eq_getElem?_getD, List.getElem?_take, hi, List.getElem?_drop]
  refine .sl _ _ _ size _ (fun i j => g (l + i) j) hlen (by omega) (fun q hq => hs q (List.mem_of_mem_drop (List.mem_of_mem_take hq))) (fun hn => ?_) fun i j hi hj => ?_
  · obtain ⟨ad, rfl, hok, hc⟩ := hA (by omega)
    rw [if_neg (by omega), hz (by omega)]
    refine ⟨_, rfl, by rw [add_block]; exact hok, fun i j hi hj => ?_⟩
    rw [add_add, ← Nat.add_assoc, ← Nat.add_mul]
    exact hc (l + i) j (by omega) hj
  · rw [hat i hi]
    exact hr (l + i) j (by omega) hj

theorem slice_sound (H : HS c h n μ w) {T : TypeId} {x : V} {xv : Value} {v : V} {lo hi mx : Option Operand} {e : Operand → V} {ρ : Operand → Value} (he : ∀ x, R c h μ w (e x) (ρ x)) (hx : R c h μ w x xv)
    (hv : aslice c.P h T x (lo.map e) (hi.map e) (mx.map e) = some v) : ∃ y, (Instr.sliceAt T xv (lo.map ρ) (hi.map ρ) (mx.map ρ)).run c.P w = .ok y w ∧ R c h μ w v y := by
  generalize hmx : mx.map e = mxe at hv
  unfold aslice at hv
  split at hv
  · -- a string
    rename_i s hs
    have hu := seqo_str hs
    have hmn : mx = none := by cases mx with | none => rfl | some m => cases hmx
    subst hmn
    split at hv
    · rename_i l r h1 h2
      split at hv
      · rename_i hb
        cases hv
        obtain ⟨rfl, _⟩ := hx.s_eq
        have hrun := run_bounds (P := c.P) (iss := false) (len := s.size) (cap := s.size) (mx := none) he h1 h2 rfl ⟨hb.1, hb.2, Nat.le_refl _⟩ (fun _ => rfl)
        simp only [Option.map_none] at hrun
        exact ⟨.string (s.extract l r), by simp [Instr.sliceAt, Instr.slice, run_under hu, hrun, Sem.run, pure], .s _ rfl⟩
      · cases hv
    · cases hv
  · -- read, no max
    rename_i el z by' rows hs
    obtain ⟨hu, hz, _⟩ := seqo_slice hs
    have hmn : mx = none := by cases mx with | none => rfl | some m => cases hmx
    subst hmn
    split at hv
    · rename_i l r h1 h2
      split at hv
      · rename_i hb
        cases hv
        obtain ⟨cp, size, A, g, rfl, hc, hsz, hA, hr⟩ := hx.sl_inv
        have hrun := run_bounds (P := c.P) (iss := true) (len := rows.length) (cap := cp) (mx := none) he h1 h2 rfl ⟨hb.1, by omega, Nat.le_refl _⟩ (fun _ => rfl)
        simp only [Option.map_none] at hrun
        refine ⟨.slice (if cp = l then A else A.map (·.add (l * z))) (r - l) (cp - l), by simp [Instr.sliceAt, Instr.slice, run_under hu, hrun, run_size hz, Sem.run, pure], ?_⟩
        refine sl_piece hsz hA hr z (fun hn => ?_) hb.1 hb.2.1 (by omega)
        have hrow : rows.getD 0 [] ∈ rows := by rw [List.getD_eq_getElem?_getD, List.getElem?_eq_getElem (by omega)]; exact List.getElem_mem _
        rw [← hb.2.2 _ hrow, hsz _ hrow]
      · cases hv
    · cases hv
  · -- read, a max
    rename_i el z by' rows mxv hs
    obtain ⟨hu, hz, _⟩ := seqo_slice hs
    obtain ⟨mo, rfl⟩ : ∃ mo, mx = some mo := by cases mx with | none => cases hmx | some m => exact ⟨m, rfl⟩
    have hmxv : e mo = mxv := by simpa using hmx
    split at hv
    · rename_i l r m h1 h2 h3
      split at hv
      · rename_i hb
        obtain ⟨cp, size, A, g, rfl, hc, hsz, hA, hr⟩ := hx.sl_inv
        obtain ⟨ho, rfl⟩ : ∃ ho, hi = some ho := by cases hi with | none => have := hb.2.2.2.1; cases this | some ho => exact ⟨ho, rfl⟩
        have hrun := run_bounds (P := c.P) (iss := true) (len := rows.length) (cap := cp) (hi := some ho) (mx := some mo) he h1 h2 (show bnd ((some mo).map e) cp = some m by simpa [bnd, hmxv] using h3) ⟨hb.1, hb.2.1, Nat.le_trans hb.2.2.1 hc⟩ (fun h => by cases h)
        have hy : (Instr.sliceAt T (.slice A rows.length cp) (lo.map ρ) ((some ho).map ρ) ((some mo).map ρ)).run c.P w = .ok (.slice (if m = l then A else A.map (·.add (l * z))) (r - l) (m - l)) w := by
          simp only [Instr.sliceAt, Instr.slice, Sem.run_bind, run_under hu, Result.andThen_ok, hrun, run_size hz, Sem.run_pure]
        refine ⟨_, hy, ?_⟩
        split at hv
        · rename_i hlm
          cases hv
          subst hlm
          rw [if_pos rfl, Nat.sub_self, show r - l = 0 by omega]
          exact .cap0 _
        · rename_i hlm
          cases hv
          refine sl_piece hsz hA hr z (fun hn => ?_) hb.1 (by omega) hb.2.1
          have hrow : rows.getD 0 [] ∈ rows := by rw [List.getD_eq_getElem?_getD, List.getElem?_eq_getElem (by omega)]; exact List.getElem_mem _
          rw [← hb.2.2.2.2 _ hrow, hsz _ hrow]
      · cases hv
    · cases hv
  · rename_i el z by' hs
    obtain ⟨hu, hz, _⟩ := seqo_slice hs
    have hmn : mx = none := by cases mx with | none => rfl | some m => cases hmx
    subst hmn
    split at hv
    · rename_i h1 h2
      cases hv
      obtain ⟨A, rfl⟩ := hx.cap0_inv
      have hrun := run_bounds (P := c.P) (iss := true) (len := 0) (cap := 0) (mx := none) he h1 h2 rfl ⟨Nat.le_refl _, Nat.le_refl _, Nat.le_refl _⟩ (fun _ => rfl)
      simp only [Option.map_none] at hrun
      exact ⟨.slice A 0 0, by simp [Instr.sliceAt, Instr.slice, run_under hu, hrun, run_size hz, Sem.run, pure], .cap0 _⟩
    · cases hv
  · rename_i el z by' b off len cap hs
    obtain ⟨hu, hz, _⟩ := seqo_slice hs
    split at hv
    · rename_i l r m h1 h2 h3
      split at hv
      · rename_i B hB
        split at hv
        · rename_i hb
          cases hv
          have h4 : hi = none → mx = none := by
            intro hn
            rcases hb.2.2.2.1 with h5 | h5
            · subst hn; cases h5
            · cases mx with | none => rfl | some m => subst hmx; cases h5
          have hrunx : ∀ len cap', bnd (hi.map e) len = some r → bnd (mx.map e) cap' = some m → m ≤ cap' → ∀ A, (Instr.sliceAt T (.slice A len cap') (lo.map ρ) (hi.map ρ) (mx.map ρ)).run c.P w = .ok (.slice (if m = l then A else A.map (·.add (l * z))) (r - l) (m - l)) w := by
            intro len cap' g2 g3 g4 A
            have hrun := run_bounds (P := c.P) (iss := true) (len := len) (cap := cap') he h1 g2 g3 ⟨hb.1, hb.2.1, g4⟩ h4
            simp only [Instr.sliceAt, Instr.slice, Sem.run_bind, run_under hu, Result.andThen_ok, hrun, run_size hz, Sem.run_pure]
          obtain ⟨hlc, ⟨q, base, size, hmu, rfl⟩ | ⟨h0, h00, A, t, hmu, rfl⟩⟩ := hx.loc_inv
          · refine ⟨_, hrunx len cap h2 (by rw [hmx]; exact h3) hb.2.2.1 _, ?_⟩
            have hsz : size = z := by
              rcases H.blk b B hB with ⟨g1, _⟩ | ⟨k', base', g1, _⟩
              · rw [hmu] at g1; cases g1
              · rw [hmu] at g1; cases g1; exact hb.2.2.2.2
            by_cases hml : m = l
            · rw [if_pos hml, show r - l = 0 by omega, show m - l = 0 by omega]
              exact .loc0 _ _ _ _ hmu
            · rw [if_neg hml]
              have := Rp.loc (fvals := c.fvals) (w := w) (ok := okB c h μ w) (μ := μ) b (off + l) (r - l) (m - l) q base size hmu (by omega)
              simp only [Option.map_some, add_plain]
              rw [show base + off * size + l * z = base + (off + l) * size by rw [hsz, Nat.add_mul, Nat.add_assoc]]
              exact this
          · subst h0 h00
            refine ⟨_, hrunx 0 0 h2 (by rw [hmx]; exact h3) hb.2.2.1 _, ?_⟩
            rw [show r - l = 0 by omega, show m - l = 0 by omega]
            exact .loc0 _ _ _ _ hmu
        · cases hv
      · cases hv
    · cases hv
  · cases hv
end
end Go.Proofs.Ytahgddfnbjpfiaa.Am

/- An abstract machine over values: the operations that turn no memory are right (3). -/
set_option linter.unusedVariables false
set_option linter.unusedSimpArgs false
namespace Go.Proofs.Ytahgddfnbjpfiaa.Am
open Go Go.RowKit

section
variable {c : Cx} {h : Hp} {n : Nat} {μ : Mu} {w : World}
theorem bytesOf_length : ∀ {rows : List (List V)} {l : List Int}, bytesOf rows = some l → l.length = rows.length ∧ ∀ i, i < rows.length → rows.getD i [] = [.s (.int .u8 (l.getD i 0))]
  | [], l, h => by simp [bytesOf] at h; subst h; simp
  | row :: rows, l, h => by
    unfold bytesOf at h
    split at h
    · rename_i heq; cases heq
    · rename_i n l' heq
      cases heq
      simp only [Option.map_eq_some_iff] at h
      obtain ⟨l2, h2, rfl⟩ := h
      obtain ⟨h3, h4⟩ := bytesOf_length h2
      refine ⟨by simp [h3], fun i hi => ?_⟩
      cases i with
      | zero => simp
      | succ i => simpa using h4 i (by simpa using hi)
    · cases h
theorem foldl_push : ∀ (ns : List Int) (s : ByteArray), ns.foldl (fun r n => r.push (UInt8.ofNat n.toNat)) s = ⟨s.data ++ (ns.map fun n => UInt8.ofNat n.toNat).toArray⟩
  | [], s => by simp
  | n :: ns, s => by
    rw [List.foldl_cons, foldl_push ns]
    congr 1
    simp [ByteArray.push]
/-- A slice whose rows are known is a slice in the machine, with these cells. -/
theorem rows_sound (H : HS c h n μ w) {x : V} {xv : Value} {rows : List (List V)} (hx : R c h μ w x xv) (hr : rowsOf h x = some rows) :
    ∃ A cp size, xv = .slice A rows.length cp ∧ rows.length ≤ cp ∧ (rows.length ≠ 0 → ∃ ad : Addr, A = some ad ∧ (∀ r ∈ rows, r.length = size) ∧ ∀ i j, i < rows.length → j < size → ∃ y, w.cell? (ad.add (i * size + j)) = some y ∧ R c h μ w (cellAt rows i j) y) := by
  unfold rowsOf at hr
  split at hr
  · rename_i rows'
    cases hr
    obtain ⟨cp, size, A, g, rfl, hc, hs, hA, hr⟩ := hx.sl_inv
    refine ⟨A, cp, size, rfl, hc, fun hn => ?_⟩
    obtain ⟨ad, rfl, hok, hcell⟩ := hA hn
    exact ⟨ad, rfl, hs, fun i j hi hj => ⟨_, hcell i j hi hj, (hr i j hi hj).R⟩⟩
  · cases hr
    obtain ⟨A, rfl⟩ := hx.cap0_inv
    exact ⟨A, 0, 0, rfl, Nat.le_refl _, fun hn => absurd rfl hn⟩
  · rename_i b off len cap
    split at hr
    · rename_i B hB
      split at hr
      · rename_i hb
        cases hr
        have hlen : ((B.rows.drop off).take len).length = len := by simp; omega
        rw [hlen]
        obtain ⟨hlc, ⟨q, base, size, hmu, rfl⟩ | ⟨h0, h00, A, t, hmu, rfl⟩⟩ := hx.loc_inv
        · refine ⟨_, cap, B.size, rfl, hlc, fun hn => ⟨_, rfl, ?_, fun i j hi hj => ?_⟩⟩
          · intro r hr
            rcases H.blk b B hB with ⟨g1, _⟩ | ⟨k', base', g1, g2, g3, g4, g5⟩
            · rw [hmu] at g1; cases g1
            · exact g4 r (List.mem_of_mem_drop (List.mem_of_mem_take hr))
          · obtain ⟨hs, y, h1, _, h3⟩ := H.at hB hmu (show off + i < B.rows.length by omega) hj
            subst hs
            refine ⟨y, ?_, ?_⟩
            · rw [add_plain, show base + off * B.size + (i * B.size + j) = base + ((off + i) * B.size + j) by rw [Nat.add_mul]; omega]
              exact h1
            · have h4 : cellAt ((B.rows.drop off).take len) i j = cellAt B.rows (off + i) j := by simp [cellAt, List.getD_eq_getElem?_getD, List.getElem?_take, hi, List.getElem?_drop]
              rw [h4]; exact h3
        · subst h0 h00
          exact ⟨A, 0, 0, rfl, Nat.le_refl _, fun hn => absurd rfl hn⟩
      · cases hr
    · cases hr
  · cases hr
theorem conv_sound (H : HS c h n μ w) {src dst : TypeId} {p v : V} {x : Value} (hp : R c h μ w p x) (hv : aconv c.P h src dst p = some v) : ∃ z, (convert src dst x).run c.P w = .ok z w ∧ R c h μ w v z := by
  unfold aconv at hv
  split at hv
  · rename_i d k k' m h1 h2
    cases hv
    obtain ⟨rfl, _⟩ := hp.s_eq
    refine ⟨.int k (k.wrap m), ?_, .s _ rfl⟩
    simp [convert, run_under h1, run_under h2, Conv.intToInt, Sem.run, pure]
  · rename_i b h1 h2
    cases hv
    obtain ⟨rfl, _⟩ := hp.s_eq
    exact ⟨.string b, by simp [convert, run_under h1, run_under h2, Sem.run, pure], .s _ rfl⟩
  · rename_i e h1 h2
    split at hv
    · rename_i rows h3 h4
      simp only [Option.map_eq_some_iff] at hv
      obtain ⟨l, hl, rfl⟩ := hv
      obtain ⟨A, cp, size, rfl, hc, hA⟩ := rows_sound H hp h4
      obtain ⟨hl1, hl2⟩ := bytesOf_length hl
      refine ⟨.string (strOf l), ?_, .s _ rfl⟩
      rw [run_convert_bytes_string w src dst e A rows.length cp h1 h3 h2]
      by_cases hn : rows.length = 0
      · obtain rfl : l = [] := List.eq_nil_of_length_eq_zero (by omega)
        rw [hn]
        cases A with
        | none => simp [Conv.bytesToString, Sem.run, pure]; rfl
        | some ad =>
          rw [run_bytesToString w ad 0 cp [] (by simp [loadCells, loadCellsFrom, Sem.run, pure])]
          rfl
      · obtain ⟨ad, rfl, hs, hcell⟩ := hA hn
        have hs1 : size = 1 := by
          have h5 := hl2 0 (by omega)
          have h6 := hs (rows.getD 0 []) (by rw [List.getD_eq_getElem?_getD, List.getElem?_eq_getElem (by omega)]; exact List.getElem_mem _)
          rw [h5] at h6
          simpa using h6.symm
        subst hs1
        have hload : (loadCells ad rows.length).run c.P w = .ok (l.map (Value.int .u8)).toArray w := by
          have h7 := run_loadCells_list (P := c.P) w ad (l.map (Value.int .u8)) (fun j v hj => by
            simp only [List.getElem?_map, Option.map_eq_some_iff] at hj
            obtain ⟨m, hm, rfl⟩ := hj
            have hj' : j < rows.length := by rw [← hl1]; exact (List.getElem?_eq_some_iff.1 hm).1
            obtain ⟨y, h8, h9⟩ := hcell j 0 hj' (by omega)
            have h10 : cellAt rows j 0 = .s (.int .u8 m) := by
              unfold cellAt
              rw [hl2 j hj']
              simp [List.getD_eq_getElem?_getD, hm]
            rw [h10] at h9
            obtain ⟨rfl, _⟩ := h9.s_eq
            simpa using h8)
          simpa [hl1] using h7
        rw [run_bytesToString w ad rows.length cp l hload, foldl_push]
        simp [strOf, ByteArray.empty, ByteArray.emptyWithCapacity]
        rfl
    · cases hv
  · cases hv

theorem cellish_sound {v : V} {x : Value} (hx : R c h μ w v x) (hc : cellish v = true) : (∀ xs, x ≠ .agg xs) ∧ x.oneCell' = true := by
  cases hx <;> simp [cellish, Value.oneCell'] at hc ⊢
  rename_i hf
  cases x <;> simp_all [flat]
/-- What a value's cells are, in the machine. -/
theorem cellsV_sound {v : V} {vs : List V} {x : Value} (hx : R c h μ w v x) (hv : cellsV v = some vs) : x.cells.size = vs.length ∧ (∀ i, i < vs.length → R c h μ w (vs.getD i .undef) (x.cells.getD i Go.undef)) ∧ ((∀ q ∈ vs, cellish q = true) → ∀ y ∈ x.cells.toList, y.oneCell' = true) := by
  have key : ∀ {v : V} {x : Value}, R c h μ w v x → cellish v = true → (∀ xs, x ≠ .agg xs) ∧ x.oneCell' = true := fun hx hc => cellish_sound hx hc
  unfold cellsV at hv
  split at hv
  · rename_i cs
    cases hv
    obtain ⟨xs, rfl, hl, hr⟩ := hx.agg_inv
    refine ⟨hl, hr, fun hq y hy => ?_⟩
    obtain ⟨i, hi, rfl⟩ := List.getElem_of_mem hy
    have hi' : i < xs.size := by simpa [Value.cells] using hi
    have h1 := hr i (by omega)
    have h2 := hq (vs.getD i .undef) (by rw [List.getD_eq_getElem?_getD, List.getElem?_eq_getElem (by omega)]; exact List.getElem_mem _)
    have h3 := (key h1 h2).2
    simpa [Value.cells, hi'] using h3
  · split at hv
    · rename_i hc
      cases hv
      obtain ⟨h1, h2⟩ := key hx hc
      have h3 : x.cells = #[x] := by
        cases x <;> simp_all [Value.cells]
      rw [h3]
      refine ⟨rfl, fun i hi => ?_, fun _ y hy => ?_⟩
      · obtain rfl : i = 0 := by simp at hi; exact hi
        simpa using hx
      · simp at hy; subst hy; exact h2
    · cases hv

theorem setAt_length (row : List V) (col : Nat) (cs : List V) (h : col + cs.length ≤ row.length) : (setAt row col cs).length = row.length := by
  unfold setAt
  simp
  omega
theorem setAt_get (row : List V) (col : Nat) (cs : List V) (h : col + cs.length ≤ row.length) (i : Nat) : (setAt row col cs).getD i .undef = if col ≤ i ∧ i < col + cs.length then cs.getD (i - col) .undef else row.getD i .undef := by
  unfold setAt
  simp only [List.getD_eq_getElem?_getD, List.append_assoc]
  have hl : (row.take col).length = col := by simp; omega
  rcases Nat.lt_or_ge i col with h1 | h1
  · rw [List.getElem?_append_left (by omega), if_neg (by omega), List.getElem?_take, if_pos h1]
  · rw [List.getElem?_append_right (by omega), hl]
    rcases Nat.lt_or_ge (i - col) cs.length with h2 | h2
    · rw [List.getElem?_append_left h2, if_pos (by omega)]
    · rw [List.getElem?_append_right h2, if_neg (by omega), List.getElem?_drop]
      congr 2
      omega

/-- What fill's inner loop does. -/
theorem foldl_set (off : Nat) : ∀ (xs : List Value) (j : Nat) (cells : Array Value), off + j + xs.length ≤ cells.size →
    ((xs.zipIdx j).foldl (fun cs (q : Value × Nat) => cs.setIfInBounds (off + q.2) q.1) cells).size = cells.size ∧
    ∀ i, ((xs.zipIdx j).foldl (fun cs (q : Value × Nat) => cs.setIfInBounds (off + q.2) q.1) cells).getD i Go.undef = if off + j ≤ i ∧ i < off + j + xs.length then xs.getD (i - (off + j)) Go.undef else cells.getD i Go.undef := by
  intro xs
  induction xs with
  | nil => intro j cells h; simp; intro i h1 h2; omega
  | cons x xs ih =>
    intro j cells h
    simp only [List.zipIdx_cons, List.foldl_cons]
    simp only [List.length_cons] at h
    obtain ⟨h1, h2⟩ := ih (j + 1) (cells.setIfInBounds (off + j) x) (by simp; omega)
    refine ⟨by rw [h1]; simp, fun i => ?_⟩
    rw [h2 i]
    simp only [List.length_cons]
    by_cases c1 : off + (j + 1) ≤ i ∧ i < off + (j + 1) + xs.length
    · rw [if_pos c1, if_pos (by omega)]
      rw [show i - (off + j) = (i - (off + (j + 1))) + 1 by omega]
      simp
    · rw [if_neg c1]
      by_cases c2 : i = off + j
      · subst c2
        rw [if_pos (by omega)]
        simp [Array.getD_eq_getD_getElem?, Array.getElem?_setIfInBounds]
        rw [if_pos (by omega)]
        rfl
      · rw [if_neg (by omega)]
        simp [Array.getD_eq_getD_getElem?, Array.getElem?_setIfInBounds]
        rw [if_neg (by omega)]

theorem fill_sound (pl : Nat → Option (Nat × Nat)) : ∀ (parts : List (Nat × V)) (xs : List (Nat × Value)) (cs cs' : List V) (cells : Array Value), parts.length = xs.length →
    (∀ (i : Nat) (p : Nat × V) (q : Nat × Value), parts[i]? = some p → xs[i]? = some q → p.1 = q.1 ∧ R c h μ w p.2 q.2) → cells.size = cs.length → (∀ i, i < cs.length → R c h μ w (cs.getD i .undef) (cells.getD i Go.undef)) → afill pl cs parts = some cs' →
    ∃ cells', Instr.fill pl cells xs = some cells' ∧ cells'.size = cs'.length ∧ ∀ i, i < cs'.length → R c h μ w (cs'.getD i .undef) (cells'.getD i Go.undef) := by
  intro parts
  induction parts with
  | nil =>
    intro xs cs cs' cells hl _ hs hr hf
    obtain rfl : xs = [] := List.eq_nil_of_length_eq_zero hl.symm
    simp only [afill, Option.some.injEq] at hf
    subst hf
    exact ⟨cells, rfl, hs, hr⟩
  | cons p parts ih =>
    intro xs cs cs' cells hl hp hs hr hf
    obtain ⟨i, v⟩ := p
    cases xs with
    | nil => simp at hl
    | cons q xs =>
      obtain ⟨j, x⟩ := q
      obtain ⟨hij, hvx⟩ := hp 0 _ _ rfl rfl
      simp only at hij hvx
      subst hij
      simp only [afill] at hf
      split at hf
      · rename_i o z vs hpl hvs
        split at hf
        · rename_i hb
          obtain ⟨k1, k2, _⟩ := cellsV_sound hvx hvs
          have hwl : (vs.map wk).length = z := by simp [hb.1]
          obtain ⟨g1, g2⟩ := foldl_set o x.cells.toList 0 cells (by simp; omega)
          obtain ⟨cells', e1, e2, e3⟩ := ih xs (setAt cs o (vs.map wk)) cs' (x.cells.zipIdx.foldl (fun cs (q : Value × Nat) => cs.setIfInBounds (o + q.2) q.1) cells) (by simpa using hl)
            (fun i p q h1 h2 => hp (i + 1) p q (by simpa using h1) (by simpa using h2)) (by
              rw [setAt_length _ _ _ (by omega), ← hs, ← g1, ← Array.foldl_toList]; simp) (fun i hi => by
              rw [setAt_length _ _ _ (by omega)] at hi
              rw [setAt_get _ _ _ (by omega)]
              have g3 := g2 i
              rw [← Array.foldl_toList, Array.toList_zipIdx, g3]
              simp only [Array.length_toList, Nat.add_zero]
              by_cases c1 : o ≤ i ∧ i < o + (vs.map wk).length
              · rw [if_pos c1, if_pos (by omega)]
                have h4 : (vs.map wk).getD (i - o) .undef = wk (vs.getD (i - o) .undef) := by simp [List.getD_eq_getElem?_getD, List.getElem?_eq_getElem (show i - o < vs.length by omega)]
                have h5 : x.cells.toList.getD (i - o) Go.undef = x.cells.getD (i - o) Go.undef := by simp [List.getD_eq_getElem?_getD, Array.getD_eq_getD_getElem?]
                rw [h4, h5]
                exact (k2 _ (by omega)).weak
              · rw [if_neg c1, if_neg (by omega)]
                exact hr i hi) hf
          refine ⟨cells', ?_, e2, e3⟩
          simp only [Instr.fill, hpl]
          rw [if_neg (by simp; omega)]
          exact e1
        · cases hf
      · cases hf
end
end Go.Proofs.Ytahgddfnbjpfiaa.Am

/- An abstract machine over values: the operations that turn no memory are right (4). -/
set_option linter.unusedVariables false
set_option linter.unusedSimpArgs false
namespace Go.Proofs.Ytahgddfnbjpfiaa.Am
open Go Go.RowKit

section
variable {c : Cx} {h : Hp} {n : Nat} {μ : Mu} {w : World}
theorem run_zero {P : Program} {T : TypeId} {z : Value} (hz : zro P T = some z) : (zeroValue T).run P w = .ok z w := by
  obtain ⟨i, hi, hz⟩ := Option.bind_eq_some_iff.1 hz
  simp [zeroValue, typeInfo, Sem.run, program, hi, hz]
theorem cellsZ_sound (z : Value) : z.cells.size = (cellsZ z).length ∧ ∀ i, i < (cellsZ z).length → R c h μ w ((cellsZ z).getD i .undef) (z.cells.getD i Go.undef) := by
  unfold cellsZ
  split
  · rename_i xs
    refine ⟨by simp [Value.cells], fun i hi => ?_⟩
    have hi' : i < xs.size := by simpa using hi
    have h1 : (xs.toList.map cellOf).getD i .undef = cellOf xs[i] := by simp [List.getD_eq_getElem?_getD, hi']
    have h2 : xs.getD i Go.undef = xs[i] := by simp [hi']
    rw [h1, show (Value.agg xs).cells = xs from rfl, h2]
    exact Rp.cell _
  · rename_i hz
    have h3 : z.cells = #[z] := by cases z <;> simp_all [Value.cells]
    rw [h3]
    refine ⟨rfl, fun i hi => ?_⟩
    obtain rfl : i = 0 := by simp at hi; exact hi
    simpa using Rp.val z

theorem build_sound {T : TypeId} {parts : Array (Nat × Operand)} {e : Operand → V} {ρ : Operand → Value} {v : V} (he : ∀ x, R c h μ w (e x) (ρ x)) (hv : abuild c.P e T parts.toList = some v) :
    ∃ y, (Instr.build T (parts.map fun q => (q.1, ρ q.2))).run c.P w = .ok y w ∧ R c h μ w v y := by
  have hparts : ∀ (i : Nat) (p : Nat × V) (q : Nat × Value), (parts.toList.map fun q => (q.1, e q.2))[i]? = some p → (parts.toList.map fun q => (q.1, ρ q.2))[i]? = some q → p.1 = q.1 ∧ R c h μ w p.2 q.2 := by
    intro i p q h1 h2
    simp only [List.getElem?_map, Option.map_eq_some_iff] at h1 h2
    obtain ⟨a, ha, rfl⟩ := h1
    obtain ⟨b, hb, rfl⟩ := h2
    rw [ha] at hb
    cases hb
    exact ⟨rfl, he _⟩
  have fin : ∀ (pl : Nat → Option (Nat × Nat)) z, (∀ xs, c.P.built T xs = Instr.fill pl z.cells xs) → (afill pl (cellsZ z) (parts.toList.map fun q => (q.1, e q.2))).map V.agg = some v →
      ∃ y, (Instr.build T (parts.map fun q => (q.1, ρ q.2))).run c.P w = .ok y w ∧ R c h μ w v y := by
    intro pl z hb hv
    obtain ⟨z1, z2⟩ := cellsZ_sound (c := c) (h := h) (μ := μ) (w := w) z
    simp only [Option.map_eq_some_iff] at hv
    obtain ⟨cs, hf, rfl⟩ := hv
    obtain ⟨cells', e1, e2, e3⟩ := fill_sound _ _ (parts.toList.map fun q => (q.1, ρ q.2)) _ cs z.cells (by simp) hparts z1 z2 hf
    exact ⟨.agg cells', run_build w T _ cells' (by rw [hb]; simpa using e1), .agg _ _ e2 e3⟩
  unfold abuild at hv
  split at hv
  · rename_i z l hz hl
    obtain ⟨i, hi, hz⟩ := Option.bind_eq_some_iff.1 hz
    unfold plc at hl
    split at hl
    · rename_i fs hu
      split at hl
      · rename_i l' hm
        cases hl
        exact fin _ z (fun xs => by simp [Program.built, hi, hu, hz, hm]) hv
      · cases hl
    · split at hl <;> cases hl
    · cases hl
  · rename_i z sz hz hl
    obtain ⟨i, hi, hz⟩ := Option.bind_eq_some_iff.1 hz
    unfold plc at hl
    split at hl
    · split at hl <;> cases hl
    · rename_i n' el hu
      split at hl
      · rename_i ie hie
        cases hl
        exact fin _ z (fun xs => by simp [Program.built, hi, hu, hz, hie]) hv
      · cases hl
    · cases hl
  · cases hv

theorem len_sound {T : TypeId} {p v : V} {x : Value} (hp : R c h μ w p x) (hv : alen c.P T p = some v) (t : TypeId) : ∃ z, (Builtin.len_ #[T] t #[x]).run c.P w = .ok z w ∧ R c h μ w v z := by
  unfold alen at hv
  split at hv
  · rename_i s hs
    cases hv
    obtain ⟨rfl, _⟩ := hp.s_eq
    exact ⟨goInt s.size, by simp [Builtin.len_, run_under (seqo_str hs), Sem.run, pure], .s _ rfl⟩
  · rename_i e z b rows hs
    cases hv
    obtain ⟨cp, size, A, g, rfl, _⟩ := hp.sl_inv
    exact ⟨goInt rows.length, by simp [Builtin.len_, run_under (seqo_slice hs).1, Sem.run, pure], .s _ rfl⟩
  · rename_i e z b q o m cp hs
    cases hv
    obtain ⟨_, ⟨k, base, size, _, rfl⟩ | ⟨rfl, rfl, A, t', _, rfl⟩⟩ := hp.loc_inv
    · exact ⟨goInt m, by simp [Builtin.len_, run_under (seqo_slice hs).1, Sem.run, pure], .s _ rfl⟩
    · exact ⟨goInt 0, by simp [Builtin.len_, run_under (seqo_slice hs).1, Sem.run, pure], .s _ rfl⟩
  · rename_i e z b hs
    cases hv
    obtain ⟨A, rfl⟩ := hp.cap0_inv
    exact ⟨goInt 0, by simp [Builtin.len_, run_under (seqo_slice hs).1, Sem.run, pure], .s _ rfl⟩
  · rename_i m e z hs
    cases hv
    exact ⟨goInt m, by simp [Builtin.len_, run_under (seqo_array hs).1, Sem.run, pure], .s _ rfl⟩
  · cases hv
theorem cap_sound {T : TypeId} {p v : V} {x : Value} (hp : R c h μ w p x) (hv : acap c.P T p = some v) (t : TypeId) : ∃ z, (Builtin.cap_ #[T] t #[x]).run c.P w = .ok z w ∧ R c h μ w v z := by
  unfold acap at hv
  split at hv
  · rename_i e z b q o m cp hs
    cases hv
    obtain ⟨_, ⟨k, base, size, _, rfl⟩ | ⟨rfl, rfl, A, t', _, rfl⟩⟩ := hp.loc_inv
    · exact ⟨goInt cp, by simp [Builtin.cap_, run_under (seqo_slice hs).1, Sem.run, pure], .s _ rfl⟩
    · exact ⟨goInt 0, by simp [Builtin.cap_, run_under (seqo_slice hs).1, Sem.run, pure], .s _ rfl⟩
  · rename_i e z b hs
    cases hv
    obtain ⟨A, rfl⟩ := hp.cap0_inv
    exact ⟨goInt 0, by simp [Builtin.cap_, run_under (seqo_slice hs).1, Sem.run, pure], .s _ rfl⟩
  · cases hv
theorem min_sound {a b v : V} {x y : Value} (hx : R c h μ w a x) (hy : R c h μ w b y) (hv : amin [a, b] = some v) (ts : Array TypeId) (t : TypeId) : ∃ z, (Builtin.min_ ts t #[x, y]).run c.P w = .ok z w ∧ R c h μ w v z := by
  unfold amin at hv
  split at hv
  · rename_i k m k' m' heq
    cases heq
    split at hv
    · rename_i hk; cases hv; subst hk
      obtain ⟨rfl, _⟩ := hx.s_eq
      obtain ⟨rfl, _⟩ := hy.s_eq
      exact ⟨_, by simp [Builtin.min_, Builtin.min2, Sem.run, pure], .s _ rfl⟩
    · cases hv
  · cases hv
theorem max_sound {a b v : V} {x y : Value} (hx : R c h μ w a x) (hy : R c h μ w b y) (hv : amax [a, b] = some v) (ts : Array TypeId) (t : TypeId) : ∃ z, (Builtin.max_ ts t #[x, y]).run c.P w = .ok z w ∧ R c h μ w v z := by
  unfold amax at hv
  split at hv
  · rename_i k m k' m' heq
    cases heq
    split at hv
    · rename_i hk; cases hv; subst hk
      obtain ⟨rfl, _⟩ := hx.s_eq
      obtain ⟨rfl, _⟩ := hy.s_eq
      exact ⟨_, by simp [Builtin.max_, Builtin.max2, Sem.run, pure], .s _ rfl⟩
    · cases hv
  · cases hv
theorem two_of_min {l : List V} {v : V} (hv : amin l = some v ∨ amax l = some v) : ∃ a b, l = [a, b] := by
  rcases hv with hv | hv
  · unfold amin at hv
    split at hv
    · exact ⟨_, _, rfl⟩
    · cases hv
  · unfold amax at hv
    split at hv
    · exact ⟨_, _, rfl⟩
    · cases hv

theorem pval_sound {plain : TypeId → Bool} (hp : PlainOk c.P plain) (H : HS c h n μ w) {e : Operand → V} {ρ : Operand → Value} (he : ∀ x, R c h μ w (e x) (ρ x)) {o : Oper} {v : V} (hv : pval c.P plain h e o.op = some v) :
    ∃ x, (execOp ρ o).run c.P w = .ok (.value x) w ∧ R c h μ w v x := by
  have fin : ∀ {s : Sem Value}, (∃ y, s.run c.P w = .ok y w ∧ R c h μ w v y) → ∃ x, (do pure (.value (← s)) : Sem Next).run c.P w = .ok (.value x) w ∧ R c h μ w v x := by
    rintro s ⟨y, h1, h2⟩
    exact ⟨y, by simp only [Sem.run_bind, h1, Result.andThen_ok, Sem.run_pure], h2⟩
  unfold execOp
  generalize o.op = op at hv ⊢
  cases op <;> simp only [pval] at hv <;> try (cases hv; done)
  case move x => cases hv; exact ⟨_, rfl, he x⟩
  case assign x => cases hv; exact ⟨_, rfl, he x⟩
  case pick cc a b =>
    split at hv
    · rename_i t ht
      cases hv
      have h1 := he cc
      rw [ht] at h1
      obtain ⟨h2, _⟩ := h1.s_eq
      refine ⟨if t then ρ a else ρ b, by simp [h2, asBool, Sem.run, pure], ?_⟩
      split <;> exact he _
    · cases hv
  case load T a => exact fin (load_sound H (he a) hv)
  case nilCheck x =>
    have h1 := he x
    split at hv
    · rename_i b r k hx
      cases hv
      rw [hx] at h1
      obtain ⟨q, base, size, hm, h2⟩ := h1.ptr_inv
      exact ⟨ρ x, by simp only [h2]; rfl, h1⟩
    · rename_i cs hx
      cases hv
      rw [hx] at h1
      obtain ⟨ad, g, h2, _⟩ := h1.pc_inv
      exact ⟨ρ x, by simp only [h2]; rfl, h1⟩
    · rename_i f cs hx
      cases hv
      rw [hx] at h1
      obtain ⟨xs, h2, _⟩ := h1.fn_inv
      exact ⟨ρ x, by simp only [h2]; rfl, h1⟩
    · cases hv
  case binOp op T x y yT =>
    obtain ⟨z, rfl, hz, h1⟩ := run_abin hp (he x) (he y) hv x y
    exact fin ⟨z, h1, .s _ hz⟩
  case unOp op T x =>
    have h1 := he x
    generalize e x = ex at hv h1
    cases ex <;> try (cases op <;> simp [aun] at hv; done)
    rename_i xv
    obtain ⟨h2, _⟩ := h1.s_eq
    obtain ⟨y, rfl, hy, h3⟩ := run_aun (P := c.P) (w := w) hv
    exact fin ⟨y, by rw [h2]; exact h3, .s _ hy⟩
  case convert src dst x => exact fin (conv_sound H (he x) hv)
  case slice T x lo hi mx => exact fin (slice_sound H he (he x) hv)
  case fieldAddr T x f => exact fin (fieldAddr_sound (he x) hv)
  case field T x f => exact fin (field_sound (he x) hv)
  case indexAddr T x i => exact fin (indexAddr_sound H (he x) (he i) hv)
  case index T x i => exact fin (index_sound (he x) (he i) hv)
  case build T parts => exact fin (build_sound he hv)
  case extract x i =>
    split at hv
    · rename_i vs hx
      have h1 := he x
      rw [hx] at h1
      obtain ⟨xs, h2, hl, hr⟩ := h1.tup_inv
      obtain ⟨hi, hvi⟩ := List.getElem?_eq_some_iff.1 hv
      have h3 := hr i hi
      have h4 : vs.getD i .undef = v := by simp [List.getD_eq_getElem?_getD, hv]
      rw [h4] at h3
      exact fin ⟨xs.getD i Go.undef, by simp [h2, Instr.extract, hl, hi, Sem.run, pure], h3⟩
    · cases hv
  case makeFunc fn first caps =>
    split at hv
    · rename_i f
      split at hv
      · rename_i hf
        cases hv
        subst hf
        refine fin ⟨.func (.func f) #[] (caps.map ρ), by simp [Instr.makeFunc, Sem.run, pure], .fn f _ _ (by simp) fun i hi => ?_⟩
        have hi' : i < caps.size := by simpa using hi
        have h1 : (caps.toList.map e).getD i .undef = e caps[i] := by simp [List.getD_eq_getElem?_getD, hi']
        have h2 : (caps.map ρ).getD i Go.undef = ρ caps[i] := by simp [hi']
        rw [h1, h2]
        exact he _
      · cases hv
    · cases hv
  case call cl =>
    obtain ⟨callee, args, argTypes⟩ := cl
    cases callee <;> simp only at hv <;> try (cases hv; done)
    rename_i b
    cases b <;> simp only at hv <;> try (cases hv; done)
    case cap =>
      split at hv
      · rename_i x T hx hT
        obtain rfl : args = #[x] := by simpa using congrArg List.toArray hx
        obtain rfl : argTypes = #[T] := by simpa using congrArg List.toArray hT
        obtain ⟨z, h1, h2⟩ := cap_sound (he x) hv o.type
        exact ⟨z, by simp [resolve, invoke, builtin, h1, Sem.run, pure], h2⟩
      · cases hv
    case len =>
      split at hv
      · rename_i x T hx hT
        obtain rfl : args = #[x] := by simpa using congrArg List.toArray hx
        obtain rfl : argTypes = #[T] := by simpa using congrArg List.toArray hT
        obtain ⟨z, h1, h2⟩ := len_sound (he x) hv o.type
        exact ⟨z, by simp [resolve, invoke, builtin, h1, Sem.run, pure], h2⟩
      · cases hv
    case max =>
      obtain ⟨a, b, hab⟩ := two_of_min (.inr hv)
      obtain ⟨x, l, hx⟩ : ∃ x l, args.toList = x :: l := by cases hl : args.toList with | nil => simp [hl] at hab | cons x l => exact ⟨x, l, rfl⟩
      obtain ⟨y, l', hy⟩ : ∃ y l', l = y :: l' := by cases l with | nil => simp [hx] at hab | cons y l' => exact ⟨y, l', rfl⟩
      subst hy
      obtain rfl : l' = [] := by simpa [hx] using congrArg List.length hab
      obtain rfl : args = #[x, y] := by simpa using congrArg List.toArray hx
      obtain ⟨z, h1, h2⟩ := max_sound (he x) (he y) (by simpa using hv) argTypes o.type
      exact ⟨z, by simp [resolve, invoke, builtin, h1, Sem.run, pure], h2⟩
    case min =>
      obtain ⟨a, b, hab⟩ := two_of_min (.inl hv)
      obtain ⟨x, l, hx⟩ : ∃ x l, args.toList = x :: l := by cases hl : args.toList with | nil => simp [hl] at hab | cons x l => exact ⟨x, l, rfl⟩
      obtain ⟨y, l', hy⟩ : ∃ y l', l = y :: l' := by cases l with | nil => simp [hx] at hab | cons y l' => exact ⟨y, l', rfl⟩
      subst hy
      obtain rfl : l' = [] := by simpa [hx] using congrArg List.length hab
      obtain rfl : args = #[x, y] := by simpa using congrArg List.toArray hx
      obtain ⟨z, h1, h2⟩ := min_sound (he x) (he y) (by simpa using hv) argTypes o.type
      exact ⟨z, by simp [resolve, invoke, builtin, h1, Sem.run, pure], h2⟩
end
end Go.Proofs.Ytahgddfnbjpfiaa.Am

/- An abstract machine over values: new blocks, stores, append. -/
set_option linter.unusedVariables false
set_option linter.unusedSimpArgs false
namespace Go.Proofs.Ytahgddfnbjpfiaa.Am
open Go Go.RowKit

structure St where
  t : Nat → V
  h : Hp
  n : Nat
def St.new (σ : St) (B : Blk) : St := ⟨σ.t, upd σ.h σ.n (some B), σ.n + 1⟩
def St.set (σ : St) (b : Nat) (B : Blk) : St := ⟨σ.t, upd σ.h b (some B), σ.n⟩
/-- Block b gives way to a new name. -/
def St.ren (σ : St) (b : Nat) (B : Blk) : St := ⟨σ.t, upd (upd σ.h b none) σ.n (some B), σ.n + 1⟩

def spare (z m : Nat) : List (List V) := List.replicate m (List.replicate z .any)

def Out (c : Cx) (σ : St) (μ : Mu) (w : World) (K : V → St → Prop) (r : Result Next) : Prop :=
  ∃ v x h' n' μ' w', (r = .ok (.value x) w' ∨ (r = .ok .skip w' ∧ x = Go.undef)) ∧ K v ⟨σ.t, h', n'⟩ ∧ HS c h' n' μ' w' ∧ Ext c σ.h μ w h' μ' w' ∧ R c h' μ' w' v x

section
variable {c : Cx} {h : Hp} {n : Nat} {μ : Mu} {w : World}
/-- A new block of rows. -/
theorem HS.newRow (H : HS c h n μ w) (B : Blk) (cells : Array Value) (e : TypeId) (fr : Nat × Nat) {w1 : World} (hw : Below w.heap.size w w1) (hsz : w1.heap.size = w.heap.size) (hl : ∀ r ∈ B.rows, r.length = B.size)
    (hfr : ∀ j, (B.size ≠ 1 ∨ j < B.rows.length * B.size) → ¬ (fr.1 ≤ j ∧ j < fr.2))
    (hc : ∀ i j, i < B.rows.length → j < B.size → ∃ x, cells[i * B.size + j]? = some x ∧ R c h μ w (cellAt B.rows i j) x) :
    HS c (upd h n (some B)) (n + 1) (upd μ n (some (.real w.heap.size 0 B.size))) (w1.alloc (.cells cells e fr)) ∧ Ext c h μ w (upd h n (some B)) (upd μ n (some (.real w.heap.size 0 B.size))) (w1.alloc (.cells cells e fr)) := by
  have hb : Below w.heap.size w (w1.alloc (.cells cells e fr)) := hw.alloc (by omega) _
  have hnew : (w1.alloc (.cells cells e fr)).heap[w.heap.size]? = some (.cells cells e fr) := by
    show (w1.heap.push _)[w.heap.size]? = _
    rw [← hsz]
    simp
  refine H.fresh hb w.heap.size 0 B (Nat.le_refl _) (by show w.heap.size < (w1.heap.push _).size; simp; omega) hl fun i j hi hj => ?_
  obtain ⟨x, h1, h2⟩ := hc i j hi hj
  have hlt : i * B.size + j < B.rows.length * B.size := by
    have : (i + 1) * B.size ≤ B.rows.length * B.size := Nat.mul_le_mul_right _ hi
    rw [Nat.add_mul] at this
    omega
  refine ⟨x, ?_, ?_, fun e => e.R h2⟩
  · simp only [World.cell?, hnew, Nat.zero_add]
    simpa using h1
  · intro o ho
    have := hfr o (ho.imp id fun e => by omega)
    simp only [World.frozen?, hnew]
    simpa using this

theorem grow_gen {P : Program} {t u e d : TypeId} {i : TypeInfo} {z : Value} {ty : TypeId} (ht : P.underlying t = some (.slice e)) (hu : P.underlying u = some (.slice d) ∨ P.underlying u = some .string) (hi : P.info? e = some i) (hz : i.zero = some z)
    {w : World} {b : Option Addr} {sLen sCap m : Nat} {olds news : Array Value} {x : Value}
    (ho : (Builtin.firstCells i.size sLen (.slice b sLen sCap)).run P w.drew = .ok olds w.drew) (hx : ∀ w', (Builtin.lenOf x).run P w' = .ok m w') (hn : (Builtin.firstCells i.size m x).run P w.drew = .ok news w.drew)
    (hg : sCap < sLen + m) (h63 : sLen + m ≤ 9223372036854775807) (hfit : Builtin.nextslicecap (sLen + m) sCap * i.bytes ≤ 281474976710656) :
    (Builtin.append_ #[t, u] ty #[.slice b sLen sCap, x]).run P w = .ok (.slice (some ⟨w.heap.size, 0, none⟩) (sLen + m) (grownCap w (sLen + m) sCap e))
      (w.drew.alloc (.cells (olds ++ news ++ Builtin.zeroCells z.cells (grownCap w (sLen + m) sCap e - (sLen + m))) e)) := by
  have hn' : ¬ (sLen + m ≤ sCap) := by omega
  have h63' : ¬ (9223372036854775807 < ((sLen : Int) + (m : Int))) := by omega
  have hfit' : ¬ (281474976710656 < Builtin.nextslicecap (sLen + m) sCap * i.bytes) := by omega
  have hd : { w with drawn := w.drawn + 1 } = w.drew := rfl
  rcases hu with hu | hu
  · simp [Builtin.append_, run_underlying ht, run_underlying hu, sizeOf, typeInfo, zeroValue, hi, hz, hx, hn', h63', hfit', Question.forced, newRow, grownCap, IntKind.max, IntKind.signed, IntKind.bits, ho, hn, hd]
  · simp [Builtin.append_, run_underlying ht, run_underlying hu, sizeOf, typeInfo, zeroValue, hi, hz, hx, hn', h63', hfit', Question.forced, newRow, grownCap, IntKind.max, IntKind.signed, IntKind.bits, ho, hn, hd]
theorem room_gen {P : Program} {t u e d : TypeId} {i : TypeInfo} {ty : TypeId} (ht : P.underlying t = some (.slice e)) (hu : P.underlying u = some (.slice d) ∨ P.underlying u = some .string) (hi : P.info? e = some i)
    {w w' : World} {b : Option Addr} {sLen sCap m : Nat} {news : Array Value} {x : Value}
    (hx : ∀ w', (Builtin.lenOf x).run P w' = .ok m w') (hn : (Builtin.firstCells i.size m x).run P w = .ok news w)
    (hg : sLen + m ≤ sCap) (hs : match b with | some a => (storeCells (a.add (sLen * i.size)) news.toList).run P w = .ok () w' | none => w' = w) :
    (Builtin.append_ #[t, u] ty #[.slice b sLen sCap, x]).run P w = .ok (.slice b (sLen + m) sCap) w' := by
  rcases hu with hu | hu
  · cases b with
    | none => subst hs; simp [Builtin.append_, run_underlying ht, run_underlying hu, sizeOf, typeInfo, hi, hx, hg, hn]
    | some a => simp only at hs; simp [Builtin.append_, run_underlying ht, run_underlying hu, sizeOf, typeInfo, hi, hx, hg, hn, hs]
  · cases b with
    | none => subst hs; simp [Builtin.append_, run_underlying ht, run_underlying hu, sizeOf, typeInfo, hi, hx, hg, hn]
    | some a => simp only at hs; simp [Builtin.append_, run_underlying ht, run_underlying hu, sizeOf, typeInfo, hi, hx, hg, hn, hs]
end
end Go.Proofs.Ytahgddfnbjpfiaa.Am
