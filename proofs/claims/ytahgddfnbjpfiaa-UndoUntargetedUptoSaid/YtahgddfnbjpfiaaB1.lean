/- Texts that the law's proof stands on: AmBase, AmHeap, AmTurn, AmPure. -/
import Derived.Tactics
import Derived.Below
import Derived.Deep.Draws
import Derived.Orders
import Derived.LoopN
import Derived.Laws.Cells
import Derived.Laws.Entries
import Derived.Laws.IdiomCopy
import Derived.KernelRfl
/- An abstract machine over values: the values, and what a machine's value must be to stand for one. -/
namespace Go.Proofs.Ytahgddfnbjpfiaa.Am
open Go Go.RowKit

/-- Abstract values. 'sl': a slice that is only read, row by row; 'cap0': an empty slice without room (nil among them); 'pc': a pointer to cells that are only read; 'ptr', 'loc': into a block of the call's own; 'own': a slice that is handed over. -/
inductive V where
  | undef
  | any
  | s (v : Value)
  | sl (rows : List (List V))
  | cap0
  | agg (cs : List V)
  | tup (vs : List V)
  | pc (cells : List V)
  | ptr (b row col : Nat)
  | loc (b off len cap : Nat)
  | fn (f : Nat) (caps : List V)
  | fv (k : Nat)
  | own (size : Nat) (rows : List (List V))
  | glb (g : Nat)
  | mp (k : Nat)
  deriving Inhabited

def flat : Value → Bool
  | .bool _ | .int _ _ | .string _ | .nilFunc | .nilIface => true
  | .map r => r.isNone
  | .pointer a => a.isNone
  | _ => false

/-- Where a block of the call's own lies: nowhere (a nil slice was handed over), or in block k from base on, its rows 'size' cells wide. -/
inductive Lc where
  | virt
  | real (k base size : Nat)
abbrev Mu := Nat → Option Lc

section
variable (w : World) (ok : Nat → Prop)
/-- Data that is only read, all the way down. -/
inductive Dp : V → Value → Prop
  | s (v : Value) (h : flat v = true) : Dp (.s v) v
  | sl (rows : List (List V)) (n c size : Nat) (A : Option Addr) (g : Nat → Nat → Value) (hn : rows.length = n) (hc : n ≤ c) (hs : ∀ r ∈ rows, r.length = size)
      (hA : n ≠ 0 → ∃ ad : Addr, A = some ad ∧ ok ad.block ∧ ∀ i j, i < n → j < size → w.cell? (ad.add (i * size + j)) = some (g i j))
      (hr : ∀ i j, i < n → j < size → Dp ((rows.getD i []).getD j .undef) (g i j)) : Dp (.sl rows) (.slice A n c)
end
section
variable (fvals : Nat → Value) (w : World) (ok : Nat → Prop) (μ : Mu)
inductive Rp : V → Value → Prop
  | undef : Rp .undef Go.undef
  | any (x : Value) : Rp .any x
  | s (v : Value) (h : flat v = true) : Rp (.s v) v
  | cap0 (A : Option Addr) : Rp .cap0 (.slice A 0 0)
  | sl (rows : List (List V)) (n c size : Nat) (A : Option Addr) (g : Nat → Nat → Value) (hn : rows.length = n) (hc : n ≤ c) (hs : ∀ r ∈ rows, r.length = size)
      (hA : n ≠ 0 → ∃ ad : Addr, A = some ad ∧ ok ad.block ∧ ∀ i j, i < n → j < size → w.cell? (ad.add (i * size + j)) = some (g i j))
      (hr : ∀ i j, i < n → j < size → Dp w ok ((rows.getD i []).getD j .undef) (g i j)) : Rp (.sl rows) (.slice A n c)
  | agg (cs : List V) (xs : Array Value) (hl : xs.size = cs.length) (h : ∀ i, i < cs.length → Rp (cs.getD i .undef) (xs.getD i Go.undef)) : Rp (.agg cs) (.agg xs)
  | tup (cs : List V) (xs : Array Value) (hl : xs.size = cs.length) (h : ∀ i, i < cs.length → Rp (cs.getD i .undef) (xs.getD i Go.undef)) : Rp (.tup cs) (.tuple xs)
  | pc (cells : List V) (ad : Addr) (g : Nat → Value) (hb : ok ad.block) (hc : ∀ j, j < cells.length → w.cell? (ad.add j) = some (g j))
      (hr : ∀ j, j < cells.length → Dp w ok (cells.getD j .undef) (g j)) : Rp (.pc cells) (.pointer (some ad))
  | ptr (b row col k base size : Nat) (h : μ b = some (.real k base size)) : Rp (.ptr b row col) (.pointer (some ⟨k, base + (row * size + col), none⟩))
  | loc (b off len cap k base size : Nat) (h : μ b = some (.real k base size)) (hc : len ≤ cap) : Rp (.loc b off len cap) (.slice (some ⟨k, base + off * size, none⟩) len cap)
  | loc0 (b off : Nat) (A : Option Addr) (t : Lc) (h : μ b = some t) : Rp (.loc b off 0 0) (.slice A 0 0)
  | fn (f : Nat) (caps : List V) (xs : Array Value) (hl : xs.size = caps.length) (h : ∀ i, i < caps.length → Rp (caps.getD i .undef) (xs.getD i Go.undef)) : Rp (.fn f caps) (.func (.func f) #[] xs)
  | fv (k : Nat) : Rp (.fv k) (fvals k)
  | glb (g : Nat) : Rp (.glb g) (.pointer (some ⟨g, 0, none⟩))
  | mp (k : Nat) : Rp (.mp k) (.map (some k))
end

theorem cell_same {w w' : World} {a : Addr} (h : w'.heap[a.block]? = w.heap[a.block]?) : w'.cell? a = w.cell? a := by
  unfold World.cell?
  rw [h]
theorem frozen_same {w w' : World} {a : Addr} (h : w'.heap[a.block]? = w.heap[a.block]?) : w'.frozen? a = w.frozen? a := by
  unfold World.frozen?
  rw [h]
theorem add_block (a : Addr) (n : Nat) : (a.add n).block = a.block := by
  unfold Addr.add
  split <;> rfl
theorem add_plain (k o n : Nat) : (⟨k, o, none⟩ : Addr).add n = ⟨k, o + n, none⟩ := by
  unfold Addr.add
  split <;> simp_all
theorem add_add (a : Addr) (m n : Nat) : (a.add m).add n = a.add (m + n) := by
  unfold Addr.add
  by_cases h1 : m = 0 <;> by_cases h2 : n = 0 <;> simp [h1, h2, Nat.add_assoc]

theorem Dp.R {fvals : Nat → Value} {w : World} {ok : Nat → Prop} {μ : Mu} {v : V} {x : Value} (h : Dp w ok v x) : Rp fvals w ok μ v x := by
  cases h with
  | s _ h => exact .s _ h
  | sl rows n c size A g hn hc hs hA hr => exact .sl rows n c size A g hn hc hs hA hr
theorem Dp.mono {w w' : World} {ok ok' : Nat → Prop} {v : V} {x : Value} (h : Dp w ok v x) (hw : ∀ k, ok k → ok' k ∧ w'.heap[k]? = w.heap[k]?) : Dp w' ok' v x := by
  induction h with
  | s v h => exact .s v h
  | sl rows n c size A g hn hc hs hA hr ih =>
    refine .sl rows n c size A g hn hc hs (fun h => ?_) ih
    obtain ⟨ad, rfl, hk, hcell⟩ := hA h
    refine ⟨ad, rfl, (hw _ hk).1, fun i j hi hj => ?_⟩
    rw [← hcell i j hi hj]
    exact cell_same (by rw [add_block]; exact (hw _ hk).2)
theorem Rp.mono {fvals : Nat → Value} {w w' : World} {ok ok' : Nat → Prop} {μ μ' : Mu} {v : V} {x : Value} (h : Rp fvals w ok μ v x)
    (hw : ∀ k, ok k → ok' k ∧ w'.heap[k]? = w.heap[k]?) (hμ' : ∀ b t, μ b = some t → μ' b = some t) : Rp fvals w' ok' μ' v x := by
  induction h with
  | undef => exact .undef
  | any x => exact .any x
  | s v h => exact .s v h
  | cap0 A => exact .cap0 A
  | sl rows n c size A g hn hc hs hA hr =>
    refine .sl rows n c size A g hn hc hs (fun h => ?_) (fun i j hi hj => (hr i j hi hj).mono hw)
    obtain ⟨ad, rfl, hk, hcell⟩ := hA h
    refine ⟨ad, rfl, (hw _ hk).1, fun i j hi hj => ?_⟩
    rw [← hcell i j hi hj]
    exact cell_same (by rw [add_block]; exact (hw _ hk).2)
  | agg cs xs hl h ih => exact .agg cs xs hl ih
  | tup cs xs hl h ih => exact .tup cs xs hl ih
  | pc cells ad g hb hc hr =>
    refine .pc cells ad g (hw _ hb).1 (fun j hj => ?_) (fun j hj => (hr j hj).mono hw)
    rw [← hc j hj]
    exact cell_same (by rw [add_block]; exact (hw _ hb).2)
  | ptr b row col k base size h => exact .ptr b row col k base size (hμ' _ _ h)
  | loc b off len cap k base size h hc => exact .loc b off len cap k base size (hμ' _ _ h) hc
  | loc0 b off A t h => exact .loc0 b off A t (hμ' _ _ h)
  | fn f caps xs hl h ih => exact .fn f caps xs hl ih
  | fv k => exact .fv k
  | glb g => exact .glb g
  | mp k => exact .mp k

end Go.Proofs.Ytahgddfnbjpfiaa.Am

/- An abstract machine over values: the blocks of a call's own, and what a step may turn. -/
set_option linter.unusedVariables false
namespace Go.Proofs.Ytahgddfnbjpfiaa.Am
open Go Go.RowKit

structure Blk where
  size : Nat
  rows : List (List V)
  wr : Bool

/-- Only blocks in X may have turned. -/
structure Fr (w w' : World) (X : Nat → Prop) : Prop where
  os : w'.os = w.os
  tape : w'.tape = w.tape
  output : w'.output = w.output
  size : w.heap.size ≤ w'.heap.size
  block : ∀ k, k < w.heap.size → ¬ X k → w'.heap[k]? = w.heap[k]?

/-- What a world of the seat holds beside: tables of the library (laid by mkam.py). -/
def gtab (P : Program) (g : Nat) : Option (List Value) := none
def WMore (P : Program) (w : World) : Prop := True
def WInv (P : Program) (w : World) : Prop := WMore P w ∧ ∀ g vs, gtab P g = some vs → (∀ v ∈ vs, flat v = true) ∧ ∀ j, j < vs.length → w.cell? ⟨g, j, none⟩ = some (vs.getD j Go.undef)

structure Cx where
  P : Program
  w0 : World
  ok0 : Nat → Prop
  X : Nat → Prop
  fvals : Nat → Value
  inv : ∀ w1, Fr w0 w1 X → WInv P w1

abbrev Hp := Nat → Option Blk

theorem Fr.refl (w : World) (X : Nat → Prop) : Fr w w X := ⟨rfl, rfl, rfl, Nat.le_refl _, fun _ _ _ => rfl⟩
theorem Fr.more {w w1 w2 : World} {X : Nat → Prop} (a : Fr w w1 X) (b : Fr w1 w2 fun _ => False) : Fr w w2 X :=
  ⟨b.os.trans a.os, b.tape.trans a.tape, b.output.trans a.output, Nat.le_trans a.size b.size, fun k hk hx => (b.block k (Nat.lt_of_lt_of_le hk a.size) id).trans (a.block k hk hx)⟩
theorem Fr.of_below {w w' : World} {X : Nat → Prop} (h : Below w.heap.size w w') : Fr w w' X := ⟨h.os, h.tape, h.output, h.size, fun k hk _ => h.block k hk⟩
theorem Fr.below {w w' : World} (h : Fr w w' fun _ => False) : Below w.heap.size w w' := ⟨h.os, h.tape, h.output, h.size, fun k hk => h.block k hk id⟩

def live (h : Hp) (μ : Mu) (k : Nat) : Prop := ∃ b B base size, h b = some B ∧ B.wr = true ∧ μ b = some (.real k base size)
def okB (c : Cx) (h : Hp) (μ : Mu) (w : World) (k : Nat) : Prop := (c.ok0 k ∨ c.w0.heap.size ≤ k ∨ c.X k) ∧ k < w.heap.size ∧ ¬ live h μ k

abbrev R (c : Cx) (h : Hp) (μ : Mu) (w : World) : V → Value → Prop := Rp c.fvals w (okB c h μ w) μ

def cellAt (rows : List (List V)) (i j : Nat) : V := (rows.getD i []).getD j .undef

def BlkAt (c : Cx) (h : Hp) (μ : Mu) (w : World) (b : Nat) (B : Blk) : Prop :=
  (μ b = some .virt ∧ B.rows = []) ∨ ∃ k base, μ b = some (.real k base B.size) ∧ k < w.heap.size ∧ ((c.ok0 k ∨ c.w0.heap.size ≤ k ∨ c.X k) ∧ (B.wr = true → c.w0.heap.size ≤ k ∨ c.X k)) ∧ (∀ r ∈ B.rows, r.length = B.size) ∧
    ∀ i j, i < B.rows.length → j < B.size → ∃ x, w.cell? ⟨k, base + (i * B.size + j), none⟩ = some x ∧ (∀ o, (B.size ≠ 1 ∨ o = base + (i * B.size + j)) → w.frozen? ⟨k, o, none⟩ = false) ∧ R c h μ w (cellAt B.rows i j) x

structure HS (c : Cx) (h : Hp) (n : Nat) (μ : Mu) (w : World) : Prop where
  fr : Fr c.w0 w c.X
  hfresh : ∀ b, n ≤ b → h b = none
  mfresh : ∀ b, n ≤ b → μ b = none
  blk : ∀ b B, h b = some B → BlkAt c h μ w b B
  inj : ∀ b b' B B' k base size base' size', h b = some B → h b' = some B' → B.wr = true → μ b = some (.real k base size) → μ b' = some (.real k base' size') → b = b'

structure Ext (c : Cx) (h : Hp) (μ : Mu) (w : World) (h' : Hp) (μ' : Mu) (w' : World) : Prop where
  ok : ∀ k, okB c h μ w k → okB c h' μ' w' k ∧ w'.heap[k]? = w.heap[k]?
  mu : ∀ b t, μ b = some t → μ' b = some t
  sz : w.heap.size ≤ w'.heap.size
theorem Ext.refl (c : Cx) (h : Hp) (μ : Mu) (w : World) : Ext c h μ w h μ w := ⟨fun _ h => ⟨h, rfl⟩, fun _ _ h => h, Nat.le_refl _⟩
theorem Ext.trans {c : Cx} {h h1 h2 : Hp} {μ μ1 μ2 : Mu} {w w1 w2 : World} (a : Ext c h μ w h1 μ1 w1) (b : Ext c h1 μ1 w1 h2 μ2 w2) : Ext c h μ w h2 μ2 w2 :=
  ⟨fun k hk => ⟨(b.ok k (a.ok k hk).1).1, (b.ok k (a.ok k hk).1).2.trans (a.ok k hk).2⟩, fun x t hx => b.mu x t (a.mu x t hx), Nat.le_trans a.sz b.sz⟩
theorem Ext.R {c : Cx} {h h' : Hp} {μ μ' : Mu} {w w' : World} (e : Ext c h μ w h' μ' w') {v : V} {x : Value} (r : R c h μ w v x) : R c h' μ' w' v x := r.mono e.ok e.mu

theorem HS.wr_block {c : Cx} {h : Hp} {n : Nat} {μ : Mu} {w : World} (H : HS c h n μ w) {k : Nat} (hl : live h μ k) : (c.w0.heap.size ≤ k ∨ c.X k) ∧ k < w.heap.size := by
  obtain ⟨b, B, base, size, hb, hw, hm⟩ := hl
  rcases H.blk b B hb with ⟨hv, _⟩ | ⟨k', base', hm', hk, hx, _⟩
  · rw [hm] at hv; cases hv
  · rw [hm] at hm'
    cases hm'
    exact ⟨hx.2 hw, hk⟩

/-- Whatever a step does: the blocks that could be written before it alone have turned, what can be written behind it could be written before it or is new. -/
theorem HS.step {c : Cx} {h h' : Hp} {n n' : Nat} {μ μ' : Mu} {w w' : World} (H : HS c h n μ w) (hf : Fr w w' (live h μ))
    (hmu : ∀ b t, μ b = some t → μ' b = some t) (hmn : ∀ b, n' ≤ b → μ' b = none) (hhn : ∀ b, n' ≤ b → h' b = none)
    (hl : ∀ k, live h' μ' k → live h μ k ∨ w.heap.size ≤ k)
    (hb : Ext c h μ w h' μ' w' → ∀ b B, h' b = some B → BlkAt c h' μ' w' b B)
    (hi : ∀ b b' B B' k base size base' size', h' b = some B → h' b' = some B' → B.wr = true → μ' b = some (.real k base size) → μ' b' = some (.real k base' size') → b = b') :
    HS c h' n' μ' w' ∧ Ext c h μ w h' μ' w' := by
  have e : Ext c h μ w h' μ' w' := by
    refine ⟨fun k hk => ⟨⟨hk.1, Nat.lt_of_lt_of_le hk.2.1 hf.size, fun hl' => ?_⟩, hf.block k hk.2.1 hk.2.2⟩, hmu, hf.size⟩
    rcases hl k hl' with h1 | h1
    · exact hk.2.2 h1
    · exact absurd hk.2.1 (by omega)
  refine ⟨⟨⟨hf.os.trans H.fr.os, hf.tape.trans H.fr.tape, hf.output.trans H.fr.output, Nat.le_trans H.fr.size hf.size, fun k hk hx => ?_⟩, hhn, hmn, hb e, hi⟩, e⟩
  rw [hf.block k (Nat.lt_of_lt_of_le hk H.fr.size) (fun hl' => by
    rcases (H.wr_block hl').1 with h1 | h1
    · omega
    · exact hx h1)]
  exact H.fr.block k hk hx

/-- A block that a step leaves alone. -/
theorem BlkAt.keep {c : Cx} {h h' : Hp} {μ μ' : Mu} {w w' : World} (e : Ext c h μ w h' μ' w') (hs : w.heap.size ≤ w'.heap.size) {b : Nat} {B : Blk} (hB : BlkAt c h μ w b B)
    (hk : ∀ k base size, μ b = some (.real k base size) → w'.heap[k]? = w.heap[k]?) : BlkAt c h' μ' w' b B := by
  rcases hB with ⟨h1, h2⟩ | ⟨k, base, h1, h2, h3, h4, h5⟩
  · exact .inl ⟨e.mu _ _ h1, h2⟩
  · refine .inr ⟨k, base, e.mu _ _ h1, by omega, h3, h4, fun i j hi hj => ?_⟩
    obtain ⟨x, hx, hz, hr⟩ := h5 i j hi hj
    exact ⟨x, by rw [← hx]; exact cell_same (hk _ _ _ h1), fun o ho => by rw [← hz o ho]; exact frozen_same (hk _ _ _ h1), e.R hr⟩

def upd {α : Type} (f : Nat → α) (k : Nat) (v : α) : Nat → α := fun j => if j = k then v else f j
theorem upd_same {α : Type} (f : Nat → α) (k : Nat) (v : α) : upd f k v k = v := by simp [upd]
theorem upd_ne {α : Type} (f : Nat → α) (k j : Nat) (v : α) (h : j ≠ k) : upd f k v j = f j := by simp [upd, h]

/-- A call that lets all old blocks be; a new block that nobody knows; a draw. -/
theorem HS.below {c : Cx} {h : Hp} {n : Nat} {μ : Mu} {w w' : World} (H : HS c h n μ w) (hb : Below w.heap.size w w') : HS c h n μ w' ∧ Ext c h μ w h μ w' := by
  refine H.step (Fr.of_below hb) (fun _ _ h => h) H.mfresh H.hfresh (fun _ h => .inl h) (fun e b B hB => ?_) H.inj
  refine (H.blk b B hB).keep e hb.size fun k base size hk => hb.block k ?_
  rcases H.blk b B hB with ⟨h1, h2⟩ | ⟨k', base', h1, h2, _⟩
  · rw [hk] at h1; cases h1
  · rw [hk] at h1; cases h1; exact h2

/-- A new block of one's own: it lies in a block that was not there. -/
theorem HS.fresh {c : Cx} {h : Hp} {n : Nat} {μ : Mu} {w w' : World} (H : HS c h n μ w) (hb : Below w.heap.size w w') (k base : Nat) (B : Blk) (hk : w.heap.size ≤ k) (hk' : k < w'.heap.size)
    (hl : ∀ r ∈ B.rows, r.length = B.size)
    (hc : ∀ i j, i < B.rows.length → j < B.size → ∃ x, w'.cell? ⟨k, base + (i * B.size + j), none⟩ = some x ∧ (∀ o, (B.size ≠ 1 ∨ o = base + (i * B.size + j)) → w'.frozen? ⟨k, o, none⟩ = false) ∧
      (Ext c h μ w (upd h n (some B)) (upd μ n (some (.real k base B.size))) w' → R c (upd h n (some B)) (upd μ n (some (.real k base B.size))) w' (cellAt B.rows i j) x)) :
    HS c (upd h n (some B)) (n + 1) (upd μ n (some (.real k base B.size))) w' ∧ Ext c h μ w (upd h n (some B)) (upd μ n (some (.real k base B.size))) w' := by
  have hne : ∀ b t, μ b = some t → b ≠ n := fun b t h e => by rw [e, H.mfresh n (Nat.le_refl _)] at h; cases h
  have hne' : ∀ b t, h b = some t → b ≠ n := fun b t h e => by rw [e, H.hfresh n (Nat.le_refl _)] at h; cases h
  have hreal : ∀ b B' k' base' size', h b = some B' → μ b = some (.real k' base' size') → k' < w.heap.size := by
    intro b B' k' base' size' hb' hm'
    rcases H.blk b B' hb' with ⟨h1, h2⟩ | ⟨k2, base2, h1, h2, _⟩
    · rw [hm'] at h1; cases h1
    · rw [hm'] at h1; cases h1; exact h2
  refine H.step (Fr.of_below hb) (fun b t hm => by rw [upd_ne _ _ _ _ (hne b t hm)]; exact hm) (fun b hb' => by rw [upd_ne _ _ _ _ (by omega)]; exact H.mfresh b (by omega))
    (fun b hb' => by rw [upd_ne _ _ _ _ (by omega)]; exact H.hfresh b (by omega)) ?_ (fun e b B' hB => ?_) ?_
  · rintro k' ⟨b, B', base', size', h1, h2, h3⟩
    by_cases hbn : b = n
    · subst hbn
      rw [upd_same] at h3
      cases h3
      exact .inr hk
    · rw [upd_ne _ _ _ _ hbn] at h1 h3
      exact .inl ⟨b, B', base', size', h1, h2, h3⟩
  · by_cases hbn : b = n
    · subst hbn
      rw [upd_same] at hB
      cases hB
      refine .inr ⟨k, base, by rw [upd_same], hk', ⟨.inr (.inl (Nat.le_trans H.fr.size hk)), fun _ => .inl (Nat.le_trans H.fr.size hk)⟩, hl, fun i j hi hj => ?_⟩
      obtain ⟨x, h1, h2, h3⟩ := hc i j hi hj
      exact ⟨x, h1, h2, h3 e⟩
    · rw [upd_ne _ _ _ _ hbn] at hB
      exact (H.blk b B' hB).keep e hb.size fun k' base' size' hm => hb.block k' (hreal _ _ _ _ _ hB hm)
  · intro b b' B1 B2 k' base1 size1 base2 size2 h1 h2 h3 h4 h5
    by_cases hbn : b = n <;> by_cases hbn' : b' = n
    · rw [hbn, hbn']
    · subst hbn
      rw [upd_same] at h4
      rw [upd_ne _ _ _ _ hbn'] at h2 h5
      cases h4
      have := hreal _ _ _ _ _ h2 h5
      omega
    · subst hbn'
      rw [upd_same] at h5
      rw [upd_ne _ _ _ _ hbn] at h1 h4
      cases h5
      have := hreal _ _ _ _ _ h1 h4
      omega
    · rw [upd_ne _ _ _ _ hbn] at h1 h4
      rw [upd_ne _ _ _ _ hbn'] at h2 h5
      exact H.inj _ _ _ _ _ _ _ _ _ h1 h2 h3 h4 h5

end Go.Proofs.Ytahgddfnbjpfiaa.Am

/- An abstract machine over values: blocks that are written, dropped, bound anew. -/
set_option linter.unusedVariables false
namespace Go.Proofs.Ytahgddfnbjpfiaa.Am
open Go Go.RowKit

theorem HS.real_lt {c : Cx} {h : Hp} {n : Nat} {μ : Mu} {w : World} (H : HS c h n μ w) {b : Nat} {B : Blk} {k base size : Nat} (hb : h b = some B) (hm : μ b = some (.real k base size)) : k < w.heap.size := by
  rcases H.blk b B hb with ⟨h1, h2⟩ | ⟨k2, base2, h1, h2, _⟩
  · rw [hm] at h1; cases h1
  · rw [hm] at h1; cases h1; exact h2
theorem HS.id_ne {c : Cx} {h : Hp} {n : Nat} {μ : Mu} {w : World} (H : HS c h n μ w) {b : Nat} {B : Blk} (hb : h b = some B) : b ≠ n :=
  fun e => by rw [e, H.hfresh n (Nat.le_refl _)] at hb; cases hb
theorem HS.mu_ne {c : Cx} {h : Hp} {n : Nat} {μ : Mu} {w : World} (H : HS c h n μ w) {b : Nat} {t : Lc} (hb : μ b = some t) : b ≠ n :=
  fun e => by rw [e, H.mfresh n (Nat.le_refl _)] at hb; cases hb
theorem HS.id_lt {c : Cx} {h : Hp} {n : Nat} {μ : Mu} {w : World} (H : HS c h n μ w) {b : Nat} {B : Blk} (hb : h b = some B) : b < n := by
  rcases Nat.lt_or_ge b n with h1 | h1
  · exact h1
  · rw [H.hfresh b h1] at hb; cases hb

/-- A block's content is written anew. -/
theorem HS.write {c : Cx} {h : Hp} {n : Nat} {μ : Mu} {w w' : World} (H : HS c h n μ w) {b : Nat} {B B' : Blk} {k base : Nat} (hb : h b = some B) (hw : B.wr = true) (hm : μ b = some (.real k base B.size))
    (hf : Fr w w' (fun q => q = k)) (hs : w.heap.size = w'.heap.size) (hB' : B'.size = B.size) (hl : ∀ r ∈ B'.rows, r.length = B'.size)
    (hc : ∀ i j, i < B'.rows.length → j < B.size → ∃ x, w'.cell? ⟨k, base + (i * B.size + j), none⟩ = some x ∧ (∀ o, (B.size ≠ 1 ∨ o = base + (i * B.size + j)) → w'.frozen? ⟨k, o, none⟩ = false) ∧
      (Ext c h μ w (upd h b (some B')) μ w' → R c (upd h b (some B')) μ w' (cellAt B'.rows i j) x)) :
    HS c (upd h b (some B')) n μ w' ∧ Ext c h μ w (upd h b (some B')) μ w' := by
  have hlive : live h μ k := ⟨b, B, base, _, hb, hw, hm⟩
  have hkw := H.wr_block hlive
  refine H.step ⟨hf.os, hf.tape, hf.output, hf.size, fun q hq hnl => hf.block q hq (fun e => hnl (e ▸ hlive))⟩ (fun _ _ h => h) H.mfresh ?_ ?_ (fun e b2 B2 hB => ?_) ?_
  · intro b2 hb2
    rw [upd_ne _ _ _ _ (by have := H.id_lt hb; omega)]
    exact H.hfresh b2 hb2
  · rintro q ⟨b2, B2, base2, size2, h1, h2, h3⟩
    by_cases hbb : b2 = b
    · subst hbb
      rw [hm] at h3
      cases h3
      exact .inl hlive
    · rw [upd_ne _ _ _ _ hbb] at h1
      exact .inl ⟨b2, B2, base2, size2, h1, h2, h3⟩
  · by_cases hbb : b2 = b
    · subst hbb
      rw [upd_same] at hB
      cases hB
      refine .inr ⟨k, base, by rw [hB']; exact hm, by omega, ⟨.inr hkw.1, fun _ => hkw.1⟩, hl, fun i j hi hj => ?_⟩
      rw [hB'] at hj ⊢
      obtain ⟨x, h1, h2, h3⟩ := hc i j hi hj
      exact ⟨x, h1, h2, h3 e⟩
    · rw [upd_ne _ _ _ _ hbb] at hB
      refine (H.blk b2 B2 hB).keep e (by omega) fun q base2 size2 hm2 => hf.block q (H.real_lt hB hm2) (fun eq => ?_)
      subst eq
      exact hbb (H.inj b b2 B B2 q base B.size base2 size2 hb hB hw hm hm2).symm
  · intro b1 b2 B1 B2 q base1 size1 base2 size2 h1 h2 h3 h4 h5
    by_cases e1 : b1 = b <;> by_cases e2 : b2 = b
    · rw [e1, e2]
    · subst e1
      rw [upd_ne _ _ _ _ e2] at h2
      exact H.inj _ _ _ _ _ _ _ _ _ hb h2 hw h4 h5
    · subst e2
      rw [upd_ne _ _ _ _ e1] at h1
      exact H.inj _ _ _ _ _ _ _ _ _ h1 hb h3 h4 h5
    · rw [upd_ne _ _ _ _ e1] at h1
      rw [upd_ne _ _ _ _ e2] at h2
      exact H.inj _ _ _ _ _ _ _ _ _ h1 h2 h3 h4 h5

/-- A block is forgotten, or turned into one that is only read. -/
theorem HS.drop {c : Cx} {h : Hp} {n : Nat} {μ : Mu} {w : World} (H : HS c h n μ w) (b : Nat) : HS c (upd h b none) n μ w ∧ Ext c h μ w (upd h b none) μ w := by
  refine H.step (Fr.refl _ _) (fun _ _ h => h) H.mfresh ?_ ?_ (fun e b2 B2 hB => ?_) ?_
  · intro b2 hb2
    unfold upd
    split
    · rfl
    · exact H.hfresh b2 hb2
  · rintro q ⟨b2, B2, base2, size2, h1, h2, h3⟩
    by_cases hbb : b2 = b
    · subst hbb; rw [upd_same] at h1; cases h1
    · rw [upd_ne _ _ _ _ hbb] at h1
      exact .inl ⟨b2, B2, base2, size2, h1, h2, h3⟩
  · by_cases hbb : b2 = b
    · subst hbb; rw [upd_same] at hB; cases hB
    · rw [upd_ne _ _ _ _ hbb] at hB
      exact (H.blk b2 B2 hB).keep e (Nat.le_refl _) fun _ _ _ _ => rfl
  · intro b1 b2 B1 B2 q base1 size1 base2 size2 h1 h2 h3 h4 h5
    by_cases e1 : b1 = b
    · subst e1; rw [upd_same] at h1; cases h1
    · by_cases e2 : b2 = b
      · subst e2; rw [upd_same] at h2; cases h2
      · rw [upd_ne _ _ _ _ e1] at h1
        rw [upd_ne _ _ _ _ e2] at h2
        exact H.inj _ _ _ _ _ _ _ _ _ h1 h2 h3 h4 h5
def Blk.froz (B : Blk) : Blk := { B with wr := false }
theorem HS.freeze {c : Cx} {h : Hp} {n : Nat} {μ : Mu} {w : World} (H : HS c h n μ w) (b : Nat) {B : Blk} (hb : h b = some B) : HS c (upd h b (some B.froz)) n μ w ∧ Ext c h μ w (upd h b (some B.froz)) μ w := by
  refine H.step (Fr.refl _ _) (fun _ _ h => h) H.mfresh ?_ ?_ (fun e b2 B2 hB => ?_) ?_
  · intro b2 hb2
    rw [upd_ne _ _ _ _ (by have := H.id_lt hb; omega)]
    exact H.hfresh b2 hb2
  · rintro q ⟨b2, B2, base2, size2, h1, h2, h3⟩
    by_cases hbb : b2 = b
    · subst hbb; rw [upd_same] at h1; cases h1; cases h2
    · rw [upd_ne _ _ _ _ hbb] at h1
      exact .inl ⟨b2, B2, base2, size2, h1, h2, h3⟩
  · by_cases hbb : b2 = b
    · subst hbb
      rw [upd_same] at hB
      cases hB
      rcases (H.blk b2 B hb).keep e (Nat.le_refl _) fun _ _ _ _ => rfl with h1 | ⟨k, base, h1, h2, h3, h4, h5⟩
      · exact .inl h1
      · exact .inr ⟨k, base, h1, h2, ⟨h3.1, fun h => by cases h⟩, h4, h5⟩
    · rw [upd_ne _ _ _ _ hbb] at hB
      exact (H.blk b2 B2 hB).keep e (Nat.le_refl _) fun _ _ _ _ => rfl
  · intro b1 b2 B1 B2 q base1 size1 base2 size2 h1 h2 h3 h4 h5
    by_cases e1 : b1 = b
    · subst e1; rw [upd_same] at h1; cases h1; cases h3
    · by_cases e2 : b2 = b
      · subst e2
        rw [upd_ne _ _ _ _ e1] at h1
        exact H.inj _ _ _ _ _ _ _ _ _ h1 hb h3 h4 h5
      · rw [upd_ne _ _ _ _ e1] at h1
        rw [upd_ne _ _ _ _ e2] at h2
        exact H.inj _ _ _ _ _ _ _ _ _ h1 h2 h3 h4 h5

/-- Some blocks are only read from here on. -/
def frz (h : Hp) (p : Nat → Bool) : Hp := fun b => if p b then (h b).map Blk.froz else h b
theorem frz_inv {h : Hp} {p : Nat → Bool} {b : Nat} {B : Blk} (hb : frz h p b = some B) : ∃ B', h b = some B' ∧ B.size = B'.size ∧ B.rows = B'.rows ∧ (B.wr = true → B'.wr = true ∧ p b = false) := by
  unfold frz at hb
  split at hb
  · simp only [Option.map_eq_some_iff] at hb
    obtain ⟨B', h1, rfl⟩ := hb
    exact ⟨B', h1, rfl, rfl, fun h => by cases h⟩
  · rename_i hp
    exact ⟨B, hb, rfl, rfl, fun h => ⟨h, by simpa using hp⟩⟩
theorem HS.freezeP {c : Cx} {h : Hp} {n : Nat} {μ : Mu} {w : World} (H : HS c h n μ w) (p : Nat → Bool) : HS c (frz h p) n μ w ∧ Ext c h μ w (frz h p) μ w := by
  refine H.step (Fr.refl _ _) (fun _ _ h => h) H.mfresh (fun b hb => by simp [frz, H.hfresh b hb]) ?_ (fun e b2 B2 hB => ?_) ?_
  · rintro q ⟨b2, B2, base2, size2, h1, h2, h3⟩
    obtain ⟨B, g1, g2, g3, g4⟩ := frz_inv h1
    exact .inl ⟨b2, B, base2, size2, g1, (g4 h2).1, h3⟩
  · obtain ⟨B, g1, g2, g3, g4⟩ := frz_inv hB
    rcases (H.blk b2 B g1).keep e (Nat.le_refl _) fun _ _ _ _ => rfl with ⟨h1, h2⟩ | ⟨k, base, h1, h2, h3, h4, h5⟩
    · exact .inl ⟨h1, by rw [g3]; exact h2⟩
    · exact .inr ⟨k, base, by rw [g2]; exact h1, h2, ⟨h3.1, fun h => h3.2 (g4 h).1⟩, by rw [g2, g3]; exact h4, by rw [g2, g3]; exact h5⟩
  · intro b1 b2 B1 B2 q base1 size1 base2 size2 h1 h2 h3 h4 h5
    obtain ⟨B, g1, _, _, g4⟩ := frz_inv h1
    obtain ⟨B', g1', _⟩ := frz_inv h2
    exact H.inj _ _ _ _ _ _ _ _ _ g1 g1' (g4 h3).1 h4 h5
/-- A block that is only read from here on may be read by data. -/
theorem HS.frz_ok {c : Cx} {h : Hp} {n : Nat} {μ : Mu} {w : World} (H : HS c h n μ w) {p : Nat → Bool} {b : Nat} {B : Blk} {k base size : Nat} (hb : h b = some B) (hm : μ b = some (.real k base size)) (hp : p b = true) : okB c (frz h p) μ w k := by
  rcases H.blk b B hb with ⟨g1, _⟩ | ⟨k', base', g1, g2, g3, _⟩
  · rw [hm] at g1; cases g1
  · rw [hm] at g1
    cases g1
    refine ⟨g3.1, g2, ?_⟩
    rintro ⟨b2, B2, base2, size2, h1, h2, h3⟩
    obtain ⟨B', g5, _, _, g6⟩ := frz_inv h1
    have := H.inj b2 b B' B k base2 size2 base B.size g5 hb (g6 h2).1 h3 hm
    subst this
    rw [hp] at g6
    cases (g6 h2).2
/-- A block b gives way to a new name n for it: what it held may have turned. -/
theorem HS.rename {c : Cx} {h : Hp} {n : Nat} {μ : Mu} {w w' : World} (H : HS c h n μ w) {b : Nat} {B B' : Blk} {k base base' : Nat} (hb : h b = some B) (hw : B.wr = true) (hm : μ b = some (.real k base B.size))
    (hf : Fr w w' (fun q => q = k)) (hl : ∀ r ∈ B'.rows, r.length = B'.size)
    (hc : ∀ i j, i < B'.rows.length → j < B'.size → ∃ x, w'.cell? ⟨k, base' + (i * B'.size + j), none⟩ = some x ∧ (∀ o, (B'.size ≠ 1 ∨ o = base' + (i * B'.size + j)) → w'.frozen? ⟨k, o, none⟩ = false) ∧
      (Ext c h μ w (upd (upd h b none) n (some B')) (upd μ n (some (.real k base' B'.size))) w' → R c (upd (upd h b none) n (some B')) (upd μ n (some (.real k base' B'.size))) w' (cellAt B'.rows i j) x)) :
    HS c (upd (upd h b none) n (some B')) (n + 1) (upd μ n (some (.real k base' B'.size))) w' ∧ Ext c h μ w (upd (upd h b none) n (some B')) (upd μ n (some (.real k base' B'.size))) w' := by
  have hlive : live h μ k := ⟨b, B, base, _, hb, hw, hm⟩
  have hkw := H.wr_block hlive
  have hbn := H.id_ne hb
  have hold : ∀ b2 B2, upd (upd h b none) n (some B') b2 = some B2 → b2 ≠ n → b2 ≠ b ∧ h b2 = some B2 := by
    intro b2 B2 hB hn
    rw [upd_ne _ _ _ _ hn] at hB
    by_cases hbb : b2 = b
    · subst hbb; rw [upd_same] at hB; cases hB
    · rw [upd_ne _ _ _ _ hbb] at hB; exact ⟨hbb, hB⟩
  refine H.step ⟨hf.os, hf.tape, hf.output, hf.size, fun q hq hnl => hf.block q hq (fun e => hnl (e ▸ hlive))⟩ (fun b2 t hm2 => by rw [upd_ne _ _ _ _ (H.mu_ne hm2)]; exact hm2)
    (fun b2 hb2 => by rw [upd_ne _ _ _ _ (by omega)]; exact H.mfresh b2 (by omega)) ?_ ?_ (fun e b2 B2 hB => ?_) ?_
  · intro b2 hb2
    rw [upd_ne _ _ _ _ (by omega), upd_ne _ _ _ _ (by have := H.id_lt hb; omega)]
    exact H.hfresh b2 (by omega)
  · rintro q ⟨b2, B2, base2, size2, h1, h2, h3⟩
    by_cases hn : b2 = n
    · subst hn
      rw [upd_same] at h3
      cases h3
      exact .inl hlive
    · rw [upd_ne _ _ _ _ hn] at h3
      exact .inl ⟨b2, B2, base2, size2, (hold b2 B2 h1 hn).2, h2, h3⟩
  · by_cases hn : b2 = n
    · subst hn
      rw [upd_same] at hB
      cases hB
      refine .inr ⟨k, base', by rw [upd_same], Nat.lt_of_lt_of_le hkw.2 hf.size, ⟨.inr hkw.1, fun _ => hkw.1⟩, hl, fun i j hi hj => ?_⟩
      obtain ⟨x, h1, h2, h3⟩ := hc i j hi hj
      exact ⟨x, h1, h2, h3 e⟩
    · obtain ⟨hbb, hB⟩ := hold b2 B2 hB hn
      refine (H.blk b2 B2 hB).keep e hf.size fun q base2 size2 hm2 => hf.block q (H.real_lt hB hm2) (fun eq => ?_)
      subst eq
      exact hbb (H.inj b b2 B B2 q base B.size base2 size2 hb hB hw hm hm2).symm
  · intro b1 b2 B1 B2 q base1 size1 base2 size2 h1 h2 h3 h4 h5
    by_cases e1 : b1 = n <;> by_cases e2 : b2 = n
    · rw [e1, e2]
    · subst e1
      rw [upd_same] at h4
      cases h4
      rw [upd_ne _ _ _ _ e2] at h5
      obtain ⟨hbb, h2⟩ := hold b2 B2 h2 e2
      exact absurd (H.inj _ _ _ _ _ _ _ _ _ hb h2 hw hm h5).symm hbb
    · subst e2
      rw [upd_same] at h5
      cases h5
      rw [upd_ne _ _ _ _ e1] at h4
      obtain ⟨hbb, h1⟩ := hold b1 B1 h1 e1
      exact absurd (H.inj _ _ _ _ _ _ _ _ _ h1 hb h3 h4 hm) hbb
    · rw [upd_ne _ _ _ _ e1] at h4
      rw [upd_ne _ _ _ _ e2] at h5
      exact H.inj _ _ _ _ _ _ _ _ _ (hold b1 B1 h1 e1).2 (hold b2 B2 h2 e2).2 h3 h4 h5

/-- A call to which block b was handed over. -/
theorem HS.given {c : Cx} {h : Hp} {n : Nat} {μ : Mu} {w w' : World} (H : HS c h n μ w) {b : Nat} {B : Blk} (hb : h b = some B) (hw : B.wr = true)
    (hf : Fr w w' (fun q => ∃ base size, μ b = some (.real q base size))) : HS c (upd h b none) n μ w' ∧ Ext c h μ w (upd h b none) μ w' := by
  have hX : ∀ q, (∃ base size, μ b = some (.real q base size)) → live h μ q := fun q ⟨base, size, hm⟩ => ⟨b, B, base, size, hb, hw, hm⟩
  refine H.step ⟨hf.os, hf.tape, hf.output, hf.size, fun q hq hnl => hf.block q hq (fun e => hnl (hX q e))⟩ (fun _ _ h => h) H.mfresh ?_ ?_ (fun e b2 B2 hB => ?_) ?_
  · intro b2 hb2
    unfold upd
    split
    · rfl
    · exact H.hfresh b2 hb2
  · rintro q ⟨b2, B2, base2, size2, h1, h2, h3⟩
    by_cases hbb : b2 = b
    · subst hbb; rw [upd_same] at h1; cases h1
    · rw [upd_ne _ _ _ _ hbb] at h1
      exact .inl ⟨b2, B2, base2, size2, h1, h2, h3⟩
  · by_cases hbb : b2 = b
    · subst hbb; rw [upd_same] at hB; cases hB
    · rw [upd_ne _ _ _ _ hbb] at hB
      refine (H.blk b2 B2 hB).keep e hf.size fun q base2 size2 hm2 => hf.block q (H.real_lt hB hm2) ?_
      rintro ⟨base, size, hm⟩
      exact hbb (H.inj b b2 B B2 q base size base2 size2 hb hB hw hm hm2).symm
  · intro b1 b2 B1 B2 q base1 size1 base2 size2 h1 h2 h3 h4 h5
    by_cases e1 : b1 = b
    · subst e1; rw [upd_same] at h1; cases h1
    · by_cases e2 : b2 = b
      · subst e2; rw [upd_same] at h2; cases h2
      · rw [upd_ne _ _ _ _ e1] at h1
        rw [upd_ne _ _ _ _ e2] at h2
        exact H.inj _ _ _ _ _ _ _ _ _ h1 h2 h3 h4 h5
/-- A name for a nil slice that is the call's own. -/
theorem HS.virt {c : Cx} {h : Hp} {n : Nat} {μ : Mu} {w : World} (H : HS c h n μ w) (size : Nat) : HS c (upd h n (some ⟨size, [], true⟩)) (n + 1) (upd μ n (some .virt)) w ∧ Ext c h μ w (upd h n (some ⟨size, [], true⟩)) (upd μ n (some .virt)) w := by
  refine H.step (Fr.refl _ _) (fun b2 t hm2 => by rw [upd_ne _ _ _ _ (H.mu_ne hm2)]; exact hm2) (fun b2 hb2 => by rw [upd_ne _ _ _ _ (by omega)]; exact H.mfresh b2 (by omega))
    (fun b2 hb2 => by rw [upd_ne _ _ _ _ (by omega)]; exact H.hfresh b2 (by omega)) ?_ (fun e b2 B2 hB => ?_) ?_
  · rintro q ⟨b2, B2, base2, size2, h1, h2, h3⟩
    by_cases e2 : b2 = n
    · subst e2; rw [upd_same] at h3; cases h3
    · rw [upd_ne _ _ _ _ e2] at h1 h3
      exact .inl ⟨b2, B2, base2, size2, h1, h2, h3⟩
  · by_cases e2 : b2 = n
    · subst e2; rw [upd_same] at hB; cases hB
      exact .inl ⟨by rw [upd_same], rfl⟩
    · rw [upd_ne _ _ _ _ e2] at hB
      exact (H.blk b2 B2 hB).keep e (Nat.le_refl _) fun _ _ _ _ => rfl
  · intro b1 b2 B1 B2 q base1 size1 base2 size2 h1 h2 h3 h4 h5
    by_cases e1 : b1 = n
    · subst e1; rw [upd_same] at h4; cases h4
    · by_cases e2 : b2 = n
      · subst e2; rw [upd_same] at h5; cases h5
      · rw [upd_ne _ _ _ _ e1] at h1 h4
        rw [upd_ne _ _ _ _ e2] at h2 h5
        exact H.inj _ _ _ _ _ _ _ _ _ h1 h2 h3 h4 h5
end Go.Proofs.Ytahgddfnbjpfiaa.Am

/- An abstract machine over values: operations that turn no memory. -/
set_option linter.unusedVariables false
set_option linter.unusedSimpArgs false
namespace Go.Proofs.Ytahgddfnbjpfiaa.Am
open Go Go.RowKit

def szo (P : Program) (T : TypeId) : Option Nat := (P.info? T).map (·.size)
def byo (P : Program) (T : TypeId) : Option Nat := (P.info? T).map (·.bytes)
def zro (P : Program) (T : TypeId) : Option Value := (P.info? T).bind (·.zero)
def aggo (P : Program) (T : TypeId) : Option Bool := (P.underlying T).map fun | .struct _ => true | .array _ _ => true | _ => false
/-- A field: its offset, its cells, is it an aggregate. -/
def fldo (P : Program) (T : TypeId) (f : Nat) : Option (Nat × Nat × Bool) := match P.underlying T with
  | some (.struct fs) => match fs[f]? with
    | some fl => match szo P fl.type, aggo P fl.type with
      | some z, some g => some (fl.offset, z, g)
      | _, _ => none
    | none => none
  | _ => none
/-- A slice's or an array's element: its cells; an array's length. -/
inductive Seq where
  | slice (elem size bytes : Nat)
  | array (len elem size : Nat)
  | str
  | other
def seqo (P : Program) (T : TypeId) : Seq := match P.underlying T with
  | some (.slice e) => match szo P e, byo P e with
    | some z, some b => .slice e z b
    | _, _ => .other
  | some (.array n e) => match szo P e with
    | some z => .array n e z
    | none => .other
  | some .string => .str
  | _ => .other
def into (P : Program) (T : TypeId) : Option IntKind := match P.underlying T with
  | some (.int k) => some k
  | _ => none

section
variable {P : Program} {w : World}
theorem run_size {T : TypeId} {z : Nat} (h : szo P T = some z) : (sizeOf T).run P w = .ok z w := by
  obtain ⟨i, hi, hz⟩ := Option.map_eq_some_iff.1 h
  simp [sizeOf, typeInfo, Sem.run, program, hi, hz]
theorem run_under {T : TypeId} {d : TypeDesc} (h : P.underlying T = some d) : (underlying T).run P w = .ok d w := run_underlying h w
theorem run_isAgg {T : TypeId} {g : Bool} (h : aggo P T = some g) : (isAgg T).run P w = .ok g w := by
  obtain ⟨d, hd, hg⟩ := Option.map_eq_some_iff.1 h
  subst hg
  simp only [isAgg, Sem.run_bind, run_under hd, Result.andThen_ok]
  cases d <;> rfl
end

def cellish : V → Bool
  | .s _ | .sl _ | .cap0 | .pc _ | .ptr .. | .loc .. | .fn .. | .mp _ => true
  | _ => false
def wk : V → V
  | .cap0 => .sl []
  | v => v
def cellOf (x : Value) : V := if flat x then .s x else match x with
  | .slice _ 0 0 => .sl []
  | _ => .any
def ofVal (x : Value) : V := if flat x then .s x else match x with
  | .slice _ 0 0 => .cap0
  | .agg xs => .agg (xs.toList.map cellOf)
  | _ => .any
def ev (t : Nat → V) : Operand → V
  | .tmp i => t i
  | .const v => ofVal v
  | .func f => .fn f []
  | .global g => .glb g

section
variable {fv : Nat → Value} {w : World} {ok : Nat → Prop} {μ : Mu}
theorem Rp.nil (A : Option Addr) (c : Nat) : Rp fv w ok μ (.sl []) (.slice A 0 c) := .sl [] 0 c 0 A (fun _ _ => Go.undef) rfl (Nat.zero_le _) (by simp) (fun h => absurd rfl h) (fun i j h => absurd h (Nat.not_lt_zero _))
theorem Rp.weak {v : V} {x : Value} (h : Rp fv w ok μ v x) : Rp fv w ok μ (Am.wk v) x := by
  cases h with
  | cap0 A => exact Rp.nil A 0
  | undef => exact .undef
  | any x => exact .any x
  | s _ h => exact .s _ h
  | sl rows n c size A g hn hc hs hA hr => exact .sl rows n c size A g hn hc hs hA hr
  | agg cs xs hl h => exact .agg cs xs hl h
  | tup cs xs hl h => exact .tup cs xs hl h
  | pc cells ad g hb hc hr => exact .pc cells ad g hb hc hr
  | ptr b row col k base size h => exact .ptr b row col k base size h
  | loc b off len cap k base size h hc => exact .loc b off len cap k base size h hc
  | loc0 b off A t h => exact .loc0 b off A t h
  | fn f caps xs hl h => exact .fn f caps xs hl h
  | fv k => exact .fv k
  | glb g => exact .glb g
  | mp k => exact .mp k
theorem Rp.cell (x : Value) : Rp fv w ok μ (cellOf x) x := by
  unfold cellOf
  split
  · rename_i h; exact .s x h
  · split
    · exact Rp.nil _ _
    · exact .any _
theorem Rp.val (x : Value) : Rp fv w ok μ (ofVal x) x := by
  unfold ofVal
  split
  · rename_i h; exact .s x h
  · split
    · exact .cap0 _
    · rename_i xs _
      refine .agg _ _ (by simp) fun i hi => ?_
      have hi' : i < xs.size := by simpa using hi
      have h1 : (xs.toList.map cellOf).getD i .undef = cellOf xs[i] := by simp [List.getD_eq_getElem?_getD, hi']
      have h2 : xs.getD i Go.undef = xs[i] := by simp [hi']
      rw [h1, h2]
      exact Rp.cell _
    · exact .any _
theorem Rp.ev {t : Nat → V} {a : Act} (h : ∀ i, Rp fv w ok μ (t i) (a.tmps.getD i Go.undef)) (x : Operand) : Rp fv w ok μ (ev t x) (a.eval x) := by
  cases x with
  | tmp i => exact h i
  | const v => exact Rp.val v
  | global g => exact .glb g
  | func f => exact .fn f [] #[] rfl (fun i hi => absurd hi (Nat.not_lt_zero _))
theorem Rp.part {cs : List V} {xs : Array Value} (hl : xs.size = cs.length) (h : ∀ i, i < cs.length → Rp fv w ok μ (cs.getD i .undef) (xs.getD i Go.undef)) (o n : Nat) (ho : o + n ≤ cs.length) :
    Rp fv w ok μ (.agg ((cs.drop o).take n)) (.agg (xs.extract o (o + n))) := by
  refine .agg _ _ (by simp; omega) fun i hi => ?_
  have hi' : i < n := by simp at hi; omega
  have h1 : ((cs.drop o).take n).getD i .undef = cs.getD (o + i) .undef := by simp [List.getD_eq_getElem?_getD, List.getElem?_drop, hi']
  have h2 : (xs.extract o (o + n)).getD i Go.undef = xs.getD (o + i) Go.undef := by
    simp only [Array.getD_eq_getD_getElem?, Array.getElem?_extract]
    rw [if_pos (by omega)]
  rw [h1, h2]
  exact h _ (by omega)
end

end Go.Proofs.Ytahgddfnbjpfiaa.Am
