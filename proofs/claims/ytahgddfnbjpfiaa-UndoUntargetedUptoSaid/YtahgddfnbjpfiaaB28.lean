/- Texts that the law's proof stands on: V61, AmRow, AmOver, V33. -/
import Derived.Test.YtahgddfnbjpfiaaB27
import Derived.Test.YtahgddfnbjpfiaaB13
import Derived.JoinedCond
import Derived.OpenShut
import Derived.Deep.Slices
import Derived.WalkKit
import Derived.ProofKit
import Derived.Lib.Overlaps
import Derived.Laws.Externs
import Derived.Test.YtahgddfnbjpfiaaB15
import Derived.Laws.StructEq
set_option linter.unusedVariables false
set_option linter.unusedSimpArgs false
set_option maxRecDepth 100000
set_option maxHeartbeats 16000000
namespace Go.Proofs.Ytahgddfnbjpfiaa
open Go Go.RowKit Am

theorem dem_val (n : Int) (h : 1 ≤ n) : Val [demI n] := ⟨fun x hx => by
  simp at hx
  subst hx
  exact ⟨(by decide +kernel : authF demA = true), h⟩, by simp⟩
theorem dem21 : unF dem2 dem1 = true := by
  rw [un_r (dem_val 1 (by decide))]
  simp [rUn, dem1, dem2, demI, idE, hasF, uptoF]
theorem dem32 : unF dem3 dem2 = true := by
  rw [un_r (dem_val 2 (by decide))]
  simp [rUn, dem3, dem2, demI, idE, hasF, uptoF]
theorem dem31 : unF dem3 dem1 = false := by
  simp [unF, dem3, dem1, demI, idE]
theorem dem_all3 : allL unF [dem1, dem2, dem3] = [true, false, true] := by simp [allL, aliveF, dem21, dem32, dem31]
theorem dem_all2 : allL unF [dem1, dem2] = [false, true] := by simp [allL, aliveF, dem21]
def aliveS : Fspec := fun _ ds r => ds = [] ∧ r = .s (.bool true)
theorem alive_sound {plain : TypeId → Bool} {Γ : FuncId → Option Fspec} {Δ : FuncId → Option Pt} (hE : EnvOk ⟨Try.prog, plain, Γ, Δ, fun _ => none, 0⟩) (g_edits : Γ 16 = some editsS) (g_live : Γ 11 = some live2S) : Sound Try.prog 9 aliveS := by
  refine sound_of_awp hE Try.func9 rfl (by kernel_rfl) ?_
  rintro Φ ds r ⟨rfl, rfl⟩
  refine ⟨by simp [Try.f9], ?_⟩
  unfold st0
  refine W.out (E := ⟨Try.prog, plain, Γ, Δ, Φ, _⟩) ?_
  have sm3 : smL [dem1, dem2, dem3] := ⟨by decide, fun u hu => by
    simp at hu
    rcases hu with rfl | rfl | rfl <;> simp [dem1, dem2, dem3]⟩
  have sm2 : smL [dem1, dem2] := ⟨by decide, fun u hu => by
    simp at hu
    rcases hu with rfl | rfl <;> simp [dem1, dem2]⟩
  have r1 : ∀ a b c : Bool, [a, b, c].map encBo = [[.s (.bool a)], [.s (.bool b)], [.s (.bool c)]] := fun _ _ _ => rfl
  have r2 : ∀ a b : Bool, [a, b].map encBo = [[.s (.bool a)], [.s (.bool b)]] := fun _ _ => rfl
  have l1 : ∀ e : Edt, (encE e).length = 18 := fun _ => rfl
  refine go trivial ?_
  refine x_callS rfl rfl rfl rfl (sv trivial) g_edits (sv trivial) (se trivial) ⟨rfl, rfl⟩ (by simp) (by simp [touchA, touch]) ?_
  refine go trivial ?_
  refine x_callS rfl rfl rfl rfl (sv trivial) g_live (sv trivial) (se trivial) ⟨[dem1, dem2, dem3], sm3, rfl, rfl⟩ (by simp) (by simp [touchA, touch]) ?_
  rw [dem_all3, r1]
  refine go trivial ?_
  refine x_callS rfl rfl rfl rfl (sv trivial) g_edits (sv trivial) (se trivial) ⟨rfl, rfl⟩ (by simp) (by simp [touchA, touch]) ?_
  refine go l1 ?_
  refine x_callS rfl rfl rfl rfl (sv trivial) g_live (sv trivial) (se trivial) ⟨[dem1, dem2], sm2, rfl, rfl⟩ (by simp) (by simp [touchA, touch]) ?_
  rw [dem_all2, r2]
  have z3 : (((0 + 1 + 1 + 1 : Nat) : Int) == 3) = true := rfl
  have z2 : (((0 + 1 + 1 : Nat) : Int) == 2) = true := rfl
  have y3 : (((3 : Nat) : Int) == 3) = true := rfl
  have y2 : (((2 : Nat) : Int) == 2) = true := rfl
  refine go (And.intro z3 (And.intro z2 (And.intro y3 y2))) ?_
  trace_state
  refine x_done (x_out (sr @Try.f9.eq_1) (by simp) (by simp) rfl)
end Go.Proofs.Ytahgddfnbjpfiaa

/- What an argument of a law reads as, as a value of the abstract machine; what a law's statement asks for behind its contract. -/
set_option linter.unusedVariables false
set_option linter.unusedSimpArgs false
namespace Go.Proofs.Ytahgddfnbjpfiaa.Am
open Go Go.RowKit Go.ChangeShapes Go.WideShapes

/-- A measure of readings. -/
structure Bulk where
  bk : {H : Type} → DataW H → Nat
  bks : {H : Type} → List (DataW H) → Nat
  str : ∀ {H : Type} (b : List UInt8), bk (.lit (.string b) : DataW H) = b.length + 1
  sl : ∀ {H : Type} (e s : List (DataW H)), bk (.slice e s) = bks e + bks s + 1
  agg : ∀ {H : Type} (e : List (DataW H)), bk (.agg e) = bks e + 1
  pos : ∀ {H : Type} (d : DataW H), 1 ≤ bk d
  nil : ∀ {H : Type}, bks ([] : List (DataW H)) = 0
  cons : ∀ {H : Type} (d : DataW H) (r : List (DataW H)), bks (d :: r) = bk d + bks r
theorem Bulk.len (B : Bulk) {H : Type} : ∀ l : List (DataW H), l.length ≤ B.bks l
  | [] => by simp
  | d :: r => by have := B.len r; have := B.pos d; rw [B.cons]; simp; omega
theorem Bulk.mem (B : Bulk) {H : Type} : ∀ (l : List (DataW H)) (d : DataW H), d ∈ l → B.bk d ≤ B.bks l
  | [], d, h => by cases h
  | e :: r, d, h => by
    rw [B.cons]
    rcases List.mem_cons.1 h with rfl | h
    · omega
    · have := B.mem r d h; omega

def okAll (w : World) (k : Nat) : Prop := k < w.heap.size
/-- A type whose readings are values a, laid out by enc; bd: what their measure bounds. -/
def Opn {α : Type} (B : Bulk) (P : Program) (t : TypeId) (enc : α → List V) (bd : α → Nat → Prop) : Prop :=
  (∀ a m m', m ≤ m' → bd a m → bd a m') ∧
  ∀ {H : Type} (en : TypeId × Value → H) (w : World) (base fuel : Nat) (cs : List Value) (x : DataW H × List MemPlace), DataW.trod en P w base (fun _ => true) true fuel t cs = some x →
    ∃ a : α, (enc a).length = cs.length ∧ (∀ j, j < cs.length → Dp w (okAll w) ((enc a).getD j .undef) (cs.getD j Go.undef)) ∧ bd a (B.bk x.1)
section
variable {B : Bulk} {P : Program} {t : TypeId} {α β : Type}
theorem one_cell {w : World} {v : V} {x : Value} (h : Dp w (okAll w) v x) : ∀ j, j < [x].length → Dp w (okAll w) ([v].getD j .undef) ([x].getD j Go.undef) := by
  intro j hj
  have : j = 0 := by simpa using hj
  subst this
  exact h
def encInt (k : IntKind) (n : Int) : List V := [.s (.int k n)]
def bdInt (k : IntKind) (n : Int) (_ : Nat) : Prop := (Lit.int k n).wf = true
theorem Opn.int {k : IntKind} (ht : P.underlying t = some (.int k)) : Opn B P t (encInt k) (bdInt k) := by
  refine ⟨fun _ _ _ _ h => h, fun en w base fuel cs x h => ?_⟩
  obtain ⟨n, rfl, rfl, hw⟩ := DataW.trod_int ht h
  exact ⟨n, rfl, one_cell (.s _ rfl), hw⟩
def encStr (s : ByteArray) : List V := [.s (.string s)]
def bdStr (s : ByteArray) (m : Nat) : Prop := s.size < m
theorem Opn.str (ht : P.underlying t = some .string) : Opn B P t encStr bdStr := by
  refine ⟨fun _ _ _ hm h => Nat.lt_of_lt_of_le h hm, fun en w base fuel cs x h => ?_⟩
  obtain ⟨s, rfl, rfl, hw⟩ := DataW.trod_string ht h
  refine ⟨s, rfl, one_cell (.s _ rfl), ?_⟩
  show s.size < B.bk (.lit (.string s.data.toList))
  rw [B.str, Array.length_toList]
  exact Nat.lt_succ_self _
def encBool (b : Bool) : List V := [.s (.bool b)]
def bdBool (_ : Bool) (_ : Nat) : Prop := True
theorem Opn.bool (ht : P.underlying t = some .bool) : Opn B P t encBool bdBool := by
  refine ⟨fun _ _ _ _ h => h, fun en w base fuel cs x h => ?_⟩
  obtain ⟨b, rfl, rfl⟩ := DataW.trod_bool ht h
  exact ⟨b, rfl, one_cell (.s _ rfl), trivial⟩
def encSl (enc : α → List V) (l : List α) : List V := [.sl (l.map enc)]
def bdSl (bd : α → Nat → Prop) (l : List α) (m : Nat) : Prop := l.length < m ∧ ∀ a ∈ l, bd a m
theorem Opn.slice {e z : Nat} {enc : α → List V} {bd : α → Nat → Prop} [Inhabited α] (ht : P.underlying t = some (.slice e)) (hc : P.cellsOf e = z) (hz : 0 < z) (hl : ∀ a, (enc a).length = z) (ho : Opn B P e enc bd) : Opn B P t (encSl enc) (bdSl bd) := by
  refine ⟨fun l m m' hm h => ⟨Nat.lt_of_lt_of_le h.1 hm, fun a ha => ho.1 a m m' hm (h.2 a ha)⟩, fun en w base fuel cs x h => ?_⟩
  rcases Go.Deep.open_slice ht h with ⟨rfl, rfl⟩ | ⟨a, len, cap, m, n, D, Pl, rfl, hb, hlc, hm, hmm, rfl, hel⟩
  · exact ⟨[], rfl, one_cell (Dp.nil _ _), B.pos _, by simp⟩
  · simp only [if_true] at hmm
    obtain rfl : cap = m := hmm.symm
    have hex : ∀ i, i < len → ∃ q : List Value × α, w.cells? base (a.add (i * z)) z = some q.1 ∧ (enc q.2).length = q.1.length ∧ (∀ j, j < q.1.length → Dp w (okAll w) ((enc q.2).getD j .undef) (q.1.getD j Go.undef)) ∧ bd q.2 (B.bk (D i)) := by
      intro i hi
      obtain ⟨cs', h1, h2⟩ := hel i (by omega)
      rw [hc] at h1
      obtain ⟨b, h3, h4, h5⟩ := ho.2 en w base n cs' _ h2
      exact ⟨(cs', b), h1, h3, h4, h5⟩
    obtain ⟨f, hf⟩ := Go.Deep.choose_lt (α := List Value × α) hex
    have hlen : ∀ i, i < len → (f i).1.length = z := fun i hi => by have := (hf i hi).2.1; rw [hl] at this; exact this.symm
    have hcell : ∀ i j, i < len → j < z → w.cell? (a.add (i * z + j)) = some ((f i).1.getD j Go.undef) := by
      intro i j hi hj
      obtain ⟨_, g1, g2⟩ := World.cells?_some (hf i hi).1
      have := g2 j hj
      rw [Go.Deep.add_add] at this
      rw [this]
      have hj' : j < (f i).1.length := by rw [hlen i hi]; exact hj
      simp [hj']
    refine ⟨(List.range len).map fun i => (f i).2, rfl, one_cell ?_, ?_⟩
    · refine .sl _ len cap z (some a) (fun i j => (f i).1.getD j Go.undef) (by simp) hlc ?_ ?_ ?_
      · intro r hr
        simp only [List.mem_map] at hr
        obtain ⟨q, _, rfl⟩ := hr
        exact hl q
      · intro hn
        refine ⟨a, rfl, ?_, hcell⟩
        have := hcell 0 0 (by omega) hz
        have := World.block_lt_of_cell? w _ this
        rwa [add_block] at this
      · intro i j hi hj
        have h1 : (((List.range len).map fun i => (f i).2).map enc).getD i [] = enc (f i).2 := by simp [List.getD_eq_getElem?_getD, hi]
        rw [h1]
        exact (hf i hi).2.2.1 j (by rw [hlen i hi]; exact hj)
    · have hbk : ∀ i, i < len → B.bk (D i) ≤ B.bk (.slice ((List.range len).map D) ((List.range (cap - len)).map fun j => D (len + j))) := by
        intro i hi
        rw [B.sl]
        have := B.mem ((List.range len).map D) (D i) (List.mem_map.2 ⟨i, List.mem_range.2 hi, rfl⟩)
        omega
      refine ⟨?_, fun b hb => ?_⟩
      · have := B.len ((List.range len).map D)
        show _ < B.bk (.slice ((List.range len).map D) _)
        rw [B.sl]
        simp at this ⊢
        omega
      · simp only [List.mem_map, List.mem_range] at hb
        obtain ⟨i, hi, rfl⟩ := hb
        exact ho.1 _ _ _ (hbk i hi) (hf i hi).2.2.2
/-- Fields from a place on. -/
def OpnF {α : Type} (B : Bulk) (P : Program) (fs : List Field) (off tot : Nat) (enc : α → List V) (bd : α → Nat → Prop) : Prop :=
  (∀ a m m', m ≤ m' → bd a m → bd a m') ∧
  ∀ {H : Type} (en : TypeId × Value → H) (w : World) (base n : Nat) (cs : List Value) (xs : List (DataW H × List MemPlace)), cs.length = tot → xs.length = fs.length →
    (∀ (i : Nat) (f : Field), fs[i]? = some f → DataW.trod en P w base (fun _ => true) true n f.type ((cs.drop f.offset).take (P.cellsOf f.type)) = xs[i]?) →
    ∃ a : α, off + (enc a).length = tot ∧ (∀ j, j < (enc a).length → Dp w (okAll w) ((enc a).getD j .undef) (cs.getD (off + j) Go.undef)) ∧ bd a (B.bks (xs.map (·.1)))
theorem OpnF.nil {off : Nat} : OpnF B P [] off off (fun _ : Unit => []) (fun _ _ => True) :=
  ⟨fun _ _ _ _ h => h, fun en w base n cs xs _ _ _ => ⟨(), by simp, by simp, trivial⟩⟩
theorem OpnF.cons {f : Field} {fs : List Field} {off tot z : Nat} {enc : α → List V} {bd : α → Nat → Prop} {enc2 : β → List V} {bd2 : β → Nat → Prop} (hoff : f.offset = off) (hz : P.cellsOf f.type = z) (hl : ∀ a, (enc a).length = z)
    (h1 : Opn B P f.type enc bd) (h2 : OpnF B P fs (off + z) tot enc2 bd2) : OpnF B P (f :: fs) off tot (fun p : α × β => enc p.1 ++ enc2 p.2) (fun p m => bd p.1 m ∧ bd2 p.2 m) := by
  refine ⟨fun a m m' hm h => ⟨h1.1 _ _ _ hm h.1, h2.1 _ _ _ hm h.2⟩, fun en w base n cs xs hcs hxs hel => ?_⟩
  cases xs with
  | nil => simp at hxs
  | cons x xs =>
    have e0 := hel 0 f rfl
    simp only [List.getElem?_cons_zero] at e0
    rw [hoff, hz] at e0
    obtain ⟨a, a1, a2, a3⟩ := h1.2 en w base n _ _ e0
    obtain ⟨b, b1, b2, b3⟩ := h2.2 en w base n cs xs hcs (by simpa using hxs) (fun i g hg => by
      have := hel (i + 1) g (by simpa using hg)
      simpa using this)
    have hlen : z = min z (cs.length - off) := by rw [hl] at a1; simpa using a1
    refine ⟨(a, b), by simp [hl]; omega, fun j hj => ?_, ?_⟩
    · by_cases hjz : j < z
      · have g1 : (enc a ++ enc2 b).getD j .undef = (enc a).getD j .undef := by simp [List.getD_eq_getElem?_getD, List.getElem?_append_left (show j < (enc a).length by rw [hl]; exact hjz)]
        have g2 := a2 j (by simp; omega)
        have g3 : ((cs.drop off).take z).getD j Go.undef = cs.getD (off + j) Go.undef := by simp [List.getD_eq_getElem?_getD, List.getElem?_take, hjz]
        rw [g3] at g2
        show Dp w (okAll w) ((enc a ++ enc2 b).getD j .undef) _
        rw [g1]; exact g2
      · have hj' : j - z < (enc2 b).length := by simp [hl] at hj; omega
        have g1 : (enc a ++ enc2 b).getD j .undef = (enc2 b).getD (j - z) .undef := by simp [List.getD_eq_getElem?_getD, List.getElem?_append_right (show (enc a).length ≤ j by rw [hl]; omega), hl]
        have g2 := b2 (j - z) hj'
        rw [show off + z + (j - z) = off + j by omega] at g2
        show Dp w (okAll w) ((enc a ++ enc2 b).getD j .undef) _
        rw [g1]; exact g2
    · simp only [List.map_cons, B.cons]
      exact ⟨h1.1 _ _ _ (by omega) a3, h2.1 _ _ _ (by omega) b3⟩
theorem Opn.struct {fs : Array Field} {enc : α → List V} {bd : α → Nat → Prop} (ht : P.underlying t = some (.struct fs)) (h : OpnF B P fs.toList 0 (P.cellsOf t) enc bd) : Opn B P t enc bd := by
  refine ⟨h.1, fun en w base fuel cs x hx => ?_⟩
  obtain ⟨xs, n, rfl, rfl, hlen, hxs, hel⟩ := DataW.trod_struct ht hx
  obtain ⟨a, a1, a2, a3⟩ := h.2 en w base n cs xs hlen (by simpa using hxs) (fun i f hf => hel i f (by simpa using hf))
  refine ⟨a, by omega, fun j hj => ?_, ?_⟩
  · have := a2 j (by omega)
    simpa using this
  · show bd a (B.bk (.agg (xs.map (·.1))))
    rw [B.agg]
    exact h.1 _ _ _ (by omega) a3
theorem Opn.map {enc : α → List V} {bd : α → Nat → Prop} {enc2 : β → List V} {bd2 : β → Nat → Prop} (f : α → β) (h : Opn B P t enc bd) (he : ∀ a, enc2 (f a) = enc a) (hb : ∀ a m, bd a m → bd2 (f a) m) (hm : ∀ b m m', m ≤ m' → bd2 b m → bd2 b m') : Opn B P t enc2 bd2 := by
  refine ⟨hm, fun en w base fuel cs x hx => ?_⟩
  obtain ⟨a, a1, a2, a3⟩ := h.2 en w base fuel cs x hx
  exact ⟨f a, by rw [he]; exact a1, by rw [he]; exact a2, hb _ _ a3⟩

/-- One argument. -/
theorem Opn.one {H : Type} {en : TypeId × Value → H} {w : World} {base : Nat} {d : DataW H} {ps : List MemPlace} {fv : Nat → Value} {v : Value} {enc : α → List V} {bd : α → Nat → Prop} (h : Opn B P t enc bd) (hl : ∀ a, (enc a).length = 1) (hv : v.cells = #[v])
    (ht : DataW.Trod en P w base (fun _ => true) true t v d ps) : ∃ a, Rp fv w (okAll w) noMu ((enc a).getD 0 .undef) v ∧ bd a (B.bk d) := by
  obtain ⟨fuel, ht⟩ := ht
  rw [hv] at ht
  obtain ⟨a, a1, a2, a3⟩ := h.2 en w base fuel _ _ ht
  exact ⟨a, (a2 0 (by simp)).R, a3⟩
theorem Opn.arg {H : Type} {en : TypeId × Value → H} {w : World} {base : Nat} {d : DataW H} {ps : List MemPlace} {fv : Nat → Value} {v : Value} {cs : Array Value} {enc : α → List V} {bd : α → Nat → Prop} (h : Opn B P t enc bd) (hv : v = .agg cs)
    (ht : DataW.Trod en P w base (fun _ => true) true t v d ps) : ∃ a, Rp fv w (okAll w) noMu (.agg (enc a)) v ∧ bd a (B.bk d) := by
  obtain ⟨fuel, ht⟩ := ht
  subst hv
  obtain ⟨a, a1, a2, a3⟩ := h.2 en w base fuel _ _ ht
  refine ⟨a, .agg _ _ (by rw [a1]; simp [Value.cells]) fun i hi => ?_, a3⟩
  have hi' : i < cs.size := by rw [a1] at hi; simpa [Value.cells] using hi
  have := (a2 i (by rw [a1] at hi; exact hi)).R (fvals := fv) (μ := noMu)
  simpa [Value.cells] using this
theorem okWide_agg {w : World} {r : Go.Reach} {b0 : Nat} {fs : Array Field} {v : Value} (ht : P.underlying t = some (.struct fs)) (h : Value.okWide P w r b0 t v) : ∃ cs, v = .agg cs := by
  unfold Value.okWide at h
  rw [ht] at h
  obtain ⟨cs, rfl, _⟩ := h
  exact ⟨cs, rfl⟩
theorem okWide_one {w : World} {r : Go.Reach} {b0 : Nat} {v : Value} (ht : (∃ k, P.underlying t = some (.int k)) ∨ P.underlying t = some .string ∨ P.underlying t = some .bool ∨ ∃ e, P.underlying t = some (.slice e)) (h : Value.okWide P w r b0 t v) : v.cells = #[v] := by
  unfold Value.okWide at h
  rcases ht with ⟨k, ht⟩ | ht | ht | ⟨e, ht⟩ <;> (rw [ht] at h; simp only [Cell.okWide, ht, Cell.ok] at h; cases v <;> simp_all [Value.cells])
end

section
variable {H : Type} {en : TypeId × Value → H} {P : Program} {W W' : World}
theorem trodAll_below (hl : laidOutB P = true) (hb : Below W.heap.size W W') : ∀ {ts : List TypeId} {vs : List Value} {ds : List (DataW H)} {ps : List MemPlace}, (∀ t ∈ ts, P.readableRec t = true ∧ t < P.types.size) →
    DataW.TrodAll en P W 0 (fun _ => true) true ts vs ds ps → DataW.TrodAll en P W' 0 (fun b => decide (b < W.heap.size)) true ts vs ds ps
  | [], vs, ds, ps, _, h => by
    obtain ⟨rfl, rfl, rfl⟩ := trodAll_nil h
    exact trodAll_mk0
  | t :: ts, vs, ds, ps, ht, h => by
    obtain ⟨v, vs1, d, ds1, a, b, rfl, rfl, rfl, h1, h2⟩ := trodAll_cons h
    have g := ht t (by simp)
    exact trodAll_cons_mk (Below.trod hl g.1 g.2 h1 hb (by obtain ⟨m, hm⟩ := h1; exact DataW.trod_lt m _ _ _ hm)) (trodAll_below hl hb (fun t' ht' => ht t' (by simp [ht'])) h2)
/-- What a law's statement asks for behind the call: it returned true and turned nothing that was there. -/
theorem row_post {fn : Func} {s : ChangeSpec} {args : Array Value} {ds gs : List (DataW H)} {before : List MemPlace} {tb : TypeId} (hl : laidOutB P = true) (hts : ∀ t ∈ fn.params.toList, P.readableRec t = true ∧ t < P.types.size)
    (hW : DataW.Whole en P fn.params.toList s.vars false W args.toList ds gs before) (hv : s.vars = []) (hb : Below W.heap.size W W') (hr : fn.resultTypes = #[tb]) (htb : P.underlying tb = some .bool)
    (hs : s.fn H (ds ++ gs) = { results := [.lit (.bool true)], args := ds }) : s.post en P fn false true false false W args (.bool true) W' := by
  have hW' := hW
  obtain ⟨p, q, hA, hV, rfl, hfz, hnd⟩ := hW
  rw [hv] at hV
  obtain ⟨rfl, rfl⟩ := trodVars_none hV
  refine ⟨ds, [], _, [], p, [], hW', ?_, ?_, ?_, hb.frame _, fun h => by cases h⟩
  · rw [hr, hs]
    exact trodAll_mk1 (shut_bool htb _)
  · rw [hs]
    exact trodAll_below hl hb hts hA
  · rw [hs, hv]
    rfl
theorem Sound.row {f : FuncId} {fn : Func} {s : ChangeSpec} {args : Array Value} {ds gs : List (DataW H)} {before : List MemPlace} {tb : TypeId} {F : Fspec} {vs : List V} (hS : Sound P f F) (hl : laidOutB P = true) (hI : ∀ w1, Fr W w1 (fun _ => False) → WInv P w1) (hts : ∀ t ∈ fn.params.toList, P.readableRec t = true ∧ t < P.types.size)
    (hW : DataW.Whole en P fn.params.toList s.vars false W args.toList ds gs before) (hv : s.vars = []) (hr : fn.resultTypes = #[tb]) (htb : P.underlying tb = some .bool)
    (hs : s.fn H (ds ++ gs) = { results := [.lit (.bool true)], args := ds }) (ha : ArgsR (fun _ => Go.undef) W (okAll W) vs args) (hF : F (fun _ => none) vs (.s (.bool true))) :
    Calls P f args W fun e W' => ∃ v, e = .returned v ∧ s.post en P fn false true false false W args v W' := by
  refine (hS ⟨P, W, okAll W, fun _ => False, fun _ => Go.undef, hI⟩ (fun _ => none) vs (.s (.bool true)) args rfl (fun _ h => h) (fun _ h => h) (fun k S h => by cases h) hF ha).mono ?_
  rintro e W' ⟨x, rfl, hb, hR⟩
  have := (hR fun _ => Go.undef).s_eq.1
  subst this
  exact ⟨_, rfl, row_post hl hts hW hv hb hr htb hs⟩
end
end Go.Proofs.Ytahgddfnbjpfiaa.Am

/- slices.overlaps at two blocks of the call's own: it answers no. -/
set_option linter.unusedVariables false
set_option linter.unusedSimpArgs false
namespace Go.Proofs.Ytahgddfnbjpfiaa.Am
open Go Go.RowKit

def overT (z : Nat) : Pt := fun _ args σ K => ∃ (b off len cap b2 off2 len2 cap2 : Nat) (B B2 : Blk), args = [.loc b off len cap, .loc b2 off2 len2 cap2] ∧ b ≠ b2 ∧ σ.h b = some B ∧ σ.h b2 = some B2 ∧ B.wr = true ∧ B.size = z ∧ B2.size = z ∧ off < B.rows.length ∧ off2 < B2.rows.length ∧ 0 < len ∧ 0 < len2 ∧ K (.s (.bool false)) σ
theorem shape_of_cell {w : World} {k o : Nat} {x : Value} (h : w.cell? ⟨k, o, none⟩ = some x) : ∃ t n, w.shape? k = some (t, n) ∧ n ≠ 0 := by
  unfold World.cell? at h
  unfold World.shape?
  simp only at h
  split at h
  · rename_i cs t fr hh
    refine ⟨t, cs.size, by simp [hh], fun e => ?_⟩
    have : cs = #[] := Array.eq_empty_of_size_eq_zero e
    subst this
    simp at h
  · cases h
theorem overT_sound {P : Program} {f : FuncId} {fn : Func} {tS tR e : TypeId} {z : Nat} (hf : P.funcs[f]? = some fn) (hname : (fn.name == "runtime.NumGoroutine") = false)
    (hb : fn.body.isNone = true) (hn : Extern.findNext fn = none) (he : Extern.find fn = some (Extern.SlicesOverlaps.overlaps #[tS, tS] #[tR])) (ht : P.underlying tS = some (.slice e)) (hz : szo P e = some z) (h0 : 0 < z) (h1 : z ≠ 1) : SoundT P f (overT z) := by
  rintro c Φ h n μ w args vals t K hc hΦ H hl ha ⟨b, off, len, cap, b2, off2, len2, cap2, B, B2, rfl, hne, hB, hB2, hw, hs, hs2, ho, ho2, hlen, hlen2, hK⟩
  have g0 := ha 0 (by simp)
  have g1 := ha 1 (by simp)
  have r0 : R c h μ w (.loc b off len cap) (vals.getD 0 Go.undef) := g0
  have r1 : R c h μ w (.loc b2 off2 len2 cap2) (vals.getD 1 Go.undef) := g1
  obtain ⟨_, ⟨k, base, size, m1, e1⟩ | ⟨q0, _⟩⟩ := r0.loc_inv
  case inr => omega
  obtain ⟨_, ⟨k2, base2, size2, m2, e2⟩ | ⟨q0, _⟩⟩ := r1.loc_inv
  case inr => omega
  have hv : vals = #[vals.getD 0 Go.undef, vals.getD 1 Go.undef] := by
    apply Array.ext
    · simpa using hl
    · intro i g1 g2
      have g3 : i < 2 := by simpa using g2
      have : i = 0 ∨ i = 1 := by omega
      rcases this with rfl | rfl <;> simp [g1]
  rw [e1, e2] at hv
  obtain ⟨a1, x1, c1, f1, _⟩ := H.at hB m1 ho (show 0 < B.size by omega)
  obtain ⟨a2, x2, c2, f2, _⟩ := H.at hB2 m2 ho2 (show 0 < B2.size by omega)
  have hk : k ≠ k2 := fun e => by
    subst e
    exact hne (H.inj b b2 B B2 k base size base2 size2 hB hB2 hw m1 m2)
  obtain ⟨tA, nA, s1, n1⟩ := shape_of_cell c1
  obtain ⟨tB, nB, s2, n2⟩ := shape_of_cell c2
  subst hv
  refine .inr ⟨.bool false, w, ?_, _, h, n, μ, hK, H, Ext.refl _ _ _ _, .s _ rfl⟩
  rw [run_callFunc_extern hf hname hb hn he, Lib.run_overlaps_apart w tS tR e ht z (fun w => run_size hz) ⟨k, base + off * size, none⟩ ⟨k2, base2 + off2 * size2, none⟩ len cap len2 cap2 hk tA tB nA nB s1 s2 n2 (f1 _ (.inl (by omega))) (f1 _ (.inl (by omega)))]
  rfl
end Go.Proofs.Ytahgddfnbjpfiaa.Am

set_option linter.unusedVariables false
set_option linter.unusedSimpArgs false
set_option maxRecDepth 100000
namespace Go.Proofs.Ytahgddfnbjpfiaa
open Go Go.RowKit Am

theorem eqf_cons {P : Program} {d : Nat} {xs ys : Array Value} {f : Field} {fs : List Field} {a b : Value} {r s : Bool} {w : World} (hn : (f.name == "_") = false) (ha : (part f.type xs f.offset).run P w = .ok a w) (hb : (part f.type ys f.offset).run P w = .ok b w) (he : (Op.equalIn d f.type a b).run P w = .ok r w)
    (hr : (Op.eqFields d xs ys fs).run P w = .ok s w) : (Op.eqFields d xs ys (f :: fs)).run P w = .ok (r && s) w := by
  have hn' : f.name ≠ "_" := by simpa using hn
  rw [Op.eqFields]
  simp only [if_pos hn', Sem.run_bind, ha, hb, he, Result.andThen_ok]
  cases r
  · simp
  · simpa using hr
theorem eqf_nil {P : Program} {d : Nat} {xs ys : Array Value} {w : World} : (Op.eqFields d xs ys []).run P w = .ok true w := by simp [Op.eqFields]
theorem eq_str {P : Program} {d T : Nat} {a b : ByteArray} {w : World} (hu : P.underlying T = some .string) : (Op.equalIn (d + 1) T (.string a) (.string b)).run P w = .ok (a.toList == b.toList) w := by
  rw [← beq_toListBytes]
  simp [Op.equalIn, run_under hu, Sem.run, pure]
theorem eq_int {P : Program} {d T : Nat} {k : IntKind} {a b : Int} {w : World} (hu : P.underlying T = some (.int k)) : (Op.equalIn (d + 1) T (.int k a) (.int k b)).run P w = .ok (a == b) w := by
  simp [Op.equalIn, run_under hu, Sem.run, pure]
theorem agS : aggo Try.prog 9 = some false := by kernel_rfl
theorem agI : aggo Try.prog 3 = some false := by kernel_rfl
theorem agD : aggo Try.prog 29 = some true := by kernel_rfl
theorem szD : szo Try.prog 29 = some 2 := by kernel_rfl
theorem unS : Program.underlying Try.prog 9 = some .string := by kernel_rfl
theorem unI : Program.underlying Try.prog 3 = some (.int .i64) := by kernel_rfl
theorem p0 {P : Program} {T : Nat} {x : Value} {xs : Array Value} {o : Nat} {w : World} (hg : aggo P T = some false) (ho : xs[o]? = some x) : (part T xs o).run P w = .ok x w := by
  obtain ⟨h1, h2⟩ := Array.getElem?_eq_some_iff.1 ho
  rw [run_part_one hg h1]
  simp [h1, h2]
theorem idFields {P : Program} (h9 : aggo P 9 = some false) (h3 : aggo P 3 = some false) (u9 : P.underlying 9 = some .string) (u3 : P.underlying 3 = some (.int .i64)) (f0 f1 : Field) (n0 : (f0.name == "_") = false) (n1 : (f1.name == "_") = false) (t0 : f0.type = 9) (t1 : f1.type = 3) (o0 : f0.offset = 0) (o1 : f1.offset = 1) (d : Nat) (a b : ByteArray) (m n : Int) (w : World) :
    (Op.eqFields (d + 1) #[.string a, .int .i64 m] #[.string b, .int .i64 n] [f0, f1]).run P w = .ok ((a.toList == b.toList) && ((m == n) && true)) w := by
  refine eqf_cons (a := .string a) (b := .string b) n0 (by rw [t0, o0]; exact p0 h9 rfl) (by rw [t0, o0]; exact p0 h9 rfl) (by rw [t0]; exact eq_str u9) ?_
  refine eqf_cons (a := .int .i64 m) (b := .int .i64 n) n1 (by rw [t1, o1]; exact p0 h3 rfl) (by rw [t1, o1]; exact p0 h3 rfl) (by rw [t1]; exact eq_int u3) ?_
  exact eqf_nil
theorem eqId_run (d : Nat) (a b : ByteArray) (m n : Int) (w : World) : (Op.equalIn (d + 2) 29 (.agg #[.string a, .int .i64 m]) (.agg #[.string b, .int .i64 n])).run Try.prog w = .ok ((a.toList == b.toList) && ((m == n) && true)) w := by
  have hu := Try.underlying29
  rw [run_equalIn_struct (P := Try.prog) (w := w) (d + 1) 29 _ _ (by kernel_rfl) (by kernel_rfl)]
  simp only [Program.fieldsOf, hu]
  exact idFields agS agI unS unI _ _ rfl rfl rfl rfl rfl rfl d a b m n w
theorem eq_bool {P : Program} {d T : Nat} {a b : Bool} {w : World} (hu : P.underlying T = some .bool) : (Op.equalIn (d + 1) T (.bool a) (.bool b)).run P w = .ok (a == b) w := by
  simp [Op.equalIn, run_under hu, Sem.run, pure]
theorem agB : aggo Try.prog 4 = some false := by kernel_rfl
theorem unB : Program.underlying Try.prog 4 = some .bool := by kernel_rfl
theorem ratFields {P : Program} (h4 : aggo P 4 = some false) (h9 : aggo P 9 = some false) (u4 : P.underlying 4 = some .bool) (u9 : P.underlying 9 = some .string) (f0 f1 f2 : Field) (n0 : (f0.name == "_") = false) (n1 : (f1.name == "_") = false) (n2 : (f2.name == "_") = false) (t0 : f0.type = 4) (t1 : f1.type = 9) (t2 : f2.type = 9) (o0 : f0.offset = 0) (o1 : f1.offset = 1) (o2 : f2.offset = 2) (d : Nat) (p q : Bool) (a b x y : ByteArray) (w : World) :
    (Op.eqFields (d + 1) #[.bool p, .string a, .string x] #[.bool q, .string b, .string y] [f0, f1, f2]).run P w = .ok ((p == q) && ((a.toList == b.toList) && ((x.toList == y.toList) && true))) w := by
  refine eqf_cons (a := .bool p) (b := .bool q) n0 (by rw [t0, o0]; exact p0 h4 rfl) (by rw [t0, o0]; exact p0 h4 rfl) (by rw [t0]; exact eq_bool u4) ?_
  refine eqf_cons (a := .string a) (b := .string b) n1 (by rw [t1, o1]; exact p0 h9 rfl) (by rw [t1, o1]; exact p0 h9 rfl) (by rw [t1]; exact eq_str u9) ?_
  refine eqf_cons (a := .string x) (b := .string y) n2 (by rw [t2, o2]; exact p0 h9 rfl) (by rw [t2, o2]; exact p0 h9 rfl) (by rw [t2]; exact eq_str u9) ?_
  exact eqf_nil
theorem eqRat_run (d : Nat) (p q : Bool) (a b x y : ByteArray) (w : World) : (Op.equalIn (d + 2) 32 (.agg #[.bool p, .string a, .string x]) (.agg #[.bool q, .string b, .string y])).run Try.prog w = .ok ((p == q) && ((a.toList == b.toList) && ((x.toList == y.toList) && true))) w := by
  have hu := Try.underlying32
  rw [run_equalIn_struct (P := Try.prog) (w := w) (d + 1) 32 _ _ (by kernel_rfl) (by kernel_rfl)]
  simp only [Program.fieldsOf, hu]
  exact ratFields agB agS unB unS _ _ _ rfl rfl rfl rfl rfl rfl rfl rfl rfl d p q a b x y w
theorem intFields {P : Program} (h4 : aggo P 4 = some false) (h9 : aggo P 9 = some false) (u4 : P.underlying 4 = some .bool) (u9 : P.underlying 9 = some .string) (f0 f1 : Field) (n0 : (f0.name == "_") = false) (n1 : (f1.name == "_") = false) (t0 : f0.type = 4) (t1 : f1.type = 9) (o0 : f0.offset = 0) (o1 : f1.offset = 1) (d : Nat) (p q : Bool) (a b : ByteArray) (w : World) :
    (Op.eqFields (d + 1) #[.bool p, .string a] #[.bool q, .string b] [f0, f1]).run P w = .ok ((p == q) && ((a.toList == b.toList) && true)) w := by
  refine eqf_cons (a := .bool p) (b := .bool q) n0 (by rw [t0, o0]; exact p0 h4 rfl) (by rw [t0, o0]; exact p0 h4 rfl) (by rw [t0]; exact eq_bool u4) ?_
  refine eqf_cons (a := .string a) (b := .string b) n1 (by rw [t1, o1]; exact p0 h9 rfl) (by rw [t1, o1]; exact p0 h9 rfl) (by rw [t1]; exact eq_str u9) ?_
  exact eqf_nil
theorem eqInt_run (d : Nat) (p q : Bool) (a b : ByteArray) (w : World) : (Op.equalIn (d + 2) 75 (.agg #[.bool p, .string a]) (.agg #[.bool q, .string b])).run Try.prog w = .ok ((p == q) && ((a.toList == b.toList) && true)) w := by
  have hu := Try.underlying75
  rw [run_equalIn_struct (P := Try.prog) (w := w) (d + 1) 75 _ _ (by kernel_rfl) (by kernel_rfl)]
  simp only [Program.fieldsOf, hu]
  exact intFields agB agS unB unS _ _ rfl rfl rfl rfl rfl rfl d p q a b w
def plainT (T : TypeId) : Bool := T == 29 || T == 32 || T == 75
theorem fit_s {a : ByteArray} {x : Value} (h : fit1 (.string a) x = true) : ∃ s, x = .string s := by
  cases x <;> simp [fit1] at h
  exact ⟨_, rfl⟩
theorem fit_i {k : IntKind} {a : Int} {x : Value} (h : fit1 (.int k a) x = true) : ∃ s, x = .int k s := by
  cases x <;> simp [fit1] at h
  subst h
  exact ⟨_, rfl⟩
theorem fits2 {a : ByteArray} {m : Int} {k : IntKind} : ∀ {X : List Value}, fits [.string a, .int k m] X = true → ∃ s n, X = [.string s, .int k n]
  | [], h => by simp [fits] at h
  | [x], h => by simp [fits] at h
  | x :: y :: z :: l, h => by simp [fits] at h
  | [x, y], h => by
    simp only [fits, Bool.and_eq_true] at h
    obtain ⟨s, rfl⟩ := fit_s h.1
    obtain ⟨n, rfl⟩ := fit_i h.2.1
    exact ⟨_, _, rfl⟩
theorem fit_b {a : Bool} {x : Value} (h : fit1 (.bool a) x = true) : ∃ s, x = .bool s := by
  cases x <;> simp [fit1] at h
  exact ⟨_, rfl⟩
theorem fitsI {p : Bool} {a : ByteArray} : ∀ {X : List Value}, fits [.bool p, .string a] X = true → ∃ q s, X = [.bool q, .string s]
  | [], h => by simp [fits] at h
  | [x], h => by simp [fits] at h
  | x :: y :: z :: l, h => by simp [fits] at h
  | [x, y], h => by
    simp only [fits, Bool.and_eq_true] at h
    obtain ⟨s, rfl⟩ := fit_b h.1
    obtain ⟨n, rfl⟩ := fit_s h.2.1
    exact ⟨_, _, rfl⟩
theorem fits3 {p : Bool} {a b : ByteArray} : ∀ {X : List Value}, fits [.bool p, .string a, .string b] X = true → ∃ q s t, X = [.bool q, .string s, .string t]
  | [], h => by simp [fits] at h
  | [x], h => by simp [fits] at h
  | [x, y], h => by simp [fits] at h
  | x :: y :: z :: u :: l, h => by simp [fits] at h
  | [x, y, z], h => by
    simp only [fits, Bool.and_eq_true] at h
    obtain ⟨s, rfl⟩ := fit_b h.1
    obtain ⟨n, rfl⟩ := fit_s h.2.1
    obtain ⟨t, rfl⟩ := fit_s h.2.2.1
    exact ⟨_, _, _, rfl⟩
theorem plain_ok : PlainOk Try.prog plainT := by
  refine ⟨fun T hT zs X Y b hz hX hY hb w => ?_, fun T hT => ?_⟩
  · simp only [plainT, Bool.or_eq_true, beq_iff_eq] at hT
    rcases hT with (rfl | rfl) | rfl
    · rw [zr29] at hz
      cases hz
      obtain ⟨s, n, rfl⟩ := fits2 hX
      obtain ⟨t, m, rfl⟩ := fits2 hY
      simp only [eqL, if_true, Option.map_some, Option.some.injEq] at hb
      subst hb
      have h := eqId_run 9998 s t n m w
      generalize (s.toList == t.toList && (n == m && true)) = q at *
      exact h
    · rw [zr32] at hz
      cases hz
      obtain ⟨p, s, u, rfl⟩ := fits3 hX
      obtain ⟨q, t, v, rfl⟩ := fits3 hY
      simp only [eqL, if_true, Option.map_some, Option.some.injEq] at hb
      subst hb
      have h := eqRat_run 9998 p q s t u v w
      generalize (p == q && (s.toList == t.toList && (u.toList == v.toList && true))) = q at *
      exact h
    · rw [zr75] at hz
      cases hz
      obtain ⟨p, s, rfl⟩ := fitsI hX
      obtain ⟨q, t, rfl⟩ := fitsI hY
      simp only [eqL, if_true, Option.map_some, Option.some.injEq] at hb
      subst hb
      have h := eqInt_run 9998 p q s t w
      generalize (p == q && (s.toList == t.toList && true)) = q at *
      exact h
  · simp only [plainT, Bool.or_eq_true, beq_iff_eq] at hT
    rcases hT with (rfl | rfl) | rfl <;> kernel_rfl
end Go.Proofs.Ytahgddfnbjpfiaa
