/- Texts that the law's proof stands on: V7, V16, AmRow, AmOver, V20, V9, V10, V21, V12, V22, V23. -/
import Derived.Test.YtgohmphhgglmbaaB5
import Derived.Test.YtgohmphhgglmbaaB4
import Derived.JoinedCond
import Derived.OpenShut
import Derived.Deep.Slices
import Derived.WalkKit
import Derived.ProofKit
import Derived.Lib.Overlaps
import Derived.Laws.Externs
set_option linter.unusedVariables false
set_option linter.unusedSimpArgs false
set_option maxRecDepth 100000
set_option maxHeartbeats 4000000
namespace Go.Proofs.Ytgohmphhgglmbaa
open Go Go.RowKit Am

def nAt (v : List Idt) (k : Nat) : Int := match v[k]? with
  | some x => x.n
  | none => 0
theorem nAt_lt (v : List Idt) {k : Nat} (h : k < v.length) : nAt v k = v[k].n := by simp [nAt, h]
def contF (v : List Idt) (x : Idt) : Bool := plHit v x.a && (decide (1 ≤ x.n) && decide (x.n ≤ nAt v (plPos v x.a)))
def contS : Fspec := fun _ ds r => ∃ (v : List Idt) (x : Idt), v.length ≤ 1099511627776 ∧ ds = [encIds v, .agg (encId x)] ∧ r = .s (.bool (contF v x))
theorem cont_sound {plain : TypeId → Bool} {Γ : FuncId → Option Fspec} {Δ : FuncId → Option Pt} (hE : EnvOk ⟨Try.prog, plain, Γ, Δ, fun _ => none, 0⟩) (g_plac : Γ 36 = some placS) : Sound Try.prog 21 contS := by
  refine sound_of_awp hE Try.func21 rfl (by kernel_rfl) ?_
  rintro Φ ds r ⟨v, x, hv, rfl, rfl⟩
  refine ⟨by simp [Try.f21], ?_⟩
  unfold st0 encIds
  refine W.out (E := ⟨Try.prog, plain, Γ, Δ, Φ, _⟩) ?_
  have hr := encId_rows v
  refine go @encId.eq_1 ?_
  refine x_callN rfl rfl rfl rfl (sv trivial) g_plac (sv trivial) (se trivial) ⟨v, x.a, hv, rfl, rfl⟩ rfl ?_
  cases hb : plHit v x.a
  · refine go (And.intro hb @encId.eq_1) ?_
    refine x_done (x_out (sr (And.intro @Try.f21.eq_1 (And.intro @contF.eq_1 hb))) (by simp) (by simp) rfl)
  · have hp : plPos v x.a < v.length := by
      simp only [plHit, bsHit, Bool.and_eq_true, decide_eq_true_eq] at hb
      exact hb.1
    by_cases hc : 1 ≤ x.n
    · refine go (And.intro hb (And.intro hc (And.intro hr @encId.eq_1))) ?_
      refine x_done (x_out (sr (And.intro @Try.f21.eq_1 (And.intro @contF.eq_1 (And.intro hb (And.intro hc ((nAt_lt v hp))))))) (by simp) (by simp) rfl)
    · refine go (And.intro hb (And.intro hc (And.intro hr @encId.eq_1))) ?_
      refine x_done (x_out (sr (And.intro @Try.f21.eq_1 (And.intro @contF.eq_1 (And.intro hb hc)))) (by simp) (by simp) rfl)

def lessF (a b : Idt) : Bool := Op.bytesLess a.a.toList b.a.toList || ((a.a.toList == b.a.toList) && decide (a.n < b.n))
def lessS : Fspec := fun _ ds r => ∃ a b : Idt, ds = [.agg (encId a), .agg (encId b)] ∧ r = .s (.bool (lessF a b))
theorem less_sound {plain : TypeId → Bool} {Γ : FuncId → Option Fspec} {Δ : FuncId → Option Pt} (hE : EnvOk ⟨Try.prog, plain, Γ, Δ, fun _ => none, 0⟩) : Sound Try.prog 37 lessS := by
  refine sound_of_awp hE Try.func37 rfl (by kernel_rfl) ?_
  rintro Φ ds r ⟨a, b, rfl, rfl⟩
  refine ⟨by simp [Try.f37], ?_⟩
  unfold st0 encId
  refine W.out (E := ⟨Try.prog, plain, Γ, Δ, Φ, _⟩) ?_
  cases h1 : Op.bytesLess a.a.toList b.a.toList
  · cases h2 : (a.a.toList == b.a.toList)
    · refine go (And.intro h1 h2) ?_
      refine x_done (x_out (sr (And.intro @Try.f37.eq_1 (And.intro @lessF.eq_1 (And.intro h1 h2)))) (by simp) (by simp) rfl)
    · refine go (And.intro h1 h2) ?_
      refine x_done (x_out (sr (And.intro @Try.f37.eq_1 (And.intro @lessF.eq_1 (And.intro h1 h2)))) (by simp) (by simp) rfl)
  · refine go h1 ?_
    refine x_done (x_out (sr (And.intro @Try.f37.eq_1 (And.intro @lessF.eq_1 h1))) (by simp) (by simp) rfl)
def aheadF (a b : Wrt) : Bool := decide (a.c < b.c) || ((a.c == b.c) && lessF a.id b.id)
def aheadS : Fspec := fun _ ds r => ∃ a b : Wrt, ds = [.agg (encW a), .agg (encW b)] ∧ r = .s (.bool (aheadF a b))
theorem ahead_sound {plain : TypeId → Bool} {Γ : FuncId → Option Fspec} {Δ : FuncId → Option Pt} (hE : EnvOk ⟨Try.prog, plain, Γ, Δ, fun _ => none, 0⟩) (g_less : Γ 37 = some lessS) : Sound Try.prog 24 aheadS := by
  refine sound_of_awp hE Try.func24 rfl (by kernel_rfl) ?_
  rintro Φ ds r ⟨a, b, rfl, rfl⟩
  refine ⟨by simp [Try.f24], ?_⟩
  unfold st0 encW
  refine W.out (E := ⟨Try.prog, plain, Γ, Δ, Φ, _⟩) ?_
  by_cases h1 : a.c < b.c
  · refine go h1 ?_
    refine x_done (x_out (sr (And.intro @Try.f24.eq_1 (And.intro @aheadF.eq_1 h1))) (by simp) (by simp) rfl)
  · cases h2 : (a.c == b.c)
    · refine go (And.intro h1 h2) ?_
      refine x_done (x_out (sr (And.intro @Try.f24.eq_1 (And.intro @aheadF.eq_1 (And.intro h1 h2)))) (by simp) (by simp) rfl)
    · refine go (And.intro h1 h2) ?_
      refine x_callN rfl rfl rfl rfl (sv trivial) g_less (sv trivial) (se trivial) ⟨a.id, b.id, rfl, rfl⟩ rfl ?_
      refine go (And.intro h1 h2) ?_
      refine x_done (x_out (sr (And.intro @Try.f24.eq_1 (And.intro @aheadF.eq_1 (And.intro h1 h2)))) (by simp) (by simp) rfl)
def eqId (a b : Idt) : Bool := (a.a.toList == b.a.toList) && ((a.n == b.n) && true)
def firstF (a b : Rgs) : Bool := lessF a.id b.id || (eqId a.id b.id && Op.bytesLess a.f.toList b.f.toList)
def firstS : Fspec := fun _ ds r => ∃ a b : Rgs, ds = [.agg (encR a), .agg (encR b)] ∧ r = .s (.bool (firstF a b))
theorem first_sound {plain : TypeId → Bool} {Γ : FuncId → Option Fspec} {Δ : FuncId → Option Pt} (hE : EnvOk ⟨Try.prog, plain, Γ, Δ, fun _ => none, 0⟩) (hpl : plain 31 = true) (g_less : Γ 37 = some lessS) : Sound Try.prog 23 firstS := by
  refine sound_of_awp hE Try.func23 rfl (by kernel_rfl) ?_
  rintro Φ ds r ⟨a, b, rfl, rfl⟩
  refine ⟨by simp [Try.f23], ?_⟩
  unfold st0 encR
  refine W.out (E := ⟨Try.prog, plain, Γ, Δ, Φ, _⟩) ?_
  refine go trivial ?_
  refine x_callN rfl rfl rfl rfl (sv trivial) g_less (sv trivial) (se trivial) ⟨a.id, b.id, rfl, rfl⟩ rfl ?_
  cases h1 : lessF a.id b.id
  · cases h2 : eqId a.id b.id
    · have h3 : ((a.id.a.toList == b.id.a.toList) && (a.id.n == b.id.n)) = false := by simpa [eqId] using h2
      refine go (And.intro h1 (And.intro h3 hpl)) ?_
      refine x_done (x_out (sr (And.intro @Try.f23.eq_1 (And.intro @firstF.eq_1 (And.intro h1 h2)))) (by simp) (by simp) rfl)
    · have h3 : ((a.id.a.toList == b.id.a.toList) && (a.id.n == b.id.n)) = true := by simpa [eqId] using h2
      refine go (And.intro h1 (And.intro h3 hpl)) ?_
      refine x_done (x_out (sr (And.intro @Try.f23.eq_1 (And.intro @firstF.eq_1 (And.intro h1 h2)))) (by simp) (by simp) rfl)
  · refine go h1 ?_
    refine x_done (x_out (sr (And.intro @Try.f23.eq_1 (And.intro @firstF.eq_1 h1))) (by simp) (by simp) rfl)
end Go.Proofs.Ytgohmphhgglmbaa

set_option linter.unusedVariables false
set_option linter.unusedSimpArgs false
set_option maxRecDepth 100000
set_option maxHeartbeats 4000000
namespace Go.Proofs.Ytgohmphhgglmbaa
open Go Go.RowKit Am

structure Edt where
  id : Idt
  clock : Int
  floor : Int
  deps : List Idt
  kind : Int
  node : Idt
  parent : Idt
  neg : Bool
  num : ByteArray
  den : ByteArray
  field : ByteArray
  value : ByteArray
  target : Idt
  who : ByteArray
def encE (x : Edt) : List V := [.s (.string x.id.a), .s (.int .i64 x.id.n), .s (.int .i64 x.clock), .s (.int .i64 x.floor), .sl (x.deps.map encId), .s (.int .i64 x.kind), .s (.string x.node.a), .s (.int .i64 x.node.n), .s (.string x.parent.a), .s (.int .i64 x.parent.n), .s (.bool x.neg), .s (.string x.num), .s (.string x.den), .s (.string x.field), .s (.string x.value), .s (.string x.target.a), .s (.int .i64 x.target.n), .s (.string x.who)]
def wr1F (e : Edt) (m : Wrt) : Bool := ((m.id.a.toList == e.id.a.toList) && (m.id.n == e.id.n)) || contF e.deps m.id
def wr1S : Fspec := fun _ ds r => ∃ (m : Wrt) (e : Edt), e.deps.length ≤ 1099511627776 ∧ ds = [.agg (encW m), .pc (encE e)] ∧ r = .s (.bool (wr1F e m))
theorem wr1_sound {plain : TypeId → Bool} {Γ : FuncId → Option Fspec} {Δ : FuncId → Option Pt} (hE : EnvOk ⟨Try.prog, plain, Γ, Δ, fun _ => none, 0⟩) (hpl : plain 31 = true) (g_cont : Γ 21 = some contS) : Sound Try.prog 45 wr1S := by
  refine sound_of_awp hE Try.func45 rfl (by kernel_rfl) ?_
  rintro Φ ds r ⟨m, e, hd, rfl, rfl⟩
  refine ⟨by simp [Try.f45], ?_⟩
  unfold st0 encW
  refine W.out (E := ⟨Try.prog, plain, Γ, Δ, Φ, _⟩) ?_
  cases ha : ((m.id.a.toList == e.id.a.toList) && (m.id.n == e.id.n))
  · refine go (And.intro hpl (And.intro ha @encE.eq_1)) ?_
    refine x_callN rfl rfl rfl rfl (sv trivial) g_cont (sv trivial) (se trivial) ⟨e.deps, m.id, hd, rfl, rfl⟩ rfl ?_
    refine go trivial ?_
    refine x_done (x_out (sr (And.intro @Try.f45.eq_1 (And.intro @wr1F.eq_1 ha))) (by simp) (by simp) rfl)
  · refine go (And.intro hpl (And.intro ha @encE.eq_1)) ?_
    refine x_done (x_out (sr (And.intro @Try.f45.eq_1 (And.intro @wr1F.eq_1 ha))) (by simp) (by simp) rfl)
end Go.Proofs.Ytgohmphhgglmbaa

/- What an argument of a law reads as, as a value of the abstract machine; what a law's statement asks for behind its contract. -/
set_option linter.unusedVariables false
set_option linter.unusedSimpArgs false
namespace Go.Proofs.Ytgohmphhgglmbaa.Am
open Go Go.RowKit Go.ChangeShapes Go.WideShapes

/-- A measure of readings. -/
structure Bulk where
  bk : {H : Type} → DataW H → Nat
  bks : {H : Type} → List (DataW H) → Nat
  str : ∀ {H : Type} (b : List UInt8), bk (.lit (.string b) : DataW H) = b.length + 1
  sl : ∀ {H : Type} (e s : List (DataW H)), bk (.slice e s) = bks e + bks s + 1
  agg : ∀ {H : Type} (e : List (DataW H)), bk (.agg e) = bks e + 1
  pos : ∀ {H : Type} (d : DataW H), 1 ≤ bk d
  nil : ∀ {H : Type}, bks ([] : List (DataW H)) = 0
  cons : ∀ {H : Type} (d : DataW H) (r : List (DataW H)), bks (d :: r) = bk d + bks r
theorem Bulk.len (B : Bulk) {H : Type} : ∀ l : List (DataW H), l.length ≤ B.bks l
  | [] => by simp
  | d :: r => by have := B.len r; have := B.pos d; rw [B.cons]; simp; omega
theorem Bulk.mem (B : Bulk) {H : Type} : ∀ (l : List (DataW H)) (d : DataW H), d ∈ l → B.bk d ≤ B.bks l
  | [], d, h => by cases h
  | e :: r, d, h => by
    rw [B.cons]
    rcases List.mem_cons.1 h with rfl | h
    · omega
    · have := B.mem r d h; omega

def okAll (w : World) (k : Nat) : Prop := k < w.heap.size
/-- A type whose readings are values a, laid out by enc; bd: what their measure bounds. -/
def Opn {α : Type} (B : Bulk) (P : Program) (t : TypeId) (enc : α → List V) (bd : α → Nat → Prop) : Prop :=
  (∀ a m m', m ≤ m' → bd a m → bd a m') ∧
  ∀ {H : Type} (en : TypeId × Value → H) (w : World) (base fuel : Nat) (cs : List Value) (x : DataW H × List MemPlace), DataW.trod en P w base (fun _ => true) true fuel t cs = some x →
    ∃ a : α, (enc a).length = cs.length ∧ (∀ j, j < cs.length → Dp w (okAll w) ((enc a).getD j .undef) (cs.getD j Go.undef)) ∧ bd a (B.bk x.1)
section
variable {B : Bulk} {P : Program} {t : TypeId} {α β : Type}
theorem one_cell {w : World} {v : V} {x : Value} (h : Dp w (okAll w) v x) : ∀ j, j < [x].length → Dp w (okAll w) ([v].getD j .undef) ([x].getD j Go.undef) := by
  intro j hj
  have : j = 0 := by simpa using hj
  subst this
  exact h
def encInt (k : IntKind) (n : Int) : List V := [.s (.int k n)]
def bdInt (k : IntKind) (n : Int) (_ : Nat) : Prop := (Lit.int k n).wf = true
theorem Opn.int {k : IntKind} (ht : P.underlying t = some (.int k)) : Opn B P t (encInt k) (bdInt k) := by
  refine ⟨fun _ _ _ _ h => h, fun en w base fuel cs x h => ?_⟩
  obtain ⟨n, rfl, rfl, hw⟩ := DataW.trod_int ht h
  exact ⟨n, rfl, one_cell (.s _ rfl), hw⟩
def encStr (s : ByteArray) : List V := [.s (.string s)]
def bdStr (s : ByteArray) (m : Nat) : Prop := s.size < m
theorem Opn.str (ht : P.underlying t = some .string) : Opn B P t encStr bdStr := by
  refine ⟨fun _ _ _ hm h => Nat.lt_of_lt_of_le h hm, fun en w base fuel cs x h => ?_⟩
  obtain ⟨s, rfl, rfl, hw⟩ := DataW.trod_string ht h
  refine ⟨s, rfl, one_cell (.s _ rfl), ?_⟩
  show s.size < B.bk (.lit (.string s.data.toList))
  rw [B.str, Array.length_toList]
  exact Nat.lt_succ_self _
def encBool (b : Bool) : List V := [.s (.bool b)]
def bdBool (_ : Bool) (_ : Nat) : Prop := True
theorem Opn.bool (ht : P.underlying t = some .bool) : Opn B P t encBool bdBool := by
  refine ⟨fun _ _ _ _ h => h, fun en w base fuel cs x h => ?_⟩
  obtain ⟨b, rfl, rfl⟩ := DataW.trod_bool ht h
  exact ⟨b, rfl, one_cell (.s _ rfl), trivial⟩
def encSl (enc : α → List V) (l : List α) : List V := [.sl (l.map enc)]
def bdSl (bd : α → Nat → Prop) (l : List α) (m : Nat) : Prop := l.length < m ∧ ∀ a ∈ l, bd a m
theorem Opn.slice {e z : Nat} {enc : α → List V} {bd : α → Nat → Prop} [Inhabited α] (ht : P.underlying t = some (.slice e)) (hc : P.cellsOf e = z) (hz : 0 < z) (hl : ∀ a, (enc a).length = z) (ho : Opn B P e enc bd) : Opn B P t (encSl enc) (bdSl bd) := by
  refine ⟨fun l m m' hm h => ⟨Nat.lt_of_lt_of_le h.1 hm, fun a ha => ho.1 a m m' hm (h.2 a ha)⟩, fun en w base fuel cs x h => ?_⟩
  rcases Go.Deep.open_slice ht h with ⟨rfl, rfl⟩ | ⟨a, len, cap, m, n, D, Pl, rfl, hb, hlc, hm, hmm, rfl, hel⟩
  · exact ⟨[], rfl, one_cell (Dp.nil _ _), B.pos _, by simp⟩
  · simp only [if_true] at hmm
    obtain rfl : cap = m := hmm.symm
    have hex : ∀ i, i < len → ∃ q : List Value × α, w.cells? base (a.add (i * z)) z = some q.1 ∧ (enc q.2).length = q.1.length ∧ (∀ j, j < q.1.length → Dp w (okAll w) ((enc q.2).getD j .undef) (q.1.getD j Go.undef)) ∧ bd q.2 (B.bk (D i)) := by
      intro i hi
      obtain ⟨cs', h1, h2⟩ := hel i (by omega)
      rw [hc] at h1
      obtain ⟨b, h3, h4, h5⟩ := ho.2 en w base n cs' _ h2
      exact ⟨(cs', b), h1, h3, h4, h5⟩
    obtain ⟨f, hf⟩ := Go.Deep.choose_lt (α := List Value × α) hex
    have hlen : ∀ i, i < len → (f i).1.length = z := fun i hi => by have := (hf i hi).2.1; rw [hl] at this; exact this.symm
    have hcell : ∀ i j, i < len → j < z → w.cell? (a.add (i * z + j)) = some ((f i).1.getD j Go.undef) := by
      intro i j hi hj
      obtain ⟨_, g1, g2⟩ := World.cells?_some (hf i hi).1
      have := g2 j hj
      rw [Go.Deep.add_add] at this
      rw [this]
      have hj' : j < (f i).1.length := by rw [hlen i hi]; exact hj
      simp [hj']
    refine ⟨(List.range len).map fun i => (f i).2, rfl, one_cell ?_, ?_⟩
    · refine .sl _ len cap z (some a) (fun i j => (f i).1.getD j Go.undef) (by simp) hlc ?_ ?_ ?_
      · intro r hr
        simp only [List.mem_map] at hr
        obtain ⟨q, _, rfl⟩ := hr
        exact hl q
      · intro hn
        refine ⟨a, rfl, ?_, hcell⟩
        have := hcell 0 0 (by omega) hz
        have := World.block_lt_of_cell? w _ this
        rwa [add_block] at this
      · intro i j hi hj
        have h1 : (((List.range len).map fun i => (f i).2).map enc).getD i [] = enc (f i).2 := by simp [List.getD_eq_getElem?_getD, hi]
        rw [h1]
        exact (hf i hi).2.2.1 j (by rw [hlen i hi]; exact hj)
    · have hbk : ∀ i, i < len → B.bk (D i) ≤ B.bk (.slice ((List.range len).map D) ((List.range (cap - len)).map fun j => D (len + j))) := by
        intro i hi
        rw [B.sl]
        have := B.mem ((List.range len).map D) (D i) (List.mem_map.2 ⟨i, List.mem_range.2 hi, rfl⟩)
        omega
      refine ⟨?_, fun b hb => ?_⟩
      · have := B.len ((List.range len).map D)
        show _ < B.bk (.slice ((List.range len).map D) _)
        rw [B.sl]
        simp at this ⊢
        omega
      · simp only [List.mem_map, List.mem_range] at hb
        obtain ⟨i, hi, rfl⟩ := hb
        exact ho.1 _ _ _ (hbk i hi) (hf i hi).2.2.2
/-- Fields from a place on. -/
def OpnF {α : Type} (B : Bulk) (P : Program) (fs : List Field) (off tot : Nat) (enc : α → List V) (bd : α → Nat → Prop) : Prop :=
  (∀ a m m', m ≤ m' → bd a m → bd a m') ∧
  ∀ {H : Type} (en : TypeId × Value → H) (w : World) (base n : Nat) (cs : List Value) (xs : List (DataW H × List MemPlace)), cs.length = tot → xs.length = fs.length →
    (∀ (i : Nat) (f : Field), fs[i]? = some f → DataW.trod en P w base (fun _ => true) true n f.type ((cs.drop f.offset).take (P.cellsOf f.type)) = xs[i]?) →
    ∃ a : α, off + (enc a).length = tot ∧ (∀ j, j < (enc a).length → Dp w (okAll w) ((enc a).getD j .undef) (cs.getD (off + j) Go.undef)) ∧ bd a (B.bks (xs.map (·.1)))
theorem OpnF.nil {off : Nat} : OpnF B P [] off off (fun _ : Unit => []) (fun _ _ => True) :=
  ⟨fun _ _ _ _ h => h, fun en w base n cs xs _ _ _ => ⟨(), by simp, by simp, trivial⟩⟩
theorem OpnF.cons {f : Field} {fs : List Field} {off tot z : Nat} {enc : α → List V} {bd : α → Nat → Prop} {enc2 : β → List V} {bd2 : β → Nat → Prop} (hoff : f.offset = off) (hz : P.cellsOf f.type = z) (hl : ∀ a, (enc a).length = z)
    (h1 : Opn B P f.type enc bd) (h2 : OpnF B P fs (off + z) tot enc2 bd2) : OpnF B P (f :: fs) off tot (fun p : α × β => enc p.1 ++ enc2 p.2) (fun p m => bd p.1 m ∧ bd2 p.2 m) := by
  refine ⟨fun a m m' hm h => ⟨h1.1 _ _ _ hm h.1, h2.1 _ _ _ hm h.2⟩, fun en w base n cs xs hcs hxs hel => ?_⟩
  cases xs with
  | nil => simp at hxs
  | cons x xs =>
    have e0 := hel 0 f rfl
    simp only [List.getElem?_cons_zero] at e0
    rw [hoff, hz] at e0
    obtain ⟨a, a1, a2, a3⟩ := h1.2 en w base n _ _ e0
    obtain ⟨b, b1, b2, b3⟩ := h2.2 en w base n cs xs hcs (by simpa using hxs) (fun i g hg => by
      have := hel (i + 1) g (by simpa using hg)
      simpa using this)
    have hlen : z = min z (cs.length - off) := by rw [hl] at a1; simpa using a1
    refine ⟨(a, b), by simp [hl]; omega, fun j hj => ?_, ?_⟩
    · by_cases hjz : j < z
      · have g1 : (enc a ++ enc2 b).getD j .undef = (enc a).getD j .undef := by simp [List.getD_eq_getElem?_getD, List.getElem?_append_left (show j < (enc a).length by rw [hl]; exact hjz)]
        have g2 := a2 j (by simp; omega)
        have g3 : ((cs.drop off).take z).getD j Go.undef = cs.getD (off + j) Go.undef := by simp [List.getD_eq_getElem?_getD, List.getElem?_take, hjz]
        rw [g3] at g2
        show Dp w (okAll w) ((enc a ++ enc2 b).getD j .undef) _
        rw [g1]; exact g2
      · have hj' : j - z < (enc2 b).length := by simp [hl] at hj; omega
        have g1 : (enc a ++ enc2 b).getD j .undef = (enc2 b).getD (j - z) .undef := by simp [List.getD_eq_getElem?_getD, List.getElem?_append_right (show (enc a).length ≤ j by rw [hl]; omega), hl]
        have g2 := b2 (j - z) hj'
        rw [show off + z + (j - z) = off + j by omega] at g2
        show Dp w (okAll w) ((enc a ++ enc2 b).getD j .undef) _
        rw [g1]; exact g2
    · simp only [List.map_cons, B.cons]
      exact ⟨h1.1 _ _ _ (by omega) a3, h2.1 _ _ _ (by omega) b3⟩
theorem Opn.struct {fs : Array Field} {enc : α → List V} {bd : α → Nat → Prop} (ht : P.underlying t = some (.struct fs)) (h : OpnF B P fs.toList 0 (P.cellsOf t) enc bd) : Opn B P t enc bd := by
  refine ⟨h.1, fun en w base fuel cs x hx => ?_⟩
  obtain ⟨xs, n, rfl, rfl, hlen, hxs, hel⟩ := DataW.trod_struct ht hx
  obtain ⟨a, a1, a2, a3⟩ := h.2 en w base n cs xs hlen (by simpa using hxs) (fun i f hf => hel i f (by simpa using hf))
  refine ⟨a, by omega, fun j hj => ?_, ?_⟩
  · have := a2 j (by omega)
    simpa using this
  · show bd a (B.bk (.agg (xs.map (·.1))))
    rw [B.agg]
    exact h.1 _ _ _ (by omega) a3
theorem Opn.map {enc : α → List V} {bd : α → Nat → Prop} {enc2 : β → List V} {bd2 : β → Nat → Prop} (f : α → β) (h : Opn B P t enc bd) (he : ∀ a, enc2 (f a) = enc a) (hb : ∀ a m, bd a m → bd2 (f a) m) (hm : ∀ b m m', m ≤ m' → bd2 b m → bd2 b m') : Opn B P t enc2 bd2 := by
  refine ⟨hm, fun en w base fuel cs x hx => ?_⟩
  obtain ⟨a, a1, a2, a3⟩ := h.2 en w base fuel cs x hx
  exact ⟨f a, by rw [he]; exact a1, by rw [he]; exact a2, hb _ _ a3⟩

/-- One argument. -/
theorem Opn.one {H : Type} {en : TypeId × Value → H} {w : World} {base : Nat} {d : DataW H} {ps : List MemPlace} {fv : Nat → Value} {v : Value} {enc : α → List V} {bd : α → Nat → Prop} (h : Opn B P t enc bd) (hl : ∀ a, (enc a).length = 1) (hv : v.cells = #[v])
    (ht : DataW.Trod en P w base (fun _ => true) true t v d ps) : ∃ a, Rp fv w (okAll w) noMu ((enc a).getD 0 .undef) v ∧ bd a (B.bk d) := by
  obtain ⟨fuel, ht⟩ := ht
  rw [hv] at ht
  obtain ⟨a, a1, a2, a3⟩ := h.2 en w base fuel _ _ ht
  exact ⟨a, (a2 0 (by simp)).R, a3⟩
theorem Opn.arg {H : Type} {en : TypeId × Value → H} {w : World} {base : Nat} {d : DataW H} {ps : List MemPlace} {fv : Nat → Value} {v : Value} {cs : Array Value} {enc : α → List V} {bd : α → Nat → Prop} (h : Opn B P t enc bd) (hv : v = .agg cs)
    (ht : DataW.Trod en P w base (fun _ => true) true t v d ps) : ∃ a, Rp fv w (okAll w) noMu (.agg (enc a)) v ∧ bd a (B.bk d) := by
  obtain ⟨fuel, ht⟩ := ht
  subst hv
  obtain ⟨a, a1, a2, a3⟩ := h.2 en w base fuel _ _ ht
  refine ⟨a, .agg _ _ (by rw [a1]; simp [Value.cells]) fun i hi => ?_, a3⟩
  have hi' : i < cs.size := by rw [a1] at hi; simpa [Value.cells] using hi
  have := (a2 i (by rw [a1] at hi; exact hi)).R (fvals := fv) (μ := noMu)
  simpa [Value.cells] using this
theorem okWide_agg {w : World} {r : Go.Reach} {b0 : Nat} {fs : Array Field} {v : Value} (ht : P.underlying t = some (.struct fs)) (h : Value.okWide P w r b0 t v) : ∃ cs, v = .agg cs := by
  unfold Value.okWide at h
  rw [ht] at h
  obtain ⟨cs, rfl, _⟩ := h
  exact ⟨cs, rfl⟩
theorem okWide_one {w : World} {r : Go.Reach} {b0 : Nat} {v : Value} (ht : (∃ k, P.underlying t = some (.int k)) ∨ P.underlying t = some .string ∨ P.underlying t = some .bool ∨ ∃ e, P.underlying t = some (.slice e)) (h : Value.okWide P w r b0 t v) : v.cells = #[v] := by
  unfold Value.okWide at h
  rcases ht with ⟨k, ht⟩ | ht | ht | ⟨e, ht⟩ <;> (rw [ht] at h; simp only [Cell.okWide, ht, Cell.ok] at h; cases v <;> simp_all [Value.cells])
end

section
variable {H : Type} {en : TypeId × Value → H} {P : Program} {W W' : World}
theorem trodAll_below (hl : laidOutB P = true) (hb : Below W.heap.size W W') : ∀ {ts : List TypeId} {vs : List Value} {ds : List (DataW H)} {ps : List MemPlace}, (∀ t ∈ ts, P.readableRec t = true ∧ t < P.types.size) →
    DataW.TrodAll en P W 0 (fun _ => true) true ts vs ds ps → DataW.TrodAll en P W' 0 (fun b => decide (b < W.heap.size)) true ts vs ds ps
  | [], vs, ds, ps, _, h => by
    obtain ⟨rfl, rfl, rfl⟩ := trodAll_nil h
    exact trodAll_mk0
  | t :: ts, vs, ds, ps, ht, h => by
    obtain ⟨v, vs1, d, ds1, a, b, rfl, rfl, rfl, h1, h2⟩ := trodAll_cons h
    have g := ht t (by simp)
    exact trodAll_cons_mk (Below.trod hl g.1 g.2 h1 hb (by obtain ⟨m, hm⟩ := h1; exact DataW.trod_lt m _ _ _ hm)) (trodAll_below hl hb (fun t' ht' => ht t' (by simp [ht'])) h2)
/-- What a law's statement asks for behind the call: it returned true and turned nothing that was there. -/
theorem row_post {fn : Func} {s : ChangeSpec} {args : Array Value} {ds gs : List (DataW H)} {before : List MemPlace} {tb : TypeId} (hl : laidOutB P = true) (hts : ∀ t ∈ fn.params.toList, P.readableRec t = true ∧ t < P.types.size)
    (hW : DataW.Whole en P fn.params.toList s.vars false W args.toList ds gs before) (hv : s.vars = []) (hb : Below W.heap.size W W') (hr : fn.resultTypes = #[tb]) (htb : P.underlying tb = some .bool)
    (hs : s.fn H (ds ++ gs) = { results := [.lit (.bool true)], args := ds }) : s.post en P fn false true false false W args (.bool true) W' := by
  have hW' := hW
  obtain ⟨p, q, hA, hV, rfl, hfz, hnd⟩ := hW
  rw [hv] at hV
  obtain ⟨rfl, rfl⟩ := trodVars_none hV
  refine ⟨ds, [], _, [], p, [], hW', ?_, ?_, ?_, hb.frame _, fun h => by cases h⟩
  · rw [hr, hs]
    exact trodAll_mk1 (shut_bool htb _)
  · rw [hs]
    exact trodAll_below hl hb hts hA
  · rw [hs, hv]
    rfl
theorem Sound.row {f : FuncId} {fn : Func} {s : ChangeSpec} {args : Array Value} {ds gs : List (DataW H)} {before : List MemPlace} {tb : TypeId} {F : Fspec} {vs : List V} (hS : Sound P f F) (hl : laidOutB P = true) (hI : ∀ w1, Fr W w1 (fun _ => False) → WInv P w1) (hts : ∀ t ∈ fn.params.toList, P.readableRec t = true ∧ t < P.types.size)
    (hW : DataW.Whole en P fn.params.toList s.vars false W args.toList ds gs before) (hv : s.vars = []) (hr : fn.resultTypes = #[tb]) (htb : P.underlying tb = some .bool)
    (hs : s.fn H (ds ++ gs) = { results := [.lit (.bool true)], args := ds }) (ha : ArgsR (fun _ => Go.undef) W (okAll W) vs args) (hF : F (fun _ => none) vs (.s (.bool true))) :
    Calls P f args W fun e W' => ∃ v, e = .returned v ∧ s.post en P fn false true false false W args v W' := by
  refine (hS ⟨P, W, okAll W, fun _ => False, fun _ => Go.undef, hI⟩ (fun _ => none) vs (.s (.bool true)) args rfl (fun _ h => h) (fun _ h => h) (fun k S h => by cases h) hF ha).mono ?_
  rintro e W' ⟨x, rfl, hb, hR⟩
  have := (hR fun _ => Go.undef).s_eq.1
  subst this
  exact ⟨_, rfl, row_post hl hts hW hv hb hr htb hs⟩
end
end Go.Proofs.Ytgohmphhgglmbaa.Am

/- slices.overlaps at two blocks of the call's own: it answers no. -/
set_option linter.unusedVariables false
set_option linter.unusedSimpArgs false
namespace Go.Proofs.Ytgohmphhgglmbaa.Am
open Go Go.RowKit

def overT (z : Nat) : Pt := fun _ args σ K => ∃ (b off len cap b2 off2 len2 cap2 : Nat) (B B2 : Blk), args = [.loc b off len cap, .loc b2 off2 len2 cap2] ∧ b ≠ b2 ∧ σ.h b = some B ∧ σ.h b2 = some B2 ∧ B.wr = true ∧ B.size = z ∧ B2.size = z ∧ off < B.rows.length ∧ off2 < B2.rows.length ∧ 0 < len ∧ 0 < len2 ∧ K (.s (.bool false)) σ
theorem shape_of_cell {w : World} {k o : Nat} {x : Value} (h : w.cell? ⟨k, o, none⟩ = some x) : ∃ t n, w.shape? k = some (t, n) ∧ n ≠ 0 := by
  unfold World.cell? at h
  unfold World.shape?
  simp only at h
  split at h
  · rename_i cs t fr hh
    refine ⟨t, cs.size, by simp [hh], fun e => ?_⟩
    have : cs = #[] := Array.eq_empty_of_size_eq_zero e
    subst this
    simp at h
  · cases h
theorem overT_sound {P : Program} {f : FuncId} {fn : Func} {tS tR e : TypeId} {z : Nat} (hf : P.funcs[f]? = some fn) (hname : (fn.name == "runtime.NumGoroutine") = false)
    (hb : fn.body.isNone = true) (hn : Extern.findNext fn = none) (he : Extern.find fn = some (Extern.SlicesOverlaps.overlaps #[tS, tS] #[tR])) (ht : P.underlying tS = some (.slice e)) (hz : szo P e = some z) (h0 : 0 < z) (h1 : z ≠ 1) : SoundT P f (overT z) := by
  rintro c Φ h n μ w args vals t K hc hΦ H hl ha ⟨b, off, len, cap, b2, off2, len2, cap2, B, B2, rfl, hne, hB, hB2, hw, hs, hs2, ho, ho2, hlen, hlen2, hK⟩
  have g0 := ha 0 (by simp)
  have g1 := ha 1 (by simp)
  have r0 : R c h μ w (.loc b off len cap) (vals.getD 0 Go.undef) := g0
  have r1 : R c h μ w (.loc b2 off2 len2 cap2) (vals.getD 1 Go.undef) := g1
  obtain ⟨_, ⟨k, base, size, m1, e1⟩ | ⟨q0, _⟩⟩ := r0.loc_inv
  case inr => omega
  obtain ⟨_, ⟨k2, base2, size2, m2, e2⟩ | ⟨q0, _⟩⟩ := r1.loc_inv
  case inr => omega
  have hv : vals = #[vals.getD 0 Go.undef, vals.getD 1 Go.undef] := by
    apply Array.ext
    · simpa using hl
    · intro i g1 g2
      have g3 : i < 2 := by simpa using g2
      have : i = 0 ∨ i = 1 := by omega
      rcases this with rfl | rfl <;> simp [g1]
  rw [e1, e2] at hv
  obtain ⟨a1, x1, c1, f1, _⟩ := H.at hB m1 ho (show 0 < B.size by omega)
  obtain ⟨a2, x2, c2, f2, _⟩ := H.at hB2 m2 ho2 (show 0 < B2.size by omega)
  have hk : k ≠ k2 := fun e => by
    subst e
    exact hne (H.inj b b2 B B2 k base size base2 size2 hB hB2 hw m1 m2)
  obtain ⟨tA, nA, s1, n1⟩ := shape_of_cell c1
  obtain ⟨tB, nB, s2, n2⟩ := shape_of_cell c2
  subst hv
  refine .inr ⟨.bool false, w, ?_, _, h, n, μ, hK, H, Ext.refl _ _ _ _, .s _ rfl⟩
  rw [run_callFunc_extern hf hname hb hn he, Lib.run_overlaps_apart w tS tR e ht z (fun w => run_size hz) ⟨k, base + off * size, none⟩ ⟨k2, base2 + off2 * size2, none⟩ len cap len2 cap2 hk tA tB nA nB s1 s2 n2 (f1 _ (.inl (by omega))) (f1 _ (.inl (by omega)))]
  rfl
end Go.Proofs.Ytgohmphhgglmbaa.Am

set_option linter.unusedVariables false
set_option linter.unusedSimpArgs false
set_option maxRecDepth 100000
set_option maxHeartbeats 8000000
namespace Go.Proofs.Ytgohmphhgglmbaa
open Go Go.RowKit Am

/-- slices.Insert of one row into a row of the call's own. -/
def insT (z : Nat) : Pt := fun _ args σ K => ∃ (b cap b2 : Nat) (rows sp : List (List V)) (i : Nat) (x : List V), args = [.loc b 0 rows.length cap, .s (.int .i64 i), .loc b2 0 1 1] ∧ i ≤ rows.length ∧ rows.length ≤ 1099511627776 ∧ b ≠ b2 ∧ b < σ.n ∧ b2 < σ.n ∧
  σ.h b = some ⟨z, rows ++ sp, true⟩ ∧ cap = rows.length + sp.length ∧ σ.h b2 = some ⟨z, [x], true⟩ ∧ okRows z rows ∧ okRows z [x] ∧
  ∀ (b' cap' n' : Nat) (h' : Hp) (sp' : List (List V)), b' < n' → σ.n ≤ n' → h' b' = some ⟨z, rows.take i ++ [x] ++ rows.drop i ++ sp', true⟩ → cap' = rows.length + 1 + sp'.length → (∀ k, k < σ.n → k ≠ b → h' k = σ.h k) → (b' = b ∨ σ.n ≤ b') → K (.loc b' 0 (rows.length + 1) cap') ⟨σ.t, h', n'⟩
theorem okRows_take {z : Nat} {r : List (List V)} (m : Nat) (h : okRows z r) : okRows z (r.take m) := fun q hq => h q (List.mem_of_mem_take hq)
theorem okRows_drop {z : Nat} {r : List (List V)} (m : Nat) (h : okRows z r) : okRows z (r.drop m) := fun q hq => h q (List.mem_of_mem_drop hq)
theorem okRows_rep (z m : Nat) (c : List V) (h : c.length = z ∧ ∀ q ∈ c, cellish q = true) : okRows z (List.replicate m c) := fun q hq => by rw [(List.mem_replicate.1 hq).2]; exact h
theorem ins_grow {α : Type} (rows sp : List α) (x : α) (Zs S : List α) (i : Nat) (hi : i < rows.length) (hz : Zs.length = rows.length + 1 - i) :
    (((rows ++ sp).take i ++ Zs ++ S).take i ++ [x].take 1 ++ ((rows ++ sp).take i ++ Zs ++ S).drop (i + 1)).take (i + 1) ++ (rows.drop i).take (rows.length - i) ++ (((rows ++ sp).take i ++ Zs ++ S).take i ++ [x].take 1 ++ ((rows ++ sp).take i ++ Zs ++ S).drop (i + 1)).drop (i + 1 + (rows.length - i)) = rows.take i ++ [x] ++ rows.drop i ++ S := by
  have h1 : (rows ++ sp).take i = rows.take i := List.take_append_of_le_length (by omega)
  rw [h1]
  have hA : (rows.take i).length = i := by simp; omega
  generalize rows.take i = A at *
  have hD : (rows.drop i).take (rows.length - i) = rows.drop i := List.take_of_length_le (by simp)
  rw [hD]
  generalize rows.drop i = D at *
  have e1 : (A ++ Zs ++ S).take i = A := by rw [List.append_assoc, List.take_append_of_le_length (by omega), List.take_of_length_le (by omega)]
  have e2 : (A ++ Zs ++ S).drop (i + 1) = Zs.drop 1 ++ S := by
    rw [List.append_assoc, List.drop_append, List.drop_of_length_le (by omega), List.nil_append, List.drop_append_of_le_length (by omega)]
    congr 2; omega
  rw [e1, e2]
  have e3 : (A ++ [x].take 1 ++ (Zs.drop 1 ++ S)).take (i + 1) = A ++ [x] := by
    have : (A ++ [x].take 1).length = i + 1 := by simp [hA]
    rw [List.take_append_of_le_length (by omega), List.take_of_length_le (by omega)]
    simp
  have e4 : (A ++ [x].take 1 ++ (Zs.drop 1 ++ S)).drop (i + 1 + (rows.length - i)) = S := by
    have h2 : (A ++ [x].take 1 ++ Zs.drop 1).length = i + 1 + (rows.length - i) := by simp [hA]; omega
    rw [← List.append_assoc, ← h2]
    simp
  rw [e3, e4]
theorem ins_place {α : Type} (rows sp : List α) (x : α) (i : Nat) (hi : i < rows.length) (hs : 0 < sp.length) :
    ((rows ++ sp).take (i + 1) ++ (((rows ++ sp).drop i).take (rows.length + 1 - i)).take (rows.length - i) ++ (rows ++ sp).drop (i + 1 + (rows.length - i))).take i ++ [x].take 1 ++ ((rows ++ sp).take (i + 1) ++ (((rows ++ sp).drop i).take (rows.length + 1 - i)).take (rows.length - i) ++ (rows ++ sp).drop (i + 1 + (rows.length - i))).drop (i + 1) = rows.take i ++ [x] ++ rows.drop i ++ sp.drop 1 := by
  have h1 : (((rows ++ sp).drop i).take (rows.length + 1 - i)).take (rows.length - i) = rows.drop i := by
    rw [List.take_take, show min (rows.length - i) (rows.length + 1 - i) = rows.length - i by omega, List.drop_append_of_le_length (by omega), List.take_append_of_le_length (by simp), List.take_of_length_le (by simp)]
  have h2 : (rows ++ sp).drop (i + 1 + (rows.length - i)) = sp.drop 1 := by
    rw [List.drop_append, List.drop_of_length_le (by omega), List.nil_append]
    congr 1; omega
  have h3 : (rows ++ sp).take (i + 1) = rows.take (i + 1) := List.take_append_of_le_length (by omega)
  rw [h1, h2, h3]
  have hA : (rows.take (i + 1)).length = i + 1 := by simp; omega
  have e1 : (rows.take (i + 1) ++ rows.drop i ++ sp.drop 1).take i = rows.take i := by
    rw [List.append_assoc, List.take_append_of_le_length (by omega), List.take_take]
    congr 1; omega
  have e2 : (rows.take (i + 1) ++ rows.drop i ++ sp.drop 1).drop (i + 1) = rows.drop i ++ sp.drop 1 := by
    rw [List.append_assoc, List.drop_append, List.drop_of_length_le (by omega), List.nil_append, hA]
    simp
  rw [e1, e2]
  simp
theorem insW_sound {plain : TypeId → Bool} {Γ : FuncId → Option Fspec} {Δ : FuncId → Option Pt} (hE : EnvOk ⟨Try.prog, plain, Γ, Δ, fun _ => none, 0⟩) (hO : Δ 56 = some (overT 4)) : SoundT Try.prog 48 (insT 4) := by
  refine inl_sound hE Try.func48 rfl (by kernel_rfl) (by kernel_rfl) ?_
  rintro Φ args t0 h0 n0 K ⟨b, cap, b2, rows, sp, i, x, rfl, hi, hlen, hne, hbn, hb2n, hb, rfl, hb2, hok, hokx, hK⟩
  simp only at hbn hb2n hb hb2 hK
  refine ⟨by simp [Try.f48], ?_⟩
  refine W.out (E := ⟨Try.prog, plain, Γ, Δ, Φ, _⟩) ?_
  have e1 : (b = n0) = False := by simp; omega
  have e2 : (b2 = n0) = False := by simp; omega
  have e3 : (b2 = b) = False := by simp; omega
  have e4 : (b = b2) = False := by simp; omega
  have e5 : (((1 : Nat) : Int) == 0) = false := rfl
  have e6 : (b = n0 + 1) = False := by simp; omega
  have e7 : (b2 = n0 + 1) = False := by simp; omega
  by_cases h1 : i = rows.length
  · subst h1
    refine go (And.intro hb (And.intro hb2 (And.intro e1 (And.intro e2 (And.intro e3 (And.intro e4 e5)))))) ?_
    refine x_appendO rfl rfl rfl rfl rfl rfl (sv (And.intro hb (And.intro hb2 (And.intro e1 (And.intro e2 (And.intro e3 (And.intro e4 e5))))))) (by decide) (sc (And.intro hb (And.intro hb2 (And.intro e1 (And.intro e2 (And.intro e3 (And.intro e4 e5))))))) (sv (And.intro hb (And.intro hb2 (And.intro e1 (And.intro e2 (And.intro e3 (And.intro e4 e5))))))) (sx (And.intro hb (And.intro hb2 (And.intro e1 (And.intro e2 (And.intro e3 (And.intro e4 e5))))))) (by first | rfl | (simp; done) | (simp [spare_len]; omega)) (by first | omega | (simp; done) | (simp [spare_len]; omega)) (by first | omega | (simp; done) | (simp [spare_len]; omega)) (sx (And.intro hb (And.intro hb2 (And.intro e1 (And.intro e2 (And.intro e3 (And.intro e4 e5))))))) hokx (by first | omega | (simp; done) | (simp [spare_len]; omega)) (fun cap' hcap' => ?_)
    refine go (And.intro hb (And.intro hb2 (And.intro e1 (And.intro e2 (And.intro e3 (And.intro e4 e5)))))) ?_
    refine x_inl (sr @Try.f48.eq_1) ?_
    refine hK n0 cap' (n0 + 1) _ (spare 4 (cap' - (rows.length + 1))) (by omega) (by omega) ?_ (by simp [spare_len] at hcap' ⊢; omega) ?_ (.inr (Nat.le_refl _))
    · simp [upd_at]
    · intro k k1 k2
      have k3 : k ≠ n0 := by omega
      simp [upd_at, k2, k3]
  · have e8 : ((i : Int) == (rows.length : Int)) = false := by simp; omega
    have c1 : ((rows.length : Int) + ((1 : Nat) : Int)) = ((rows.length + 1 : Nat) : Int) := by omega
    have c2 : (((rows.length + 1 : Nat) : Int) - (i : Int)) = ((rows.length + 1 - i : Nat) : Int) := by omega
    have c3 : ((i : Int) + ((1 : Nat) : Int)) = ((i + 1 : Nat) : Int) := by omega
    have c4 : i + (rows.length + 1 - i) = rows.length + 1 := by omega
    have c5 : rows.length + 1 - (i + 1) = rows.length - i := by omega
    have c6 : ((rows ++ sp).drop i).take (rows.length - i) = rows.drop i := by rw [List.drop_append_of_le_length (by omega), List.take_append_of_le_length (by simp), List.take_of_length_le (by simp)]
    have c7 : min (rows.length - i) (rows.length - i) = rows.length - i := Nat.min_self _
    have c8 : min 1 (rows.length + 1 - i) = 1 := by omega
    have c11 : (rows ++ sp).length = rows.length + sp.length := List.length_append
    have c10 : min (rows.length - i) (rows.length + 1 - i) = rows.length - i := by omega
    have c9 : min (rows.length + 1 - i) (rows.length - i) = rows.length - i := by omega
    refine go (And.intro hb (And.intro hb2 (And.intro e1 (And.intro e2 (And.intro e3 (And.intro e4 (And.intro e5 (And.intro e6 (And.intro e7 (And.intro e8 (And.intro c1 (And.intro c2 (And.intro c3 (And.intro c4 (And.intro c5 (And.intro c6 c11)))))))))))))))) ?_
    refine x_condP (sv (And.intro hb (And.intro hb2 (And.intro e1 (And.intro e2 (And.intro e3 (And.intro e4 (And.intro e5 (And.intro e6 (And.intro e7 (And.intro e8 (And.intro c1 (And.intro c2 (And.intro c3 (And.intro c4 (And.intro c5 (And.intro c6 c11))))))))))))))))) (fun hc => ?_) (fun hc => ?_)
    · have h2 : sp.length = 0 := by omega
      have h3 : (rows ++ sp).length = rows.length := by simp [h2]
      refine go (And.intro hb (And.intro hb2 (And.intro e1 (And.intro e2 (And.intro e3 (And.intro e4 (And.intro e5 (And.intro e6 (And.intro e7 (And.intro e8 (And.intro c1 (And.intro c2 (And.intro c3 (And.intro c4 (And.intro c5 (And.intro c6 c11)))))))))))))))) ?_
      refine x_appendZ rfl rfl rfl rfl rfl rfl (sc (And.intro hb (And.intro hb2 (And.intro e1 (And.intro e2 (And.intro e3 (And.intro e4 (And.intro e5 (And.intro e6 (And.intro e7 (And.intro e8 (And.intro c1 (And.intro c2 (And.intro c3 (And.intro c4 (And.intro c5 (And.intro c6 c11))))))))))))))))) (sv (And.intro hb (And.intro hb2 (And.intro e1 (And.intro e2 (And.intro e3 (And.intro e4 (And.intro e5 (And.intro e6 (And.intro e7 (And.intro e8 (And.intro c1 (And.intro c2 (And.intro c3 (And.intro c4 (And.intro c5 (And.intro c6 c11))))))))))))))))) (by decide) (sc (And.intro hb (And.intro hb2 (And.intro e1 (And.intro e2 (And.intro e3 (And.intro e4 (And.intro e5 (And.intro e6 (And.intro e7 (And.intro e8 (And.intro c1 (And.intro c2 (And.intro c3 (And.intro c4 (And.intro c5 (And.intro c6 c11))))))))))))))))) (sv (And.intro hb (And.intro hb2 (And.intro e1 (And.intro e2 (And.intro e3 (And.intro e4 (And.intro e5 (And.intro e6 (And.intro e7 (And.intro e8 (And.intro c1 (And.intro c2 (And.intro c3 (And.intro c4 (And.intro c5 (And.intro c6 c11))))))))))))))))) (sv (And.intro hb (And.intro hb2 (And.intro e1 (And.intro e2 (And.intro e3 (And.intro e4 (And.intro e5 (And.intro e6 (And.intro e7 (And.intro e8 (And.intro c1 (And.intro c2 (And.intro c3 (And.intro c4 (And.intro c5 (And.intro c6 c11))))))))))))))))) (sx (And.intro hb (And.intro hb2 (And.intro e1 (And.intro e2 (And.intro e3 (And.intro e4 (And.intro e5 (And.intro e6 (And.intro e7 (And.intro e8 (And.intro c1 (And.intro c2 (And.intro c3 (And.intro c4 (And.intro c5 (And.intro c6 c11))))))))))))))))) (by rfl) (by rfl) (by first | omega | (simp; done) | (simp [spare_len]; omega)) (by first | omega | (simp; done) | (simp [spare_len]; omega)) (by first | omega | (simp; done) | (simp [spare_len]; omega)) (by first | omega | (simp; done) | (simp [spare_len]; omega)) (fun cap' hcap' => ?_)
      refine go (And.intro hb (And.intro hb2 (And.intro e1 (And.intro e2 (And.intro e3 (And.intro e4 (And.intro e5 (And.intro e6 (And.intro e7 (And.intro e8 (And.intro c1 (And.intro c2 (And.intro c3 (And.intro c4 (And.intro c5 (And.intro c6 c11)))))))))))))))) ?_
      refine x_copy rfl rfl rfl rfl rfl rfl (sv (And.intro hb (And.intro hb2 (And.intro e1 (And.intro e2 (And.intro e3 (And.intro e4 (And.intro e5 (And.intro e6 (And.intro e7 (And.intro e8 (And.intro c1 (And.intro c2 (And.intro c3 (And.intro c4 (And.intro c5 (And.intro c6 c11))))))))))))))))) (by decide) (sv (And.intro hb (And.intro hb2 (And.intro e1 (And.intro e2 (And.intro e3 (And.intro e4 (And.intro e5 (And.intro e6 (And.intro e7 (And.intro e8 (And.intro c1 (And.intro c2 (And.intro c3 (And.intro c4 (And.intro c5 (And.intro c6 c11))))))))))))))))) (sx (And.intro hb (And.intro hb2 (And.intro e1 (And.intro e2 (And.intro e3 (And.intro e4 (And.intro e5 (And.intro e6 (And.intro e7 (And.intro e8 (And.intro c1 (And.intro c2 (And.intro c3 (And.intro c4 (And.intro c5 (And.intro c6 c11))))))))))))))))) (okRows_take _ hokx) (sx (And.intro hb (And.intro hb2 (And.intro e1 (And.intro e2 (And.intro e3 (And.intro e4 (And.intro e5 (And.intro e6 (And.intro e7 (And.intro e8 (And.intro c1 (And.intro c2 (And.intro c3 (And.intro c4 (And.intro c5 (And.intro c6 c11))))))))))))))))) (by rfl) (by rfl) (by first | omega | (simp; done) | (simp [spare_len]; omega)) ?_
      refine go (And.intro hb (And.intro hb2 (And.intro e1 (And.intro e2 (And.intro e3 (And.intro e4 (And.intro e5 (And.intro e6 (And.intro e7 (And.intro e8 (And.intro c1 (And.intro c2 (And.intro c3 (And.intro c4 (And.intro c5 (And.intro c6 c11)))))))))))))))) ?_
      refine x_copy rfl rfl rfl rfl rfl rfl (sv (And.intro hb (And.intro hb2 (And.intro e1 (And.intro e2 (And.intro e3 (And.intro e4 (And.intro e5 (And.intro e6 (And.intro e7 (And.intro e8 (And.intro c1 (And.intro c2 (And.intro c3 (And.intro c4 (And.intro c5 (And.intro c6 c11))))))))))))))))) (by decide) (sv (And.intro hb (And.intro hb2 (And.intro e1 (And.intro e2 (And.intro e3 (And.intro e4 (And.intro e5 (And.intro e6 (And.intro e7 (And.intro e8 (And.intro c1 (And.intro c2 (And.intro c3 (And.intro c4 (And.intro c5 (And.intro c6 c11))))))))))))))))) (sx (And.intro hb (And.intro hb2 (And.intro e1 (And.intro e2 (And.intro e3 (And.intro e4 (And.intro e5 (And.intro e6 (And.intro e7 (And.intro e8 (And.intro c1 (And.intro c2 (And.intro c3 (And.intro c4 (And.intro c5 (And.intro c6 c11))))))))))))))))) (okRows_take _ (okRows_drop _ hok)) (sx (And.intro hb (And.intro hb2 (And.intro e1 (And.intro e2 (And.intro e3 (And.intro e4 (And.intro e5 (And.intro e6 (And.intro e7 (And.intro e8 (And.intro c1 (And.intro c2 (And.intro c3 (And.intro c4 (And.intro c5 (And.intro c6 c11))))))))))))))))) (by rfl) (by rfl) (by first | omega | (simp; done) | (simp [spare_len]; omega)) ?_
      refine go (And.intro hb (And.intro hb2 (And.intro e1 (And.intro e2 (And.intro e3 (And.intro e4 (And.intro e5 (And.intro e6 (And.intro e7 (And.intro e8 (And.intro c1 (And.intro c2 (And.intro c3 (And.intro c4 (And.intro c5 (And.intro c6 c11)))))))))))))))) ?_
      refine x_inl (sr @Try.f48.eq_1) ?_
      rw [c4] at hcap'
      refine hK n0 cap' (n0 + 1) _ (spare 4 (cap' - (rows.length + 1))) (by omega) (by omega) ?_ (by simp [spare_len]; omega) ?_ (.inr (Nat.le_refl _))
      · have key := ins_grow rows sp x (spare 4 (rows.length + 1 - i)) (spare 4 (cap' - (rows.length + 1))) i (by omega) (by simp [spare_len])
        rw [c6] at *
        simp only [upd_at, ↓reduceIte, List.length_cons, List.length_nil, Nat.zero_add, Nat.add_zero, c8, c4, c5, c7, List.length_drop] at key ⊢
        exact congrArg (fun r => some (⟨4, r, true⟩ : Blk)) key
      · intro k k1 k2
        have k3 : (k = n0) = False := by simp; omega
        simp only [upd_at, k3, if_false]
    · have h2 : 0 < sp.length := by omega
      have hok3 : okRows 4 ((((rows ++ sp).drop i).take (rows.length + 1 - i)).take (min (((rows ++ sp).drop i).take (rows.length + 1 - i)).length (rows.length - i))) := by
        have : min (((rows ++ sp).drop i).take (rows.length + 1 - i)).length (rows.length - i) = rows.length - i := by simp; omega
        rw [this, List.take_take, c10, List.drop_append_of_le_length (by omega), List.take_append_of_le_length (by simp), List.take_of_length_le (by simp)]
        exact okRows_drop _ hok
      refine go (And.intro hb (And.intro hb2 (And.intro e1 (And.intro e2 (And.intro e3 (And.intro e4 (And.intro e5 (And.intro e6 (And.intro e7 (And.intro e8 (And.intro c1 (And.intro c2 (And.intro c3 (And.intro c4 (And.intro c5 (And.intro c6 c11)))))))))))))))) ?_
      refine x_callI rfl rfl rfl rfl (sv (And.intro hb (And.intro hb2 (And.intro e1 (And.intro e2 (And.intro e3 (And.intro e4 (And.intro e5 (And.intro e6 (And.intro e7 (And.intro e8 (And.intro c1 (And.intro c2 (And.intro c3 (And.intro c4 (And.intro c5 (And.intro c6 c11))))))))))))))))) hO (sv (And.intro hb (And.intro hb2 (And.intro e1 (And.intro e2 (And.intro e3 (And.intro e4 (And.intro e5 (And.intro e6 (And.intro e7 (And.intro e8 (And.intro c1 (And.intro c2 (And.intro c3 (And.intro c4 (And.intro c5 (And.intro c6 c11))))))))))))))))) ⟨b2, 0, 1, 1, b, i + 1, rows.length - i, _, _, _, rfl, (Ne.symm hne), (sv (And.intro hb (And.intro hb2 (And.intro e1 (And.intro e2 (And.intro e3 (And.intro e4 (And.intro e5 (And.intro e6 (And.intro e7 (And.intro e8 (And.intro c1 (And.intro c2 (And.intro c3 (And.intro c4 (And.intro c5 (And.intro c6 c11))))))))))))))))), (sv (And.intro hb (And.intro hb2 (And.intro e1 (And.intro e2 (And.intro e3 (And.intro e4 (And.intro e5 (And.intro e6 (And.intro e7 (And.intro e8 (And.intro c1 (And.intro c2 (And.intro c3 (And.intro c4 (And.intro c5 (And.intro c6 c11))))))))))))))))), rfl, rfl, rfl, (by simp), (by simp; omega), Nat.zero_lt_one, (by omega), ?_⟩
      refine go (And.intro hb (And.intro hb2 (And.intro e1 (And.intro e2 (And.intro e3 (And.intro e4 (And.intro e5 (And.intro e6 (And.intro e7 (And.intro e8 (And.intro c1 (And.intro c2 (And.intro c3 (And.intro c4 (And.intro c5 (And.intro c6 c11)))))))))))))))) ?_
      refine x_copy rfl rfl rfl rfl rfl rfl (sv (And.intro hb (And.intro hb2 (And.intro e1 (And.intro e2 (And.intro e3 (And.intro e4 (And.intro e5 (And.intro e6 (And.intro e7 (And.intro e8 (And.intro c1 (And.intro c2 (And.intro c3 (And.intro c4 (And.intro c5 (And.intro c6 c11))))))))))))))))) (by decide) (sv (And.intro hb (And.intro hb2 (And.intro e1 (And.intro e2 (And.intro e3 (And.intro e4 (And.intro e5 (And.intro e6 (And.intro e7 (And.intro e8 (And.intro c1 (And.intro c2 (And.intro c3 (And.intro c4 (And.intro c5 (And.intro c6 c11))))))))))))))))) (sx (And.intro hb (And.intro hb2 (And.intro e1 (And.intro e2 (And.intro e3 (And.intro e4 (And.intro e5 (And.intro e6 (And.intro e7 (And.intro e8 (And.intro c1 (And.intro c2 (And.intro c3 (And.intro c4 (And.intro c5 (And.intro c6 c11))))))))))))))))) hok3 (sx (And.intro hb (And.intro hb2 (And.intro e1 (And.intro e2 (And.intro e3 (And.intro e4 (And.intro e5 (And.intro e6 (And.intro e7 (And.intro e8 (And.intro c1 (And.intro c2 (And.intro c3 (And.intro c4 (And.intro c5 (And.intro c6 c11))))))))))))))))) (by rfl) (by rfl) (by first | omega | (simp; done) | (simp [spare_len]; omega)) ?_
      refine go (And.intro hb (And.intro hb2 (And.intro e1 (And.intro e2 (And.intro e3 (And.intro e4 (And.intro e5 (And.intro e6 (And.intro e7 (And.intro e8 (And.intro c1 (And.intro c2 (And.intro c3 (And.intro c4 (And.intro c5 (And.intro c6 c11)))))))))))))))) ?_
      refine x_copy rfl rfl rfl rfl rfl rfl (sv (And.intro hb (And.intro hb2 (And.intro e1 (And.intro e2 (And.intro e3 (And.intro e4 (And.intro e5 (And.intro e6 (And.intro e7 (And.intro e8 (And.intro c1 (And.intro c2 (And.intro c3 (And.intro c4 (And.intro c5 (And.intro c6 c11))))))))))))))))) (by decide) (sv (And.intro hb (And.intro hb2 (And.intro e1 (And.intro e2 (And.intro e3 (And.intro e4 (And.intro e5 (And.intro e6 (And.intro e7 (And.intro e8 (And.intro c1 (And.intro c2 (And.intro c3 (And.intro c4 (And.intro c5 (And.intro c6 c11))))))))))))))))) (sx (And.intro hb (And.intro hb2 (And.intro e1 (And.intro e2 (And.intro e3 (And.intro e4 (And.intro e5 (And.intro e6 (And.intro e7 (And.intro e8 (And.intro c1 (And.intro c2 (And.intro c3 (And.intro c4 (And.intro c5 (And.intro c6 c11))))))))))))))))) (okRows_take _ hokx) (sx (And.intro hb (And.intro hb2 (And.intro e1 (And.intro e2 (And.intro e3 (And.intro e4 (And.intro e5 (And.intro e6 (And.intro e7 (And.intro e8 (And.intro c1 (And.intro c2 (And.intro c3 (And.intro c4 (And.intro c5 (And.intro c6 c11))))))))))))))))) (by rfl) (by rfl) (by first | omega | (simp; done) | (simp [spare_len]; omega)) ?_
      refine go (And.intro hb (And.intro hb2 (And.intro e1 (And.intro e2 (And.intro e3 (And.intro e4 (And.intro e5 (And.intro e6 (And.intro e7 (And.intro e8 (And.intro c1 (And.intro c2 (And.intro c3 (And.intro c4 (And.intro c5 (And.intro c6 c11)))))))))))))))) ?_
      refine x_inl (sr @Try.f48.eq_1) ?_
      refine hK b (rows.length + sp.length) n0 _ (sp.drop 1) hbn (Nat.le_refl _) ?_ (by simp; omega) ?_ (.inl rfl)
      · have key := ins_place rows sp x i (by omega) h2
        have c12 : (((rows ++ sp).drop i).take (rows.length + 1 - i)).length = rows.length + 1 - i := by simp; omega
        simp only [upd_at, ↓reduceIte, List.length_cons, List.length_nil, Nat.zero_add, Nat.add_zero, c12, c8, c9] at key ⊢
        exact congrArg (fun r => some (⟨4, r, true⟩ : Blk)) key
      · intro k k1 k2
        simp only [upd_at, k2, if_false]
theorem insR_sound {plain : TypeId → Bool} {Γ : FuncId → Option Fspec} {Δ : FuncId → Option Pt} (hE : EnvOk ⟨Try.prog, plain, Γ, Δ, fun _ => none, 0⟩) (hO : Δ 42 = some (overT 4)) : SoundT Try.prog 29 (insT 4) := by
  refine inl_sound hE Try.func29 rfl (by kernel_rfl) (by kernel_rfl) ?_
  rintro Φ args t0 h0 n0 K ⟨b, cap, b2, rows, sp, i, x, rfl, hi, hlen, hne, hbn, hb2n, hb, rfl, hb2, hok, hokx, hK⟩
  simp only at hbn hb2n hb hb2 hK
  refine ⟨by simp [Try.f29], ?_⟩
  refine W.out (E := ⟨Try.prog, plain, Γ, Δ, Φ, _⟩) ?_
  have e1 : (b = n0) = False := by simp; omega
  have e2 : (b2 = n0) = False := by simp; omega
  have e3 : (b2 = b) = False := by simp; omega
  have e4 : (b = b2) = False := by simp; omega
  have e5 : (((1 : Nat) : Int) == 0) = false := rfl
  have e6 : (b = n0 + 1) = False := by simp; omega
  have e7 : (b2 = n0 + 1) = False := by simp; omega
  by_cases h1 : i = rows.length
  · subst h1
    refine go (And.intro hb (And.intro hb2 (And.intro e1 (And.intro e2 (And.intro e3 (And.intro e4 e5)))))) ?_
    refine x_appendO rfl rfl rfl rfl rfl rfl (sv (And.intro hb (And.intro hb2 (And.intro e1 (And.intro e2 (And.intro e3 (And.intro e4 e5))))))) (by decide) (sc (And.intro hb (And.intro hb2 (And.intro e1 (And.intro e2 (And.intro e3 (And.intro e4 e5))))))) (sv (And.intro hb (And.intro hb2 (And.intro e1 (And.intro e2 (And.intro e3 (And.intro e4 e5))))))) (sx (And.intro hb (And.intro hb2 (And.intro e1 (And.intro e2 (And.intro e3 (And.intro e4 e5))))))) (by first | rfl | (simp; done) | (simp [spare_len]; omega)) (by first | omega | (simp; done) | (simp [spare_len]; omega)) (by first | omega | (simp; done) | (simp [spare_len]; omega)) (sx (And.intro hb (And.intro hb2 (And.intro e1 (And.intro e2 (And.intro e3 (And.intro e4 e5))))))) hokx (by first | omega | (simp; done) | (simp [spare_len]; omega)) (fun cap' hcap' => ?_)
    refine go (And.intro hb (And.intro hb2 (And.intro e1 (And.intro e2 (And.intro e3 (And.intro e4 e5)))))) ?_
    refine x_inl (sr @Try.f29.eq_1) ?_
    refine hK n0 cap' (n0 + 1) _ (spare 4 (cap' - (rows.length + 1))) (by omega) (by omega) ?_ (by simp [spare_len] at hcap' ⊢; omega) ?_ (.inr (Nat.le_refl _))
    · simp [upd_at]
    · intro k k1 k2
      have k3 : k ≠ n0 := by omega
      simp [upd_at, k2, k3]
  · have e8 : ((i : Int) == (rows.length : Int)) = false := by simp; omega
    have c1 : ((rows.length : Int) + ((1 : Nat) : Int)) = ((rows.length + 1 : Nat) : Int) := by omega
    have c2 : (((rows.length + 1 : Nat) : Int) - (i : Int)) = ((rows.length + 1 - i : Nat) : Int) := by omega
    have c3 : ((i : Int) + ((1 : Nat) : Int)) = ((i + 1 : Nat) : Int) := by omega
    have c4 : i + (rows.length + 1 - i) = rows.length + 1 := by omega
    have c5 : rows.length + 1 - (i + 1) = rows.length - i := by omega
    have c6 : ((rows ++ sp).drop i).take (rows.length - i) = rows.drop i := by rw [List.drop_append_of_le_length (by omega), List.take_append_of_le_length (by simp), List.take_of_length_le (by simp)]
    have c7 : min (rows.length - i) (rows.length - i) = rows.length - i := Nat.min_self _
    have c8 : min 1 (rows.length + 1 - i) = 1 := by omega
    have c11 : (rows ++ sp).length = rows.length + sp.length := List.length_append
    have c10 : min (rows.length - i) (rows.length + 1 - i) = rows.length - i := by omega
    have c9 : min (rows.length + 1 - i) (rows.length - i) = rows.length - i := by omega
    refine go (And.intro hb (And.intro hb2 (And.intro e1 (And.intro e2 (And.intro e3 (And.intro e4 (And.intro e5 (And.intro e6 (And.intro e7 (And.intro e8 (And.intro c1 (And.intro c2 (And.intro c3 (And.intro c4 (And.intro c5 (And.intro c6 c11)))))))))))))))) ?_
    refine x_condP (sv (And.intro hb (And.intro hb2 (And.intro e1 (And.intro e2 (And.intro e3 (And.intro e4 (And.intro e5 (And.intro e6 (And.intro e7 (And.intro e8 (And.intro c1 (And.intro c2 (And.intro c3 (And.intro c4 (And.intro c5 (And.intro c6 c11))))))))))))))))) (fun hc => ?_) (fun hc => ?_)
    · have h2 : sp.length = 0 := by omega
      have h3 : (rows ++ sp).length = rows.length := by simp [h2]
      refine go (And.intro hb (And.intro hb2 (And.intro e1 (And.intro e2 (And.intro e3 (And.intro e4 (And.intro e5 (And.intro e6 (And.intro e7 (And.intro e8 (And.intro c1 (And.intro c2 (And.intro c3 (And.intro c4 (And.intro c5 (And.intro c6 c11)))))))))))))))) ?_
      refine x_appendZ rfl rfl rfl rfl rfl rfl (sc (And.intro hb (And.intro hb2 (And.intro e1 (And.intro e2 (And.intro e3 (And.intro e4 (And.intro e5 (And.intro e6 (And.intro e7 (And.intro e8 (And.intro c1 (And.intro c2 (And.intro c3 (And.intro c4 (And.intro c5 (And.intro c6 c11))))))))))))))))) (sv (And.intro hb (And.intro hb2 (And.intro e1 (And.intro e2 (And.intro e3 (And.intro e4 (And.intro e5 (And.intro e6 (And.intro e7 (And.intro e8 (And.intro c1 (And.intro c2 (And.intro c3 (And.intro c4 (And.intro c5 (And.intro c6 c11))))))))))))))))) (by decide) (sc (And.intro hb (And.intro hb2 (And.intro e1 (And.intro e2 (And.intro e3 (And.intro e4 (And.intro e5 (And.intro e6 (And.intro e7 (And.intro e8 (And.intro c1 (And.intro c2 (And.intro c3 (And.intro c4 (And.intro c5 (And.intro c6 c11))))))))))))))))) (sv (And.intro hb (And.intro hb2 (And.intro e1 (And.intro e2 (And.intro e3 (And.intro e4 (And.intro e5 (And.intro e6 (And.intro e7 (And.intro e8 (And.intro c1 (And.intro c2 (And.intro c3 (And.intro c4 (And.intro c5 (And.intro c6 c11))))))))))))))))) (sv (And.intro hb (And.intro hb2 (And.intro e1 (And.intro e2 (And.intro e3 (And.intro e4 (And.intro e5 (And.intro e6 (And.intro e7 (And.intro e8 (And.intro c1 (And.intro c2 (And.intro c3 (And.intro c4 (And.intro c5 (And.intro c6 c11))))))))))))))))) (sx (And.intro hb (And.intro hb2 (And.intro e1 (And.intro e2 (And.intro e3 (And.intro e4 (And.intro e5 (And.intro e6 (And.intro e7 (And.intro e8 (And.intro c1 (And.intro c2 (And.intro c3 (And.intro c4 (And.intro c5 (And.intro c6 c11))))))))))))))))) (by rfl) (by rfl) (by first | omega | (simp; done) | (simp [spare_len]; omega)) (by first | omega | (simp; done) | (simp [spare_len]; omega)) (by first | omega | (simp; done) | (simp [spare_len]; omega)) (by first | omega | (simp; done) | (simp [spare_len]; omega)) (fun cap' hcap' => ?_)
      refine go (And.intro hb (And.intro hb2 (And.intro e1 (And.intro e2 (And.intro e3 (And.intro e4 (And.intro e5 (And.intro e6 (And.intro e7 (And.intro e8 (And.intro c1 (And.intro c2 (And.intro c3 (And.intro c4 (And.intro c5 (And.intro c6 c11)))))))))))))))) ?_
      refine x_copy rfl rfl rfl rfl rfl rfl (sv (And.intro hb (And.intro hb2 (And.intro e1 (And.intro e2 (And.intro e3 (And.intro e4 (And.intro e5 (And.intro e6 (And.intro e7 (And.intro e8 (And.intro c1 (And.intro c2 (And.intro c3 (And.intro c4 (And.intro c5 (And.intro c6 c11))))))))))))))))) (by decide) (sv (And.intro hb (And.intro hb2 (And.intro e1 (And.intro e2 (And.intro e3 (And.intro e4 (And.intro e5 (And.intro e6 (And.intro e7 (And.intro e8 (And.intro c1 (And.intro c2 (And.intro c3 (And.intro c4 (And.intro c5 (And.intro c6 c11))))))))))))))))) (sx (And.intro hb (And.intro hb2 (And.intro e1 (And.intro e2 (And.intro e3 (And.intro e4 (And.intro e5 (And.intro e6 (And.intro e7 (And.intro e8 (And.intro c1 (And.intro c2 (And.intro c3 (And.intro c4 (And.intro c5 (And.intro c6 c11))))))))))))))))) (okRows_take _ hokx) (sx (And.intro hb (And.intro hb2 (And.intro e1 (And.intro e2 (And.intro e3 (And.intro e4 (And.intro e5 (And.intro e6 (And.intro e7 (And.intro e8 (And.intro c1 (And.intro c2 (And.intro c3 (And.intro c4 (And.intro c5 (And.intro c6 c11))))))))))))))))) (by rfl) (by rfl) (by first | omega | (simp; done) | (simp [spare_len]; omega)) ?_
      refine go (And.intro hb (And.intro hb2 (And.intro e1 (And.intro e2 (And.intro e3 (And.intro e4 (And.intro e5 (And.intro e6 (And.intro e7 (And.intro e8 (And.intro c1 (And.intro c2 (And.intro c3 (And.intro c4 (And.intro c5 (And.intro c6 c11)))))))))))))))) ?_
      refine x_copy rfl rfl rfl rfl rfl rfl (sv (And.intro hb (And.intro hb2 (And.intro e1 (And.intro e2 (And.intro e3 (And.intro e4 (And.intro e5 (And.intro e6 (And.intro e7 (And.intro e8 (And.intro c1 (And.intro c2 (And.intro c3 (And.intro c4 (And.intro c5 (And.intro c6 c11))))))))))))))))) (by decide) (sv (And.intro hb (And.intro hb2 (And.intro e1 (And.intro e2 (And.intro e3 (And.intro e4 (And.intro e5 (And.intro e6 (And.intro e7 (And.intro e8 (And.intro c1 (And.intro c2 (And.intro c3 (And.intro c4 (And.intro c5 (And.intro c6 c11))))))))))))))))) (sx (And.intro hb (And.intro hb2 (And.intro e1 (And.intro e2 (And.intro e3 (And.intro e4 (And.intro e5 (And.intro e6 (And.intro e7 (And.intro e8 (And.intro c1 (And.intro c2 (And.intro c3 (And.intro c4 (And.intro c5 (And.intro c6 c11))))))))))))))))) (okRows_take _ (okRows_drop _ hok)) (sx (And.intro hb (And.intro hb2 (And.intro e1 (And.intro e2 (And.intro e3 (And.intro e4 (And.intro e5 (And.intro e6 (And.intro e7 (And.intro e8 (And.intro c1 (And.intro c2 (And.intro c3 (And.intro c4 (And.intro c5 (And.intro c6 c11))))))))))))))))) (by rfl) (by rfl) (by first | omega | (simp; done) | (simp [spare_len]; omega)) ?_
      refine go (And.intro hb (And.intro hb2 (And.intro e1 (And.intro e2 (And.intro e3 (And.intro e4 (And.intro e5 (And.intro e6 (And.intro e7 (And.intro e8 (And.intro c1 (And.intro c2 (And.intro c3 (And.intro c4 (And.intro c5 (And.intro c6 c11)))))))))))))))) ?_
      refine x_inl (sr @Try.f29.eq_1) ?_
      rw [c4] at hcap'
      refine hK n0 cap' (n0 + 1) _ (spare 4 (cap' - (rows.length + 1))) (by omega) (by omega) ?_ (by simp [spare_len]; omega) ?_ (.inr (Nat.le_refl _))
      · have key := ins_grow rows sp x (spare 4 (rows.length + 1 - i)) (spare 4 (cap' - (rows.length + 1))) i (by omega) (by simp [spare_len])
        rw [c6] at *
        simp only [upd_at, ↓reduceIte, List.length_cons, List.length_nil, Nat.zero_add, Nat.add_zero, c8, c4, c5, c7, List.length_drop] at key ⊢
        exact congrArg (fun r => some (⟨4, r, true⟩ : Blk)) key
      · intro k k1 k2
        have k3 : (k = n0) = False := by simp; omega
        simp only [upd_at, k3, if_false]
    · have h2 : 0 < sp.length := by omega
      have hok3 : okRows 4 ((((rows ++ sp).drop i).take (rows.length + 1 - i)).take (min (((rows ++ sp).drop i).take (rows.length + 1 - i)).length (rows.length - i))) := by
        have : min (((rows ++ sp).drop i).take (rows.length + 1 - i)).length (rows.length - i) = rows.length - i := by simp; omega
        rw [this, List.take_take, c10, List.drop_append_of_le_length (by omega), List.take_append_of_le_length (by simp), List.take_of_length_le (by simp)]
        exact okRows_drop _ hok
      refine go (And.intro hb (And.intro hb2 (And.intro e1 (And.intro e2 (And.intro e3 (And.intro e4 (And.intro e5 (And.intro e6 (And.intro e7 (And.intro e8 (And.intro c1 (And.intro c2 (And.intro c3 (And.intro c4 (And.intro c5 (And.intro c6 c11)))))))))))))))) ?_
      refine x_callI rfl rfl rfl rfl (sv (And.intro hb (And.intro hb2 (And.intro e1 (And.intro e2 (And.intro e3 (And.intro e4 (And.intro e5 (And.intro e6 (And.intro e7 (And.intro e8 (And.intro c1 (And.intro c2 (And.intro c3 (And.intro c4 (And.intro c5 (And.intro c6 c11))))))))))))))))) hO (sv (And.intro hb (And.intro hb2 (And.intro e1 (And.intro e2 (And.intro e3 (And.intro e4 (And.intro e5 (And.intro e6 (And.intro e7 (And.intro e8 (And.intro c1 (And.intro c2 (And.intro c3 (And.intro c4 (And.intro c5 (And.intro c6 c11))))))))))))))))) ⟨b2, 0, 1, 1, b, i + 1, rows.length - i, _, _, _, rfl, (Ne.symm hne), (sv (And.intro hb (And.intro hb2 (And.intro e1 (And.intro e2 (And.intro e3 (And.intro e4 (And.intro e5 (And.intro e6 (And.intro e7 (And.intro e8 (And.intro c1 (And.intro c2 (And.intro c3 (And.intro c4 (And.intro c5 (And.intro c6 c11))))))))))))))))), (sv (And.intro hb (And.intro hb2 (And.intro e1 (And.intro e2 (And.intro e3 (And.intro e4 (And.intro e5 (And.intro e6 (And.intro e7 (And.intro e8 (And.intro c1 (And.intro c2 (And.intro c3 (And.intro c4 (And.intro c5 (And.intro c6 c11))))))))))))))))), rfl, rfl, rfl, (by simp), (by simp; omega), Nat.zero_lt_one, (by omega), ?_⟩
      refine go (And.intro hb (And.intro hb2 (And.intro e1 (And.intro e2 (And.intro e3 (And.intro e4 (And.intro e5 (And.intro e6 (And.intro e7 (And.intro e8 (And.intro c1 (And.intro c2 (And.intro c3 (And.intro c4 (And.intro c5 (And.intro c6 c11)))))))))))))))) ?_
      refine x_copy rfl rfl rfl rfl rfl rfl (sv (And.intro hb (And.intro hb2 (And.intro e1 (And.intro e2 (And.intro e3 (And.intro e4 (And.intro e5 (And.intro e6 (And.intro e7 (And.intro e8 (And.intro c1 (And.intro c2 (And.intro c3 (And.intro c4 (And.intro c5 (And.intro c6 c11))))))))))))))))) (by decide) (sv (And.intro hb (And.intro hb2 (And.intro e1 (And.intro e2 (And.intro e3 (And.intro e4 (And.intro e5 (And.intro e6 (And.intro e7 (And.intro e8 (And.intro c1 (And.intro c2 (And.intro c3 (And.intro c4 (And.intro c5 (And.intro c6 c11))))))))))))))))) (sx (And.intro hb (And.intro hb2 (And.intro e1 (And.intro e2 (And.intro e3 (And.intro e4 (And.intro e5 (And.intro e6 (And.intro e7 (And.intro e8 (And.intro c1 (And.intro c2 (And.intro c3 (And.intro c4 (And.intro c5 (And.intro c6 c11))))))))))))))))) hok3 (sx (And.intro hb (And.intro hb2 (And.intro e1 (And.intro e2 (And.intro e3 (And.intro e4 (And.intro e5 (And.intro e6 (And.intro e7 (And.intro e8 (And.intro c1 (And.intro c2 (And.intro c3 (And.intro c4 (And.intro c5 (And.intro c6 c11))))))))))))))))) (by rfl) (by rfl) (by first | omega | (simp; done) | (simp [spare_len]; omega)) ?_
      refine go (And.intro hb (And.intro hb2 (And.intro e1 (And.intro e2 (And.intro e3 (And.intro e4 (And.intro e5 (And.intro e6 (And.intro e7 (And.intro e8 (And.intro c1 (And.intro c2 (And.intro c3 (And.intro c4 (And.intro c5 (And.intro c6 c11)))))))))))))))) ?_
      refine x_copy rfl rfl rfl rfl rfl rfl (sv (And.intro hb (And.intro hb2 (And.intro e1 (And.intro e2 (And.intro e3 (And.intro e4 (And.intro e5 (And.intro e6 (And.intro e7 (And.intro e8 (And.intro c1 (And.intro c2 (And.intro c3 (And.intro c4 (And.intro c5 (And.intro c6 c11))))))))))))))))) (by decide) (sv (And.intro hb (And.intro hb2 (And.intro e1 (And.intro e2 (And.intro e3 (And.intro e4 (And.intro e5 (And.intro e6 (And.intro e7 (And.intro e8 (And.intro c1 (And.intro c2 (And.intro c3 (And.intro c4 (And.intro c5 (And.intro c6 c11))))))))))))))))) (sx (And.intro hb (And.intro hb2 (And.intro e1 (And.intro e2 (And.intro e3 (And.intro e4 (And.intro e5 (And.intro e6 (And.intro e7 (And.intro e8 (And.intro c1 (And.intro c2 (And.intro c3 (And.intro c4 (And.intro c5 (And.intro c6 c11))))))))))))))))) (okRows_take _ hokx) (sx (And.intro hb (And.intro hb2 (And.intro e1 (And.intro e2 (And.intro e3 (And.intro e4 (And.intro e5 (And.intro e6 (And.intro e7 (And.intro e8 (And.intro c1 (And.intro c2 (And.intro c3 (And.intro c4 (And.intro c5 (And.intro c6 c11))))))))))))))))) (by rfl) (by rfl) (by first | omega | (simp; done) | (simp [spare_len]; omega)) ?_
      refine go (And.intro hb (And.intro hb2 (And.intro e1 (And.intro e2 (And.intro e3 (And.intro e4 (And.intro e5 (And.intro e6 (And.intro e7 (And.intro e8 (And.intro c1 (And.intro c2 (And.intro c3 (And.intro c4 (And.intro c5 (And.intro c6 c11)))))))))))))))) ?_
      refine x_inl (sr @Try.f29.eq_1) ?_
      refine hK b (rows.length + sp.length) n0 _ (sp.drop 1) hbn (Nat.le_refl _) ?_ (by simp; omega) ?_ (.inl rfl)
      · have key := ins_place rows sp x i (by omega) h2
        have c12 : (((rows ++ sp).drop i).take (rows.length + 1 - i)).length = rows.length + 1 - i := by simp; omega
        simp only [upd_at, ↓reduceIte, List.length_cons, List.length_nil, Nat.zero_add, Nat.add_zero, c12, c8, c9] at key ⊢
        exact congrArg (fun r => some (⟨4, r, true⟩ : Blk)) key
      · intro k k1 k2
        simp only [upd_at, k2, if_false]
end Go.Proofs.Ytgohmphhgglmbaa

set_option linter.unusedVariables false
set_option linter.unusedSimpArgs false
set_option maxRecDepth 100000
set_option maxHeartbeats 4000000
namespace Go.Proofs.Ytgohmphhgglmbaa
open Go Go.RowKit Am

def getF : List Rgs → Idt → ByteArray → List Wrt
  | [], _, _ => []
  | x :: l, y, f => if ((x.id.a.toList == y.a.toList) && (x.id.n == y.n)) && (x.f.toList == f.toList) then x.w else getF l y f
def getS : Fspec := fun _ ds r => ∃ (l : List Rgs) (y : Idt) (f : ByteArray), l.length ≤ 1099511627776 ∧ ds = [.sl (l.map encR), .agg (encId y), .s (.string f)] ∧ r = .sl ((getF l y f).map encW)
theorem get_sound {plain : TypeId → Bool} {Γ : FuncId → Option Fspec} {Δ : FuncId → Option Pt} (hE : EnvOk ⟨Try.prog, plain, Γ, Δ, fun _ => none, 0⟩) (hpl : plain 31 = true) : Sound Try.prog 16 getS := by
  refine sound_of_awp hE Try.func16 rfl (by kernel_rfl) ?_
  rintro Φ ds r ⟨v, y, f, hv, rfl, rfl⟩
  refine ⟨by simp [Try.f16], ?_⟩
  unfold st0
  refine W.out (E := ⟨Try.prog, plain, Γ, Δ, Φ, _⟩) ?_
  have hr := encR_rows v
  refine go @encId.eq_1 ?_
  refine x_loop (fun σ => ∃ i : Nat, i ≤ v.length ∧ 0 < σ.n ∧ σ.h 0 = some ⟨2, [encId y], true⟩ ∧ σ.t 2 = .s (.string f) ∧ σ.t 4 = .ptr 0 0 0 ∧ σ.t 9 = .sl (v.map encR) ∧ σ.t 10 = .s (.int .i64 v.length) ∧ σ.t 11 = .s (.int .i64 i) ∧ getF (v.drop i) y f = getF v y f) (fun σ => v.length - ix (σ.t 11)) ⟨0, Nat.zero_le _, Nat.zero_lt_one, (sc @encId.eq_1), (sc trivial), (sc trivial), (sc trivial), (sc trivial), (sc trivial), rfl⟩ ?_
  rintro t h n ⟨i, hi, hn, hh, h2, h4, h9, h10, h11, hf⟩
  simp only at hn hh h2 h4 h9 h10 h11
  refine go (And.intro hh (And.intro h2 (And.intro h4 (And.intro h9 (And.intro h10 h11))))) ?_
  refine x_condP (sv trivial) (fun hc => ?_) (fun hc => ?_)
  · have hi' : i < v.length := by omega
    rw [List.drop_eq_getElem_cons hi', getF] at hf
    have hne : (0 = n) = False := by simp; omega
    cases ha : ((v[i].id.a.toList == y.a.toList) && (v[i].id.n == y.n))
    · rw [ha] at hf
      refine go (And.intro hh (And.intro h2 (And.intro h4 (And.intro h9 (And.intro h10 (And.intro h11 (And.intro hr (And.intro @encR.eq_1 (And.intro @encId.eq_1 (And.intro hpl (And.intro ha hne))))))))))) ?_
      refine ⟨⟨i + 1, by omega, by simp, (sc (And.intro hh (And.intro @encId.eq_1 hne))), (sc h2), (sc h4), (sc h9), (sc h10), (sc (And.intro h11 @cast_succ)), by simpa using hf⟩, ?_⟩
      exact so h11
    · rw [ha] at hf
      cases hb : (v[i].f.toList == f.toList)
      · rw [hb] at hf
        refine go (And.intro hh (And.intro h2 (And.intro h4 (And.intro h9 (And.intro h10 (And.intro h11 (And.intro hr (And.intro @encR.eq_1 (And.intro @encId.eq_1 (And.intro hpl (And.intro ha (And.intro hb hne)))))))))))) ?_
        refine ⟨⟨i + 1, by omega, by simp, (sc (And.intro hh (And.intro @encId.eq_1 hne))), (sc h2), (sc h4), (sc h9), (sc h10), (sc (And.intro h11 @cast_succ)), by simpa using hf⟩, ?_⟩
        exact so h11
      · rw [hb] at hf
        have hf' : getF v y f = v[i].w := by rw [← hf]; rfl
        refine go (And.intro hh (And.intro h2 (And.intro h4 (And.intro h9 (And.intro h10 (And.intro h11 (And.intro hr (And.intro @encR.eq_1 (And.intro @encId.eq_1 (And.intro hpl (And.intro ha (And.intro hb hne)))))))))))) ?_
        rw [hf']
        refine x_done (x_outV (sr @Try.f16.eq_1) (by simp) (by simp) rfl)
  · have e : i = v.length := by omega
    subst e
    rw [List.drop_length] at hf
    refine go (And.intro hh (And.intro h2 (And.intro h4 (And.intro h9 (And.intro h10 h11))))) ?_
    have hf' : getF v y f = [] := by rw [← hf]; rfl
    rw [hf']
    refine x_done (x_outV (sr @Try.f16.eq_1) (by simp) (by simp) rfl)
end Go.Proofs.Ytgohmphhgglmbaa

set_option linter.unusedVariables false
set_option linter.unusedSimpArgs false
set_option maxRecDepth 100000
set_option maxHeartbeats 4000000
namespace Go.Proofs.Ytgohmphhgglmbaa
open Go Go.RowKit Am

def idxF {α : Type} (p : α → Bool) : List α → Nat → Int
  | [], _ => -1
  | x :: l, k => if p x then (k : Int) else idxF p l (k + 1)
def idxS {α : Type} (enc : α → List V) : Fspec := fun Φ ds r => ∃ (v : List α) (p : α → Bool) (S : List V → Value → Prop), v.length ≤ 1099511627776 ∧ ds = [.sl (v.map enc), .fv 1] ∧ Φ 1 = some S ∧ (∀ x ∈ v, S [.agg (enc x)] (.bool (p x))) ∧ r = .s (.int .i64 (idxF p v 0))
theorem idxR_sound {plain : TypeId → Bool} {Γ : FuncId → Option Fspec} {Δ : FuncId → Option Pt} (hE : EnvOk ⟨Try.prog, plain, Γ, Δ, fun _ => none, 0⟩) : Sound Try.prog 32 (idxS encR) := by
  refine sound_of_awp hE Try.func32 rfl (by kernel_rfl) ?_
  rintro Φ ds r ⟨v, p, S, hv, rfl, hS, hp, rfl⟩
  refine ⟨by simp [Try.f32], ?_⟩
  unfold st0
  refine W.out (E := ⟨Try.prog, plain, Γ, Δ, Φ, _⟩) ?_
  have hr := encR_rows v
  refine go trivial ?_
  refine x_loop (fun σ => ∃ i : Nat, i ≤ v.length ∧ σ.t 0 = .sl (v.map encR) ∧ σ.t 1 = .fv 1 ∧ σ.t 7 = .s (.int .i64 v.length) ∧ σ.t 8 = .s (.int .i64 i) ∧ idxF p (v.drop i) i = idxF p v 0) (fun σ => v.length - ix (σ.t 8)) ⟨0, Nat.zero_le _, (sc trivial), (sc trivial), (sc trivial), (sc trivial), rfl⟩ ?_
  rintro t h n ⟨i, hi, h0, h1, h7, h8, hf⟩
  simp only at h0 h1 h7 h8
  refine go (And.intro h0 (And.intro h1 (And.intro h7 h8))) ?_
  refine x_condP (sv trivial) (fun hc => ?_) (fun hc => ?_)
  · have hi' : i < v.length := by omega
    rw [List.drop_eq_getElem_cons hi', idxF] at hf
    refine go (And.intro h0 (And.intro h1 (And.intro h7 (And.intro h8 (And.intro hr @encR.eq_1))))) ?_
    refine x_callV rfl rfl rfl rfl (sv @encR.eq_1) hS (sv @encR.eq_1) (se @encR.eq_1) rfl (hp _ (List.getElem_mem hi')) ?_
    cases hb : p v[i]
    · rw [hb] at hf
      refine go (And.intro h0 (And.intro h1 (And.intro h7 (And.intro h8 (And.intro hr (And.intro @encR.eq_1 hb)))))) ?_
      refine ⟨⟨i + 1, by omega, (sc h0), (sc h1), (sc h7), (sc (And.intro h8 @cast_succ)), by simpa using hf⟩, ?_⟩
      exact so h8
    · rw [hb] at hf
      have hf' : idxF p v 0 = i := by rw [← hf]; rfl
      refine go (And.intro h0 (And.intro h1 (And.intro h7 (And.intro h8 (And.intro hr (And.intro @encR.eq_1 hb)))))) ?_
      refine x_done (x_out (sr (And.intro @Try.f32.eq_1 hf')) (by simp) (by simp) rfl)
  · have e : i = v.length := by omega
    subst e
    rw [List.drop_length] at hf
    have hf' : idxF p v 0 = -1 := by rw [← hf]; rfl
    refine go (And.intro h0 (And.intro h1 (And.intro h7 h8))) ?_
    refine x_done (x_out (sr (And.intro @Try.f32.eq_1 hf')) (by simp) (by simp) rfl)
theorem idxW_sound {plain : TypeId → Bool} {Γ : FuncId → Option Fspec} {Δ : FuncId → Option Pt} (hE : EnvOk ⟨Try.prog, plain, Γ, Δ, fun _ => none, 0⟩) : Sound Try.prog 55 (idxS encW) := by
  refine sound_of_awp hE Try.func55 rfl (by kernel_rfl) ?_
  rintro Φ ds r ⟨v, p, S, hv, rfl, hS, hp, rfl⟩
  refine ⟨by simp [Try.f55], ?_⟩
  unfold st0
  refine W.out (E := ⟨Try.prog, plain, Γ, Δ, Φ, _⟩) ?_
  have hr := encW_rows v
  refine go trivial ?_
  refine x_loop (fun σ => ∃ i : Nat, i ≤ v.length ∧ σ.t 0 = .sl (v.map encW) ∧ σ.t 1 = .fv 1 ∧ σ.t 7 = .s (.int .i64 v.length) ∧ σ.t 8 = .s (.int .i64 i) ∧ idxF p (v.drop i) i = idxF p v 0) (fun σ => v.length - ix (σ.t 8)) ⟨0, Nat.zero_le _, (sc trivial), (sc trivial), (sc trivial), (sc trivial), rfl⟩ ?_
  rintro t h n ⟨i, hi, h0, h1, h7, h8, hf⟩
  simp only at h0 h1 h7 h8
  refine go (And.intro h0 (And.intro h1 (And.intro h7 h8))) ?_
  refine x_condP (sv trivial) (fun hc => ?_) (fun hc => ?_)
  · have hi' : i < v.length := by omega
    rw [List.drop_eq_getElem_cons hi', idxF] at hf
    refine go (And.intro h0 (And.intro h1 (And.intro h7 (And.intro h8 (And.intro hr @encW.eq_1))))) ?_
    refine x_callV rfl rfl rfl rfl (sv @encW.eq_1) hS (sv @encW.eq_1) (se @encW.eq_1) rfl (hp _ (List.getElem_mem hi')) ?_
    cases hb : p v[i]
    · rw [hb] at hf
      refine go (And.intro h0 (And.intro h1 (And.intro h7 (And.intro h8 (And.intro hr (And.intro @encW.eq_1 hb)))))) ?_
      refine ⟨⟨i + 1, by omega, (sc h0), (sc h1), (sc h7), (sc (And.intro h8 @cast_succ)), by simpa using hf⟩, ?_⟩
      exact so h8
    · rw [hb] at hf
      have hf' : idxF p v 0 = i := by rw [← hf]; rfl
      refine go (And.intro h0 (And.intro h1 (And.intro h7 (And.intro h8 (And.intro hr (And.intro @encW.eq_1 hb)))))) ?_
      refine x_done (x_out (sr (And.intro @Try.f55.eq_1 hf')) (by simp) (by simp) rfl)
  · have e : i = v.length := by omega
    subst e
    rw [List.drop_length] at hf
    have hf' : idxF p v 0 = -1 := by rw [← hf]; rfl
    refine go (And.intro h0 (And.intro h1 (And.intro h7 h8))) ?_
    refine x_done (x_out (sr (And.intro @Try.f55.eq_1 hf')) (by simp) (by simp) rfl)
end Go.Proofs.Ytgohmphhgglmbaa

set_option linter.unusedVariables false
set_option linter.unusedSimpArgs false
set_option maxRecDepth 100000
set_option maxHeartbeats 8000000
namespace Go.Proofs.Ytgohmphhgglmbaa
open Go Go.RowKit Am

/-- slices.DeleteFunc of the writes that an edit replaces, from a row of the call's own. -/
def delT : Pt := fun _ args σ K => ∃ (b cap be : Nat) (l : List Wrt) (sp : List (List V)) (e : Edt) (wr : Bool), args = [.loc b 0 l.length cap, .fn 45 [.ptr be 0 0]] ∧ l.length ≤ 1099511627776 ∧ e.deps.length ≤ 1099511627776 ∧ b ≠ be ∧ b < σ.n ∧ be < σ.n ∧
  σ.h b = some ⟨4, l.map encW ++ sp, true⟩ ∧ cap = l.length + sp.length ∧ σ.h be = some ⟨18, [encE e], wr⟩ ∧
  ∀ (n' : Nat) (h' : Hp) (sp' : List (List V)), σ.n ≤ n' → h' b = some ⟨4, (l.filter fun m => !wr1F e m).map encW ++ sp', true⟩ → cap = (l.filter fun m => !wr1F e m).length + sp'.length → (∀ k, k < σ.n → k ≠ b → h' k = σ.h k) → K (.loc b 0 (l.filter fun m => !wr1F e m).length cap) ⟨σ.t, h', n'⟩
theorem idx_spec {α : Type} (p : α → Bool) : ∀ (l : List α) (k : Nat), (idxF p l k = -1 ∧ ∀ x ∈ l, p x = false) ∨ ∃ i, i < l.length ∧ idxF p l k = ((k + i : Nat) : Int) ∧ (∀ x ∈ l.take i, p x = false) ∧ (∀ h : i < l.length, p l[i] = true)
  | [], k => .inl ⟨rfl, by simp⟩
  | x :: l, k => by
    simp only [idxF]
    cases hx : p x
    · rcases idx_spec p l (k + 1) with ⟨h1, h2⟩ | ⟨i, h1, h2, h3, h4⟩
      · exact .inl ⟨by simpa using h1, by simpa [hx] using h2⟩
      · refine .inr ⟨i + 1, by simpa using h1, ?_, by simpa [hx] using h3, fun h => by simpa using h4 (by simpa using h)⟩
        simp only [Bool.false_eq_true, if_false, h2]
        congr 1; omega
    · exact .inr ⟨0, by simp, by simp, by simp, by simp [hx]⟩
theorem getD_of_drop {α : Type} {R : List α} {j : Nat} {x d : α} {rest : List α} (h : R.drop j = x :: rest) : R.getD j d = x ∧ R.drop (j + 1) = rest ∧ j < R.length := by
  have hj : j < R.length := by
    rcases Nat.lt_or_ge j R.length with h1 | h1
    · exact h1
    · rw [List.drop_of_length_le h1] at h; cases h
  rw [List.drop_eq_getElem_cons hj] at h
  simp only [List.cons.injEq] at h
  exact ⟨by simp [hj, h.1], h.2, hj⟩
theorem setAt_whole (row cs : List V) (h : row.length = cs.length) : setAt row 0 cs = cs := by simp [setAt, ← h]
theorem del_sound {plain : TypeId → Bool} {Γ : FuncId → Option Fspec} {Δ : FuncId → Option Pt} (hE : EnvOk ⟨Try.prog, plain, Γ, Δ, fun _ => none, 0⟩) (hpl : plain 31 = true) (g_idx : Γ 55 = some (idxS encW)) (g_wr1 : Γ 45 = some wr1S) : SoundT Try.prog 44 delT := by
  refine inl_sound hE Try.func44 rfl (by kernel_rfl) (by kernel_rfl) ?_
  rintro Φ args t0 h0 n0 K ⟨b, cap, be, l, sp, e, wr, rfl, hlen, hdep, hne, hbn, hben, hb, rfl, hbe, hK⟩
  simp only at hbn hben hb hbe hK
  refine ⟨by simp [Try.f44], ?_⟩
  refine W.out (E := ⟨Try.prog, plain, Γ, Δ, Φ, _⟩) ?_
  have hx1 : ∀ d, allO (allO (expo h0 d)) (l.map encW) = some (l.map encW) := fun d => allO_rows h0 d (deep_map encW l (fun a => by simp [encW, deepc]))
  have tk : (l.map encW ++ sp).take l.length = l.map encW := List.take_left' (by simp)
  have ln : (l.map encW ++ sp).length = l.length + sp.length := by simp
  have hcl : ∀ nt, closS ⟨Try.prog, plain, Γ, Δ, Φ, nt⟩ h0 45 [.ptr be 0 0] = some (fun ds x => wr1S (fun _ => none) (ds ++ [.pc (encE e)]) (.s x)) := by
    intro nt
    simp [closS, allO, expoA_ptr, hbe, encE, expo_s, expo_sl, g_wr1]
  refine go (And.intro hb (And.intro hbe (And.intro tk ln))) ?_
  refine x_callN rfl rfl rfl rfl (sv (And.intro hb (And.intro hbe (And.intro tk (And.intro ln hx1))))) g_idx (sv (And.intro hb (And.intro hbe (And.intro tk (And.intro ln hx1))))) (se (And.intro hb (And.intro hbe (And.intro tk (And.intro ln hx1))))) ⟨l, fun m => wr1F e m, _, hlen, rfl, (by simp only [phi, List.getElem?_cons_zero, List.getElem?_cons_succ]; exact hcl _), (by intro x _; exact ⟨x, e, hdep, rfl, rfl⟩), rfl⟩ rfl ?_
  rcases idx_spec (fun m => wr1F e m) l 0 with ⟨i1, i2⟩ | ⟨k, i1, i2, i3, i4⟩
  · refine go (And.intro hb (And.intro hbe i1)) ?_
    refine x_inl (sr @Try.f44.eq_1) ?_
    have hfl : l.filter (fun m => !wr1F e m) = l := List.filter_eq_self.2 (fun x hx => by simp [i2 x hx])
    rw [hfl] at hK
    exact hK n0 h0 sp (Nat.le_refl _) hb rfl (fun _ _ _ => rfl)
  · rw [Nat.zero_add] at i2
    have i5 : ((k : Int) == -1) = false := by simp
    refine go (And.intro hb (And.intro hbe (And.intro i2 i5))) ?_
    have hfk : (l.take (k + 1)).filter (fun m => !wr1F e m) = l.take k := by
      rw [List.take_succ_eq_append_getElem i1, List.filter_append, List.filter_eq_self.2 (fun x hx => by simp [i3 x hx])]
      have := i4 i1
      simp [this]
    have e1 : (be = b) = False := by simp; omega
    have e2 : (b = be) = False := by simp; omega
    refine x_loop (fun σ => ∃ (i j : Nat) (R : List (List V)), σ.t 0 = .loc b 0 l.length (l.length + sp.length) ∧ σ.t 1 = .fn 45 [.ptr be 0 0] ∧ σ.t 5 = .s (.int .i64 i) ∧ σ.t 6 = .s (.int .i64 j) ∧ σ.h b = some ⟨4, R, true⟩ ∧ n0 ≤ σ.n ∧ (∀ q, q < n0 → q ≠ b → σ.h q = h0 q) ∧ i < j ∧ j ≤ l.length ∧ R.length = l.length + sp.length ∧ i = ((l.take j).filter fun m => !wr1F e m).length ∧ R.take i = ((l.take j).filter fun m => !wr1F e m).map encW ∧ R.drop j = (l.drop j).map encW ++ sp ∧ ∀ q, q < l.length → (R.getD q []).length = 4) (fun σ => l.length - ix (σ.t 6))
      ⟨k, k + 1, l.map encW ++ sp, (sc hb), (sc trivial), (sc trivial), (sc @cast_succ), hb, Nat.le_refl _, fun _ _ _ => rfl, by omega, by omega, ln, by rw [hfk]; simp; omega, by rw [hfk, List.take_append_of_le_length (by simp; omega), List.map_take], by rw [List.drop_append_of_le_length (by simp; omega), List.map_drop], fun q hq => by rw [List.getD_eq_getElem?_getD, List.getElem?_append_left (by simpa using hq)]; simp [hq, encW]⟩ ?_
    rintro t h n ⟨i, j, R, h0', h1, h5, h6, hb', hn, hold, hij, hj, hRl, hi, hRi, hRj, hR4⟩
    simp only at h0' h1 h5 h6 hb' hn hold
    have hbe' : h be = some ⟨18, [encE e], wr⟩ := by rw [hold be hben (Ne.symm hne)]; exact hbe
    have e3 : (be = n) = False := by simp; omega
    have e4 : (b = n) = False := by simp; omega
    have e5 : (n = b) = False := by simp; omega
    refine go (And.intro h0' (And.intro h1 (And.intro h5 (And.intro h6 (And.intro hb' (And.intro hbe' (And.intro e1 (And.intro e2 (And.intro e3 e4))))))))) ?_
    refine x_condP (sv trivial) (fun hc => ?_) (fun hc => ?_)
    · have hj' : j < l.length := by omega
      have hd := hRj
      rw [List.drop_eq_getElem_cons hj', List.map_cons, List.cons_append] at hd
      obtain ⟨g1, g2, g3⟩ := getD_of_drop (d := []) hd
      refine go (And.intro h0' (And.intro h1 (And.intro h5 (And.intro h6 (And.intro hb' (And.intro hbe' (And.intro e1 (And.intro e2 (And.intro e3 (And.intro e4 (And.intro e5 (And.intro hRl (And.intro g1 @encW.eq_1))))))))))))) ?_
      refine x_callN rfl rfl rfl rfl (sv (And.intro hb' (And.intro hbe' (And.intro e1 (And.intro e2 (And.intro e3 (And.intro e4 (And.intro e5 (And.intro @encW.eq_1 @encE.eq_1))))))))) g_wr1 (sv (And.intro hb' (And.intro hbe' (And.intro e1 (And.intro e2 (And.intro e3 (And.intro e4 (And.intro e5 (And.intro @encW.eq_1 @encE.eq_1))))))))) (se (And.intro hb' (And.intro hbe' (And.intro e1 (And.intro e2 (And.intro e3 (And.intro e4 (And.intro e5 (And.intro @encW.eq_1 @encE.eq_1))))))))) ⟨l[j], e, hdep, rfl, rfl⟩ rfl ?_
      have s4 : List.drop 4 (R.getD i []) = [] := List.drop_of_length_le (by rw [hR4 i (by omega)]; omega)
      have hil : i < R.length := by omega
      have hil2 : i < l.length + sp.length := by omega
      have htk : l.take (j + 1) = l.take j ++ [l[j]] := List.take_succ_eq_append_getElem hj'
      cases hq : wr1F e l[j]
      · refine go (And.intro h0' (And.intro h1 (And.intro h5 (And.intro h6 (And.intro hb' (And.intro hbe' (And.intro e1 (And.intro e2 (And.intro e3 (And.intro e4 (And.intro e5 (And.intro hRl (And.intro g1 (And.intro @encW.eq_1 (And.intro hq (And.intro s4 hil2)))))))))))))))) ?_
        refine ⟨⟨i + 1, j + 1, R.set i (encW l[j]), (sc h0'), (sc h1), (sc @cast_succ), (sc @cast_succ), (sc @encW.eq_1), (by show n0 ≤ n + 1; omega), fun q h1 h2 => ?_, by omega, by omega, by simpa using hRl, ?_, ?_, ?_, fun q hq => ?_⟩, ?_⟩
        · have q1 : (q = n) = False := by simp; omega
          have q2 : (q = b) = False := by simp [h2]
          simp (disch := omega) only [fits, fit1, ix_nat, ix_succ, pval, ↓upd_at, ev_tmp, ev_func, ev_const, ofVal_int, ofVal_str, ofVal_bool, ofVal_nil, asN_nat, asN_pos, wrap_id, wrapU_id, wrapB_id, ashift_shr1, half_cast, getD_map, if_pos, if_neg, aindexAddr, afieldAddr, aload, afield, aindex, aslice, abin, aint, astr, aun, aeq, allS, eqL, alen, acap, amin, amax, bnd, aconv, cellsV, cellsZ, cellOf, flat, abuild, afill, setAt, wk, cellish, cellAt, List.getD_cons_zero, List.getD_cons_succ, List.getD_nil, Nat.reduceEqDiff, ↓reduceIte, Option.map_some, Option.map_none, Option.bind_some, Option.isSome_some, Option.isSome_none, Option.isNone_some, Option.isNone_none, List.toList_toArray, List.map_cons, List.map_nil, List.drop_zero, List.drop_succ_cons, List.drop_nil, List.take_zero, List.take_succ_cons, List.take_nil, List.length_cons, List.length_nil, List.length_map, List.cons_append, List.nil_append, List.append_nil, List.set_cons_zero, List.set_cons_succ, List.getElem?_cons_zero, List.getElem?_cons_succ, Nat.reduceAdd, Nat.reduceSub, Nat.reduceMul, Nat.reduceLT, Nat.reduceLeDiff, Nat.zero_add, Nat.add_zero, Nat.zero_mul, Nat.mul_one, Nat.lt_irrefl, true_and, and_true, and_self, false_and, and_false, decide_true, decide_false, Bool.false_eq_true, Bool.true_eq_false, Bool.not_true, Bool.not_false, Bool.true_and, Bool.false_and, Bool.and_true, ge_iff_le, gt_iff_lt, Int.natCast_nonneg, Int.toNat_natCast, Int.reduceAdd, Int.reduceSub, Int.reduceNeg, Int.reduceToNat, Int.reduceLE, Int.reduceLT, Int.toNat_zero, Int.natCast_zero, List.mem_cons, List.not_mem_nil, or_false, or_true, true_or, false_or, Nat.le_refl, Nat.sub_self, Nat.sub_zero, forall_eq_or_imp, forall_eq, List.forall_mem_cons, List.forall_mem_nil, implies_true, Bool.false_or, Bool.true_or, Bool.or_false, Bool.or_true, List.length_set, List.map_nil, List.all_nil, List.getLast?_nil, srcRows, rowsOf, slLen, beq_self_eq_true, bne_self_eq_false, sz2, ag2, zr2, zok2, ii2, Try.underlying2, sz3, ag3, zr3, zok3, ii3, Try.underlying3, sz4, ag4, zr4, zok4, bt4, Try.underlying4, sz5, ag5, zr5, zok5, ii5, Try.underlying5, sz7, ag7, zr7, zok7, fl7_0, fl7_1, fl7_2, fl7_3, pl7, Try.underlying7, sz9, ag9, zr9, zok9, sq9, Try.underlying9, sz12, ag12, zr12, zok12, ii12, Try.underlying12, sz13, ag13, zr13, zok13, fl13_0, fl13_1, pl13, Try.underlying13, sz21, ag21, zr21, zok21, ii21, Try.underlying21, sz22, ag22, zr22, zok22, ist22, sq22, Try.underlying22, sz23, ag23, zr23, zok23, ist23, sq23, Try.underlying23, sz30, ag30, zr30, zok30, fl30_0, fl30_1, pl30, Try.underlying30, sz31, ag31, zr31, zok31, fl31_0, fl31_1, pl31, Try.underlying31, sz32, ag32, zr32, zok32, ist32, sq32, Try.underlying32, sz38, ag38, zr38, zok38, fl38_0, fl38_1, fl38_2, pl38, Try.underlying38, sz39, ag39, zr39, zok39, fl39_0, fl39_1, fl39_2, pl39, Try.underlying39, sz40, ag40, zr40, zok40, fl40_0, fl40_1, fl40_2, pl40, Try.underlying40, sz41, ag41, zr41, zok41, fl41_0, fl41_1, fl41_2, pl41, Try.underlying41, sz42, ag42, zr42, zok42, ist42, sq42, Try.underlying42, sz43, ag43, zr43, zok43, fl43_0, fl43_1, fl43_2, pl43, Try.underlying43, sz44, ag44, zr44, zok44, fl44_0, fl44_1, fl44_2, pl44, Try.underlying44, sz45, ag45, zr45, zok45, fl45_0, fl45_1, fl45_2, fl45_3, fl45_4, fl45_5, fl45_6, fl45_7, fl45_8, fl45_9, fl45_10, fl45_11, pl45, Try.underlying45, sz46, ag46, zr46, zok46, fl46_0, fl46_1, fl46_2, fl46_3, fl46_4, fl46_5, fl46_6, fl46_7, fl46_8, fl46_9, fl46_10, fl46_11, pl46, Try.underlying46, sz53, ag53, zr53, zok53, ii53, Try.underlying53, sz67, ag67, zr67, zok67, ii67, Try.underlying67, sz80, ag80, zr80, zok80, ist80, sq80, Try.underlying80, sz90, ag90, zr90, zok90, Try.underlying90, sz91, ag91, zr91, zok91, fl91_0, pl91, Try.underlying91, sz94, ag94, zr94, zok94, ii94, Try.underlying94, q1, q2]
          exact hold q h1 h2
        · rw [htk, List.filter_append]; simp [hq, hi]
        · rw [htk, List.filter_append, List.map_append, ← hRi, List.take_succ_eq_append_getElem (by simpa using hil), List.take_set]
          rw [List.set_eq_of_length_le (by simp; omega)]
          simp [hq]
        · rw [List.drop_set, if_pos (by omega)]; exact g2
        · rw [List.getD_eq_getElem?_getD, List.getElem?_set]
          by_cases hqi : i = q
          · rw [if_pos hqi, if_pos hil]; rfl
          · rw [if_neg hqi, ← List.getD_eq_getElem?_getD]; exact hR4 q hq
        · exact so h6
      · refine go (And.intro h0' (And.intro h1 (And.intro h5 (And.intro h6 (And.intro hb' (And.intro hbe' (And.intro e1 (And.intro e2 (And.intro e3 (And.intro e4 (And.intro e5 (And.intro hRl (And.intro g1 (And.intro @encW.eq_1 (And.intro hq s4))))))))))))))) ?_
        refine ⟨⟨i, j + 1, R, (sc h0'), (sc h1), (sc h5), (sc @cast_succ), (sc (And.intro hb' e4)), (by show n0 ≤ n + 1; omega), fun q h1 h2 => ?_, by omega, by omega, hRl, ?_, ?_, g2, hR4⟩, ?_⟩
        · have q1 : (q = n) = False := by simp; omega
          simp (disch := omega) only [fits, fit1, ix_nat, ix_succ, pval, ↓upd_at, ev_tmp, ev_func, ev_const, ofVal_int, ofVal_str, ofVal_bool, ofVal_nil, asN_nat, asN_pos, wrap_id, wrapU_id, wrapB_id, ashift_shr1, half_cast, getD_map, if_pos, if_neg, aindexAddr, afieldAddr, aload, afield, aindex, aslice, abin, aint, astr, aun, aeq, allS, eqL, alen, acap, amin, amax, bnd, aconv, cellsV, cellsZ, cellOf, flat, abuild, afill, setAt, wk, cellish, cellAt, List.getD_cons_zero, List.getD_cons_succ, List.getD_nil, Nat.reduceEqDiff, ↓reduceIte, Option.map_some, Option.map_none, Option.bind_some, Option.isSome_some, Option.isSome_none, Option.isNone_some, Option.isNone_none, List.toList_toArray, List.map_cons, List.map_nil, List.drop_zero, List.drop_succ_cons, List.drop_nil, List.take_zero, List.take_succ_cons, List.take_nil, List.length_cons, List.length_nil, List.length_map, List.cons_append, List.nil_append, List.append_nil, List.set_cons_zero, List.set_cons_succ, List.getElem?_cons_zero, List.getElem?_cons_succ, Nat.reduceAdd, Nat.reduceSub, Nat.reduceMul, Nat.reduceLT, Nat.reduceLeDiff, Nat.zero_add, Nat.add_zero, Nat.zero_mul, Nat.mul_one, Nat.lt_irrefl, true_and, and_true, and_self, false_and, and_false, decide_true, decide_false, Bool.false_eq_true, Bool.true_eq_false, Bool.not_true, Bool.not_false, Bool.true_and, Bool.false_and, Bool.and_true, ge_iff_le, gt_iff_lt, Int.natCast_nonneg, Int.toNat_natCast, Int.reduceAdd, Int.reduceSub, Int.reduceNeg, Int.reduceToNat, Int.reduceLE, Int.reduceLT, Int.toNat_zero, Int.natCast_zero, List.mem_cons, List.not_mem_nil, or_false, or_true, true_or, false_or, Nat.le_refl, Nat.sub_self, Nat.sub_zero, forall_eq_or_imp, forall_eq, List.forall_mem_cons, List.forall_mem_nil, implies_true, Bool.false_or, Bool.true_or, Bool.or_false, Bool.or_true, List.length_set, List.map_nil, List.all_nil, List.getLast?_nil, srcRows, rowsOf, slLen, beq_self_eq_true, bne_self_eq_false, sz2, ag2, zr2, zok2, ii2, Try.underlying2, sz3, ag3, zr3, zok3, ii3, Try.underlying3, sz4, ag4, zr4, zok4, bt4, Try.underlying4, sz5, ag5, zr5, zok5, ii5, Try.underlying5, sz7, ag7, zr7, zok7, fl7_0, fl7_1, fl7_2, fl7_3, pl7, Try.underlying7, sz9, ag9, zr9, zok9, sq9, Try.underlying9, sz12, ag12, zr12, zok12, ii12, Try.underlying12, sz13, ag13, zr13, zok13, fl13_0, fl13_1, pl13, Try.underlying13, sz21, ag21, zr21, zok21, ii21, Try.underlying21, sz22, ag22, zr22, zok22, ist22, sq22, Try.underlying22, sz23, ag23, zr23, zok23, ist23, sq23, Try.underlying23, sz30, ag30, zr30, zok30, fl30_0, fl30_1, pl30, Try.underlying30, sz31, ag31, zr31, zok31, fl31_0, fl31_1, pl31, Try.underlying31, sz32, ag32, zr32, zok32, ist32, sq32, Try.underlying32, sz38, ag38, zr38, zok38, fl38_0, fl38_1, fl38_2, pl38, Try.underlying38, sz39, ag39, zr39, zok39, fl39_0, fl39_1, fl39_2, pl39, Try.underlying39, sz40, ag40, zr40, zok40, fl40_0, fl40_1, fl40_2, pl40, Try.underlying40, sz41, ag41, zr41, zok41, fl41_0, fl41_1, fl41_2, pl41, Try.underlying41, sz42, ag42, zr42, zok42, ist42, sq42, Try.underlying42, sz43, ag43, zr43, zok43, fl43_0, fl43_1, fl43_2, pl43, Try.underlying43, sz44, ag44, zr44, zok44, fl44_0, fl44_1, fl44_2, pl44, Try.underlying44, sz45, ag45, zr45, zok45, fl45_0, fl45_1, fl45_2, fl45_3, fl45_4, fl45_5, fl45_6, fl45_7, fl45_8, fl45_9, fl45_10, fl45_11, pl45, Try.underlying45, sz46, ag46, zr46, zok46, fl46_0, fl46_1, fl46_2, fl46_3, fl46_4, fl46_5, fl46_6, fl46_7, fl46_8, fl46_9, fl46_10, fl46_11, pl46, Try.underlying46, sz53, ag53, zr53, zok53, ii53, Try.underlying53, sz67, ag67, zr67, zok67, ii67, Try.underlying67, sz80, ag80, zr80, zok80, ist80, sq80, Try.underlying80, sz90, ag90, zr90, zok90, Try.underlying90, sz91, ag91, zr91, zok91, fl91_0, pl91, Try.underlying91, sz94, ag94, zr94, zok94, ii94, Try.underlying94, q1]
          exact hold q h1 h2
        · rw [htk, List.filter_append]; simp [hq, hi]
        · rw [htk, List.filter_append, List.map_append, ← hRi]; simp [hq]
        · exact so h6
    · have ej : j = l.length := by omega
      subst ej
      rw [List.take_length] at hi hRi
      refine go (And.intro h0' (And.intro h1 (And.intro h5 (And.intro h6 (And.intro hb' (And.intro hbe' (And.intro e1 (And.intro e2 (And.intro e3 (And.intro e4 hRl)))))))))) ?_
      refine x_clearN rfl rfl rfl rfl rfl rfl (sv trivial) (by decide) (sv (And.intro h0' (And.intro h1 (And.intro h5 (And.intro h6 hb'))))) (sv trivial) (by rfl) (by rfl) (sv hb') (by rfl) (by rfl) (by simp; omega) ?_
      refine go (And.intro h0' (And.intro h1 (And.intro h5 (And.intro h6 (And.intro hb' (And.intro hbe' (And.intro e1 (And.intro e2 (And.intro e3 (And.intro e4 hRl)))))))))) ?_
      refine x_inl (sr @Try.f44.eq_1) ?_
      have hil : i ≤ l.length := by rw [hi]; exact List.length_filter_le _ _
      have := hK n (upd h b (some ⟨4, R.take i ++ spare 4 (l.length - i) ++ R.drop (i + (l.length - i)), true⟩)) (spare 4 (l.length - i) ++ R.drop (i + (l.length - i))) hn (by simp only [upd_at, ↓reduceIte, hRi, List.append_assoc]) (by simp [spare_len, hRl, ← hi]; omega) (fun q q1 q2 => by simp only [upd_at, q2, if_false]; exact hold q q1 q2)
      rw [← hi] at this
      exact this
end Go.Proofs.Ytgohmphhgglmbaa

set_option linter.unusedVariables false
set_option linter.unusedSimpArgs false
set_option maxRecDepth 100000
set_option maxHeartbeats 4000000
namespace Go.Proofs.Ytgohmphhgglmbaa
open Go Go.RowKit Am

def cloneS {α : Type} (enc : α → List V) (z : Nat) : Fspec := fun _ ds r => ∃ v : List α, v.length ≤ 1099511627776 ∧ ds = [.sl (v.map enc)] ∧ r = .own z (v.map enc)
theorem cloneW_sound {plain : TypeId → Bool} {Γ : FuncId → Option Fspec} {Δ : FuncId → Option Pt} (hE : EnvOk ⟨Try.prog, plain, Γ, Δ, fun _ => none, 0⟩) : Sound Try.prog 34 (cloneS encW 4) := by
  refine sound_of_awp hE Try.func34 rfl (by kernel_rfl) ?_
  rintro Φ ds r ⟨v, hv, rfl, rfl⟩
  refine ⟨by simp [Try.f34], ?_⟩
  unfold st0
  refine W.out (E := ⟨Try.prog, plain, Γ, Δ, Φ, _⟩) ?_
  have hok : okRows 4 (v.map encW) := okRows_map _ _ _ fun a => ⟨rfl, by simp [encW, cellish]⟩
  refine go trivial ?_
  refine x_nilEq rfl rfl rfl (sc trivial) (sx trivial) (fun b hb => ?_)
  cases b
  · refine go trivial ?_
    refine x_append rfl rfl rfl rfl rfl rfl (sx trivial) (by decide) (sc trivial) (sx trivial) (sx trivial) hok (sx trivial) rfl rfl (by simp) (by simp) (by simp; omega) (fun cap hcap => ?_)
    refine go trivial ?_
    refine x_done (x_outO (sp := spare 4 (cap - v.length)) (sr @Try.f34.eq_1) (sc trivial) (by simp) (by simp [spare_len] at hcap ⊢; omega) (deep_map _ _ fun a => by simp [encW, deepc]))
  · have h0 : v = [] := List.eq_nil_of_length_eq_zero (by simp at hb; simpa using hb)
    subst h0
    refine go trivial ?_
    refine x_done (x_outO0 (sr @Try.f34.eq_1))
theorem cloneR_sound {plain : TypeId → Bool} {Γ : FuncId → Option Fspec} {Δ : FuncId → Option Pt} (hE : EnvOk ⟨Try.prog, plain, Γ, Δ, fun _ => none, 0⟩) : Sound Try.prog 26 (cloneS encR 4) := by
  refine sound_of_awp hE Try.func26 rfl (by kernel_rfl) ?_
  rintro Φ ds r ⟨v, hv, rfl, rfl⟩
  refine ⟨by simp [Try.f26], ?_⟩
  unfold st0
  refine W.out (E := ⟨Try.prog, plain, Γ, Δ, Φ, _⟩) ?_
  have hok : okRows 4 (v.map encR) := okRows_map _ _ _ fun a => ⟨rfl, by simp [encR, cellish]⟩
  refine go trivial ?_
  refine x_nilEq rfl rfl rfl (sc trivial) (sx trivial) (fun b hb => ?_)
  cases b
  · refine go trivial ?_
    refine x_append rfl rfl rfl rfl rfl rfl (sx trivial) (by decide) (sc trivial) (sx trivial) (sx trivial) hok (sx trivial) rfl rfl (by simp) (by simp) (by simp; omega) (fun cap hcap => ?_)
    refine go trivial ?_
    refine x_done (x_outO (sp := spare 4 (cap - v.length)) (sr @Try.f26.eq_1) (sc trivial) (by simp) (by simp [spare_len] at hcap ⊢; omega) (deep_map _ _ fun a => by simp [encR, deepc]))
  · have h0 : v = [] := List.eq_nil_of_length_eq_zero (by simp at hb; simpa using hb)
    subst h0
    refine go trivial ?_
    refine x_done (x_outO0 (sr @Try.f26.eq_1))
end Go.Proofs.Ytgohmphhgglmbaa

set_option linter.unusedVariables false
set_option linter.unusedSimpArgs false
set_option maxRecDepth 100000
set_option maxHeartbeats 8000000
namespace Go.Proofs.Ytgohmphhgglmbaa
open Go Go.RowKit Am

def mkW (e : Edt) : Wrt := ⟨e.id, e.clock, e.value⟩
def keptF (l : List Wrt) (e : Edt) : List Wrt := l.filter fun m => !wr1F e m
def insAt {α : Type} (l : List α) (i : Nat) (x : α) : List α := l.take i ++ [x] ++ l.drop i
def wrF (l : List Wrt) (e : Edt) : List Wrt := insAt (keptF l e) (bsF (cAt (fun m => cmpW m (mkW e)) (keptF l e)) 0 (keptF l e).length) (mkW e)
theorem bsF_le (c : Nat → Int) (i j : Nat) (h : i ≤ j) : i ≤ bsF c i j ∧ bsF c i j ≤ j := by
  induction hd : j - i using Nat.strongRecOn generalizing i j with
  | _ d ih =>
    rw [bsF]
    split
    · split
      · have := ih (j - ((i + j) / 2 + 1)) (by omega) ((i + j) / 2 + 1) j (by omega) rfl
        omega
      · have := ih ((i + j) / 2 - i) (by omega) i ((i + j) / 2) (by omega) rfl
        omega
    · omega
theorem insAt_map {α β : Type} (f : α → β) (l : List α) (i : Nat) (x : α) : (l.map f).take i ++ [f x] ++ (l.map f).drop i = (insAt l i x).map f := by simp [insAt]
theorem insAt_len {α : Type} (l : List α) (i : Nat) (x : α) : (insAt l i x).length = l.length + 1 := by simp [insAt]; omega
def wrS : Fspec := fun _ ds r => ∃ (l : List Wrt) (e : Edt), l.length ≤ 1048576 ∧ e.deps.length ≤ 1048576 ∧ ds = [.sl (l.map encW), .agg (encE e)] ∧ r = .sl ((wrF l e).map encW)
theorem written_sound {plain : TypeId → Bool} {Γ : FuncId → Option Fspec} {Δ : FuncId → Option Pt} (hE : EnvOk ⟨Try.prog, plain, Γ, Δ, fun _ => none, 0⟩) (hpl : plain 31 = true) (g_cl : Γ 34 = some (cloneS encW 4)) (g_bs : Γ 46 = some (bsS2 encW)) (g_cw : Γ 47 = some cmpWS)
    (hD : Δ 44 = some delT) (hI : Δ 48 = some (insT 4)) : Sound Try.prog 30 wrS := by
  refine sound_of_awp hE Try.func30 rfl (by kernel_rfl) ?_
  rintro Φ ds r ⟨l, e, hl, hd, rfl, rfl⟩
  refine ⟨by simp [Try.f30], ?_⟩
  unfold st0 encE
  refine W.out (E := ⟨Try.prog, plain, Γ, Δ, Φ, _⟩) ?_
  refine go trivial ?_
  refine x_callO rfl rfl rfl rfl (sv trivial) g_cl (sv trivial) (se trivial) ⟨l, by omega, rfl, rfl⟩ (by simp [touchA, touch]) (fun cap hcap => ?_)
  refine go trivial ?_
  refine x_callI rfl rfl rfl rfl (sv trivial) hD (sv trivial) ⟨1, cap, 0, l, spare 4 (cap - l.length), e, true, rfl, by omega, by omega, by omega, by show 1 < 2; omega, by show 0 < 2; omega, (sx trivial), (by simp [spare_len] at hcap ⊢; omega), (sx trivial), ?_⟩
  intro n' h' sp' hn hb hcap2 hold
  have hn2 : 2 ≤ n' := hn
  have hb0 : h' 0 = some ⟨18, [encE e], true⟩ := by rw [hold 0 (by show 0 < 2; omega) (by omega)]; rfl
  change h' 1 = some ⟨4, (keptF l e).map encW ++ sp', true⟩ at hb
  change cap = (keptF l e).length + sp'.length at hcap2
  have hkl : (keptF l e).length ≤ 1048576 := Nat.le_trans (List.length_filter_le _ _) hl
  have e1 : (0 = n') = False := by simp; omega
  have e2 : (1 = n') = False := by simp; omega
  have e3 : (0 = n' + 1) = False := by simp
  have e4 : (1 = n' + 1) = False := by simp; omega
  have e5 : (n' = n' + 1) = False := by simp
  generalize hk : keptF l e = k at *
  have tk : (k.map encW ++ sp').take k.length = k.map encW := List.take_left' (by simp)
  have ln : (k.map encW ++ sp').length = k.length + sp'.length := by simp
  have hx1 : ∀ h d, allO (allO (expo h d)) (k.map encW) = some (k.map encW) := fun h d => allO_rows h d (deep_map encW k (fun a => by simp [encW, deepc]))
  have hbs := bsF_le (cAt (fun m => cmpW m (mkW e)) k) 0 k.length (Nat.zero_le _)
  change WP _ _ _ _ _ _ ⟨_, h', n'⟩
  have hfe : l.filter (fun m => !wr1F e m) = k := hk
  refine go (And.intro hfe (And.intro hb (And.intro hb0 (And.intro e1 (And.intro e2 @encE.eq_1))))) ?_
  refine x_callN rfl rfl rfl rfl (sv (And.intro hb (And.intro hb0 (And.intro e1 (And.intro e2 (And.intro tk (And.intro ln (And.intro hx1 (And.intro @mkW.eq_1 @encW.eq_1))))))))) g_bs (sv (And.intro hb (And.intro hb0 (And.intro e1 (And.intro e2 (And.intro tk (And.intro ln (And.intro hx1 (And.intro @mkW.eq_1 @encW.eq_1))))))))) (se (And.intro hb (And.intro hb0 (And.intro e1 (And.intro e2 (And.intro tk (And.intro ln (And.intro hx1 (And.intro @mkW.eq_1 @encW.eq_1))))))))) ⟨k, mkW e, fun m => cmpW m (mkW e), _, by omega, rfl, (by simp only [phi, closS, allO, List.getElem?_cons_zero, List.getElem?_cons_succ, g_cw]; rfl), (by intro x _; exact ⟨x, mkW e, rfl, rfl⟩), rfl⟩ rfl ?_
  refine go (And.intro hb (And.intro hb0 (And.intro e1 (And.intro e2 (And.intro @encE.eq_1 (And.intro @mkW.eq_1 @encW.eq_1)))))) ?_
  refine x_callI rfl rfl rfl rfl (sv trivial) hI (sv trivial) ⟨1, cap, n' + 1, k.map encW, sp', bsF (cAt (fun m => cmpW m (mkW e)) k) 0 k.length, encW (mkW e), (by rw [List.length_map]; rfl), (by rw [List.length_map]; exact hbs.2), (by rw [List.length_map]; omega), by omega, by show 1 < n' + 1 + 1; omega, by show n' + 1 < n' + 1 + 1; omega, (sx (And.intro e2 (And.intro e4 hb))), (by rw [List.length_map]; exact hcap2), (sx (And.intro @mkW.eq_1 @encW.eq_1)), okRows_map _ _ _ (fun a => ⟨rfl, by simp [encW, cellish]⟩), (by intro r hr; simp at hr; subst hr; exact ⟨rfl, by simp [encW, cellish]⟩), ?_⟩
  intro b' cap' n2 h2 sp2 hb2 hn3 hbb hcc hold2 hor
  rw [insAt_map, List.length_map] at *
  have hw : wrF l e = insAt k (bsF (cAt (fun m => cmpW m (mkW e)) k) 0 k.length) (mkW e) := by simp only [wrF, hk]
  rw [← hw] at hbb
  have hwl : (wrF l e).length = k.length + 1 := by rw [hw, insAt_len]
  refine go trivial ?_
  refine x_done (x_outL (sp := sp2) (rows := (wrF l e).map encW) (sr @Try.f30.eq_1) hbb (by rw [List.length_map]; exact hwl) (deep_map _ _ fun a => by simp [encW, deepc]))
end Go.Proofs.Ytgohmphhgglmbaa

set_option linter.unusedVariables false
set_option linter.unusedSimpArgs false
set_option maxRecDepth 100000
set_option maxHeartbeats 16000000
namespace Go.Proofs.Ytgohmphhgglmbaa
open Go Go.RowKit Am

def tgt (e : Edt) : Rgs := ⟨e.node, e.field, []⟩
def rPos (L : List Rgs) (e : Edt) : Nat := bsF (cAt (fun x => cmpReg x (tgt e)) L) 0 L.length
def rHit (L : List Rgs) (e : Edt) : Bool := bsHit (fun x => cmpReg x (tgt e)) L
def rAt (L : List Rgs) (i : Nat) : Rgs := L.getD i ⟨⟨⟨#[]⟩, 0⟩, ⟨#[]⟩, []⟩
def setW (x : Rgs) (w : List Wrt) : Rgs := ⟨x.id, x.f, w⟩
def stepF (L : List Rgs) (e : Edt) : List Rgs := if e.kind == 3 then (if rHit L e then L.set (rPos L e) (setW (rAt L (rPos L e)) (wrF (rAt L (rPos L e)).w e)) else insAt L (rPos L e) (setW (tgt e) (wrF [] e))) else L
def appF (L : List Rgs) (es : List Edt) : List Rgs := es.foldl stepF L
def smallR (B : Nat) (L : List Rgs) : Prop := L.length ≤ B ∧ ∀ x ∈ L, x.w.length ≤ B
def appS : Fspec := fun _ ds r => ∃ (l : List Rgs) (es : List Edt), smallR 500000 l ∧ es.length ≤ 500000 ∧ (∀ e ∈ es, e.deps.length ≤ 500000) ∧ ds = [.sl (l.map encR), .sl (es.map encE)] ∧ r = .sl ((appF l es).map encR)
theorem wrF_len (l : List Wrt) (e : Edt) : (wrF l e).length ≤ l.length + 1 := by
  rw [wrF, insAt_len]
  have := List.length_filter_le (fun m => !wr1F e m) l
  unfold keptF
  omega
theorem step_small {B : Nat} {L : List Rgs} (e : Edt) (h : smallR B L) : smallR (B + 1) (stepF L e) := by
  unfold stepF
  split
  · split
    · refine ⟨by simp; have := h.1; omega, fun x hx => ?_⟩
      rcases List.mem_or_eq_of_mem_set hx with h1 | h1
      · have := h.2 x h1; omega
      · subst h1
        simp only [setW]
        have h2 := wrF_len (rAt L (rPos L e)).w e
        have h3 : (rAt L (rPos L e)).w.length ≤ B := by
          unfold rAt
          rw [List.getD_eq_getElem?_getD]
          cases hg : L[rPos L e]? with
          | none => simp
          | some y => exact h.2 y (List.mem_of_getElem? hg)
        omega
    · refine ⟨by rw [insAt_len]; have := h.1; omega, fun x hx => ?_⟩
      simp only [insAt, List.mem_append, List.mem_singleton] at hx
      rcases hx with (hx | hx) | hx
      · have := h.2 x (List.mem_of_mem_take hx); omega
      · subst hx
        have := wrF_len [] e
        simp only [setW]
        simp at this
        omega
      · have := h.2 x (List.mem_of_mem_drop hx); omega
  · exact ⟨by have := h.1; omega, fun x hx => by have := h.2 x hx; omega⟩
theorem encE_rows' (v : List Edt) : (∀ r ∈ v.map encE, r.length = 18) = True := rows_map _ _ _ fun _ => rfl
theorem encE_kind (e : Edt) : encE e = [.s (.string e.id.a), .s (.int .i64 e.id.n), .s (.int .i64 e.clock), .s (.int .i64 e.floor), .sl (e.deps.map encId), .s (.int .i64 e.kind), .s (.string e.node.a), .s (.int .i64 e.node.n), .s (.string e.parent.a), .s (.int .i64 e.parent.n), .s (.bool e.neg), .s (.string e.num), .s (.string e.den), .s (.string e.field), .s (.string e.value), .s (.string e.target.a), .s (.int .i64 e.target.n), .s (.string e.who)] := rfl
theorem set_row (L : List Rgs) (sp : List (List V)) (i : Nat) (h : i < L.length) (w : List Wrt) :
    (L.map encR ++ sp).set i [.s (.string (rAt L i).id.a), .s (.int .i64 (rAt L i).id.n), .s (.string (rAt L i).f), .sl (w.map encW)] = (L.set i (setW (rAt L i) w)).map encR ++ sp := by
  rw [List.set_append_left _ _ (by simpa using h), List.map_set]
  rfl
theorem getD_row (L : List Rgs) (sp : List (List V)) (i : Nat) (h : i < L.length) : (L.map encR ++ sp).getD i [] = [.s (.string (rAt L i).id.a), .s (.int .i64 (rAt L i).id.n), .s (.string (rAt L i).f), .sl ((rAt L i).w.map encW)] := by
  rw [List.getD_eq_getElem?_getD, List.getElem?_append_left (by simpa using h)]
  simp [h, rAt, encR]
theorem rAt_ins (L : List Rgs) (i : Nat) (x : Rgs) (h : i ≤ L.length) : rAt (insAt L i x) i = x := by
  have h1 : (L.take i ++ [x]).length = i + 1 := by simp; omega
  unfold rAt insAt
  rw [List.getD_eq_getElem?_getD, List.getElem?_append_left (by omega), List.getElem?_append_right (by simp; omega)]
  simp [Nat.min_eq_left h]
theorem set_ins (L : List Rgs) (i : Nat) (x y : Rgs) (h : i ≤ L.length) : (insAt L i x).set i y = insAt L i y := by
  have h1 : (L.take i).length = i := by simp; omega
  unfold insAt
  rw [List.append_assoc, List.set_append_right _ _ (by omega), h1, Nat.sub_self]
  simp
theorem app_sound {plain : TypeId → Bool} {Γ : FuncId → Option Fspec} {Δ : FuncId → Option Pt} (hE : EnvOk ⟨Try.prog, plain, Γ, Δ, fun _ => none, 0⟩) (hpl : plain 31 = true) (g_cl : Γ 26 = some (cloneS encR 4)) (g_bs : Γ 27 = some (bsS2 encR)) (g_cr : Γ 28 = some cmpRegS) (g_wr : Γ 30 = some wrS)
    (hI : Δ 29 = some (insT 4)) : Sound Try.prog 13 appS := by
  refine sound_of_awp hE Try.func13 rfl (by kernel_rfl) ?_
  rintro Φ ds r ⟨l, es, hl, hes, hdeps, rfl, rfl⟩
  refine ⟨by simp [Try.f13], ?_⟩
  unfold st0
  refine W.out (E := ⟨Try.prog, plain, Γ, Δ, Φ, _⟩) ?_
  have hre := encE_rows' es
  refine go trivial ?_
  refine x_callO rfl rfl rfl rfl (sv trivial) g_cl (sv trivial) (se trivial) ⟨l, by have := hl.1; omega, rfl, rfl⟩ (by simp [touchA, touch]) (fun cap hcap => ?_)
  refine go trivial ?_
  refine x_loop (fun σ => ∃ (i b cap : Nat) (L : List Rgs) (sp : List (List V)), σ.t 5 = .loc b 0 L.length cap ∧ σ.t 13 = .sl (es.map encE) ∧ σ.t 14 = .s (.int .i64 es.length) ∧ σ.t 15 = .s (.int .i64 i) ∧ σ.h b = some ⟨4, L.map encR ++ sp, true⟩ ∧ b < σ.n ∧ cap = L.length + sp.length ∧ i ≤ es.length ∧ smallR (500000 + i) L ∧ (es.drop i).foldl stepF L = appF l es) (fun σ => es.length - ix (σ.t 15))
    ⟨0, 0, cap, l, spare 4 (cap - l.length), (sc trivial), (sc trivial), (sc trivial), (sc trivial), (sc trivial), (by show 0 < 0 + 1; omega), (by simp [spare_len] at hcap ⊢; omega), Nat.zero_le _, hl, rfl⟩ ?_
  rintro t h n ⟨i, b, cap', L, sp, h5, h13, h14, h15, hb, hbn, hcp, hi, hsm, hf⟩
  simp only at h5 h13 h14 h15 hb hbn
  have e1 : (b = n) = False := by simp; omega
  have e2 : (b = n + 1) = False := by simp; omega
  have e2' : (b = n + 1 + 1) = False := by simp; omega
  have e3 : (n = n + 1) = False := by simp
  have e4 : (n + 1 = n) = False := by simp
  have e5 : (n = b) = False := by simp; omega
  have e6 : (n + 1 = b) = False := by simp; omega
  have tk : (L.map encR ++ sp).take L.length = L.map encR := List.take_left' (by simp)
  have ln : (L.map encR ++ sp).length = L.length + sp.length := by simp
  have hx1 : ∀ h d, allO (allO (expo h d)) (L.map encR) = some (L.map encR) := fun h d => allO_rows h d (deep_map encR L (fun a => by simp [encR, deepc]))
  refine go (And.intro h5 (And.intro h13 (And.intro h14 (And.intro h15 (And.intro hb e1))))) ?_
  refine x_condP (sv trivial) (fun hc => ?_) (fun hc => ?_)
  · have hi' : i < es.length := by omega
    rw [List.drop_eq_getElem_cons hi', List.foldl_cons] at hf
    have hde := hdeps _ (List.getElem_mem hi')
    generalize hee : es[i] = e at *
    cases hk : (e.kind == 3)
    · have hst : stepF L e = L := by simp [stepF, hk]
      have hk' : (e.kind != 3) = true := by simp [bne, hk]
      refine go (And.intro h5 (And.intro h13 (And.intro h14 (And.intro h15 (And.intro hb (And.intro hre (And.intro hee (And.intro @encE_kind (And.intro e1 (And.intro e2 hk')))))))))) ?_
      refine ⟨⟨i + 1, b, cap', L, sp, (sc h5), (sc h13), (sc h14), (sc (And.intro h15 @cast_succ)), (sc (And.intro hb e1)), (by show b < n + 1; omega), hcp, by omega, ⟨by have := hsm.1; omega, fun x hx => by have := hsm.2 x hx; omega⟩, by rw [hst] at hf; exact hf⟩, ?_⟩
      exact so h15
    · have hk' : (e.kind != 3) = false := by simp [bne, hk]
      have hbs := bsF_le (cAt (fun x => cmpReg x (tgt e)) L) 0 L.length (Nat.zero_le _)
      refine go (And.intro h5 (And.intro h13 (And.intro h14 (And.intro h15 (And.intro hb (And.intro hre (And.intro hee (And.intro @encE_kind (And.intro e1 (And.intro e2 (And.intro e3 (And.intro e4 hk')))))))))))) ?_
      refine x_callN rfl rfl rfl rfl (sv (And.intro hb (And.intro e1 (And.intro e2 (And.intro tk (And.intro ln (And.intro hx1 (And.intro @tgt.eq_1 @encR.eq_1)))))))) g_bs (sv (And.intro hb (And.intro e1 (And.intro e2 (And.intro tk (And.intro ln (And.intro hx1 (And.intro @tgt.eq_1 @encR.eq_1)))))))) (se (And.intro hb (And.intro e1 (And.intro e2 (And.intro tk (And.intro ln (And.intro hx1 (And.intro @tgt.eq_1 @encR.eq_1)))))))) ⟨L, tgt e, fun x => cmpReg x (tgt e), _, by have := hsm.1; omega, rfl, (by simp only [phi, closS, allO, List.getElem?_cons_zero, List.getElem?_cons_succ, g_cr]; rfl), (by intro x _; exact ⟨x, tgt e, rfl, rfl⟩), rfl⟩ rfl ?_
      have hbsp : bsF (cAt (fun x => cmpReg x (tgt e)) L) 0 L.length ≤ L.length := hbs.2
      cases hh : bsHit (fun x => cmpReg x (tgt e)) L
      · have hst : stepF L e = insAt L (rPos L e) (setW (tgt e) (wrF [] e)) := by simp [stepF, hk, rHit, hh]
        generalize hpos : bsF (cAt (fun x => cmpReg x (tgt e)) L) 0 L.length = pos at *
        have hpos' : rPos L e = pos := hpos
        rw [hst, hpos'] at hf
        refine go (And.intro h5 (And.intro h13 (And.intro h14 (And.intro h15 (And.intro hb (And.intro hre (And.intro hee (And.intro @encE_kind (And.intro e1 (And.intro e2 (And.intro e3 (And.intro e4 (And.intro hk' hh))))))))))))) ?_
        refine x_callI rfl rfl rfl rfl (sv trivial) hI (sv trivial) ⟨b, cap', n + 1 + 1, L.map encR, sp, pos, encR (tgt e), (by rw [List.length_map]), (by rw [List.length_map]; exact hbsp), (by rw [List.length_map]; have := hsm.1; omega), by omega, by show b < n + 1 + 1 + 1; omega, by show n + 1 + 1 < n + 1 + 1 + 1; omega, (sx (And.intro e1 (And.intro e2 (And.intro e2' hb)))), (by rw [List.length_map]; exact hcp), (sx (And.intro @tgt.eq_1 @encR.eq_1)), okRows_map _ _ _ (fun a => ⟨rfl, by simp [encR, cellish]⟩), (by intro r hr; simp at hr; subst hr; exact ⟨rfl, by simp [encR, cellish]⟩), ?_⟩
        intro b2 cap2 n2 h2 sp2 hb2 hn2 hbb hcc hold hor
        have hn2' : n + 1 + 1 + 1 ≤ n2 := hn2
        rw [insAt_map, List.length_map] at *
        have hln : (insAt L pos (tgt e)).length = L.length + 1 := insAt_len _ _ _
        have g0 := getD_row (insAt L pos (tgt e)) sp2 pos (by omega)
        rw [rAt_ins _ _ _ hbsp] at g0
        have g0' : ((insAt L pos (tgt e)).map encR ++ sp2).getD pos [] = [.s (.string e.node.a), .s (.int .i64 e.node.n), .s (.string e.field), .sl []] := g0
        have s0 : ((insAt L pos (tgt e)).map encR ++ sp2).set pos [.s (.string e.node.a), .s (.int .i64 e.node.n), .s (.string e.field), .sl ((wrF [] e).map encW)] = (insAt L pos (setW (tgt e) (wrF [] e))).map encR ++ sp2 := by
          have := set_row (insAt L pos (tgt e)) sp2 pos (by omega) (wrF [] e)
          rw [rAt_ins _ _ _ hbsp, set_ins _ _ _ _ hbsp] at this
          exact this
        have k0 : h2 n = some ⟨18, [encE e], true⟩ := by
          rw [hold n (by show n < n + 1 + 1 + 1; omega) (by omega)]
          exact sx e3
        have k1 : h2 (n + 1) = some ⟨4, [[.s (.string e.node.a), .s (.int .i64 e.node.n), .s (.string e.field), .sl []]], true⟩ := by
          rw [hold (n + 1) (by show n + 1 < n + 1 + 1 + 1; omega) (by omega)]
          exact sx e3
        have j0 : (n = b2) = False := by simp; rcases hor with h | h; (· omega); have h' : n + 1 + 1 + 1 ≤ b2 := h; omega
        have j1 : (n + 1 = b2) = False := by simp; rcases hor with h | h; (· omega); have h' : n + 1 + 1 + 1 ≤ b2 := h; omega
        have hlt2 : pos < (insAt L pos (tgt e)).length + sp2.length := by omega
        have hlt3 : pos < L.length + 1 := by omega
        have ln2 : ((insAt L pos (tgt e)).map encR ++ sp2).length = (insAt L pos (tgt e)).length + sp2.length := by simp
        refine go (And.intro hbb (And.intro k0 (And.intro k1 (And.intro j0 j1)))) ?_
        refine x_callS rfl rfl rfl rfl (sv (And.intro hbb (And.intro k0 (And.intro k1 @encE_kind)))) g_wr (sv (And.intro hbb (And.intro k0 (And.intro k1 @encE_kind)))) (se (And.intro hbb (And.intro k0 (And.intro k1 @encE_kind)))) ⟨[], e, by simp, by omega, rfl, rfl⟩ (by simp) (by simp [touchA, touch]) ?_
        refine go (And.intro hbb (And.intro k0 (And.intro k1 (And.intro j0 (And.intro j1 (And.intro g0' (And.intro hlt2 (And.intro hlt3 (And.intro ln2 (And.intro s0 h15)))))))))) ?_
        refine ⟨⟨i + 1, b2, cap2, insAt L pos (setW (tgt e) (wrF [] e)), sp2, (sc @insAt_len), (sc h13), (sc h14), (sc (And.intro h15 @cast_succ)), (sc (And.intro s0 g0')), hb2, by rw [insAt_len]; exact hcc, by omega, (by have := step_small e hsm; rw [hst, hpos'] at this; exact this), hf⟩, ?_⟩
        exact so h15
      · have hst : stepF L e = L.set (rPos L e) (setW (rAt L (rPos L e)) (wrF (rAt L (rPos L e)).w e)) := by simp [stepF, hk, rHit, hh]
        have hplt : bsF (cAt (fun x => cmpReg x (tgt e)) L) 0 L.length < L.length := by
          simp only [bsHit, Bool.and_eq_true, decide_eq_true_eq] at hh
          exact hh.1
        generalize hpos : bsF (cAt (fun x => cmpReg x (tgt e)) L) 0 L.length = pos at *
        have hpos' : rPos L e = pos := hpos
        rw [hst, hpos'] at hf
        have g0 := getD_row L sp pos hplt
        have hwl : (rAt L pos).w.length ≤ 1048576 := by
          have : (rAt L pos) ∈ L := by unfold rAt; rw [List.getD_eq_getElem?_getD, List.getElem?_eq_getElem hplt]; exact List.getElem_mem _
          have := hsm.2 _ this; omega
        have hlt2 : pos < L.length + sp.length := by omega
        refine go (And.intro h5 (And.intro h13 (And.intro h14 (And.intro h15 (And.intro hb (And.intro hre (And.intro hee (And.intro @encE_kind (And.intro e1 (And.intro e2 (And.intro e3 (And.intro e4 (And.intro hk' (And.intro hh (And.intro g0 (And.intro hplt (And.intro hlt2 ln))))))))))))))))) ?_
        refine x_callS rfl rfl rfl rfl (sv (And.intro hb (And.intro e1 (And.intro e2 @encE_kind)))) g_wr (sv (And.intro hb (And.intro e1 (And.intro e2 @encE_kind)))) (se (And.intro hb (And.intro e1 (And.intro e2 @encE_kind)))) ⟨(rAt L pos).w, e, hwl, by omega, rfl, rfl⟩ (by simp) (by simp [touchA, touch]) ?_
        have s1 := set_row L sp pos hplt (wrF (rAt L pos).w e)
        refine go (And.intro h5 (And.intro h13 (And.intro h14 (And.intro h15 (And.intro hb (And.intro hre (And.intro hee (And.intro @encE_kind (And.intro e1 (And.intro e2 (And.intro e3 (And.intro e4 (And.intro hk' (And.intro hh (And.intro g0 (And.intro hplt (And.intro hlt2 (And.intro ln s1)))))))))))))))))) ?_
        refine ⟨⟨i + 1, b, cap', L.set pos (setW (rAt L pos) (wrF (rAt L pos).w e)), sp, (sc h5), (sc h13), (sc h14), (sc (And.intro h15 @cast_succ)), (sc (And.intro s1 g0)), (by show b < n + 1 + 1; omega), by rw [List.length_set]; exact hcp, by omega, (by have := step_small e hsm; rw [hst, hpos'] at this; exact this), hf⟩, ?_⟩
        exact so h15
  · have e : i = es.length := by omega
    subst e
    rw [List.drop_length, List.foldl_nil] at hf
    rw [← hf]
    refine go (And.intro h5 (And.intro h13 (And.intro h14 h15))) ?_
    refine x_done (x_outL (b := b) (len := L.length) (cap := cap') (z := 4) (sp := sp) (rows := L.map encR) (sr (And.intro h5 @Try.f13.eq_1)) hb (by simp) (deep_map _ _ fun a => by simp [encR, deepc]))
end Go.Proofs.Ytgohmphhgglmbaa
