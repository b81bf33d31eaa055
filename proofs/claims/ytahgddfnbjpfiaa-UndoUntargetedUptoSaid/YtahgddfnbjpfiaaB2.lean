/- Texts that the law's proof stands on: AmVal, AmOps, AmSnd. -/
import Derived.Test.YtahgddfnbjpfiaaB1
import Derived.Laws.BytesString
import Derived.Laws.Tables
/- An abstract machine over values: what an operation that turns no memory comes to. -/
set_option linter.unusedVariables false
set_option linter.unusedSimpArgs false
namespace Go.Proofs.Ytahgddfnbjpfiaa.Am
open Go Go.RowKit

def aint (op : BinOp) (k : IntKind) (a b : Int) : Option V :=
  match op with
  | .add => some (.s (.int k (k.wrap (a + b))))
  | .sub => some (.s (.int k (k.wrap (a - b))))
  | .mul => some (.s (.int k (k.wrap (a * b))))
  | .quo => if b = 0 then none else some (.s (.int k (k.wrap (a.tdiv b))))
  | .rem => if b = 0 then none else some (.s (.int k (a.tmod b)))
  | .and => some (.s (.int k (k.wrap (BitVec.ofInt k.bits a &&& BitVec.ofInt k.bits b).toNat)))
  | .or => some (.s (.int k (k.wrap (BitVec.ofInt k.bits a ||| BitVec.ofInt k.bits b).toNat)))
  | .xor => some (.s (.int k (k.wrap (BitVec.ofInt k.bits a ^^^ BitVec.ofInt k.bits b).toNat)))
  | .andNot => some (.s (.int k (k.wrap (BitVec.ofInt k.bits a &&& ~~~(BitVec.ofInt k.bits b)).toNat)))
  | .eql => some (.s (.bool (a == b)))
  | .neq => some (.s (.bool (a != b)))
  | .lss => some (.s (.bool (decide (a < b))))
  | .leq => some (.s (.bool (decide (a ≤ b))))
  | .gtr => some (.s (.bool (decide (a > b))))
  | .geq => some (.s (.bool (decide (a ≥ b))))
  | _ => none
def astr (op : BinOp) (a b : ByteArray) : Option V :=
  match op with
  | .add => if a.size + b.size ≤ 9223372036854775807 then some (.s (.string (a ++ b))) else none
  | .eql => some (.s (.bool (a.toList == b.toList)))
  | .neq => some (.s (.bool (!(a.toList == b.toList))))
  | .lss => some (.s (.bool (Op.bytesLess a.toList b.toList)))
  | .leq => some (.s (.bool (Op.bytesLess a.toList b.toList || a.toList == b.toList)))
  | .gtr => some (.s (.bool (!(Op.bytesLess a.toList b.toList || a.toList == b.toList))))
  | .geq => some (.s (.bool (!Op.bytesLess a.toList b.toList)))
  | _ => none
def ashift (op : BinOp) (k : IntKind) (a b : Int) : Option V :=
  if b < 0 then none else match op with
    | .shl => some (.s (.int k (k.wrap (a * 2 ^ min b.toNat k.bits))))
    | .shr => some (.s (.int k (a.fdiv (2 ^ min b.toNat k.bits))))
    | _ => none
/-- '==' of plain cells. -/
def eqL : List Value → List Value → Option Bool
  | [], [] => some true
  | .int k a :: xs, .int k' b :: ys => if k = k' then (eqL xs ys).map ((a == b) && ·) else none
  | .string a :: xs, .string b :: ys => (eqL xs ys).map ((a.toList == b.toList) && ·)
  | .bool a :: xs, .bool b :: ys => (eqL xs ys).map ((a == b) && ·)
  | _, _ => none
/-- A list of cells of the kinds that a zero value has. -/
def fit1 : Value → Value → Bool
  | .int k _, .int k' _ => if k = k' then true else false
  | .string _, .string _ => true
  | .bool _, .bool _ => true
  | _, _ => false
def fits : List Value → List Value → Bool
  | [], [] => true
  | z :: zs, x :: xs => fit1 z x && fits zs xs
  | _, _ => false
def sOf : V → Option Value
  | .s v => some v
  | _ => none
def allS : List V → Option (List Value)
  | [] => some []
  | .s v :: l => (allS l).map (v :: ·)
  | _ => none
def isBoolT (P : Program) (T : TypeId) : Bool := match P.underlying T with
  | some .bool => true
  | _ => false
def aeq (P : Program) (plain : TypeId → Bool) (T : TypeId) (x y : V) : Option Bool :=
  match x, y with
  | .s (.bool a), .s (.bool b) => if isBoolT P T then some (a == b) else none
  | .agg xs, .agg ys => if plain T then match allS xs, allS ys, zro P T with
      | some X, some Y, some (.agg zs) => if (fits zs.toList X && fits zs.toList Y) = true then eqL X Y else none
      | _, _, _ => none
    else none
  | _, _ => none
def abin (P : Program) (plain : TypeId → Bool) (op : BinOp) (T : TypeId) (x y : V) : Option V :=
  match op, x, y with
  | .shl, .s (.int k a), .s (.int _ b) => ashift .shl k a b
  | .shr, .s (.int k a), .s (.int _ b) => ashift .shr k a b
  | op, .s (.int k a), .s (.int k' b) => if k = k' then aint op k a b else none
  | op, .s (.string a), .s (.string b) => astr op a b
  | .eql, x, y => (aeq P plain T x y).map fun b => .s (.bool b)
  | .neq, x, y => (aeq P plain T x y).map fun b => .s (.bool !b)
  | _, _, _ => none
def aun (op : UnOp) (x : V) : Option V :=
  match op, x with
  | .neg, .s (.int k n) => some (.s (.int k (k.wrap (0 - n))))
  | .xor, .s (.int k n) => some (.s (.int k (k.wrap (BitVec.ofInt k.bits (if k.signed then -1 else k.max) ^^^ BitVec.ofInt k.bits n).toNat)))
  | .not, .s (.bool b) => some (.s (.bool !b))
  | _, _ => none

/-- Plain struct types: '==' of two of them is '==' of their cells. -/
structure PlainOk (P : Program) (plain : TypeId → Bool) : Prop where
  eq : ∀ T, plain T = true → ∀ zs X Y b, zro P T = some (.agg zs) → fits zs.toList X = true → fits zs.toList Y = true → eqL X Y = some b → ∀ w, (Op.equal T (.agg X.toArray) (.agg Y.toArray)).run P w = .ok b w
  guard : ∀ T, plain T = true → P.eqGuardType P.depth T = false

section
variable {P : Program} {w : World}
theorem run_aint {op : BinOp} {k : IntKind} {a b : Int} {v : V} (h : aint op k a b = some v) (T : TypeId) : ∃ x, v = .s x ∧ flat x = true ∧ (binOp op T (.int k a) (.int k b)).run P w = .ok x w := by
  cases op <;> simp only [aint, Option.some.injEq, reduceCtorEq] at h
  case quo =>
    split at h
    · cases h
    · rename_i hb; cases h
      exact ⟨_, rfl, rfl, by simp [binOp, Op.intDiv, hb, Sem.run, pure]⟩
  case rem =>
    split at h
    · cases h
    · rename_i hb; cases h
      exact ⟨_, rfl, rfl, by simp [binOp, Op.intDiv, hb, Sem.run, pure]⟩
  all_goals
    subst h
    exact ⟨_, rfl, rfl, by simp [binOp, Op.intArith, Op.intBits, Op.intCmp, Sem.run, pure]⟩
theorem run_astr {op : BinOp} {a b : ByteArray} {v : V} (h : astr op a b = some v) (T : TypeId) : ∃ x, v = .s x ∧ flat x = true ∧ (binOp op T (.string a) (.string b)).run P w = .ok x w := by
  cases op <;> simp only [astr, Option.some.injEq, reduceCtorEq] at h
  case add =>
    split at h
    · rename_i hb; cases h
      refine ⟨_, rfl, rfl, ?_⟩
      have hm : ¬ ((a.size + b.size : Nat) : Int) > IntKind.i64.max := by simp [IntKind.max, IntKind.signed, IntKind.bits]; omega
      simp only [binOp, Op.stringOp, if_neg hm]
      simp [Sem.run, pure]
    · cases h
  all_goals
    subst h
    exact ⟨_, rfl, rfl, by simp [binOp, Op.stringOp, Sem.run, pure]⟩
theorem run_ashift {op : BinOp} {k k' : IntKind} {a b : Int} {v : V} (h : ashift op k a b = some v) (T : TypeId) : ∃ x, v = .s x ∧ flat x = true ∧ (binOp op T (.int k a) (.int k' b)).run P w = .ok x w := by
  unfold ashift at h
  split at h
  · cases h
  · rename_i hb
    cases op <;> simp only [Option.some.injEq, reduceCtorEq] at h <;> subst h <;> exact ⟨_, rfl, rfl, by simp [binOp, Op.shift, hb, Sem.run, pure]⟩
theorem run_aun {op : UnOp} {x : Value} {v : V} (h : aun op (.s x) = some v) : ∃ y, v = .s y ∧ flat y = true ∧ (Op.unary op x).run P w = .ok y w := by
  cases op <;> cases x <;> simp only [aun, Option.some.injEq, reduceCtorEq] at h <;> subst h <;> exact ⟨_, rfl, rfl, by simp [Op.unary, Op.intArith, Op.intBits, Sem.run, pure]⟩
end

section
variable {fv : Nat → Value} {w : World} {ok : Nat → Prop} {μ : Mu}
theorem Rp.s_eq {v x : Value} (h : Rp fv w ok μ (.s v) x) : x = v ∧ flat v = true := by cases h with | s _ h => exact ⟨rfl, h⟩
theorem allS_eq : ∀ {cs : List V} {X : List Value}, allS cs = some X → cs = X.map .s
  | [], X, h => by simp [allS] at h; subst h; rfl
  | .s v :: l, X, h => by
    simp only [allS, Option.map_eq_some_iff] at h
    obtain ⟨X', h1, rfl⟩ := h
    rw [allS_eq h1]; rfl
  | .undef :: l, X, h => by simp [allS] at h
  | .any :: l, X, h => by simp [allS] at h
  | .sl _ :: l, X, h => by simp [allS] at h
  | .cap0 :: l, X, h => by simp [allS] at h
  | .agg _ :: l, X, h => by simp [allS] at h
  | .tup _ :: l, X, h => by simp [allS] at h
  | .pc _ :: l, X, h => by simp [allS] at h
  | .ptr .. :: l, X, h => by simp [allS] at h
  | .loc .. :: l, X, h => by simp [allS] at h
  | .fn .. :: l, X, h => by simp [allS] at h
  | .fv _ :: l, X, h => by simp [allS] at h
  | .own .. :: l, X, h => by simp [allS] at h
  | .glb _ :: l, X, h => by simp [allS] at h
  | .mp _ :: l, X, h => by simp [allS] at h
theorem Rp.agg_plain {X : List Value} {x : Value} (h : Rp fv w ok μ (.agg (X.map .s)) x) : x = .agg X.toArray := by
  cases h with
  | agg _ xs hl h =>
    congr 1
    apply Array.ext
    · simpa using hl
    · intro i h1 h2
      have h2' : i < X.length := by simpa using h2
      have h3 := h i (by simpa using h2')
      have h4 : (X.map V.s).getD i .undef = .s X[i] := by simp [List.getD_eq_getElem?_getD, h2']
      rw [h4] at h3
      have := h3.s_eq.1
      simpa [h1] using this
theorem run_guard_plain {P : Program} {plain : TypeId → Bool} (hp : PlainOk P plain) {op : BinOp} {T : TypeId} {x y : Operand} {X Y : Array Value} (h : plain T = true) :
    (eqGuard op T x y (.agg X) (.agg Y)).run P w = .ok () w := by
  unfold eqGuard
  cases op <;> simp [Sem.run, pure, program, hp.guard T h, bind, Sem.bind]
theorem run_guard_s {P : Program} {op : BinOp} {T : TypeId} {x y : Operand} {a b : Value} (ha : ∀ X, a ≠ .agg X) (hb : a ≠ .nilIface) :
    (eqGuard op T x y a b).run P w = .ok () w := by
  unfold eqGuard
  cases op <;> simp [Sem.run, pure] <;> split <;> simp_all [Sem.run, pure]
theorem run_abin {P : Program} {plain : TypeId → Bool} (hp : PlainOk P plain) {op : BinOp} {T : TypeId} {x y : V} {a b : Value} {v : V} (hx : Rp fv w ok μ x a) (hy : Rp fv w ok μ y b) (h : abin P plain op T x y = some v) (xo yo : Operand) :
    ∃ z, v = .s z ∧ flat z = true ∧ (do eqGuard op T xo yo a b; binOp op T a b : Sem Value).run P w = .ok z w := by
  have key : ∀ {u : V}, aeq P plain T x y = (match u with | .s (.bool q) => some q | _ => none) → (∃ q, u = .s (.bool q)) → ∃ q, u = .s (.bool q) ∧ (eqGuard op T xo yo a b).run P w = .ok () w ∧ (Op.equal T a b).run P w = .ok q w ∧ (∀ k n, a ≠ .int k n) ∧ (∀ s, a ≠ .string s) ∧ (∀ k n, a ≠ .float k n) ∧ (∀ k n m, a ≠ .complex k n m) ∧ (∀ p, a ≠ .pointer p) := by
    rintro u hq ⟨q, rfl⟩
    refine ⟨q, rfl, ?_⟩
    simp only at hq
    unfold aeq at hq
    split at hq
    · split at hq
      · rename_i p r hT
        cases hq
        obtain ⟨rfl, _⟩ := hx.s_eq
        obtain ⟨rfl, _⟩ := hy.s_eq
        refine ⟨run_guard_s (by simp) (by simp), ?_, by simp, by simp, by simp, by simp, by simp⟩
        have hu : P.underlying T = some .bool := by unfold isBoolT at hT; split at hT <;> simp_all
        show (Op.equalIn (9999 + 1) T _ _).run P w = _
        generalize 9999 = dd
        simp [Op.equalIn, run_under hu, Sem.run, pure]
      · cases hq
    · split at hq
      · rename_i xs ys hT
        split at hq
        · rename_i X Y zs hX hY hZ
          split at hq
          case isFalse => cases hq
          rename_i hft
          simp only [Bool.and_eq_true] at hft
          rw [allS_eq hX] at hx
          rw [allS_eq hY] at hy
          obtain rfl := hx.agg_plain
          obtain rfl := hy.agg_plain
          exact ⟨run_guard_plain hp hT, hp.eq T hT zs X Y q hZ hft.1 hft.2 hq w, by simp, by simp, by simp, by simp, by simp⟩
        · cases hq
      · cases hq
    · cases hq
  unfold abin at h
  split at h
  · obtain ⟨rfl, _⟩ := hx.s_eq
    obtain ⟨rfl, _⟩ := hy.s_eq
    obtain ⟨z, h1, h2, h3⟩ := run_ashift (P := P) (w := w) (k' := ‹IntKind›) h T
    exact ⟨z, h1, h2, by simp [run_guard_s (P := P) (w := w) (op := .shl) (T := T) (x := xo) (y := yo) (a := .int _ _) (b := .int _ _), h3]⟩
  · obtain ⟨rfl, _⟩ := hx.s_eq
    obtain ⟨rfl, _⟩ := hy.s_eq
    obtain ⟨z, h1, h2, h3⟩ := run_ashift (P := P) (w := w) (k' := ‹IntKind›) h T
    exact ⟨z, h1, h2, by simp [run_guard_s (P := P) (w := w) (op := .shr) (T := T) (x := xo) (y := yo) (a := .int _ _) (b := .int _ _), h3]⟩
  · split at h
    · rename_i hk
      subst hk
      obtain ⟨rfl, _⟩ := hx.s_eq
      obtain ⟨rfl, _⟩ := hy.s_eq
      obtain ⟨z, h1, h2, h3⟩ := run_aint (P := P) (w := w) h T
      exact ⟨z, h1, h2, by simp [run_guard_s (P := P) (w := w) (T := T) (x := xo) (y := yo) (a := .int _ _) (b := .int _ _), h3]⟩
    · cases h
  · obtain ⟨rfl, _⟩ := hx.s_eq
    obtain ⟨rfl, _⟩ := hy.s_eq
    obtain ⟨z, h1, h2, h3⟩ := run_astr (P := P) (w := w) h T
    exact ⟨z, h1, h2, by simp [run_guard_s (P := P) (w := w) (T := T) (x := xo) (y := yo) (a := .string _) (b := .string _), h3]⟩
  · simp only [Option.map_eq_some_iff] at h
    obtain ⟨q, hq, rfl⟩ := h
    obtain ⟨q', he, h1, h2, n1, n2, n3, n4, n5⟩ := key (u := .s (.bool q)) (by simpa using hq) ⟨q, rfl⟩
    cases he
    refine ⟨_, rfl, rfl, ?_⟩
    simp only [Sem.run_bind, h1, Result.andThen_ok]
    unfold binOp
    split <;> simp_all [Sem.run, pure]
  · simp only [Option.map_eq_some_iff] at h
    obtain ⟨q, hq, rfl⟩ := h
    obtain ⟨q', he, h1, h2, n1, n2, n3, n4, n5⟩ := key (u := .s (.bool q)) (by simpa using hq) ⟨q, rfl⟩
    cases he
    refine ⟨_, rfl, rfl, ?_⟩
    simp only [Sem.run_bind, h1, Result.andThen_ok]
    unfold binOp
    split <;> simp_all [Sem.run, pure]
  · cases h
end
end Go.Proofs.Ytahgddfnbjpfiaa.Am

/- An abstract machine over values: operations on their operands' values. -/
set_option linter.unusedVariables false
set_option linter.unusedSimpArgs false
namespace Go.Proofs.Ytahgddfnbjpfiaa.Am
open Go Go.RowKit

def byteAt (s : ByteArray) (i : Nat) : UInt8 := s.data.toList.getD i 0
def asN : V → Option Nat
  | .s (.int _ n) => if 0 ≤ n then some n.toNat else none
  | _ => none
/-- A value's cells, where it is one that can be stored. -/
def cellsV : V → Option (List V)
  | .agg cs => some cs
  | v => if cellish v then some [v] else none
def setAt (row : List V) (col : Nat) (cs : List V) : List V := row.take col ++ cs ++ row.drop (col + cs.length)
def cellsZ : Value → List V
  | .agg xs => xs.toList.map cellOf
  | v => [ofVal v]
def afill (pl : Nat → Option (Nat × Nat)) : List V → List (Nat × V) → Option (List V)
  | cs, [] => some cs
  | cs, (i, v) :: r => match pl i, cellsV v with
    | some (o, z), some vs => if vs.length = z ∧ o + z ≤ cs.length then afill pl (setAt cs o (vs.map wk)) r else none
    | _, _ => none
def aload (P : Program) (h : Hp) (T : TypeId) (p : V) : Option V :=
  match aggo P T, szo P T with
  | some g, some z => match p with
    | .pc cs => if g then (if z ≤ cs.length then some (.agg (cs.take z)) else none) else (if 0 < cs.length then some (cs.getD 0 .undef) else none)
    | .ptr b r k => match h b with
      | some B => if g then (if r < B.rows.length ∧ k + z ≤ B.size then some (.agg (((B.rows.getD r []).drop k).take z)) else none)
          else (if r < B.rows.length ∧ k < B.size then some (cellAt B.rows r k) else none)
      | none => none
    | .glb q => match gtab P q with
      | some vs => if g then (if z ≤ vs.length then some (.agg ((vs.take z).map .s)) else none) else (if 0 < vs.length then some (.s (vs.getD 0 Go.undef)) else none)
      | none => none
    | _ => none
  | _, _ => none
def bnd (v : Option V) (d : Nat) : Option Nat := match v with
  | none => some d
  | some v => asN v
def aslice (P : Program) (h : Hp) (T : TypeId) (x : V) (lo hi mx : Option V) : Option V :=
  match seqo P T, x, mx with
  | .str, .s (.string s), none => match bnd lo 0, bnd hi s.size with
    | some l, some r => if l ≤ r ∧ r ≤ s.size then some (.s (.string (s.extract l r))) else none
    | _, _ => none
  | .slice _ z _, .sl rows, none => match bnd lo 0, bnd hi rows.length with
    | some l, some r => if l ≤ r ∧ r ≤ rows.length ∧ (∀ q ∈ rows, q.length = z) then some (.sl ((rows.drop l).take (r - l))) else none
    | _, _ => none
  | .slice _ z _, .sl rows, some mx => match bnd lo 0, bnd hi rows.length, asN mx with
    | some l, some r, some m => if l ≤ r ∧ r ≤ m ∧ m ≤ rows.length ∧ hi.isSome ∧ (∀ q ∈ rows, q.length = z) then (if l = m then some .cap0 else some (.sl ((rows.drop l).take (r - l)))) else none
    | _, _, _ => none
  | .slice _ _ _, .cap0, none => match bnd lo 0, bnd hi 0 with
    | some 0, some 0 => some .cap0
    | _, _ => none
  | .slice _ z _, .loc b off len cap, mx => match bnd lo 0, bnd hi len, bnd mx cap with
    | some l, some r, some m => match h b with
      | some B => if l ≤ r ∧ r ≤ m ∧ m ≤ cap ∧ (hi.isSome ∨ mx.isNone) ∧ B.size = z then some (.loc b (off + l) (r - l) (m - l)) else none
      | none => none
    | _, _, _ => none
  | _, _, _ => none
def afield (P : Program) (S : TypeId) (x : V) (f : Nat) : Option V :=
  match fldo P S f, x with
  | some (o, z, g), .agg cs => if g then (if o + z ≤ cs.length then some (.agg ((cs.drop o).take z)) else none) else (if o < cs.length then some (cs.getD o .undef) else none)
  | _, _ => none
def afieldAddr (P : Program) (S : TypeId) (x : V) (f : Nat) : Option V :=
  match fldo P S f with
  | some (o, z, _) => if z = 0 then none else match x with
    | .ptr b r k => some (.ptr b r (k + o))
    | .pc cs => if o < cs.length then some (.pc (cs.drop o)) else none
    | _ => none
  | none => none
def aindexAddr (P : Program) (h : Hp) (T : TypeId) (x ix : V) : Option V :=
  match seqo P T, asN ix with
  | .slice _ z _, some i => match x with
    | .sl rows => if i < rows.length ∧ 0 < z ∧ (∀ r ∈ rows, r.length = z) then some (.pc (rows.getD i [])) else none
    | .loc b off len cap => match h b with
      | some B => if i < len ∧ B.size = z then some (.ptr b (off + i) 0) else none
      | none => none
    | _ => none
  | .array n _ z, some i => if i < n ∧ 0 < z then (match x with
    | .ptr b r k => some (.ptr b r (k + i * z))
    | .pc cs => if i * z < cs.length then some (.pc (cs.drop (i * z))) else none
    | _ => none) else none
  | _, _ => none
def aindex (P : Program) (T : TypeId) (x ix : V) : Option V :=
  match seqo P T, x, asN ix with
  | .str, .s (.string s), some i => if i < s.size then some (.s (.int .u8 (byteAt s i).toNat)) else none
  | .array n e z, .agg cs, some i => match aggo P e with
    | some true => if i < n ∧ i * z + z ≤ cs.length then some (.agg ((cs.drop (i * z)).take z)) else none
    | some false => if i < n ∧ i * z < cs.length then some (cs.getD (i * z) .undef) else none
    | none => none
  | _, _, _ => none
/-- Where the parts of a struct or of an array lie. -/
inductive Pl where
  | fields (l : List (Nat × Nat))
  | elems (size : Nat)
  | other
def plc (P : Program) (T : TypeId) : Pl := match P.underlying T with
  | some (.struct fs) => match fs.toList.mapM (fun f => (P.info? f.type).map fun i => (f.offset, i.size)) with
    | some l => .fields l
    | none => .other
  | some (.array _ e) => match P.info? e with
    | some ie => .elems ie.size
    | none => .other
  | _ => .other
def abuild (P : Program) (e : Operand → V) (T : TypeId) (parts : List (Nat × Operand)) : Option V :=
  match zro P T, plc P T with
  | some z, .fields l => (afill (fun i => l[i]?) (cellsZ z) (parts.map fun q => (q.1, e q.2))).map .agg
  | some z, .elems sz => (afill (fun i => some (i * sz, sz)) (cellsZ z) (parts.map fun q => (q.1, e q.2))).map .agg
  | _, _ => none
def alen (P : Program) (T : TypeId) (x : V) : Option V :=
  match seqo P T, x with
  | .str, .s (.string s) => some (.s (.int .i64 s.size))
  | .slice _ _ _, .sl rows => some (.s (.int .i64 rows.length))
  | .slice _ _ _, .loc _ _ n _ => some (.s (.int .i64 n))
  | .slice _ _ _, .cap0 => some (.s (.int .i64 0))
  | .array n _ _, _ => some (.s (.int .i64 n))
  | _, _ => none
def acap (P : Program) (T : TypeId) (x : V) : Option V :=
  match seqo P T, x with
  | .slice _ _ _, .loc _ _ _ n => some (.s (.int .i64 n))
  | .slice _ _ _, .cap0 => some (.s (.int .i64 0))
  | _, _ => none
def amin : List V → Option V
  | [.s (.int k x), .s (.int k' y)] => if k = k' then some (.s (.int k (if y < x then y else x))) else none
  | _ => none
def amax : List V → Option V
  | [.s (.int k x), .s (.int k' y)] => if k = k' then some (.s (.int k (if x < y then y else x))) else none
  | _ => none
/-- The rows of a slice. -/
def rowsOf (h : Hp) : V → Option (List (List V))
  | .sl rows => some rows
  | .cap0 => some []
  | .loc b off len _ => match h b with
    | some B => if off + len ≤ B.rows.length then some ((B.rows.drop off).take len) else none
    | none => none
  | _ => none
def bytesOf : List (List V) → Option (List Int)
  | [] => some []
  | [.s (.int .u8 n)] :: l => (bytesOf l).map (n :: ·)
  | _ => none
def strOf (l : List Int) : ByteArray := ⟨(l.map fun n => UInt8.ofNat n.toNat).toArray⟩
def aconv (P : Program) (h : Hp) (src dst : TypeId) (x : V) : Option V :=
  match P.underlying src, P.underlying dst, x with
  | some _, some (.int k), .s (.int _ n) => some (.s (.int k (k.wrap n)))
  | some .string, some .string, .s (.string b) => some (.s (.string b))
  | some (.slice e), some .string, x => match P.underlying e, rowsOf h x with
    | some (.int .u8), some rows => (bytesOf rows).map fun l => .s (.string (strOf l))
    | _, _ => none
  | _, _, _ => none

def pval (P : Program) (plain : TypeId → Bool) (h : Hp) (e : Operand → V) : Op → Option V
  | .move x | .assign x => some (e x)
  | .pick c a b => match e c with
    | .s (.bool t) => some (if t then e a else e b)
    | _ => none
  | .load T a => aload P h T (e a)
  | .nilCheck x => match e x with
    | .ptr b r k => some (.ptr b r k)
    | .pc cs => some (.pc cs)
    | .fn f cs => some (.fn f cs)
    | _ => none
  | .binOp op T x y _ => abin P plain op T (e x) (e y)
  | .unOp op _ x => aun op (e x)
  | .convert src dst x => aconv P h src dst (e x)
  | .slice T x lo hi mx => aslice P h T (e x) (lo.map e) (hi.map e) (mx.map e)
  | .field T x f => afield P T (e x) f
  | .fieldAddr T x f => afieldAddr P T (e x) f
  | .indexAddr T x i => aindexAddr P h T (e x) (e i)
  | .index T x i => aindex P T (e x) (e i)
  | .extract x i => match e x with
    | .tup vs => vs[i]?
    | _ => none
  | .makeFunc fn first caps => match fn with
    | .func f => if first = #[] then some (.fn f (caps.toList.map e)) else none
    | _ => none
  | .build T parts => abuild P e T parts.toList
  | .call cl => match cl.callee with
    | .builtin .len => match cl.args.toList, cl.argTypes.toList with
      | [x], [T] => alen P T (e x)
      | _, _ => none
    | .builtin .cap => match cl.args.toList, cl.argTypes.toList with
      | [x], [T] => acap P T (e x)
      | _, _ => none
    | .builtin .min => amin (cl.args.toList.map e)
    | .builtin .max => amax (cl.args.toList.map e)
    | _ => none
  | _ => none
end Go.Proofs.Ytahgddfnbjpfiaa.Am

/- An abstract machine over values: the operations that turn no memory are right. -/
set_option linter.unusedVariables false
set_option linter.unusedSimpArgs false
namespace Go.Proofs.Ytahgddfnbjpfiaa.Am
open Go Go.RowKit

section
variable {fv : Nat → Value} {w : World} {ok : Nat → Prop} {μ : Mu}
theorem Rp.pc_inv {cs : List V} {x : Value} (h : Rp fv w ok μ (.pc cs) x) : ∃ (ad : Addr) (g : Nat → Value), x = .pointer (some ad) ∧ ok ad.block ∧ (∀ j, j < cs.length → w.cell? (ad.add j) = some (g j)) ∧ ∀ j, j < cs.length → Dp w ok (cs.getD j .undef) (g j) := by
  cases h with | pc _ ad g hb hc hr => exact ⟨ad, g, rfl, hb, hc, hr⟩
theorem Rp.ptr_inv {b r k : Nat} {x : Value} (h : Rp fv w ok μ (.ptr b r k) x) : ∃ q base size, μ b = some (.real q base size) ∧ x = .pointer (some ⟨q, base + (r * size + k), none⟩) := by
  cases h with | ptr _ _ _ q base size h => exact ⟨q, base, size, h, rfl⟩
theorem Rp.agg_inv {cs : List V} {x : Value} (h : Rp fv w ok μ (.agg cs) x) : ∃ xs : Array Value, x = .agg xs ∧ xs.size = cs.length ∧ ∀ i, i < cs.length → Rp fv w ok μ (cs.getD i .undef) (xs.getD i Go.undef) := by
  cases h with | agg _ xs hl h => exact ⟨xs, rfl, hl, h⟩
theorem Rp.tup_inv {cs : List V} {x : Value} (h : Rp fv w ok μ (.tup cs) x) : ∃ xs : Array Value, x = .tuple xs ∧ xs.size = cs.length ∧ ∀ i, i < cs.length → Rp fv w ok μ (cs.getD i .undef) (xs.getD i Go.undef) := by
  cases h with | tup _ xs hl h => exact ⟨xs, rfl, hl, h⟩
theorem Rp.fn_inv {f : Nat} {cs : List V} {x : Value} (h : Rp fv w ok μ (.fn f cs) x) : ∃ xs : Array Value, x = .func (.func f) #[] xs ∧ xs.size = cs.length ∧ ∀ i, i < cs.length → Rp fv w ok μ (cs.getD i .undef) (xs.getD i Go.undef) := by
  cases h with | fn _ _ xs hl h => exact ⟨xs, rfl, hl, h⟩
theorem Rp.sl_inv {rows : List (List V)} {x : Value} (h : Rp fv w ok μ (.sl rows) x) : ∃ (c size : Nat) (A : Option Addr) (g : Nat → Nat → Value), x = .slice A rows.length c ∧ rows.length ≤ c ∧ (∀ r ∈ rows, r.length = size) ∧
    (rows.length ≠ 0 → ∃ ad : Addr, A = some ad ∧ ok ad.block ∧ ∀ i j, i < rows.length → j < size → w.cell? (ad.add (i * size + j)) = some (g i j)) ∧ ∀ i j, i < rows.length → j < size → Dp w ok (cellAt rows i j) (g i j) := by
  cases h with | sl _ n c size A g hn hc hs hA hr => subst hn; exact ⟨c, size, A, g, rfl, hc, hs, hA, hr⟩
theorem Rp.loc_inv {b off len cap : Nat} {x : Value} (h : Rp fv w ok μ (.loc b off len cap) x) : len ≤ cap ∧ ((∃ k base size, μ b = some (.real k base size) ∧ x = .slice (some ⟨k, base + off * size, none⟩) len cap) ∨ (len = 0 ∧ cap = 0 ∧ ∃ A t, μ b = some t ∧ x = .slice A 0 0)) := by
  cases h with
  | loc _ _ _ _ k base size h hc => exact ⟨hc, .inl ⟨k, base, size, h, rfl⟩⟩
  | loc0 _ _ A t h => exact ⟨Nat.le_refl _, .inr ⟨rfl, rfl, A, t, h, rfl⟩⟩
theorem Rp.cap0_inv {x : Value} (h : Rp fv w ok μ .cap0 x) : ∃ A, x = .slice A 0 0 := by cases h with | cap0 A => exact ⟨A, rfl⟩
theorem Rp.asN_eq {v : V} {x : Value} {n : Nat} (h : Rp fv w ok μ v x) (hn : asN v = some n) : ∃ k, x = .int k n := by
  unfold asN at hn
  split at hn
  · split at hn
    · rename_i k m h0
      cases hn
      obtain ⟨rfl, _⟩ := h.s_eq
      exact ⟨k, by congr 1; omega⟩
    · cases hn
  · cases hn
end

theorem run_getInt {P : Program} {w : World} {k : IntKind} {n : Int} : (asIntOf (.int k n)).run P w = .ok (k, n) w := by simp [asIntOf, Sem.run, pure]

section
variable {c : Cx} {h : Hp} {n : Nat} {μ : Mu} {w : World}
/-- The cells behind a pointer into a block of one's own. -/
theorem HS.at (H : HS c h n μ w) {b : Nat} {B : Blk} {q base size r j : Nat} (hb : h b = some B) (hm : μ b = some (.real q base size)) (hr : r < B.rows.length) (hj : j < B.size) :
    size = B.size ∧ ∃ x, w.cell? ⟨q, base + (r * B.size + j), none⟩ = some x ∧ (∀ o, (B.size ≠ 1 ∨ o = base + (r * B.size + j)) → w.frozen? ⟨q, o, none⟩ = false) ∧ R c h μ w (cellAt B.rows r j) x := by
  rcases H.blk b B hb with ⟨h1, h2⟩ | ⟨k, base', h1, h2, h3, h4, h5⟩
  · rw [h2] at hr; exact absurd hr (Nat.not_lt_zero _)
  · rw [hm] at h1
    cases h1
    exact ⟨rfl, h5 r j hr hj⟩

theorem load_sound (H : HS c h n μ w) {T : TypeId} {p v : V} {x : Value} (hp : R c h μ w p x) (hv : aload c.P h T p = some v) : ∃ y, (Instr.loadAt T x).run c.P w = .ok y w ∧ R c h μ w v y := by
  unfold aload at hv
  split at hv
  · rename_i g z hg hz
    split at hv
    · rename_i cs
      obtain ⟨ad, f, rfl, hok, hc, hr⟩ := hp.pc_inv
      cases g with
      | true =>
        simp only [if_true] at hv
        split at hv
        · rename_i hl
          cases hv
          refine ⟨.agg ((List.range z).map f).toArray, ?_, ?_⟩
          · simp [Instr.loadAt, Instr.sureAddr, loadVar, run_isAgg hg, run_size hz, run_loadCells w ad z f (fun j hj => hc j (by omega)), Sem.run, pure]
          · refine .agg _ _ (by simp; omega) fun i hi => ?_
            have hi' : i < z := by simp at hi; omega
            have h1 : (cs.take z).getD i .undef = cs.getD i .undef := by simp [List.getD_eq_getElem?_getD, List.getElem?_take, hi']
            rw [h1]
            have := (hr i (by omega)).R (fvals := c.fvals) (μ := μ)
            simpa [hi'] using this
        · cases hv
      | false =>
        simp only [Bool.false_eq_true, if_false] at hv
        split at hv
        · rename_i hl
          cases hv
          refine ⟨f 0, ?_, (hr 0 hl).R⟩
          have h0 := hc 0 hl
          have ha : ad.add 0 = ad := by simp [Addr.add]
          rw [ha] at h0
          simp [Instr.loadAt, Instr.sureAddr, loadVar, run_isAgg hg, run_load, h0, Sem.run, pure]
        · cases hv
    · rename_i b r k
      obtain ⟨q, base, size, hm, rfl⟩ := hp.ptr_inv
      split at hv
      · rename_i B hb
        cases g with
        | true =>
          simp only [if_true] at hv
          split at hv
          · rename_i hl
            cases hv
            by_cases hz0 : B.size = 0
            · have hz' : z = 0 := by omega
              subst hz'
              refine ⟨.agg #[], ?_, by simpa using (Rp.agg [] #[] rfl (fun i hi => absurd hi (Nat.not_lt_zero _)))⟩
              have := run_loadCells (P := c.P) w ⟨q, base + (r * size + k), none⟩ 0 (fun _ => Go.undef) (fun j hj => absurd hj (Nat.not_lt_zero _))
              simp at this
              simp [Instr.loadAt, Instr.sureAddr, loadVar, run_isAgg hg, run_size hz, this, Sem.run, pure]
            · obtain ⟨hs, _⟩ := H.at hb hm hl.1 (show 0 < B.size by omega)
              subst hs
              have hcell : ∀ j, ∃ x, j < z → w.cell? ⟨q, base + (r * B.size + k) + j, none⟩ = some x ∧ R c h μ w (cellAt B.rows r (k + j)) x := by
                intro j
                by_cases hj : j < z
                · obtain ⟨_, x, h1, _, h3⟩ := H.at hb hm hl.1 (show k + j < B.size by omega)
                  exact ⟨x, fun _ => ⟨by rw [show base + (r * B.size + k) + j = base + (r * B.size + (k + j)) by omega]; exact h1, h3⟩⟩
                · exact ⟨Go.undef, fun h => absurd h hj⟩
              obtain ⟨f, hf⟩ := Classical.axiomOfChoice hcell
              refine ⟨.agg ((List.range z).map f).toArray, ?_, ?_⟩
              · have := run_loadCells (P := c.P) w ⟨q, base + (r * B.size + k), none⟩ z f (fun j hj => by rw [add_plain]; exact (hf j hj).1)
                simp [Instr.loadAt, Instr.sureAddr, loadVar, run_isAgg hg, run_size hz, this, Sem.run, pure]
              · have hlen : (B.rows.getD r []).length = B.size := by
                  rcases H.blk b B hb with ⟨h1, h2⟩ | ⟨k', base', h1, h2, h3, h4, h5⟩
                  · rw [hm] at h1; cases h1
                  · exact h4 _ (by rw [List.getD_eq_getElem?_getD, List.getElem?_eq_getElem hl.1]; exact List.getElem_mem _)
                refine .agg _ _ (by simp only [List.length_take, List.length_drop, hlen, List.size_toArray, List.length_map, List.length_range]; omega) fun i hi => ?_
                have hi' : i < z := by simp at hi; omega
                have h1 : (((B.rows.getD r []).drop k).take z).getD i .undef = cellAt B.rows r (k + i) := by simp [cellAt, List.getD_eq_getElem?_getD, List.getElem?_take, hi', List.getElem?_drop]
                rw [h1]
                simpa [hi'] using (hf i hi').2
          · cases hv
        | false =>
          simp only [Bool.false_eq_true, if_false] at hv
          split at hv
          · rename_i hl
            cases hv
            obtain ⟨hs, x, h1, _, h3⟩ := H.at hb hm hl.1 hl.2
            subst hs
            exact ⟨x, by simp [Instr.loadAt, Instr.sureAddr, loadVar, run_isAgg hg, run_load, h1, Sem.run, pure], h3⟩
          · cases hv
      · cases hv
    · rename_i q
      obtain rfl : x = .pointer (some ⟨q, 0, none⟩) := by cases hp; rfl
      split at hv
      · rename_i vs hvs
        obtain ⟨hfl, hcell⟩ := (c.inv w H.fr).2 q vs hvs
        have hD : ∀ j, j < vs.length → flat (vs.getD j Go.undef) = true := fun j hj => by
          have h1 : vs.getD j Go.undef = vs[j] := by simp [List.getD_eq_getElem?_getD, hj]
          rw [h1]; exact hfl _ (List.getElem_mem hj)
        cases g with
        | true =>
          simp only [if_true] at hv
          split at hv
          · rename_i hl
            cases hv
            refine ⟨.agg ((List.range z).map fun j => vs.getD j Go.undef).toArray, ?_, ?_⟩
            · simp [Instr.loadAt, Instr.sureAddr, loadVar, run_isAgg hg, run_size hz, run_loadCells w ⟨q, 0, none⟩ z (fun j => vs.getD j Go.undef) (fun j hj => by rw [add_plain, Nat.zero_add]; exact hcell j (by omega)), Sem.run, pure]
            · refine .agg _ _ (by simp; omega) fun i hi => ?_
              have hi' : i < z := by simp at hi; omega
              have hi2 : i < vs.length := by omega
              have h1 : ((vs.take z).map V.s).getD i .undef = .s (vs.getD i Go.undef) := by simp [List.getD_eq_getElem?_getD, List.getElem?_take, hi', hi2]
              rw [h1]
              have := Rp.s (fvals := c.fvals) (w := w) (ok := okB c h μ w) (μ := μ) _ (hD i hi2)
              simpa [hi'] using this
          · cases hv
        | false =>
          simp only [Bool.false_eq_true, if_false] at hv
          split at hv
          · rename_i hl
            cases hv
            refine ⟨vs.getD 0 Go.undef, ?_, .s _ (hD 0 hl)⟩
            simp [Instr.loadAt, Instr.sureAddr, loadVar, run_isAgg hg, run_load, hcell 0 hl, Sem.run, pure]
          · cases hv
      · cases hv
    · cases hv
  · cases hv

theorem fldo_inv {P : Program} {S : TypeId} {f o z : Nat} {g : Bool} (hf : fldo P S f = some (o, z, g)) : ∃ fs fl, P.underlying S = some (.struct fs) ∧ fs[f]? = some fl ∧ fl.offset = o ∧ szo P fl.type = some z ∧ aggo P fl.type = some g := by
  unfold fldo at hf
  split at hf
  · rename_i fs hu
    split at hf
    · rename_i fl hfl
      split at hf
      · rename_i z' g' h1 h2
        cases hf
        exact ⟨fs, fl, hu, hfl, rfl, h1, h2⟩
      · cases hf
    · cases hf
  · cases hf

theorem run_part_agg {P : Program} {w : World} {T : TypeId} {xs : Array Value} {o z : Nat} (hg : aggo P T = some true) (hz : szo P T = some z) : (part T xs o).run P w = .ok (.agg (xs.extract o (o + z))) w := by
  simp [part, run_isAgg hg, run_size hz, Sem.run, pure]
theorem run_part_one {P : Program} {w : World} {T : TypeId} {xs : Array Value} {o : Nat} (hg : aggo P T = some false) (ho : o < xs.size) : (part T xs o).run P w = .ok (xs.getD o Go.undef) w := by
  simp [part, run_isAgg hg, ho, Sem.run, pure]

theorem field_sound {S : TypeId} {f : Nat} {p v : V} {x : Value} (hp : R c h μ w p x) (hv : afield c.P S p f = some v) : ∃ y, (Instr.field S x f).run c.P w = .ok y w ∧ R c h μ w v y := by
  unfold afield at hv
  split at hv
  · rename_i o z g cs hf
    obtain ⟨fs, fl, hu, hfl, ho, hz, hg⟩ := fldo_inv hf
    obtain ⟨xs, rfl, hl, hr⟩ := hp.agg_inv
    cases g with
    | true =>
      simp only [if_true] at hv
      split at hv
      · rename_i hb
        cases hv
        exact ⟨_, by simp [Instr.field, run_under hu, hfl, asAgg, ho, run_part_agg hg hz, Sem.run, pure], Rp.part hl hr o z hb⟩
      · cases hv
    | false =>
      simp only [Bool.false_eq_true, if_false] at hv
      split at hv
      · rename_i hb
        cases hv
        have h1 := run_part_one (P := c.P) (w := w) (xs := xs) (o := o) hg (by omega)
        exact ⟨xs.getD o Go.undef, by simp only [Instr.field, Sem.run_bind, run_under hu, hfl, asAgg, ho, Result.andThen_ok, Sem.run_pure, h1], hr o hb⟩
      · cases hv
  · cases hv

theorem fieldAddr_sound {S : TypeId} {f : Nat} {p v : V} {x : Value} (hp : R c h μ w p x) (hv : afieldAddr c.P S p f = some v) : ∃ y, (Instr.fieldAt S x f).run c.P w = .ok y w ∧ R c h μ w v y := by
  unfold afieldAddr at hv
  split at hv
  · rename_i o z g hf
    obtain ⟨fs, fl, hu, hfl, ho, hz, hg⟩ := fldo_inv hf
    split at hv
    · cases hv
    · rename_i hz0
      have hrun : ∀ ad : Addr, (Instr.fieldAt S (.pointer (some ad)) f).run c.P w = .ok (.pointer (some (ad.add o))) w := by
        intro ad
        simp [Instr.fieldAt, run_under hu, hfl, Instr.sureAddr, fieldPlace, run_size hz, hz0, ho, Sem.run, pure]
      split at hv
      · rename_i b r k
        cases hv
        obtain ⟨q, base, size, hm, rfl⟩ := hp.ptr_inv
        refine ⟨_, hrun _, ?_⟩
        rw [add_plain, show base + (r * size + k) + o = base + (r * size + (k + o)) by omega]
        exact .ptr b r (k + o) q base size hm
      · rename_i cs
        split at hv
        · rename_i hlt
          cases hv
          obtain ⟨ad, f', rfl, hok, hc, hr⟩ := hp.pc_inv
          refine ⟨_, hrun _, .pc _ _ (fun j => f' (o + j)) (by rw [add_block]; exact hok) (fun j hj => ?_) fun j hj => ?_⟩
          · rw [add_add]; exact hc _ (by simp at hj; omega)
          · have h1 : (cs.drop o).getD j .undef = cs.getD (o + j) .undef := by simp [List.getD_eq_getElem?_getD, List.getElem?_drop]
            rw [h1]; exact hr _ (by simp at hj; omega)
        · cases hv
      · cases hv
  · cases hv

theorem seqo_slice {P : Program} {T e z b : Nat} (hs : seqo P T = .slice e z b) : P.underlying T = some (.slice e) ∧ szo P e = some z ∧ byo P e = some b := by
  unfold seqo at hs
  split at hs
  · rename_i e' hu
    split at hs
    · rename_i z' b' h1 h2; cases hs; exact ⟨hu, h1, h2⟩
    · cases hs
  · split at hs <;> cases hs
  · cases hs
  · cases hs
theorem seqo_array {P : Program} {T e z n : Nat} (hs : seqo P T = .array n e z) : P.underlying T = some (.array n e) ∧ szo P e = some z := by
  unfold seqo at hs
  split at hs
  · split at hs <;> cases hs
  · rename_i n' e' hu
    split at hs
    · rename_i z' h1; cases hs; exact ⟨hu, h1⟩
    · cases hs
  · cases hs
  · cases hs
theorem seqo_str {P : Program} {T : Nat} (hs : seqo P T = .str) : P.underlying T = some .string := by
  unfold seqo at hs
  split at hs
  · split at hs <;> cases hs
  · split at hs <;> cases hs
  · rename_i hu; exact hu
  · cases hs

theorem indexAddr_sound (H : HS c h n μ w) {T : TypeId} {p i v : V} {x y : Value} (hp : R c h μ w p x) (hi : R c h μ w i y) (hv : aindexAddr c.P h T p i = some v) : ∃ z, (Instr.indexAt T x y).run c.P w = .ok z w ∧ R c h μ w v z := by
  unfold aindexAddr at hv
  split at hv
  · rename_i e z b m hs hm
    obtain ⟨hu, hz, hb⟩ := seqo_slice hs
    obtain ⟨k, rfl⟩ := hi.asN_eq hm
    have hrun : ∀ (ad : Addr) len cap, m < len → (Instr.indexAt T (.slice (some ad) len cap) (.int k m)).run c.P w = .ok (.pointer (some (ad.add (m * z)))) w := by
      intro ad len cap hlt
      have h1 : (0 : Int) ≤ (m : Int) ∧ (m : Int) < (len : Int) := ⟨by omega, by omega⟩
      simp [Instr.indexAt, run_getInt, run_under hu, run_size hz, h1, Sem.run, pure, hlt]
    split at hv
    · rename_i rows
      split at hv
      · rename_i hlt
        cases hv
        obtain ⟨cp, size, A, g, rfl, hc, hsz, hA, hr⟩ := hp.sl_inv
        obtain ⟨ad, rfl, hok, hcell⟩ := hA (by omega)
        have hrow : rows.getD m [] ∈ rows := by rw [List.getD_eq_getElem?_getD, List.getElem?_eq_getElem hlt.1]; exact List.getElem_mem _
        have hs1 := hsz _ hrow
        have hs2 := hlt.2.2 _ hrow
        have hze : size = z := by omega
        subst hze
        refine ⟨_, hrun _ _ _ hlt.1, .pc _ _ (fun j => g m j) (by rw [add_block]; exact hok) (fun j hj => ?_) fun j hj => hr m j hlt.1 (by omega)⟩
        rw [add_add]; exact hcell m j hlt.1 (by omega)
      · cases hv
    · rename_i bb off len cap
      split at hv
      · rename_i B hB
        split at hv
        · rename_i hlt
          cases hv
          obtain ⟨hlc, ⟨q, base, size, hmu, rfl⟩ | ⟨h0, _⟩⟩ := hp.loc_inv
          · refine ⟨_, hrun _ _ _ hlt.1, ?_⟩
            have hsz : size = B.size := by
              rcases H.blk bb B hB with ⟨h1, _⟩ | ⟨k', base', h1, _⟩
              · rw [hmu] at h1; cases h1
              · rw [hmu] at h1; cases h1; rfl
            rw [add_plain, ← hlt.2, ← hsz, Nat.add_assoc, ← Nat.add_mul]
            exact .ptr bb (off + m) 0 q base size hmu
          · omega
        · cases hv
      · cases hv
    · cases hv
  · rename_i nn e z m hs hm
    obtain ⟨hu, hz⟩ := seqo_array hs
    obtain ⟨k, rfl⟩ := hi.asN_eq hm
    split at hv
    · rename_i hlt
      have hrun : ∀ (ad : Addr), (Instr.indexAt T (.pointer (some ad)) (.int k m)).run c.P w = .ok (.pointer (some (ad.add (m * z)))) w := by
        intro ad
        have h1 : (0 : Int) ≤ (m : Int) ∧ (m : Int) < (nn : Int) := ⟨by omega, by omega⟩
        simp [Instr.indexAt, run_getInt, run_under hu, run_size hz, h1, Instr.sureAddr, Sem.run, pure, hlt.1]
      split at hv
      · rename_i b r k'
        cases hv
        obtain ⟨q, base, size, hmu, rfl⟩ := hp.ptr_inv
        refine ⟨_, hrun _, ?_⟩
        rw [add_plain, show base + (r * size + k') + m * z = base + (r * size + (k' + m * z)) by omega]
        exact .ptr b r _ q base size hmu
      · rename_i cs
        split at hv
        · rename_i hl
          cases hv
          obtain ⟨ad, f', rfl, hok, hc, hr⟩ := hp.pc_inv
          refine ⟨_, hrun _, .pc _ _ (fun j => f' (m * z + j)) (by rw [add_block]; exact hok) (fun j hj => ?_) fun j hj => ?_⟩
          · rw [add_add]; exact hc _ (by simp at hj; omega)
          · have h1 : (cs.drop (m * z)).getD j .undef = cs.getD (m * z + j) .undef := by simp [List.getD_eq_getElem?_getD, List.getElem?_drop]
            rw [h1]; exact hr _ (by simp at hj; omega)
        · cases hv
      · cases hv
    · cases hv
  · cases hv
end
end Go.Proofs.Ytahgddfnbjpfiaa.Am
