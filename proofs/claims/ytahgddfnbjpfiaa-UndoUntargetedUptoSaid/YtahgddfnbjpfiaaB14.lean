/- Texts that the law's proof stands on: AmEv2. -/
import Derived.Test.YtahgddfnbjpfiaaB13
/- An abstract machine over values: steps, one lemma each, further. -/
set_option linter.unusedVariables false
set_option linter.unusedSimpArgs false
namespace Go.Proofs.Ytahgddfnbjpfiaa.Am
open Go Go.RowKit
section
variable {E : Env} {Q : Exit → St → Prop} {K : St → Prop} {σ : St} {t : Nat → V} {h : Hp} {n : Nat} {ops : Array Oper} {o : Oper} {rest : List Oper} {x y : Code} {v : V} {d : Nat}
theorem frzOf_at {args : List V} (b : Nat) (hb : (args.flatMap (touchA h)).contains b = false) : frzOf h args b = h b := by
  unfold frzOf frz
  simp only [hb, Bool.false_eq_true, if_false]
/-- A call that is handed rows of one's own as data: what it wasn't handed stays, what it was handed may still be read. -/
theorem x_callG {cl : Call} {g : FuncId} {caps args ds : List V} {r : V} {F : Fspec} {f : Operand} (hg : o.guard = none) (ho : o.op = .call cl) (hd : o.dst = some d) (hf : cl.callee = .value f) (hv : ev t f = .fn g caps) (hΓ : E.Γ g = some F) (ha : cl.args.toList.map (ev t) ++ caps = args) (he : expArgs h 0 args = some ds) (hF : F (phi E h args) ds r) (hr : ∀ z rows, r ≠ .own z rows)
    (k : ∀ h2 : Hp, (∀ b, (args.flatMap (touchA h)).contains b = false → h2 b = h b) → (∀ b B, h b = some B → ∃ q, h2 b = some ⟨B.size, B.rows, q⟩) → WO E ops rest Q ⟨upd t d r, h2, n⟩) : WO E ops (o :: rest) Q ⟨t, h, n⟩ := by
  have hfz : ∀ b B, h b = some B → ∃ q, frzOf h args b = some ⟨B.size, B.rows, q⟩ := by
    intro b B hB
    unfold frzOf frz
    split
    · exact ⟨false, by rw [hB]; rfl⟩
    · exact ⟨B.wr, hB⟩
  refine x_eff hg ?_
  rw [ho]
  refine wa_call hf hv hΓ ha he hF ?_
  rw [hd]
  unfold aret
  split
  · exact absurd rfl (hr _ _)
  · split
    · exact x_putS (k h (fun _ _ => rfl) fun b B hB => ⟨B.wr, hB⟩)
    · exact x_putS (k _ (fun b hb => frzOf_at b hb) hfz)
/-- A call that is handed rows of one's own as data: what it wasn't handed stays. -/
theorem x_callF {cl : Call} {g : FuncId} {caps args ds : List V} {r : V} {F : Fspec} {f : Operand} (hg : o.guard = none) (ho : o.op = .call cl) (hd : o.dst = some d) (hf : cl.callee = .value f) (hv : ev t f = .fn g caps) (hΓ : E.Γ g = some F) (ha : cl.args.toList.map (ev t) ++ caps = args) (he : expArgs h 0 args = some ds) (hF : F (phi E h args) ds r) (hr : ∀ z rows, r ≠ .own z rows)
    (k : ∀ h2 : Hp, (∀ b, (args.flatMap (touchA h)).contains b = false → h2 b = h b) → WO E ops rest Q ⟨upd t d r, h2, n⟩) : WO E ops (o :: rest) Q ⟨t, h, n⟩ := by
  refine x_eff hg ?_
  rw [ho]
  refine wa_call hf hv hΓ ha he hF ?_
  rw [hd]
  unfold aret
  split
  · exact (hr _ _ rfl).elim
  · simp only
    split
    · exact x_putS (k h fun _ _ => rfl)
    · exact x_putS (k (frzOf h args) fun b hb => frzOf_at b hb)
/-- .. and hands back a row of one's own. -/
theorem x_callFO {cl : Call} {g : FuncId} {caps args ds : List V} {z : Nat} {rows : List (List V)} {F : Fspec} {f : Operand} (hg : o.guard = none) (ho : o.op = .call cl) (hd : o.dst = some d) (hf : cl.callee = .value f) (hv : ev t f = .fn g caps) (hΓ : E.Γ g = some F) (ha : cl.args.toList.map (ev t) ++ caps = args) (he : expArgs h 0 args = some ds) (hF : F (phi E h args) ds (.own z rows))
    (k : ∀ (h2 : Hp) (cap : Nat), (∀ b, (args.flatMap (touchA h)).contains b = false → h2 b = h b) → rows.length ≤ cap → WO E ops rest Q ⟨upd t d (.loc n 0 rows.length cap), upd h2 n (some ⟨z, rows ++ spare z (cap - rows.length), true⟩), n + 1⟩) : WO E ops (o :: rest) Q ⟨t, h, n⟩ := by
  refine x_eff hg ?_
  rw [ho]
  refine wa_call hf hv hΓ ha he hF ?_
  rw [hd]
  unfold aret
  intro cap hc
  exact x_putS (k (frzOf h args) cap (fun b hb => frzOf_at b hb) hc)
/-- A quiet call that hands back data. -/
theorem x_callDS {cl : Call} {g : FuncId} {caps args ds : List V} {r : V} {F : Fspec} {f : Operand} (hf : quiet ops o = true) (hg : o.guard = none) (ho : o.op = .call cl) (hd : o.dst = some d) (hcl : cl.callee = .value f) (hv : ev t f = .fn g caps) (hΓ : E.Γ g = some F) (ha : cl.args.toList.map (ev t) ++ caps = args) (he : expArgs h 0 args = some ds) (hF : F (phi E h args) ds r) (hr : ∀ z rows, r ≠ .own z rows) (ht : args.flatMap (touchA h) = []) (k : WD E ops rest Q ⟨upd t d r, h, n⟩) : WD E ops (o :: rest) Q ⟨t, h, n⟩ := by
  refine x_opD hf hg hd ?_ k
  rw [ho]
  unfold qv qcl
  simp only [hcl, hv]
  unfold qcall
  simp only [hΓ, ha, he]
  refine ⟨r, hF, .inr ⟨ht, ?_⟩⟩
  split
  · exact absurd rfl (hr _ _)
  · rfl
/-- An open order with quiet operations among the others. -/
structure WX1 (E : Env) (ops : Array Oper) (l all : List Oper) (h0 : Hp) (Kb : Nat → Prop) (Q : Exit → St → Prop) (σ : St) : Prop where
  out : awpX1 E ops l (fun σ1 => awpX2 E ops h0 Kb 0 all (Q .normal) ⟨σ1.t, h0, σ.n⟩) σ
structure WX2 (E : Env) (ops : Array Oper) (h0 : Hp) (Kb : Nat → Prop) (i : Nat) (l : List Oper) (Q : Exit → St → Prop) (σ : St) : Prop where
  out : awpX2 E ops h0 Kb i l (Q .normal) σ
def QX1 (E : Env) (ops : Array Oper) (l all : List Oper) (h0 : Hp) (Kb : Nat → Prop) (n : Nat) (Q : Exit → St → Prop) : Exit → St → Prop := fun _ σ => awpX1 E ops l (fun σ1 => awpX2 E ops h0 Kb 0 all (Q .normal) ⟨σ1.t, h0, n⟩) σ
def QX2 (E : Env) (ops : Array Oper) (h0 : Hp) (Kb : Nat → Prop) (i : Nat) (l : List Oper) (Q : Exit → St → Prop) : Exit → St → Prop := fun _ σ => (allQ ops i = true ∨ ∀ b, Kb b → σ.h b = h0 b) ∧ awpX2 E ops h0 Kb (i + 1) l (Q .normal) σ
/-- The blocks that the quiet operations of a region read: a mark in the context. -/
structure Zm (L : List Nat) : Prop where
  mk' ::
/-- A heap with these blocks alone. -/
def kp (h : Hp) : List Nat → Hp
  | [] => fun _ => none
  | a :: l => fun b => if b = a then h a else kp h l b
theorem kp_same {h : Hp} {a : Nat} {l : List Nat} : kp h (a :: l) a = h a := by simp [kp]
theorem kp_ne {h : Hp} {a b : Nat} {l : List Nat} (hb : b ≠ a) : kp h (a :: l) b = kp h l b := by simp [kp, hb]
def inL : List Nat → Nat → Prop
  | [], _ => False
  | a :: l, b => b = a ∨ inL l b
theorem kp_some {h : Hp} : ∀ {l : List Nat} {b : Nat} {B : Blk}, kp h l b = some B → inL l b ∧ h b = some B
  | [], b, B, hb => by cases hb
  | a :: l, b, B, hb => by
    unfold kp at hb
    split at hb
    · rename_i e; subst e; exact ⟨.inl rfl, hb⟩
    · exact ⟨.inr (kp_some hb).1, (kp_some hb).2⟩
section
variable {all : List Oper} {h0 : Hp} {Kb : Nat → Prop}
theorem x_regX {i : Nat} {l : List Oper} (e : ops = List.toArray l) (ho : drawOk ops = false) (hx : drawX ops = true) (k : WX1 E ops l l h (fun b => b < n) Q ⟨t, h, n⟩) : W E (.region i ops true) Q ⟨t, h, n⟩ := ⟨by
  subst e
  simp only [awp, if_true, ho, Bool.false_eq_true, if_false]
  exact .inl ⟨hx, _, h, fun b B hb => ⟨Nat.lt_or_ge b n, hb⟩, k.out⟩⟩
/-- .. of which the quiet ones read only some blocks. -/
theorem x_regZ {i : Nat} {l : List Oper} {L : List Nat} (z : Zm L) (e : ops = List.toArray l) (ho : drawOk ops = false) (hx : drawX ops = true) (k : WX1 E ops l l h (inL L) Q ⟨t, kp h L, n⟩) : W E (.region i ops true) Q ⟨t, h, n⟩ := ⟨by
  subst e
  simp only [awp, if_true, ho, Bool.false_eq_true, if_false]
  exact .inl ⟨hx, _, _, fun b B hb => ⟨.inl (kp_some hb).1, (kp_some hb).2⟩, k.out⟩⟩
theorem x_x1nil (k : WX2 E ops h0 Kb 0 all Q ⟨t, h0, n⟩) : WX1 E ops [] all h0 Kb Q ⟨t, h, n⟩ := ⟨k.out⟩
theorem x_x1skip (hq : quietX ops o = false) (k : WX1 E ops rest all h0 Kb Q σ) : WX1 E ops (o :: rest) all h0 Kb Q σ := ⟨by
  simp only [awpX1, hq, Bool.false_eq_true, if_false]
  exact k.out⟩
theorem gd_imp {r s r' s' : Prop} (hr : r → r') (hs : s → s') (hg : gd ops o σ r s) : gd ops o σ r' s' := by
  unfold gd at hg ⊢
  split at hg
  · exact hr hg
  · split at hg
    · split at hg
      · exact ⟨fun e => hr (hg.1 e), fun e => hs (hg.2 e)⟩
      · exact hs hg
      · exact hg.elim
    · exact hg.elim
theorem x_x1q (hq : quietX ops o = true) (hf : fnFree o.op (ev t) = true) (k : WD E ops [o] (QX1 E ops rest all h0 Kb n Q) ⟨t, h, n⟩) : WX1 E ops (o :: rest) all h0 Kb Q ⟨t, h, n⟩ := ⟨by
  have hk := k.out
  simp only [awpD, quietX_quiet hq, if_true] at hk
  simp only [awpX1, hq, if_true]
  refine gd_imp ?_ ?_ hk
  · rintro ⟨v, h1, h2⟩
    exact ⟨v, ⟨h1, hf⟩, h2⟩
  · exact fun h2 => h2⟩
theorem x_kX1 (k : WX1 E ops rest all h0 Kb Q ⟨t, h, n⟩) : WQ (QX1 E ops rest all h0 Kb n Q) .normal ⟨t, h, n⟩ := ⟨k.out⟩
theorem x_x2nil {i : Nat} (k : WQ Q .normal σ) : WX2 E ops h0 Kb i [] Q σ := ⟨k.out⟩
theorem x_x2skip {i : Nat} (hq : quietX ops o = true) (k : WX2 E ops h0 Kb (i + 1) rest Q σ) : WX2 E ops h0 Kb i (o :: rest) Q σ := ⟨by
  simp only [awpX2, hq, if_true]
  exact k.out⟩
theorem put_h {dst : Option Tmp} {v : V} {σ : St} : (putS dst v σ).h = σ.h := by cases dst <;> rfl
theorem x_x2e {i : Nat} (hq : quietX ops o = false) (k : WO E ops [o] (QX2 E ops h0 Kb i rest Q) σ) : WX2 E ops h0 Kb i (o :: rest) Q σ := ⟨by
  have hk := k.out
  simp only [awpOps, QX2, put_h] at hk
  simp only [awpX2, hq, Bool.false_eq_true, if_false]
  exact gd_imp (fun h => h) (fun h => h.2) hk⟩
theorem x_kX2 {i : Nat} (hk : allQ ops i = true ∨ ∀ b, Kb b → h b = h0 b) (k : WX2 E ops h0 Kb (i + 1) rest Q ⟨t, h, n⟩) : WQ (QX2 E ops h0 Kb i rest Q) .normal ⟨t, h, n⟩ := ⟨⟨hk, k.out⟩⟩
theorem x_isX1 {l : List Oper} (k : WX1 E ops l all h0 Kb Q ⟨t, h, n⟩) : WX1 E ops l all h0 Kb Q ⟨t, h, n⟩ := k
theorem x_isX2 {i : Nat} {l : List Oper} (k : WX2 E ops h0 Kb i l Q σ) : WX2 E ops h0 Kb i l Q σ := k
end
/-- An open order whose new slices are data. -/
structure WY (E : Env) (ops : Array Oper) (l : List Oper) (Q : Exit → St → Prop) (σ : St) : Prop where
  out : awpY E ops l (Q .normal) σ
def QY (E : Env) (ops : Array Oper) (l : List Oper) (Q : Exit → St → Prop) : Exit → St → Prop := fun _ σ => awpY E ops l (Q .normal) σ
def isBs : Op → Bool
  | .buildSlice .. => true
  | _ => false
theorem x_regY {i : Nat} {l : List Oper} (e : ops = List.toArray l) (ho : drawOk ops = false) (hx : drawY ops = true) (k : WY E ops l Q ⟨t, h, n⟩) : W E (.region i ops true) Q ⟨t, h, n⟩ := ⟨by
  subst e
  simp only [awp, if_true, ho, Bool.false_eq_true, if_false]
  exact .inr (.inl ⟨hx, k.out⟩)⟩
theorem x_isY {l : List Oper} (k : WY E ops l Q ⟨t, h, n⟩) : WY E ops l Q ⟨t, h, n⟩ := k
theorem x_ynil (k : WQ Q .normal σ) : WY E ops [] Q σ := ⟨k.out⟩
theorem x_kY (k : WY E ops rest Q ⟨t, h, n⟩) : WQ (QY E ops rest Q) .normal ⟨t, h, n⟩ := ⟨k.out⟩
theorem qvY_of {op : Op} {e : Operand → V} {v : V} (hb : isBs op = false) (hq : qv E op e h v) : qvY E op e h v := by
  cases op <;> first | exact hq | cases hb
theorem x_yq (hq : quiet ops o = true) (hb : isBs o.op = false) (k : WD E ops [o] (QY E ops rest Q) ⟨t, h, n⟩) : WY E ops (o :: rest) Q ⟨t, h, n⟩ := ⟨by
  have hk := k.out
  simp only [awpD, hq, if_true] at hk
  simp only [awpY]
  refine gd_imp ?_ ?_ hk
  · rintro ⟨v, h1, h2⟩
    exact ⟨v, qvY_of hb h1, h2⟩
  · exact fun h2 => h2⟩
theorem x_gTY {j e : Nat} {want : Bool} (hf : isBs o.op = true) (hg : o.guard = some (j, want)) (hj : (ops[j]?).bind (·.dst) = some e) (hb : t e = .s (.bool want)) (k : WY E ops ({ o with guard := none } :: rest) Q ⟨t, h, n⟩) : WY E ops (o :: rest) Q ⟨t, h, n⟩ := ⟨by
  have hk := k.out
  simp only [awpY, gd] at hk ⊢
  simp only [hg, hj, hb]
  exact ⟨fun _ => hk, fun hh => absurd rfl hh⟩⟩
theorem x_gFY {j e : Nat} {want : Bool} (hf : isBs o.op = true) (hg : o.guard = some (j, want)) (hj : (ops[j]?).bind (·.dst) = some e) (hd : o.dst = some d) (hb : t e = .s (.bool !want)) (k : WY E ops rest Q ⟨upd t d .undef, h, n⟩) : WY E ops (o :: rest) Q ⟨t, h, n⟩ := ⟨by
  have hk := k.out
  simp only [awpY, gd, hg, hj, hb, hd, putS]
  exact ⟨fun hh => (by cases want <;> cases hh), fun _ => hk⟩⟩
theorem x_gUY' {j e : Nat} {want : Bool} {v : V} (hf : isBs o.op = true) (hg : o.guard = some (j, want)) (hj : (ops[j]?).bind (·.dst) = some e) (hd : o.dst = some d) (hb : t e = v) (hb2 : v = .undef) (k : WY E ops rest Q ⟨upd t d .undef, h, n⟩) : WY E ops (o :: rest) Q ⟨t, h, n⟩ := ⟨by
  have hk := k.out
  subst hb2
  simp only [awpY, gd, hg, hj, hb, hd, putS]
  exact hk⟩
theorem x_gTYt {j e : Nat} {b : Bool} (hf : isBs o.op = true) (hg : o.guard = some (j, true)) (hj : (ops[j]?).bind (·.dst) = some e) (hb : t e = .s (.bool b)) (hb2 : b = true) (k : WY E ops ({ o with guard := none } :: rest) Q ⟨t, h, n⟩) : WY E ops (o :: rest) Q ⟨t, h, n⟩ := x_gTY hf hg hj (by rw [hb, hb2]) k
theorem x_gFYt {j e : Nat} {b : Bool} (hf : isBs o.op = true) (hg : o.guard = some (j, true)) (hj : (ops[j]?).bind (·.dst) = some e) (hd : o.dst = some d) (hb : t e = .s (.bool b)) (hb2 : b = false) (k : WY E ops rest Q ⟨upd t d .undef, h, n⟩) : WY E ops (o :: rest) Q ⟨t, h, n⟩ := x_gFY hf hg hj hd (by rw [hb, hb2]; rfl) k
theorem x_gTYf {j e : Nat} {b : Bool} (hf : isBs o.op = true) (hg : o.guard = some (j, false)) (hj : (ops[j]?).bind (·.dst) = some e) (hb : t e = .s (.bool b)) (hb2 : b = false) (k : WY E ops ({ o with guard := none } :: rest) Q ⟨t, h, n⟩) : WY E ops (o :: rest) Q ⟨t, h, n⟩ := x_gTY hf hg hj (by rw [hb, hb2]) k
theorem x_gFYf {j e : Nat} {b : Bool} (hf : isBs o.op = true) (hg : o.guard = some (j, false)) (hj : (ops[j]?).bind (·.dst) = some e) (hd : o.dst = some d) (hb : t e = .s (.bool b)) (hb2 : b = true) (k : WY E ops rest Q ⟨upd t d .undef, h, n⟩) : WY E ops (o :: rest) Q ⟨t, h, n⟩ := x_gFY hf hg hj hd (by rw [hb, hb2]; rfl) k
theorem x_isGtY {j : Nat} (hg : o.guard = some (j, true)) (k : WY E ops (o :: rest) Q ⟨t, h, n⟩) : WY E ops (o :: rest) Q ⟨t, h, n⟩ := k
theorem x_isGfY {j : Nat} (hg : o.guard = some (j, false)) (k : WY E ops (o :: rest) Q ⟨t, h, n⟩) : WY E ops (o :: rest) Q ⟨t, h, n⟩ := k
theorem x_bsliceY {T el z b8 : TypeId} {len : Nat} {parts : Array (Nat × Operand)} {zv : Value} {cs : List V} {rows : List (List V)} (ho : o.op = .buildSlice T len parts) (hg : o.guard = none) (hd : o.dst = some d) (hq : seqo E.P T = .slice el z b8) (hzv : zro E.P el = some zv)
    (hf : afill (fun i => some (i * z, z)) (repCells (cellsZ zv) len) (parts.toList.map fun q => (q.1, ev t q.2)) = some cs) (hs : len * z ≤ 16777216 ∧ 0 < z ∧ (cellsZ zv).length = z) (hr : chunks z len cs = rows) (hfl : (parts.toList.all fun q => isFlat (ev t q.2)) = true ∧ cs.all isF1 = true) (k : WY E ops rest Q ⟨upd t d (.sl rows), h, n⟩) : WY E ops (o :: rest) Q ⟨t, h, n⟩ := ⟨by
  subst hr
  simp only [awpY, gd, hg, ho, hd, putS]
  refine ⟨_, ?_, k.out⟩
  simp only [qvY, qbs, hq, hzv, hf]
  refine ⟨hs, hfl.1, hfl.2, ?_⟩ <;> first | rfl | trivial⟩
/-- An open order with quiet operations among the others. -/
structure WW1 (E : Env) (ops : Array Oper) (l all : List Oper) (h0 : Hp) (Kb : Nat → Prop) (Q : Exit → St → Prop) (σ : St) : Prop where
  out : awpW1 E ops l (fun σ1 => awpW2 E ops h0 Kb 0 all (Q .normal) ⟨σ1.t, h0, σ.n⟩) σ
structure WW2 (E : Env) (ops : Array Oper) (h0 : Hp) (Kb : Nat → Prop) (i : Nat) (l : List Oper) (Q : Exit → St → Prop) (σ : St) : Prop where
  out : awpW2 E ops h0 Kb i l (Q .normal) σ
def QW1 (E : Env) (ops : Array Oper) (l all : List Oper) (h0 : Hp) (Kb : Nat → Prop) (n : Nat) (Q : Exit → St → Prop) : Exit → St → Prop := fun _ σ => awpW1 E ops l (fun σ1 => awpW2 E ops h0 Kb 0 all (Q .normal) ⟨σ1.t, h0, n⟩) σ
def QW2 (E : Env) (ops : Array Oper) (h0 : Hp) (Kb : Nat → Prop) (i : Nat) (l : List Oper) (Q : Exit → St → Prop) : Exit → St → Prop := fun _ σ => (allW ops i = true ∨ ∀ b, Kb b → σ.h b = h0 b) ∧ awpW2 E ops h0 Kb (i + 1) l (Q .normal) σ
section
variable {all : List Oper} {h0 : Hp} {Kb : Nat → Prop}
theorem x_regW {i : Nat} {l : List Oper} (e : ops = List.toArray l) (ho : drawOk ops = false) (hx : drawW ops = true) (k : WW1 E ops l l h (fun b => b < n) Q ⟨t, h, n⟩) : W E (.region i ops true) Q ⟨t, h, n⟩ := ⟨by
  subst e
  simp only [awp, if_true, ho, Bool.false_eq_true, if_false]
  exact .inr (.inr ⟨hx, _, h, fun b B hb => ⟨Nat.lt_or_ge b n, hb⟩, k.out⟩)⟩
/-- .. of which the quiet ones read only some blocks. -/
theorem x_regWZ {i : Nat} {l : List Oper} {L : List Nat} (z : Zm L) (e : ops = List.toArray l) (ho : drawOk ops = false) (hx : drawW ops = true) (k : WW1 E ops l l h (inL L) Q ⟨t, kp h L, n⟩) : W E (.region i ops true) Q ⟨t, h, n⟩ := ⟨by
  subst e
  simp only [awp, if_true, ho, Bool.false_eq_true, if_false]
  exact .inr (.inr ⟨hx, _, _, fun b B hb => ⟨.inl (kp_some hb).1, (kp_some hb).2⟩, k.out⟩)⟩
theorem x_w1nil (k : WW2 E ops h0 Kb 0 all Q ⟨t, h0, n⟩) : WW1 E ops [] all h0 Kb Q ⟨t, h, n⟩ := ⟨k.out⟩
theorem x_w1skip (hq : quietW ops o = false) (k : WW1 E ops rest all h0 Kb Q σ) : WW1 E ops (o :: rest) all h0 Kb Q σ := ⟨by
  simp only [awpW1, hq, Bool.false_eq_true, if_false]
  exact k.out⟩
theorem quietY_quiet {ops : Array Oper} {o : Oper} (hb : isBs o.op = false) (h : quietY ops o = true) : quiet ops o = true := by
  unfold quietY at h
  split at h
  · rename_i he; rw [he] at hb; cases hb
  · exact h
theorem x_w1q (hq : quietW ops o = true) (hb : isBs o.op = false) (hf : fnFree o.op (ev t) = true) (k : WD E ops [o] (QW1 E ops rest all h0 Kb n Q) ⟨t, h, n⟩) : WW1 E ops (o :: rest) all h0 Kb Q ⟨t, h, n⟩ := ⟨by
  have hk := k.out
  simp only [awpD, quietY_quiet hb (quietW_quiet hq), if_true] at hk
  simp only [awpW1, hq, if_true]
  refine gd_imp ?_ ?_ hk
  · rintro ⟨v, h1, h2⟩
    exact ⟨v, ⟨.inl (qvY_of hb h1), hf⟩, h2⟩
  · exact fun h2 => h2⟩
theorem x_bsliceW {T el z b8 : TypeId} {len : Nat} {parts : Array (Nat × Operand)} {zv : Value} {cs : List V} {rows : List (List V)} (hqw : quietW ops o = true) (ho : o.op = .buildSlice T len parts) (hg : o.guard = none) (hd : o.dst = some d) (hq : seqo E.P T = .slice el z b8) (hzv : zro E.P el = some zv)
    (hf : afill (fun i => some (i * z, z)) (repCells (cellsZ zv) len) (parts.toList.map fun q => (q.1, ev t q.2)) = some cs) (hs : len * z ≤ 16777216 ∧ 0 < z ∧ (cellsZ zv).length = z) (hr : chunks z len cs = rows) (hfl : (parts.toList.all fun q => isFlat (ev t q.2)) = true ∧ cs.all isF1 = true) (k : WW1 E ops rest all h0 Kb Q ⟨upd t d (.sl rows), h, n⟩) : WW1 E ops (o :: rest) all h0 Kb Q ⟨t, h, n⟩ := ⟨by
  subst hr
  simp only [awpW1, hqw, if_true, gd, hg, hd, putS]
  refine ⟨_, ⟨.inl ?_, ?_⟩, k.out⟩
  · rw [ho]
    simp only [qvY, qbs, hq, hzv, hf]
    refine ⟨hs, hfl.1, hfl.2, ?_⟩ <;> first | rfl | trivial
  · rw [ho]; rfl⟩
theorem x_bslice0W {T el z b8 : TypeId} {zv : Value} (hqw : quietW ops o = true) (ho : o.op = .buildSlice T 0 #[]) (hg : o.guard = none) (hd : o.dst = some d) (hq : seqo E.P T = .slice el z b8) (hzv : zro E.P el = some zv) (hz : 0 < z ∧ (cellsZ zv).length = z) (k : WW1 E ops rest all h0 Kb Q ⟨upd t d .cap0, h, n⟩) : WW1 E ops (o :: rest) all h0 Kb Q ⟨t, h, n⟩ := ⟨by
  simp only [awpW1, hqw, if_true, gd, hg, hd, putS]
  refine ⟨_, ⟨.inr ?_, ?_⟩, k.out⟩
  · rw [ho]
    exact ⟨rfl, rfl, rfl, el, z, b8, zv, hq, hzv, hz.1, hz.2⟩
  · rw [ho]; rfl⟩
theorem x_gTW {j e : Nat} {want : Bool} (hf : quietW ops o = true ∧ isBs o.op = true) (hg : o.guard = some (j, want)) (hj : (ops[j]?).bind (·.dst) = some e) (hb : t e = .s (.bool want)) (k : WW1 E ops ({ o with guard := none } :: rest) all h0 Kb Q ⟨t, h, n⟩) : WW1 E ops (o :: rest) all h0 Kb Q ⟨t, h, n⟩ := ⟨by
  have hk := k.out
  have hq2 : quietW ops { o with guard := none } = true := hf.1
  simp only [awpW1, hf.1, hq2, if_true, gd] at hk ⊢
  simp only [hg, hj, hb]
  exact ⟨fun _ => hk, fun hh => absurd rfl hh⟩⟩
theorem x_gFW {j e : Nat} {want : Bool} (hf : quietW ops o = true ∧ isBs o.op = true) (hg : o.guard = some (j, want)) (hj : (ops[j]?).bind (·.dst) = some e) (hd : o.dst = some d) (hb : t e = .s (.bool !want)) (k : WW1 E ops rest all h0 Kb Q ⟨upd t d .undef, h, n⟩) : WW1 E ops (o :: rest) all h0 Kb Q ⟨t, h, n⟩ := ⟨by
  have hk := k.out
  simp only [awpW1, hf.1, if_true, gd, hg, hj, hb, hd, putS]
  exact ⟨fun hh => (by cases want <;> cases hh), fun _ => hk⟩⟩
theorem x_gUW' {j e : Nat} {want : Bool} {v : V} (hf : quietW ops o = true ∧ isBs o.op = true) (hg : o.guard = some (j, want)) (hj : (ops[j]?).bind (·.dst) = some e) (hd : o.dst = some d) (hb : t e = v) (hb2 : v = .undef) (k : WW1 E ops rest all h0 Kb Q ⟨upd t d .undef, h, n⟩) : WW1 E ops (o :: rest) all h0 Kb Q ⟨t, h, n⟩ := ⟨by
  have hk := k.out
  subst hb2
  simp only [awpW1, hf.1, if_true, gd, hg, hj, hb, hd, putS]
  exact hk⟩
theorem x_gTWt {j e : Nat} {b : Bool} (hf : quietW ops o = true ∧ isBs o.op = true) (hg : o.guard = some (j, true)) (hj : (ops[j]?).bind (·.dst) = some e) (hb : t e = .s (.bool b)) (hb2 : b = true) (k : WW1 E ops ({ o with guard := none } :: rest) all h0 Kb Q ⟨t, h, n⟩) : WW1 E ops (o :: rest) all h0 Kb Q ⟨t, h, n⟩ := x_gTW hf hg hj (by rw [hb, hb2]) k
theorem x_gFWt {j e : Nat} {b : Bool} (hf : quietW ops o = true ∧ isBs o.op = true) (hg : o.guard = some (j, true)) (hj : (ops[j]?).bind (·.dst) = some e) (hd : o.dst = some d) (hb : t e = .s (.bool b)) (hb2 : b = false) (k : WW1 E ops rest all h0 Kb Q ⟨upd t d .undef, h, n⟩) : WW1 E ops (o :: rest) all h0 Kb Q ⟨t, h, n⟩ := x_gFW hf hg hj hd (by rw [hb, hb2]; rfl) k
theorem x_gTWf {j e : Nat} {b : Bool} (hf : quietW ops o = true ∧ isBs o.op = true) (hg : o.guard = some (j, false)) (hj : (ops[j]?).bind (·.dst) = some e) (hb : t e = .s (.bool b)) (hb2 : b = false) (k : WW1 E ops ({ o with guard := none } :: rest) all h0 Kb Q ⟨t, h, n⟩) : WW1 E ops (o :: rest) all h0 Kb Q ⟨t, h, n⟩ := x_gTW hf hg hj (by rw [hb, hb2]) k
theorem x_gFWf {j e : Nat} {b : Bool} (hf : quietW ops o = true ∧ isBs o.op = true) (hg : o.guard = some (j, false)) (hj : (ops[j]?).bind (·.dst) = some e) (hd : o.dst = some d) (hb : t e = .s (.bool b)) (hb2 : b = true) (k : WW1 E ops rest all h0 Kb Q ⟨upd t d .undef, h, n⟩) : WW1 E ops (o :: rest) all h0 Kb Q ⟨t, h, n⟩ := x_gFW hf hg hj hd (by rw [hb, hb2]; rfl) k
theorem x_isGtW {j : Nat} (hg : o.guard = some (j, true)) (k : WW1 E ops (o :: rest) all h0 Kb Q ⟨t, h, n⟩) : WW1 E ops (o :: rest) all h0 Kb Q ⟨t, h, n⟩ := k
theorem x_isGfW {j : Nat} (hg : o.guard = some (j, false)) (k : WW1 E ops (o :: rest) all h0 Kb Q ⟨t, h, n⟩) : WW1 E ops (o :: rest) all h0 Kb Q ⟨t, h, n⟩ := k
theorem x_kW1 (k : WW1 E ops rest all h0 Kb Q ⟨t, h, n⟩) : WQ (QW1 E ops rest all h0 Kb n Q) .normal ⟨t, h, n⟩ := ⟨k.out⟩
theorem x_w2nil {i : Nat} (k : WQ Q .normal σ) : WW2 E ops h0 Kb i [] Q σ := ⟨k.out⟩
theorem x_w2skip {i : Nat} (hq : quietW ops o = true) (k : WW2 E ops h0 Kb (i + 1) rest Q σ) : WW2 E ops h0 Kb i (o :: rest) Q σ := ⟨by
  simp only [awpW2, hq, if_true]
  exact k.out⟩
theorem x_w2e {i : Nat} (hq : quietW ops o = false) (k : WO E ops [o] (QW2 E ops h0 Kb i rest Q) σ) : WW2 E ops h0 Kb i (o :: rest) Q σ := ⟨by
  have hk := k.out
  simp only [awpOps, QW2, put_h] at hk
  simp only [awpW2, hq, Bool.false_eq_true, if_false]
  exact gd_imp (fun h => h) (fun h => h.2) hk⟩
theorem x_kW2 {i : Nat} (hk : allW ops i = true ∨ ∀ b, Kb b → h b = h0 b) (k : WW2 E ops h0 Kb (i + 1) rest Q ⟨t, h, n⟩) : WQ (QW2 E ops h0 Kb i rest Q) .normal ⟨t, h, n⟩ := ⟨⟨hk, k.out⟩⟩
theorem x_isW1 {l : List Oper} (k : WW1 E ops l all h0 Kb Q ⟨t, h, n⟩) : WW1 E ops l all h0 Kb Q ⟨t, h, n⟩ := k
theorem x_isW2 {i : Nat} {l : List Oper} (k : WW2 E ops h0 Kb i l Q σ) : WW2 E ops h0 Kb i l Q σ := k
end
end
section
variable {E : Env} {Q : Exit → St → Prop} {t : Nat → V} {n : Nat} {x : Code}
/-- A loop at whose start a row of one's own is taken as data. -/
theorem x_loopF {h' : Hp} (k : Nat) (v : V) (I : St → Prop) (m : St → Nat) (hv : expoA h' (t k) = some v) (h0 : ∀ h2 : Hp, (∀ b, (touchA h' (t k)).contains b = false → h2 b = h' b) → I ⟨upd t k v, h2, n⟩) (hs : ∀ t h n, I ⟨t, h, n⟩ → W E x (thenQ (fun σ' => I σ' ∧ m σ' < m ⟨t, h, n⟩) Q) ⟨t, h, n⟩) : W E (.loop x) Q ⟨t, h', n⟩ :=
  ⟨⟨I, m, _, .data k v hv (.refl _), h0 _ (fun b hb => by unfold frz; simp only [hb, Bool.false_eq_true, if_false]), fun σ hσ => (hs σ.t σ.h σ.n hσ).out⟩⟩
end
/-- What is handed over may be taken as data. -/
theorem own_sl {c : Cx} {w' : World} {z : Nat} {rows : List (List V)} {x : Value} (hR : OwnRes c w' z rows x) (fv : Nat → Value) : Rp fv w' (AllB c w') noMu (.sl rows) x := by
  rcases hR with ⟨rfl, A, rfl⟩ | ⟨k, base, cap, rfl, hcap, hk, hkl, hlen, hcell⟩
  · exact Rp.nil A 0
  · have hex : ∀ i, ∃ f : Nat → Value, ∀ j, i < rows.length → j < z → w'.cell? ⟨k, base + (i * z + j), none⟩ = some (f j) ∧ Dp w' (AllB c w') (cellAt rows i j) (f j) := by
      intro i
      have : ∀ j, ∃ y, i < rows.length → j < z → w'.cell? ⟨k, base + (i * z + j), none⟩ = some y ∧ Dp w' (AllB c w') (cellAt rows i j) y := by
        intro j
        by_cases hij : i < rows.length ∧ j < z
        · obtain ⟨y, h1, _, h3⟩ := hcell i j (by omega) hij.2
          exact ⟨y, fun _ _ => ⟨h1, (h3 hij.1).mono fun q hq => ⟨hq.1, rfl⟩⟩⟩
        · exact ⟨Go.undef, fun h1 h2 => absurd ⟨h1, h2⟩ hij⟩
      exact Classical.axiomOfChoice this
    obtain ⟨g', hg⟩ := Classical.axiomOfChoice hex
    exact .sl rows _ cap z _ g' rfl hcap hlen (fun _ => ⟨_, rfl, ⟨.inr hk, hkl⟩, fun i j hi hj => by rw [add_plain]; exact (hg i j hi hj).1⟩) (fun i j hi hj => (hg i j hi hj).2)
def weakS (F : Fspec) : Fspec := fun Φ ds r => F Φ ds r ∨ ∃ z rows, F Φ ds (.own z rows) ∧ r = .sl rows
theorem Sound.data {P : Program} {f : FuncId} {F : Fspec} (hS : Sound P f F) : Sound P f (weakS F) := by
  intro c Φ ds r vals hc hok0 hX hΦ hF hargs
  rcases hF with hF | ⟨z, rows, hF, rfl⟩
  · exact hS c Φ ds r vals hc hok0 hX hΦ hF hargs
  · refine (hS c Φ ds (.own z rows) vals hc hok0 hX hΦ hF hargs).mono ?_
    rintro e w' ⟨x, rfl, hb, hR⟩
    exact ⟨x, rfl, hb, own_sl hR⟩
end Go.Proofs.Ytahgddfnbjpfiaa.Am
