/- Texts that the law's proof stands on: AmSound, AmCtl. -/
import Derived.Test.YtahgddfnbjpfiaaB6
/- An abstract machine over values: what a function's contract says, and a call by its contract. -/
set_option linter.unusedVariables false
set_option linter.unusedSimpArgs false
namespace Go.Proofs.Ytahgddfnbjpfiaa.Am
open Go Go.RowKit

abbrev FvSpec := Nat → Option (List V → Value → Prop)
/-- A contract: what is handed in (function values are told by what they answer), what comes back. -/
abbrev Fspec := FvSpec → List V → V → Prop

def noMu : Mu := fun _ => none
def ArgsR (fv : Nat → Value) (w : World) (ok : Nat → Prop) (ds : List V) (vals : Array Value) : Prop :=
  vals.size = ds.length ∧ ∀ i, i < ds.length → Rp fv w ok noMu (ds.getD i .undef) (vals.getD i Go.undef)
def fnOk (P : Program) (f : FuncId) : Bool := match P.funcs[f]? with
  | some fn => !(fn.name == "runtime.NumGoroutine") && fn.body.isSome
  | none => false
def FvOk (c : Cx) (Φ : FvSpec) : Prop :=
  ∀ k S, Φ k = some S → ∃ f caps, c.fvals k = .func (.func f) #[] caps ∧ fnOk c.P f = true ∧ ∀ w1, Fr c.w0 w1 c.X → ∀ ok1 fv1 ds x vals, (∀ q, ok1 q → q < w1.heap.size) → S ds x → ArgsR fv1 w1 ok1 ds vals →
    Calls c.P f (vals ++ caps) w1 (fun e w' => e = .returned x ∧ Below w1.heap.size w1 w')
def AllB (c : Cx) (w : World) (k : Nat) : Prop := (c.ok0 k ∨ c.w0.heap.size ≤ k ∨ c.X k) ∧ k < w.heap.size
def OwnRes (c : Cx) (w' : World) (z : Nat) (rows : List (List V)) (x : Value) : Prop :=
  (rows = [] ∧ ∃ A, x = .slice A 0 0) ∨ ∃ k base cap, x = .slice (some ⟨k, base, none⟩) rows.length cap ∧ rows.length ≤ cap ∧ (c.w0.heap.size ≤ k ∨ c.X k) ∧ k < w'.heap.size ∧ (∀ r ∈ rows, r.length = z) ∧
    ∀ i j, i < cap → j < z → ∃ y, w'.cell? ⟨k, base + (i * z + j), none⟩ = some y ∧ (∀ o, (z ≠ 1 ∨ o = base + (i * z + j)) → w'.frozen? ⟨k, o, none⟩ = false) ∧ (i < rows.length → Dp w' (fun q => AllB c w' q ∧ q ≠ k) (cellAt rows i j) y)
def Res (c : Cx) (w' : World) (r : V) (x : Value) : Prop := match r with
  | .own z rows => OwnRes c w' z rows x
  | r => ∀ fv, Rp fv w' (AllB c w') noMu r x
def Sound (P : Program) (g : FuncId) (F : Fspec) : Prop :=
  ∀ (c : Cx) (Φ : FvSpec) (ds : List V) (r : V) (vals : Array Value), c.P = P → (∀ k, c.ok0 k → k < c.w0.heap.size) → (∀ k, ¬ c.X k) → FvOk c Φ → F Φ ds r → ArgsR c.fvals c.w0 c.ok0 ds vals →
    Calls P g vals c.w0 (fun e w' => ∃ x, e = .returned x ∧ Below c.w0.heap.size c.w0 w' ∧ Res c w' r x)

/-- A call that works on what it is handed: told over the caller's own values. -/
abbrev Pt := FvSpec → List V → St → (V → St → Prop) → Prop
def CallsO (P : Program) (g : FuncId) (vals : Array Value) (w : World) (post : Value → World → Prop) : Prop :=
  (fnOk P g = true ∧ Calls P g vals w (fun e w' => ∃ x, e = .returned x ∧ post x w')) ∨ (∃ x w', (callFunc g vals).run P w = .ok (.value x) w' ∧ post x w')
def SoundT (P : Program) (g : FuncId) (T : Pt) : Prop :=
  ∀ (c : Cx) (Φ : FvSpec) (h : Hp) (n : Nat) (μ : Mu) (w : World) (args : List V) (vals : Array Value) (t : Nat → V) (K : V → St → Prop), c.P = P → FvOk c Φ → HS c h n μ w → vals.size = args.length → (∀ i, i < args.length → R c h μ w (args.getD i .undef) (vals.getD i Go.undef)) → T Φ args ⟨t, h, n⟩ K →
    CallsO P g vals w (fun x w' => ∃ v h' n' μ', K v ⟨t, h', n'⟩ ∧ HS c h' n' μ' w' ∧ Ext c h μ w h' μ' w' ∧ R c h' μ' w' v x)
structure Env where
  P : Program
  plain : TypeId → Bool
  Γ : FuncId → Option Fspec
  Δ : FuncId → Option Pt
  Φ : FvSpec
  nt : Nat
structure EnvOk (E : Env) : Prop where
  plain : PlainOk E.P E.plain
  sound : ∀ g F, E.Γ g = some F → Sound E.P g F
  fn : ∀ g F, E.Γ g = some F → fnOk E.P g = true
  mixed : E.P.follows .mixedOrders = true
  soundT : ∀ g T, E.Δ g = some T → SoundT E.P g T

def isS : V → Bool
  | .s _ => true
  | _ => false
def noSl : V → Bool
  | .s _ => true
  | .tup vs => vs.all isS
  | .agg vs => vs.all isS
  | _ => false
def closS (E : Env) (h : Hp) (g : FuncId) (caps : List V) : Option (List V → Value → Prop) :=
  match allO (expoA h) caps, E.Γ g with
  | some cd, some F => some fun ds x => F (fun _ => none) (ds ++ cd) (.s x)
  | _, _ => none
def phi (E : Env) (h : Hp) (args : List V) : FvSpec := fun i => match args[i]? with
  | some (.fn g caps) => closS E h g caps
  | some (.fv k) => E.Φ k
  | _ => none
def expArg (h : Hp) (i : Nat) (v : V) : Option V := match v with
  | .fn _ _ => some (.fv i)
  | .fv _ => some (.fv i)
  | v => expoA h v
def expArgs (h : Hp) : Nat → List V → Option (List V)
  | _, [] => some []
  | i, v :: l => match expArg h i v, expArgs h (i + 1) l with
    | some d, some r => some (d :: r)
    | _, _ => none
def frzOf (h : Hp) (args : List V) : Hp := frz h fun b => (args.flatMap (touchA h)).contains b
def aret (args : List V) (r : V) (σ : St) (K : V → St → Prop) : Prop :=
  match r with
  | .own z rows => ∀ cap, rows.length ≤ cap → K (.loc σ.n 0 rows.length cap) ⟨σ.t, upd (frzOf σ.h args) σ.n (some ⟨z, rows ++ spare z (cap - rows.length), true⟩), σ.n + 1⟩
  | r => K r ⟨σ.t, if noSl r then σ.h else frzOf σ.h args, σ.n⟩
def acall (E : Env) (g : FuncId) (args : List V) (σ : St) (K : V → St → Prop) : Prop :=
  match E.Γ g, expArgs σ.h 0 args with
  | some F, some ds => ∃ r, F (phi E σ.h args) ds r ∧ aret args r σ K
  | _, _ => False

section
variable {c : Cx} {h : Hp} {n : Nat} {μ : Mu} {w : World}
theorem expArgs_spec : ∀ {l : List V} {i : Nat} {r : List V}, expArgs h i l = some r → r.length = l.length ∧ ∀ (j : Nat) (a b : V), l[j]? = some a → r[j]? = some b → expArg h (i + j) a = some b
  | [], i, r, he => by simp [expArgs] at he; subst he; simp
  | a :: l, i, r, he => by
    unfold expArgs at he
    split at he
    · rename_i d r' h1 h2
      cases he
      obtain ⟨h3, h4⟩ := expArgs_spec h2
      refine ⟨by simp [h3], fun j x y hx hy => ?_⟩
      cases j with
      | zero => simp at hx hy; subst hx hy; exact h1
      | succ j => have := h4 j x y (by simpa using hx) (by simpa using hy); rwa [show i + 1 + j = i + (j + 1) by omega] at this
    · cases he

theorem expoA_sound (H : HS c h n μ w) (p : Nat → Bool) {v v' : V} {x : Value} {fv : Nat → Value} (hx : R c h μ w v x) (he : expoA h v = some v') (hp : ∀ b ∈ touchA h v, p b = true) : Rp fv w (okB c (frz h p) μ w) noMu v' x := by
  have frm : ∀ {v : V} {x : Value}, Dp w (okB c h μ w) v x → Dp w (okB c (frz h p) μ w) v x := fun hd => hd.mono fun k hk => ⟨((H.freezeP p).2.ok k hk).1, rfl⟩
  unfold expoA at he
  split at he
  · rename_i cs
    simp only [Option.map_eq_some_iff] at he
    obtain ⟨cs', hcs, rfl⟩ := he
    obtain ⟨xs, rfl, hl, hr⟩ := hx.agg_inv
    obtain ⟨e1, e2⟩ := allO_spec hcs
    refine .agg _ _ (by omega) fun i hi => ?_
    have h1 : cs[i]? = some (cs[i]'(by omega)) := List.getElem?_eq_getElem (by omega)
    have h2 : cs'[i]? = some cs'[i] := List.getElem?_eq_getElem hi
    have h3 := hr i (by omega)
    have h4 : cs.getD i .undef = cs[i]'(by omega) := by simp [List.getD_eq_getElem?_getD, h1]
    have h5 : cs'.getD i .undef = cs'[i] := by simp [List.getD_eq_getElem?_getD, h2]
    rw [h4] at h3
    rw [h5]
    exact (expo_sound H p 2 h3 (e2 i _ _ h1 h2) fun b hb => hp b (by simp only [touchA, List.mem_flatMap]; exact ⟨_, List.mem_of_getElem? h1, hb⟩)).R
  · rename_i b r k
    split at he
    · rename_i B hB
      split at he
      · rename_i hlt
        simp only [Option.map_eq_some_iff] at he
        obtain ⟨cs', hcs, rfl⟩ := he
        obtain ⟨q, base, size, hmu, rfl⟩ := hx.ptr_inv
        obtain ⟨hs, _⟩ := H.at hB hmu hlt.1 hlt.2
        subst hs
        obtain ⟨e1, e2⟩ := allO_spec hcs
        have hlen : (B.rows.getD r []).length = B.size := by
          rcases H.blk b B hB with ⟨g1, _⟩ | ⟨k', base', g1, g2, g3, g4, g5⟩
          · rw [hmu] at g1; cases g1
          · exact g4 _ (by rw [List.getD_eq_getElem?_getD, List.getElem?_eq_getElem hlt.1]; exact List.getElem_mem _)
        have hex : ∀ j, ∃ y, j < cs'.length → w.cell? ((⟨q, base + (r * B.size + k), none⟩ : Addr).add j) = some y ∧ Dp w (okB c (frz h p) μ w) (cs'.getD j .undef) y := by
          intro j
          by_cases hj : j < cs'.length
          · have hj2 : j < ((B.rows.getD r []).drop k).length := by omega
            obtain ⟨_, y, g1, _, g3⟩ := H.at (j := k + j) hB hmu hlt.1 (by have hj3 := hj2; rw [List.length_drop, hlen] at hj3; omega)
            refine ⟨y, fun _ => ⟨by rw [add_plain, show base + (r * B.size + k) + j = base + (r * B.size + (k + j)) by omega]; exact g1, ?_⟩⟩
            have h1 : ((B.rows.getD r []).drop k)[j]? = some (((B.rows.getD r []).drop k)[j]) := List.getElem?_eq_getElem hj2
            have h2 : cs'[j]? = some cs'[j] := List.getElem?_eq_getElem hj
            have h4 : cellAt B.rows r (k + j) = ((B.rows.getD r []).drop k)[j] := by
              rw [List.getElem?_drop] at h1
              rw [cellAt, List.getD_eq_getElem?_getD (l := B.rows.getD r []), h1]
              rfl
            have h5 : cs'.getD j .undef = cs'[j] := by simp [List.getD_eq_getElem?_getD, h2]
            rw [h4] at g3
            rw [h5]
            exact expo_sound H p 2 g3 (e2 j _ _ h1 h2) fun b2 hb2 => hp b2 (by simp only [touchA, hB, List.mem_cons, List.mem_flatMap]; exact .inr ⟨_, List.mem_of_getElem? h1, hb2⟩)
          · exact ⟨Go.undef, fun h => absurd h hj⟩
        obtain ⟨g, hg⟩ := Classical.axiomOfChoice hex
        exact .pc cs' _ g (H.frz_ok hB hmu (hp b (by simp [touchA]))) (fun j hj => (hg j hj).1) (fun j hj => (hg j hj).2)
      · cases he
    · cases he
  · rename_i cs
    cases he
    obtain ⟨ad, g, rfl, hb, hc, hr⟩ := hx.pc_inv
    exact .pc _ ad g ((H.freezeP p).2.ok _ hb).1 hc (fun j hj => frm (hr j hj))
  · rename_i n1 n2 n3
    refine (expo_sound H p 2 hx he fun b hb => hp b ?_).R
    unfold touchA
    split
    · exact absurd rfl (n1 _)
    · exact absurd rfl (n2 _ _ _)
    · exact hb

/-- What a captured value is in every later world. -/
theorem caps_later {E : Env} (hE : EnvOk E) (H : HS c h n μ w) {g : FuncId} {caps : List V} {S : List V → Value → Prop} {xs : Array Value} (hc : c.P = E.P) (hx : R c h μ w (.fn g caps) (.func (.func g) #[] xs)) (hS : closS E h g caps = some S)
    {w1 : World} (hw : Below w.heap.size w w1) {ok1 : Nat → Prop} {fv1 : Nat → Value} {ds : List V} {x : Value} {vals : Array Value} (hok : ∀ q, ok1 q → q < w1.heap.size) (hSx : S ds x) (ha : ArgsR fv1 w1 ok1 ds vals) :
    Calls c.P g (vals ++ xs) w1 (fun e w' => e = .returned x ∧ Below w1.heap.size w1 w') := by
  unfold closS at hS
  split at hS
  · rename_i cd F hcd hF
    cases hS
    obtain ⟨xs', he, hl, hr⟩ := hx.fn_inv
    cases he
    obtain ⟨e1, e2⟩ := allO_spec hcd
    have hs := hE.sound g F hF
    have hres := hs ⟨E.P, w1, fun q => q < w1.heap.size, fun _ => False, fv1, fun w2 h2 => by rw [← hc]; exact c.inv w2 ((H.fr.more (Fr.of_below hw)).more h2)⟩ (fun _ => none) (ds ++ cd) (.s x) (vals ++ xs) rfl (fun _ h => h) (fun _ h => h) (fun k S h => by cases h) hSx ⟨by simp [ha.1, e1, hl], fun i hi => by
      by_cases hid : i < ds.length
      · have h1 := ha.2 i hid
        have h2 : (ds ++ cd).getD i .undef = ds.getD i .undef := by simp [List.getD_eq_getElem?_getD, List.getElem?_append_left hid]
        have h3 : (vals ++ xs).getD i Go.undef = vals.getD i Go.undef := by
          have : i < vals.size := by have := ha.1; omega
          simp [Array.getElem?_append_left this]
        rw [h2, h3]
        exact h1.mono (fun q hq => ⟨hok q hq, rfl⟩) (fun _ _ h => h)
      · have hi2 : i - ds.length < cd.length := by simp at hi; omega
        have h2 : (ds ++ cd).getD i .undef = cd.getD (i - ds.length) .undef := by simp [List.getD_eq_getElem?_getD, List.getElem?_append_right (show ds.length ≤ i by omega)]
        have h3 : (vals ++ xs).getD i Go.undef = xs.getD (i - ds.length) Go.undef := by
          have hvs := ha.1
          simp only [Array.getD_eq_getD_getElem?, Array.getElem?_append]
          rw [if_neg (by omega), hvs]
        rw [h2, h3]
        have h4 : caps[i - ds.length]? = some (caps[i - ds.length]'(by omega)) := List.getElem?_eq_getElem (by omega)
        have h5 : cd[i - ds.length]? = some (cd[i - ds.length]) := List.getElem?_eq_getElem hi2
        have h6 := hr (i - ds.length) (by omega)
        have h7 : caps.getD (i - ds.length) .undef = caps[i - ds.length]'(by omega) := by simp [List.getD_eq_getElem?_getD, h4]
        have h8 : cd.getD (i - ds.length) .undef = cd[i - ds.length] := by simp [List.getD_eq_getElem?_getD, h5]
        rw [h7] at h6
        rw [h8]
        exact (expoA_sound H (fun _ => true) (fv := fv1) h6 (e2 _ _ _ h4 h5) (fun _ _ => rfl)).mono (fun q hq => ⟨Nat.lt_of_lt_of_le hq.2.1 hw.size, hw.block q hq.2.1⟩) (fun _ _ h => h)⟩
    rw [hc]
    refine hres.mono ?_
    rintro e w' ⟨x', rfl, hb, hR⟩
    have := (hR fv1).s_eq.1
    subst this
    exact ⟨rfl, hb⟩
  · cases hS

theorem noSl_any {fv fv' : Nat → Value} {w w2 : World} {ok ok2 : Nat → Prop} {μ1 μ2 : Mu} {r : V} {x : Value} (h : Rp fv w ok μ1 r x) (hn : noSl r = true) : Rp fv' w2 ok2 μ2 r x := by
  have one : ∀ {q : V} {y : Value}, Rp fv w ok μ1 q y → isS q = true → Rp fv' w2 ok2 μ2 q y := by
    intro q y hq hs
    cases hq <;> simp [isS] at hs
    rename_i h; exact .s _ h
  cases h <;> simp [noSl] at hn
  · rename_i h; exact .s _ h
  · rename_i cs xs hl h
    exact .agg cs xs hl fun i hi => one (h i hi) (hn _ (by rw [List.getD_eq_getElem?_getD, List.getElem?_eq_getElem hi]; exact List.getElem_mem _))
  · rename_i cs xs hl h
    exact .tup cs xs hl fun i hi => one (h i hi) (hn _ (by rw [List.getD_eq_getElem?_getD, List.getElem?_eq_getElem hi]; exact List.getElem_mem _))
def cxOf (E : Env) (c : Cx) (h : Hp) (μ : Mu) (w : World) (args : List V) (vals : Array Value) (hi : ∀ w1, Fr w w1 (fun _ => False) → WInv E.P w1) : Cx := ⟨E.P, w, okB c (frzOf h args) μ w, fun _ => False, fun i => vals.getD i Go.undef, hi⟩
theorem inv_of {E : Env} (hc : c.P = E.P) (H : HS c h n μ w) : ∀ w1, Fr w w1 (fun _ => False) → WInv E.P w1 := fun w1 h1 => by rw [← hc]; exact c.inv w1 (H.fr.more h1)
/-- A call by its contract: what comes back. -/
theorem call_core {E : Env} (hE : EnvOk E) (hc : c.P = E.P) (hΦ : FvOk c E.Φ) (H : HS c h n μ w) {g : FuncId} {args : List V} {vals : Array Value} {F : Fspec} {ds : List V} {r : V}
    (hl : vals.size = args.length) (ha : ∀ i, i < args.length → R c h μ w (args.getD i .undef) (vals.getD i Go.undef)) (hF : E.Γ g = some F) (hds : expArgs h 0 args = some ds) (hS : F (phi E h args) ds r) :
    Calls c.P g vals w (fun e w' => ∃ x, e = .returned x ∧ Below w.heap.size w w' ∧ Res (cxOf E c h μ w args vals (inv_of hc H)) w' r x) := by
  obtain ⟨e1, e2⟩ := expArgs_spec hds
  have hpall : ∀ (i : Nat) (a : V), args[i]? = some a → ∀ b ∈ touchA h a, (args.flatMap (touchA h)).contains b = true := by
    intro i a hia b hb
    simp only [List.contains_iff_mem, List.mem_flatMap]
    exact ⟨a, List.mem_of_getElem? hia, hb⟩
  have hfv : FvOk ⟨E.P, w, okB c (frzOf h args) μ w, fun _ => False, fun i => vals.getD i Go.undef, inv_of hc H⟩ (phi E h args) := by
    intro k S hS
    unfold phi at hS
    split at hS
    · rename_i g' caps hk
      have hki : k < args.length := (List.getElem?_eq_some_iff.1 hk).1
      have h1 := ha k hki
      have h2 : args.getD k .undef = .fn g' caps := by simp [List.getD_eq_getElem?_getD, hk]
      rw [h2] at h1
      obtain ⟨xs, h3, _⟩ := h1.fn_inv
      have hfn : fnOk E.P g' = true := by
        unfold closS at hS
        split at hS
        · rename_i cd F h8 h9; exact hE.fn g' F h9
        · cases hS
      refine ⟨g', xs, h3, hfn, fun w1 hw1 ok1 fv1 ds x vals1 hok hSx hargs => ?_⟩
      rw [h3] at h1
      have := caps_later hE H hc h1 hS hw1.below hok hSx hargs
      rw [hc] at this
      exact this
    · rename_i k' hk
      have hki : k < args.length := (List.getElem?_eq_some_iff.1 hk).1
      have h1 := ha k hki
      have h2 : args.getD k .undef = .fv k' := by simp [List.getD_eq_getElem?_getD, hk]
      rw [h2] at h1
      obtain ⟨f, caps, h3, hfn, h4⟩ := hΦ k' S hS
      have h5 : vals.getD k Go.undef = c.fvals k' := by generalize vals.getD k Go.undef = y at h1; cases h1; rfl
      refine ⟨f, caps, by simp only [h5]; exact h3, by rw [hc] at hfn; exact hfn, fun w1 hw1 ok1 fv1 ds x vals1 hok hSx hargs => ?_⟩
      have := h4 w1 ⟨hw1.os.trans H.fr.os, hw1.tape.trans H.fr.tape, hw1.output.trans H.fr.output, Nat.le_trans H.fr.size hw1.size, fun q hq hx => by
        rw [hw1.block q (Nat.lt_of_lt_of_le hq H.fr.size) (fun h => h)]; exact H.fr.block q hq hx⟩ ok1 fv1 ds x vals1 hok hSx hargs
      rw [hc] at this
      exact this
    · cases hS
  have hres := hE.sound g F hF ⟨E.P, w, okB c (frzOf h args) μ w, fun _ => False, fun i => vals.getD i Go.undef, inv_of hc H⟩ (phi E h args) ds r vals rfl (fun q hq => hq.2.1) (fun _ h => h) hfv hS ⟨by omega, fun i hi => by
    have h1 : args[i]? = some (args[i]'(by omega)) := List.getElem?_eq_getElem (by omega)
    have h2 : ds[i]? = some ds[i] := List.getElem?_eq_getElem hi
    have h3 := e2 i _ _ h1 h2
    have h4 := ha i (by omega)
    have h5 : args.getD i .undef = args[i]'(by omega) := by simp [List.getD_eq_getElem?_getD, h1]
    have h6 : ds.getD i .undef = ds[i] := by simp [List.getD_eq_getElem?_getD, h2]
    rw [h5] at h4
    rw [h6]
    simp only [Nat.zero_add] at h3
    generalize hav : args[i]'(by omega) = av at h3 h4 h1
    unfold expArg at h3
    split at h3
    · rw [← Option.some.inj h3]; exact .fv i
    · rw [← Option.some.inj h3]; exact .fv i
    · exact expoA_sound H _ h4 h3 (hpall i av h1)⟩
  rw [hc]
  exact hres
theorem res_ok {E : Env} (H : HS c h n μ w) {w' : World} (hb : Below w.heap.size w w') (args : List V) (vals : Array Value) {hi : ∀ w1, Fr w w1 (fun _ => False) → WInv E.P w1} : ∀ q, AllB (cxOf E c h μ w args vals hi) w' q → (c.ok0 q ∨ c.w0.heap.size ≤ q ∨ c.X q) ∧ q < w'.heap.size ∧ ¬ live (frzOf h args) μ q := by
  have H1 := H.freezeP (fun b => (args.flatMap (touchA h)).contains b)
  rintro q ⟨hq, hq2⟩
  rcases hq with hq | hq | hq
  · exact ⟨hq.1, hq2, hq.2.2⟩
  · simp only [cxOf] at hq
    refine ⟨.inr (.inl (Nat.le_trans H.fr.size hq)), hq2, fun hl => ?_⟩
    have := (H1.1.wr_block hl).2
    omega
  · exact hq.elim
/-- A call by its contract. -/
theorem call_sound {E : Env} (hE : EnvOk E) (hc : c.P = E.P) (hΦ : FvOk c E.Φ) (H : HS c h n μ w) {g : FuncId} {args : List V} {vals : Array Value} {t : Nat → V} {K : V → St → Prop}
    (hl : vals.size = args.length) (ha : ∀ i, i < args.length → R c h μ w (args.getD i .undef) (vals.getD i Go.undef)) (hk : acall E g args ⟨t, h, n⟩ K) :
    Calls c.P g vals w (fun e w' => ∃ x v h' n' μ', e = .returned x ∧ K v ⟨t, h', n'⟩ ∧ HS c h' n' μ' w' ∧ Ext c h μ w h' μ' w' ∧ R c h' μ' w' v x) := by
  unfold acall at hk
  split at hk
  · rename_i F ds hF hds
    obtain ⟨r, hS, hK⟩ := hk
    simp only at hS hK
    refine (call_core hE hc hΦ H hl ha hF hds hS).mono ?_
    rintro e w' ⟨x, rfl, hb, hR⟩
    have H1 := H.freezeP (fun b => (args.flatMap (touchA h)).contains b)
    have hall := res_ok (hi := inv_of hc H) H hb (E := E) args vals
    unfold aret at hK
    unfold Res at hR
    split at hK
    · rename_i z rows
      rcases hR with ⟨rfl, A, rfl⟩ | ⟨k, base, cap, rfl, hcap, hk, hkl, hlen, hcell⟩
      · have H2 := H1.1.below hb
        have H3 := H2.1.virt z
        exact ⟨_, _, _, _, _, rfl, hK 0 (Nat.le_refl _), H3.1, H1.2.trans (H2.2.trans H3.2), .loc0 _ _ _ _ (upd_same _ _ _)⟩
      · have hkw : w.heap.size ≤ k := by rcases hk with hk | hk; (· exact hk); exact hk.elim
        have H3 := H1.1.fresh hb k base ⟨z, rows ++ spare z (cap - rows.length), true⟩ hkw hkl (fun r hr => by
            simp only [List.mem_append] at hr
            rcases hr with hr | hr
            · exact hlen r hr
            · exact spare_rows _ _ r hr) (fun i j hi hj => by
            simp only [List.length_append, spare_length] at hi
            simp only at hj ⊢
            obtain ⟨y, y1, y2, y3⟩ := hcell i j (by omega) hj
            refine ⟨y, y1, y2, fun e => ?_⟩
            rw [cellAt_append]
            split
            · rename_i hir
              refine ((y3 hir).mono fun q hq => ?_).R
              obtain ⟨g1, g2, g3⟩ := hall q hq.1
              refine ⟨⟨g1, g2, ?_⟩, rfl⟩
              rintro ⟨b2, B2, base2, size2, f1, f2, f3⟩
              by_cases hbn : b2 = n
              · subst hbn
                rw [upd_same] at f3
                cases f3
                exact hq.2 rfl
              · rw [upd_ne _ _ _ _ hbn] at f1 f3
                exact g3 ⟨b2, B2, base2, size2, f1, f2, f3⟩
            · rw [cellAt_spare _ _ _ _ (by omega) hj]
              exact .any _)
        refine ⟨_, _, _, _, _, rfl, hK cap hcap, H3.1, H1.2.trans H3.2, ?_⟩
        have := Rp.loc (fvals := c.fvals) (w := w') (ok := okB c (upd (frzOf h args) n (some ⟨z, rows ++ spare z (cap - rows.length), true⟩)) (upd μ n (some (.real k base z))) w') (μ := upd μ n (some (.real k base z))) n 0 rows.length cap k base z (upd_same _ _ _) hcap
        simpa using this
    · rename_i hno
      split at hR
      · rename_i z rows; exact absurd rfl (hno z rows)
      · simp only at hK
        split at hK
        · rename_i hns
          have H2 := H.below hb
          exact ⟨_, _, _, _, _, rfl, hK, H2.1, H2.2, noSl_any (hR c.fvals) hns⟩
        · have H2 := H1.1.below hb
          refine ⟨_, _, _, _, _, rfl, hK, H2.1, H1.2.trans H2.2, (hR c.fvals).mono (fun q hq => ⟨?_, rfl⟩) (fun _ _ h => by cases h)⟩
          exact hall q hq
  · exact hk.elim
end
end Go.Proofs.Ytahgddfnbjpfiaa.Am

/- An abstract machine over values: operations, regions, control. -/
set_option linter.unusedVariables false
set_option linter.unusedSimpArgs false
namespace Go.Proofs.Ytahgddfnbjpfiaa.Am
open Go Go.RowKit

def toB (P : Program) (src dst : TypeId) : Bool := match P.underlying src, P.underlying dst with
  | some .string, some (.slice _) => true
  | _, _ => false
def afv (E : Env) (k : Nat) (args : List V) (σ : St) (K : V → St → Prop) : Prop :=
  match E.Φ k, allO (expoA σ.h) args with
  | some S, some ds => ∃ x, flat x = true ∧ S ds x ∧ K (.s x) σ
  | _, _ => False
def acl (E : Env) (cl : Call) (e : Operand → V) (op : Op) (σ : St) (K : V → St → Prop) : Prop :=
  match cl.callee with
  | .builtin .append => match cl.args.toList, cl.argTypes.toList with
    | [s, x], [T, U] => aappend E.P T U (e s) (e x) σ K ∨ aappendZ E.P T U (e s) (e x) σ K
    | _, _ => False
  | .builtin .copy => match cl.args.toList, cl.argTypes.toList with
    | [s, x], [T, U] => acopy E.P T U (e s) (e x) σ K
    | _, _ => False
  | .builtin .clear => match cl.args.toList, cl.argTypes.toList with
    | [s], [T] => aclear E.P T (e s) σ K
    | _, _ => False
  | .builtin _ => ∃ v, pval E.P E.plain σ.h e op = some v ∧ K v σ
  | .value f => match e f with
    | .fn g caps => (∃ T, E.Δ g = some T ∧ T E.Φ (cl.args.toList.map e ++ caps) ⟨fun _ => .undef, σ.h, σ.n⟩ (fun v σ' => K v ⟨σ.t, σ'.h, σ'.n⟩)) ∨ acall E g (cl.args.toList.map e ++ caps) σ K
    | .fv k => afv E k (cl.args.toList.map e) σ K
    | _ => False
  | _ => False
def aop (E : Env) (op : Op) (σ : St) (K : V → St → Prop) : Prop :=
  match op with
  | .store T a x => astore E.P T (ev σ.t a) (ev σ.t x) σ K
  | .alloc T => aalloc E.P T σ K
  | .box T x => abox (ev σ.t x) σ K
  | .buildSlice T len parts => abuildSlice E.P (ev σ.t) T len parts.toList σ K
  | .makeSlice T l k => amakeSlice E.P T (ev σ.t l) (ev σ.t k) σ K
  | .convert src dst x => if toB E.P src dst then atoBytes E.P src dst (ev σ.t x) σ K else ∃ v, pval E.P E.plain σ.h (ev σ.t) (.convert src dst x) = some v ∧ K v σ
  | .call cl => acl E cl (ev σ.t) (.call cl) σ K
  | .binOp op T x (.const (.slice none q r)) p => anil E.P op T (ev σ.t x) σ K
  | op => ∃ v, pval E.P E.plain σ.h (ev σ.t) op = some v ∧ K v σ
def putS (dst : Option Tmp) (v : V) (σ : St) : St := match dst with
  | some d => ⟨upd σ.t d v, σ.h, σ.n⟩
  | none => σ
/-- Is the operation carried out? -/
def gd (ops : Array Oper) (o : Oper) (σ : St) (run skip : Prop) : Prop :=
  match o.guard with
  | none => run
  | some (j, want) => match (ops[j]?).bind (·.dst) with
    | some d => match σ.t d with
      | .s (.bool b) => (b = want → run) ∧ (b ≠ want → skip)
      | .undef => skip
      | _ => False
    | none => False
def awpOps (E : Env) (ops : Array Oper) : List Oper → (St → Prop) → St → Prop
  | [], K, σ => K σ
  | o :: rest, K, σ => gd ops o σ (aop E o.op σ fun v σ' => awpOps E ops rest K (putS o.dst v σ')) (awpOps E ops rest K (putS o.dst .undef σ))

structure Sim (ps : Hp × Mu × World) (E : Env) (c : Cx) (σ : St) (μ : Mu) (a : Act) (w : World) : Prop where
  hs : HS c σ.h σ.n μ w
  tm : ∀ i, R c σ.h μ w (σ.t i) (a.tmps.getD i Go.undef)
  nt : a.tmps.size = E.nt
  df : a.defers = []
  ex : Ext c ps.1 ps.2.1 ps.2.2 σ.h μ w

def dstOk (nt : Nat) (o : Oper) : Bool := match o.dst with
  | some d => decide (d < nt)
  | none => true

section
variable {ps : Hp × Mu × World} {E : Env} {c : Cx} {σ : St} {μ : Mu} {a : Act} {w : World}
theorem Sim.put (S : Sim ps E c σ μ a w) {h' : Hp} {n' : Nat} {μ' : Mu} {w' : World} (H : HS c h' n' μ' w') (X : Ext c σ.h μ w h' μ' w') {v : V} {x : Value} (r : R c h' μ' w' v x) {dst : Option Tmp} (hd : ∀ d, dst = some d → d < E.nt) :
    Sim ps E c (putS dst v ⟨σ.t, h', n'⟩) μ' (a.put dst x) w' := by
  cases dst with
  | none => exact ⟨H, fun i => X.R (S.tm i), S.nt, S.df, S.ex.trans X⟩
  | some d =>
    have hdn := hd d rfl
    refine ⟨H, fun i => ?_, by simp [Act.put, S.nt], S.df, S.ex.trans X⟩
    simp only [putS, Act.put]
    by_cases hid : i = d
    · subst hid
      rw [upd_same]
      have : (a.tmps.setIfInBounds i x).getD i Go.undef = x := by
        have : i < a.tmps.size := by rw [S.nt]; exact hdn
        simp [this]
      rw [this]
      exact r
    · rw [upd_ne _ _ _ _ hid]
      have : (a.tmps.setIfInBounds d x).getD i Go.undef = a.tmps.getD i Go.undef := by
        simp only [Array.getD_eq_getD_getElem?, Array.getElem?_setIfInBounds]
        rw [if_neg (by omega)]
      rw [this]
      exact X.R (S.tm i)

theorem run_value {P : Program} {s : Sem Value} {w w' : World} {y : Value} (h : s.run P w = .ok y w') : (do pure (.value (← s)) : Sem Next).run P w = .ok (.value y) w' := by
  simp only [Sem.run_bind, h, Result.andThen_ok, Sem.run_pure]

theorem run_enter {P : Program} {f : FuncId} (h : fnOk P f = true) (args : Array Value) : (callFunc f args).run P w = .ok (.enter f args) w := by
  unfold fnOk at h
  split at h
  · rename_i fn hfn
    simp only [Bool.and_eq_true, Bool.not_eq_true'] at h
    have hb : ¬ (fn.body = none) := by intro e; rw [e] at h; simp at h
    have hn : ¬ (fn.name = "runtime.NumGoroutine") := by simpa using h.1
    simp [callFunc, program, Sem.run, pure, hfn, hn, hb]
  · cases h
theorem run_callv' {P : Program} {o : Oper} {cl : Call} {f : Operand} {g : FuncId} {xs : Array Value} (ho : o.op = .call cl) (hcal : cl.callee = .value f) (hx : a.eval f = .func (.func g) #[] xs) :
    (execOp a.eval o).run P w = (callFunc g (cl.args.map a.eval ++ xs)).run P w := by
  simp [execOp, ho, resolve, hcal, hx, Deferred.ofValue, invoke]
theorem run_callv {P : Program} {o : Oper} {cl : Call} {f : Operand} {g : FuncId} {xs : Array Value} (ho : o.op = .call cl) (hcal : cl.callee = .value f) (hx : a.eval f = .func (.func g) #[] xs) (h : fnOk P g = true) :
    (execOp a.eval o).run P w = .ok (.enter g (cl.args.map a.eval ++ xs)) w := by
  simp [execOp, ho, resolve, hcal, hx, Deferred.ofValue, invoke, run_enter h]

/-- What an operation comes to. -/
theorem op_sound (hE : EnvOk E) (hc : c.P = E.P) (hΦ : FvOk c E.Φ) (S : Sim ps E c σ μ a w) {o : Oper} {K : V → St → Prop} (hk : aop E o.op σ K) {next : Act → World → Prop} {Q : Exit → Act → World → Prop}
    (hn : ∀ v h' n' μ' x w', K v ⟨σ.t, h', n'⟩ → HS c h' n' μ' w' → Ext c σ.h μ w h' μ' w' → R c h' μ' w' v x → next (a.put o.dst x) w') : o.wp c.P a w next Q := by
  have he : ∀ x, R c σ.h μ w (ev σ.t x) (a.eval x) := fun x => Rp.ev S.tm x
  have fin : (∃ v x h' n' μ' w', (execOp a.eval o).run c.P w = .ok (.value x) w' ∧ K v ⟨σ.t, h', n'⟩ ∧ HS c h' n' μ' w' ∧ Ext c σ.h μ w h' μ' w' ∧ R c h' μ' w' v x) → o.wp c.P a w next Q := by
    rintro ⟨v, x, h', n', μ', w', h1, h2, h3, h4, h5⟩
    unfold Oper.wp
    rw [h1]
    exact hn v h' n' μ' x w' h2 h3 h4 h5
  have pure_ : (∃ v, pval E.P E.plain σ.h (ev σ.t) o.op = some v ∧ K v σ) → o.wp c.P a w next Q := by
    rintro ⟨v, h1, h2⟩
    rw [← hc] at h1
    obtain ⟨x, h3, h4⟩ := pval_sound (by rw [hc]; exact hE.plain) S.hs he h1
    exact fin ⟨v, x, σ.h, σ.n, μ, w, h3, h2, S.hs, Ext.refl _ _ _ _, h4⟩
  have call_ : ∀ {g : FuncId} {args : List V} {vals : Array Value}, (execOp a.eval o).run c.P w = .ok (.enter g vals) w → vals.size = args.length → (∀ i, i < args.length → R c σ.h μ w (args.getD i .undef) (vals.getD i Go.undef)) → acall E g args σ K → o.wp c.P a w next Q := by
    intro g args vals h1 h2 h3 h4
    unfold Oper.wp
    rw [h1]
    refine (call_sound hE hc hΦ S.hs h2 h3 (t := σ.t) h4).mono ?_
    rintro e w' ⟨x, v, h', n', μ', rfl, g1, g2, g3, g4⟩
    exact hn v h' n' μ' x w' g1 g2 g3 g4
  unfold aop at hk
  split at hk
  · rename_i T p x ho
    rw [← hc] at hk
    obtain ⟨h', w', h1, h2, h3, h4⟩ := store_sound S.hs (t := σ.t) (he p) (he x) hk
    have hr : (execOp a.eval o).run c.P w = .ok .skip w' := by simp only [execOp, ho, Sem.run_bind, h1, Result.andThen_ok, Sem.run_pure]
    unfold Oper.wp
    rw [hr]
    exact hn .undef h' σ.n μ Go.undef w' h2 h3 h4 .undef
  · rename_i T ho
    rw [← hc] at hk
    obtain ⟨v, y, h', n', μ', w', h1, h2, h3, h4, h5⟩ := alloc_sound S.hs (t := σ.t) hk (.tuple #[])
    exact fin ⟨v, y, h', n', μ', w', by simp only [execOp, ho]; exact run_value h1, h2, h3, h4, h5⟩
  · rename_i T x ho
    obtain ⟨v, y, h', n', μ', w', h1, h2, h3, h4, h5⟩ := box_sound S.hs (T := T) (t := σ.t) (he x) hk
    exact fin ⟨v, y, h', n', μ', w', by simp only [execOp, ho]; exact run_value h1, h2, h3, h4, h5⟩
  · rename_i T len parts ho
    rw [← hc] at hk
    obtain ⟨v, y, h', n', μ', w', h1, h2, h3, h4, h5⟩ := buildSlice_sound S.hs (t := σ.t) he hk
    exact fin ⟨v, y, h', n', μ', w', by simp only [execOp, ho]; exact run_value h1, h2, h3, h4, h5⟩
  · rename_i T l k ho
    rw [← hc] at hk
    obtain ⟨v, y, h', n', μ', w', h1, h2, h3, h4, h5⟩ := makeSlice_sound S.hs (t := σ.t) (he l) (he k) hk
    exact fin ⟨v, y, h', n', μ', w', by simp only [execOp, ho]; exact run_value h1, h2, h3, h4, h5⟩
  · rename_i src dst x ho
    split at hk
    · rw [← hc] at hk
      obtain ⟨v, y, h', n', μ', w', h1, h2, h3, h4, h5⟩ := toBytes_sound S.hs (t := σ.t) (he x) hk
      exact fin ⟨v, y, h', n', μ', w', by simp only [execOp, ho]; exact run_value h1, h2, h3, h4, h5⟩
    · rw [← ho] at hk; exact pure_ hk
  · rename_i cl ho
    unfold acl at hk
    split at hk
    · rename_i hcal
      split at hk
      · rename_i s x T U ha hT
        rw [← hc] at hk
        obtain ⟨v, y, h', n', μ', w', h1, h2, h3, h4, h5⟩ : ∃ v y h' n' μ' w', (Builtin.append_ #[T, U] o.type #[a.eval s, a.eval x]).run c.P w = .ok y w' ∧ K v ⟨σ.t, h', n'⟩ ∧ HS c h' n' μ' w' ∧ Ext c σ.h μ w h' μ' w' ∧ R c h' μ' w' v y := by
          rcases hk with hk | hk
          · exact append_sound S.hs (ty := o.type) (t := σ.t) (he s) (he x) hk
          · exact appendZ_sound S.hs (ty := o.type) (t := σ.t) (he s) (he x) hk
        refine fin ⟨v, y, h', n', μ', w', ?_, h2, h3, h4, h5⟩
        have ha' : cl.args = #[s, x] := by simpa using congrArg List.toArray ha
        have hT' : cl.argTypes = #[T, U] := by simpa using congrArg List.toArray hT
        simp [execOp, ho, resolve, hcal, ha', hT', invoke, builtin, h1, Sem.run, pure]
      · exact hk.elim
    · rename_i hcal
      split at hk
      · rename_i s x T U ha hT
        rw [← hc] at hk
        obtain ⟨v, y, h', n', μ', w', h1, h2, h3, h4, h5⟩ := copy_sound S.hs (ty := o.type) (t := σ.t) (he s) (he x) hk
        refine fin ⟨v, y, h', n', μ', w', ?_, h2, h3, h4, h5⟩
        have ha' : cl.args = #[s, x] := by simpa using congrArg List.toArray ha
        have hT' : cl.argTypes = #[T, U] := by simpa using congrArg List.toArray hT
        simp [execOp, ho, resolve, hcal, ha', hT', invoke, builtin, h1, Sem.run, pure]
      · exact hk.elim
    · rename_i hcal
      split at hk
      · rename_i s T ha hT
        rw [← hc] at hk
        obtain ⟨v, y, h', n', μ', w', h1, h2, h3, h4, h5⟩ := clear_sound S.hs (ty := o.type) (t := σ.t) (he s) hk
        refine fin ⟨v, y, h', n', μ', w', ?_, h2, h3, h4, h5⟩
        have ha' : cl.args = #[s] := by simpa using congrArg List.toArray ha
        have hT' : cl.argTypes = #[T] := by simpa using congrArg List.toArray hT
        simp [execOp, ho, resolve, hcal, ha', hT', invoke, builtin, h1, Sem.run, pure]
      · exact hk.elim
    · rw [← ho] at hk; exact pure_ hk
    · rename_i f hcal
      have h1 := he f
      split at hk
      · rename_i g caps hf
        rw [hf] at h1
        obtain ⟨xs, hx, hl, hr⟩ := h1.fn_inv
        have hargs : ∀ i, i < (cl.args.toList.map (ev σ.t) ++ caps).length → R c σ.h μ w ((cl.args.toList.map (ev σ.t) ++ caps).getD i .undef) ((cl.args.map a.eval ++ xs).getD i Go.undef) := fun i hi => ?_
        · rcases hk with ⟨T, hT, hk⟩ | hk
          · have hs := hE.soundT g T hT c E.Φ σ.h σ.n μ w _ _ (fun _ => .undef) (fun v σ' => K v ⟨σ.t, σ'.h, σ'.n⟩) hc hΦ S.hs (show (cl.args.map a.eval ++ xs).size = (cl.args.toList.map (ev σ.t) ++ caps).length by simp [hl]) hargs hk
            rw [← hc] at hs
            rcases hs with ⟨h2, h3⟩ | ⟨x, w', h2, v, h', n', μ', h3⟩
            · have hrun := run_callv (w := w) ho hcal hx h2
              unfold Oper.wp
              rw [hrun]
              refine h3.mono ?_
              rintro e w' ⟨x, rfl, v, h', n', μ', g1, g2, g3, g4⟩
              exact hn v h' n' μ' x w' g1 g2 g3 g4
            · exact fin ⟨v, x, h', n', μ', w', by rw [run_callv' ho hcal hx, h2], h3⟩
          · have hΓ : fnOk c.P g = true := by
              unfold acall at hk
              split at hk
              · rename_i F ds hF _; rw [hc]; exact hE.fn g F hF
              · exact hk.elim
            have hrun := run_callv (w := w) ho hcal hx hΓ
            exact call_ hrun (by simp [hl]) hargs hk
        by_cases hia : i < cl.args.size
        · have h2 : (cl.args.toList.map (ev σ.t) ++ caps).getD i .undef = ev σ.t cl.args[i] := by simp [List.getD_eq_getElem?_getD, List.getElem?_append_left, hia]
          have h3 : (cl.args.map a.eval ++ xs).getD i Go.undef = a.eval cl.args[i] := by
            simp [Array.getElem?_append_left, hia]
          rw [h2, h3]; exact he _
        · have h2 : (cl.args.toList.map (ev σ.t) ++ caps).getD i .undef = caps.getD (i - cl.args.size) .undef := by
            simp only [List.getD_eq_getElem?_getD]
            rw [List.getElem?_append_right (by simp; omega)]
            simp
          have h3 : (cl.args.map a.eval ++ xs).getD i Go.undef = xs.getD (i - cl.args.size) Go.undef := by
            simp only [Array.getD_eq_getD_getElem?]
            rw [Array.getElem?_append_right (by simp; omega)]
            simp
          rw [h2, h3]
          exact hr _ (by simp at hi; omega)
      · rename_i k hf
        rw [hf] at h1
        unfold afv at hk
        split at hk
        · rename_i Sp ds hSp hds
          obtain ⟨x, hxf, hSx, hK⟩ := hk
          obtain ⟨f', xs, g1, g2, g3⟩ := hΦ k Sp hSp
          have hxe : a.eval f = .func (.func f') #[] xs := by rw [← g1]; generalize a.eval f = y at h1; cases h1; rfl
          have hrun := run_callv (w := w) ho hcal hxe g2
          obtain ⟨e1, e2⟩ := allO_spec hds
          have hargs : ArgsR c.fvals w (okB c (frz σ.h fun _ => true) μ w) ds (cl.args.map a.eval) := by
            refine ⟨by simp [e1], fun i hi => ?_⟩
            have hia : i < cl.args.size := by simp at e1; omega
            have h2 : (cl.args.toList.map (ev σ.t))[i]? = some (ev σ.t cl.args[i]) := by simp [hia]
            have h3 : ds[i]? = some ds[i] := List.getElem?_eq_getElem hi
            have h4 : ds.getD i .undef = ds[i] := by simp [List.getD_eq_getElem?_getD, h3]
            have h5 : (cl.args.map a.eval).getD i Go.undef = a.eval cl.args[i] := by simp [hia]
            rw [h4, h5]
            exact expoA_sound S.hs (fun _ => true) (he _) (e2 i _ _ h2 h3) (fun _ _ => rfl)
          unfold Oper.wp
          rw [hrun]
          refine (g3 w S.hs.fr _ _ ds x _ (fun q hq => hq.2.1) hSx hargs).mono ?_
          rintro e w' ⟨rfl, hb⟩
          have H2 := S.hs.below hb
          exact hn (.s x) σ.h σ.n μ x w' hK H2.1 H2.2 (.s x hxf)
        · exact hk.elim
      · exact hk.elim
    · exact hk.elim
  · rename_i op T x q r p ho
    rw [← hc] at hk
    obtain ⟨b, h1, h2⟩ := nil_sound (t := σ.t) (h := σ.h) (n := σ.n) (he x) hk x (.const (.slice none q r)) q r
    refine fin ⟨.s (.bool b), .bool b, σ.h, σ.n, μ, w, ?_, h1, S.hs, Ext.refl _ _ _ _, .s _ rfl⟩
    simp only [execOp, ho]
    exact run_value h2
  · exact pure_ hk
end
end Go.Proofs.Ytahgddfnbjpfiaa.Am
