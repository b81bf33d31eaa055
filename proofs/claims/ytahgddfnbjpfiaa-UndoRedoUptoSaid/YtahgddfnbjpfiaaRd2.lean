/- Texts that the law's proof stands on: V69, V70t, V65, V70u. -/
import Derived.Test.YtahgddfnbjpfiaaB27
import Derived.Test.YtahgddfnbjpfiaaRd1
import Derived.Test.YtahgddfnbjpfiaaB30
set_option linter.unusedVariables false
set_option linter.unusedSimpArgs false
set_option maxRecDepth 100000
set_option maxHeartbeats 16000000
namespace Go.Proofs.Ytahgddfnbjpfiaa
open Go Go.RowKit Am

def idN (es : List Edt) (i : Nat) : Idt := (es[i]?.map Edt.id).getD idL0
theorem idN_at {es : List Edt} {i : Nat} (h : i < es.length) : idN es i = es[i].id := by simp [idN, h]
/-- Have two edits the same Id? -/
def forkF (es : List Edt) : Bool := (List.range es.length).any fun i => (List.range i).any fun j => idE (idN es i) (idN es j)
theorem fork_yes {es : List Edt} {i j : Nat} (hi : i < es.length) (hj : j < i) (h : idE es[i].id es[j].id = true) : forkF es = true := by
  unfold forkF
  refine List.any_eq_true.2 ⟨i, List.mem_range.2 hi, List.any_eq_true.2 ⟨j, List.mem_range.2 hj, ?_⟩⟩
  rw [idN_at hi, idN_at (by omega)]
  exact h
theorem fork_no {es : List Edt} (h : ∀ i (hi : i < es.length) j (hj : j < i), idE es[i].id es[j].id = false) : forkF es = false := by
  unfold forkF
  refine List.any_eq_false.2 fun i hi => ?_
  rw [Bool.not_eq_true]
  refine List.any_eq_false.2 fun j hj => ?_
  have hi := List.mem_range.1 hi
  have hj := List.mem_range.1 hj
  rw [idN_at hi, idN_at (by omega), h i hi j hj]
  simp
theorem fork_none {es : List Edt} (h : forkF es = false) : ∀ i (hi : i < es.length) j (hj : j < i), idE es[i].id es[j].id = false := fun i hi j hj => by
  cases hx : idE es[i].id es[j].id with
  | false => rfl
  | true => rw [fork_yes hi hj hx] at h; cases h
def forkS : Fspec := fun _ ds r => ∃ es : List Edt, es.length ≤ 1048576 ∧ ds = [.sl (es.map encE)] ∧ r = .s (.bool (forkF es))
theorem fork_sound {plain : TypeId → Bool} {Γ : FuncId → Option Fspec} {Δ : FuncId → Option Pt} (hE : EnvOk ⟨Try.prog, plain, Γ, Δ, fun _ => none, 0⟩) (hpl : plain 29 = true) : Sound Try.prog 13 forkS := by
  refine sound_of_awp hE Try.func13 rfl (by kernel_rfl) ?_
  rintro Φ ds r ⟨es, hl, rfl, rfl⟩
  refine ⟨by simp [Try.f13], ?_⟩
  unfold st0
  refine W.out (E := ⟨Try.prog, plain, Γ, Δ, Φ, _⟩) ?_
  have hre := encE_rows es
  have gid : ∀ u e : Edt, (u.id.a.toList == e.id.a.toList && u.id.n == e.id.n) = idE u.id e.id := fun _ _ => rfl
  refine go trivial ?_
  refine x_loop (fun σ => ∃ (i : Nat), σ.t 0 = .sl (es.map encE) ∧ σ.t 3 = .s (.int .i64 i) ∧ i ≤ es.length ∧ (∀ a (ha : a < es.length), a < i → ∀ j (hj : j < a), idE es[a].id es[j].id = false)) (fun σ => es.length - ix (σ.t 3)) ⟨0, (by first | assumption | exact sxa trivial), (by first | assumption | exact sxa trivial), (by first | rfl | omega | assumption | (simp [*]; done)), (by first | rfl | omega | assumption | (simp [*]; done))⟩ ?_
  rintro t h n ⟨i, h0, h3, hf0, hf1⟩
  simp only at h0 h3
  refine go (And.intro h0 h3) ?_
  refine x_condP (sv (And.intro h0 h3)) (fun hc => ?_) (fun hc => ?_)
  · have hi : i < es.length := by omega
    have hrow : ((es.map encE).getD i []) = encE es[i] := getD_map _ _ _ hi
    have hout := hf1
    clear hf1
    refine go (And.intro h0 h3) ?_
    refine x_loop (fun σ => ∃ (j : Nat), σ.t 0 = .sl (es.map encE) ∧ σ.t 3 = .s (.int .i64 i) ∧ σ.t 4 = .s (.int .i64 j) ∧ j ≤ i ∧ (∀ a (ha : a < i), a < j → idE es[i].id es[a].id = false)) (fun σ => i - ix (σ.t 4)) ⟨0, (by first | assumption | exact sxa trivial), (by first | assumption | exact sxa trivial), (by first | assumption | exact sxa trivial), (by first | rfl | omega | assumption | (simp [*]; done)), (by first | rfl | omega | assumption | (simp [*]; done))⟩ ?_
    rintro t h n ⟨j, h0, h3, h4, hf0, hf1⟩
    simp only at h0 h3 h4
    refine go (And.intro h0 (And.intro h3 h4)) ?_
    refine x_condP (sv (And.intro h0 (And.intro h3 h4))) (fun hc => ?_) (fun hc => ?_)
    · have hj : j < i := by omega
      have hjl : j < es.length := by omega
      have hrj : ((es.map encE).getD j []) = encE es[j] := getD_map _ _ _ hjl
      cases c : idE es[i].id es[j].id
      · have hnx : ∀ a (ha : a < i), a < j + 1 → idE es[i].id es[a].id = false := fun a ha h => by
          by_cases e : a = j
          · subst e; exact c
          · exact hf1 a ha (by omega)
        clear hf1
        refine go (And.intro h0 (And.intro h3 (And.intro h4 (And.intro hre (And.intro hrow (And.intro hrj (And.intro @encE.eq_1 (And.intro hpl (And.intro gid c))))))))) ?_
        (refine ⟨⟨j + 1, ?_, ?_, ?_, ?_, ?_⟩, ?_⟩ <;> (first | omega | (dsimp only; omega) | (first | omega | assumption | (simp [*]; done)) | exact sxa @cast_succ | exact soa trivial))
      · have hy := fork_yes hi hj c
        clear hf1
        rw [hy]
        refine go (And.intro h0 (And.intro h3 (And.intro h4 (And.intro hre (And.intro hrow (And.intro hrj (And.intro @encE.eq_1 (And.intro hpl (And.intro gid c))))))))) ?_
        refine x_done (x_out (sr @Try.f13.eq_1) (by simp) (by simp) rfl)
    · have ej : j = i := by omega
      subst ej
      skip
      have hnx : ∀ a (ha : a < es.length), a < j + 1 → ∀ b (hb : b < a), idE es[a].id es[b].id = false := fun a ha h b hb => by
        by_cases e : a = j
        · subst e; exact hf1 b hb hb
        · exact hout a ha (by omega) b hb
      clear hf1 hout
      refine go (And.intro h0 (And.intro h3 h4)) ?_
      (refine ⟨⟨j + 1, ?_, ?_, ?_, ?_⟩, ?_⟩ <;> (first | omega | (dsimp only; omega) | (first | omega | assumption | (simp [*]; done)) | exact sxa @cast_succ | exact soa trivial))
  · have ei : i = es.length := by omega
    subst ei
    rw [fork_no fun a ha j hj => hf1 a ha ha j hj]
    clear hf1
    refine go (And.intro h0 h3) ?_
    refine x_done (x_out (sr @Try.f13.eq_1) (by simp) (by simp) rfl)
end Go.Proofs.Ytahgddfnbjpfiaa

set_option linter.unusedVariables false
set_option linter.unusedSimpArgs false
set_option maxRecDepth 100000
set_option maxHeartbeats 16000000
namespace Go.Proofs.Ytahgddfnbjpfiaa
open Go Go.RowKit Am

/-- What of a function's code comes behind its first pieces. -/
def tlC : Nat → Code → Code
  | 0, c => c
  | n + 1, .seq _ b => tlC n b
  | _, _ => .skip
theorem getB {L : List Bool} {i : Nat} {b : Bool} (h : L[i]? = some b) : (L.map encBo).getD i [] = [.s (.bool b)] := by
  rw [List.getD_eq_getElem?_getD, List.getElem?_map, h]
  rfl
theorem redoTail2 {plain : TypeId → Bool} {Γ : FuncId → Option Fspec} {Δ : FuncId → Option Pt} (hE : EnvOk ⟨Try.prog, plain, Γ, Δ, fun _ => none, 0⟩) {Φ : FvSpec} {t : Nat → Am.V} {h : Hp} {n : Nat} {es : List Edt} {u : Edt} {q : Nat} {was off on : List Bool} (hl : es.length ≤ 40) (hq : q < es.length) (lw : was.length = es.length) (lo : off.length = es.length + 1) (ln : on.length = es.length + 2) (f1 : off[q]? = some false) (f2 : off[es.length]? = some true) (f3 : on[es.length]? = some false) (f4 : on[es.length + 1]? = some true)
    (fon : ∀ i (hi : i < es.length), on[i]? = was[i]?) (fot : ∀ i (hi : i < es.length), es[i].id.a ≠ u.id.a → off[i]? = was[i]?) (fla : ∀ i (hi : i < es.length), q < i → off[i]? = was[i]?)
    (h0 : t 0 = .sl (es.map encE)) (h5 : t 5 = .s (.int .i64 q)) (h6 : t 6 = .ptr 0 0 0) (h9 : t 9 = .sl (was.map encBo)) (h10 : t 10 = .sl (off.map encBo)) (h11 : t 11 = .sl (on.map encBo)) (hh0 : h 0 = some ⟨18, [encE u], true⟩) (hn : 0 < n) :
    W ⟨Try.prog, plain, Γ, Δ, Φ, Try.f6.ntmps⟩ (tlC 10 (Try.f6.body.getD .skip)) (retQ ⟨Try.prog, plain, Γ, Δ, Φ, Try.f6.ntmps⟩ Try.f6.results.toList (.s (.bool true))) ⟨t, h, n⟩ := by
  have hre := encE_rows es
  have hr1 := encB_rows was
  have hr2 := encB_rows off
  have hr3 := encB_rows on
  have c1 : (es.length : Int) + 1 = ((es.length + 1 : Nat) : Int) := by omega
  have c2 : (es.length : Int) + 2 = ((es.length + 2 : Nat) : Int) := by omega
  have q1 : ((off.length : Int) != ((es.length + 1 : Nat) : Int)) = false := by rw [lo]; simp
  have q2 : ((on.length : Int) != ((es.length + 2 : Nat) : Int)) = false := by rw [ln]; simp
  have g1 := getB f1
  have g2 := getB f2
  have g3 := getB f3
  have g4 := getB f4
  dsimp only [tlC, Try.f6, Option.getD]
  refine go (And.intro h0 (And.intro h5 (And.intro h6 (And.intro h9 (And.intro h10 (And.intro h11 (And.intro hr2 (And.intro hr3 (And.intro c1 (And.intro c2 (And.intro q1 (And.intro q2 (And.intro g1 (And.intro g2 (And.intro g3 g4))))))))))))))) ?_
  refine x_loop (fun σ => ∃ (i : Nat), σ.t 0 = .sl (es.map encE) ∧ σ.t 5 = .s (.int .i64 q) ∧ σ.t 6 = .ptr 0 0 0 ∧ σ.t 9 = .sl (was.map encBo) ∧ σ.t 10 = .sl (off.map encBo) ∧ σ.t 11 = .sl (on.map encBo) ∧ σ.t 12 = .s (.int .i64 i) ∧ σ.h 0 = some ⟨18, [encE u], true⟩ ∧ 0 < σ.n ∧ i ≤ es.length) (fun σ => es.length - ix (σ.t 12)) ⟨0, (by first | assumption | exact sxa trivial), (by first | assumption | exact sxa trivial), (by first | assumption | exact sxa trivial), (by first | assumption | exact sxa trivial), (by first | assumption | exact sxa trivial), (by first | assumption | exact sxa trivial), (by first | assumption | exact sxa trivial), (by first | assumption | exact sxa trivial), (by first | omega | (dsimp only; omega) | exact soa trivial | omega | (simp; done)), (by first | rfl | omega | assumption | (simp [*]; done))⟩ ?_
  rintro t2 k2 n2 ⟨i, h0, h5, h6, h9, h10, h11, h12, hh0, hn1, hf0⟩
  simp only at h0 h5 h6 h9 h10 h11 h12 hh0 hn1
  refine go (And.intro h0 (And.intro h5 (And.intro h6 (And.intro h9 (And.intro h10 (And.intro h11 h12)))))) ?_
  refine x_condP (sv (And.intro h0 (And.intro h5 (And.intro h6 (And.intro h9 (And.intro h10 (And.intro h11 h12))))))) (fun hc => ?_) (fun hc => ?_)
  · have hi : i < es.length := by omega
    have hrow : ((es.map encE).getD i []) = encE es[i] := getD_map _ _ _ hi
    have hwi : i < was.length := by omega
    have hoi : i < off.length := by omega
    have ew : was[i]? = some was[i] := List.getElem?_eq_getElem hwi
    have eo : off[i]? = some off[i] := List.getElem?_eq_getElem hoi
    have p1 := getB ew
    have p2 := getB eo
    have p3 := getB ((fon i hi).trans ew)
    have p4 : es[i].id.a ≠ u.id.a → off[i] = was[i] := fun h => by
      have := fot i hi h
      rw [ew, eo] at this
      exact Option.some.inj this
    have p5 : q < i → off[i] = was[i] := fun h => by
      have := fla i hi h
      rw [ew, eo] at this
      exact Option.some.inj this
    clear ew eo fon fot fla f1 f2 f3 f4 g1 g2 g3 g4 q1 q2 c1 c2
    generalize was[i] = x at *
    generalize off[i] = y at *
    generalize es[i] = e at *
    cases d1 : (e.id.a.toList == u.id.a.toList)
    · have hxy : y = x := p4 fun h => by rw [h] at d1; simp at d1
      subst hxy
      clear p4 p5
      by_cases d3 : (q : Int) < (i : Int)
      · refine go (And.intro h0 (And.intro h5 (And.intro h6 (And.intro h9 (And.intro h10 (And.intro h11 (And.intro h12 (And.intro hh0 (And.intro hre (And.intro hr1 (And.intro hr2 (And.intro hr3 (And.intro hrow (And.intro p1 (And.intro p2 (And.intro p3 (And.intro @encE.eq_1 (And.intro d1 d3)))))))))))))))))) ?_
        (refine ⟨⟨i + 1, ?_, ?_, ?_, ?_, ?_, ?_, ?_, ?_, ?_, ?_⟩, ?_⟩ <;> (first | omega | (dsimp only; omega) | (first | omega | assumption | (simp [*]; done)) | exact sxa @cast_succ | exact soa trivial))
      · refine go (And.intro h0 (And.intro h5 (And.intro h6 (And.intro h9 (And.intro h10 (And.intro h11 (And.intro h12 (And.intro hh0 (And.intro hre (And.intro hr1 (And.intro hr2 (And.intro hr3 (And.intro hrow (And.intro p1 (And.intro p2 (And.intro p3 (And.intro @encE.eq_1 (And.intro d1 d3)))))))))))))))))) ?_
        (refine ⟨⟨i + 1, ?_, ?_, ?_, ?_, ?_, ?_, ?_, ?_, ?_, ?_⟩, ?_⟩ <;> (first | omega | (dsimp only; omega) | (first | omega | assumption | (simp [*]; done)) | exact sxa @cast_succ | exact soa trivial))
    · by_cases d2 : q < i
      · have hxy : y = x := p5 d2
        subst hxy
        clear p4 p5
        have d3 : (q : Int) < (i : Int) := by omega
        refine go (And.intro h0 (And.intro h5 (And.intro h6 (And.intro h9 (And.intro h10 (And.intro h11 (And.intro h12 (And.intro hh0 (And.intro hre (And.intro hr1 (And.intro hr2 (And.intro hr3 (And.intro hrow (And.intro p1 (And.intro p2 (And.intro p3 (And.intro @encE.eq_1 (And.intro d1 d3)))))))))))))))))) ?_
        (refine ⟨⟨i + 1, ?_, ?_, ?_, ?_, ?_, ?_, ?_, ?_, ?_, ?_⟩, ?_⟩ <;> (first | omega | (dsimp only; omega) | (first | omega | assumption | (simp [*]; done)) | exact sxa @cast_succ | exact soa trivial))
      · clear p4 p5
        have d3 : ¬ (q : Int) < (i : Int) := by omega
        refine go (And.intro h0 (And.intro h5 (And.intro h6 (And.intro h9 (And.intro h10 (And.intro h11 (And.intro h12 (And.intro hh0 (And.intro hre (And.intro hr1 (And.intro hr2 (And.intro hr3 (And.intro hrow (And.intro p1 (And.intro p2 (And.intro p3 (And.intro @encE.eq_1 (And.intro d1 d3)))))))))))))))))) ?_
        (refine ⟨⟨i + 1, ?_, ?_, ?_, ?_, ?_, ?_, ?_, ?_, ?_, ?_⟩, ?_⟩ <;> (first | omega | (dsimp only; omega) | (first | omega | assumption | (simp [*]; done)) | exact sxa @cast_succ | exact soa trivial))
  · have e : i = es.length := by omega
    subst e
    refine go (And.intro h0 h12) ?_
    refine x_done (x_out (sr @Try.f6.eq_1) (by simp) (by simp) rfl)
end Go.Proofs.Ytahgddfnbjpfiaa

set_option linter.unusedVariables false
set_option linter.unusedSimpArgs false
set_option maxRecDepth 100000
set_option maxHeartbeats 16000000
namespace Go.Proofs.Ytahgddfnbjpfiaa
open Go Go.RowKit Am

/-- Is an edit of a kind that can be undone? -/
def keepE (e : Edt) : Bool := decide (e.kind ≤ 4)
/-- The status of the edits that can be undone. -/
def wantL : List Edt → List Bool
  | [] => []
  | e :: l => if keepE e = true then aliveF unF e l :: wantL l else wantL l
theorem un_keep {u e : Edt} (h : unF u e = true) : keepE u = true := by
  unfold unF at h
  simp only [Bool.and_eq_true, decide_eq_true_eq] at h
  unfold keepE
  exact decide_eq_true (by omega)
theorem alive_keep (e : Edt) : ∀ l : List Edt, aliveF unF e (l.filter keepE) = aliveF unF e l
  | [] => rfl
  | u :: l => by
    cases h : keepE u with
    | true => rw [List.filter_cons_of_pos h, aliveF, aliveF, alive_keep u l, alive_keep e l]
    | false =>
      rw [List.filter_cons_of_neg (by simp [h]), aliveF, alive_keep e l]
      cases hx : unF u e with
      | false => simp
      | true => rw [un_keep hx] at h; cases h
theorem all_keep : ∀ l : List Edt, allL unF (l.filter keepE) = wantL l
  | [] => rfl
  | e :: l => by
    rw [wantL]
    cases h : keepE e with
    | true => rw [List.filter_cons_of_pos h, if_pos rfl, allL, alive_keep e l, all_keep l]
    | false => rw [List.filter_cons_of_neg (by simp [h]), if_neg (by decide), all_keep l]
theorem alive_kind4 {e : Edt} (l : List Edt) (h : keepE e = false) : aliveF unF e l = true := by
  have h1 : 4 < e.kind := by
    unfold keepE at h
    have := of_decide_eq_false h
    omega
  have : ∀ u ∈ l, unF u e = false := fun u _ => by
    unfold unF undF
    have : decide (e.kind ≤ 4) = false := decide_eq_false (by omega)
    simp [this]
  clear h h1
  induction l with
  | nil => rfl
  | cons u l ih => rw [aliveF, this u (by simp), ih fun v hv => this v (by simp [hv])]; rfl
theorem touch_rows (h : Hp) (d : Nat) {α : Type} (f : α → List Am.V) (hf : ∀ a, ∀ v ∈ f a, deepc v = true) (l : List α) : (l.map f).flatMap (fun r => r.flatMap (touch h d)) = [] := by
  rw [List.flatMap_eq_nil_iff]
  intro r hr
  obtain ⟨a, _, rfl⟩ := List.mem_map.1 hr
  rw [List.flatMap_eq_nil_iff]
  exact fun v hv => touch_deep h d (hf a v hv)
theorem touch_loc {h : Hp} {b len cap : Nat} {α : Type} {f : α → List Am.V} (hf : ∀ a, ∀ v ∈ f a, deepc v = true) {l : List α} (hr : rowsOf h (.loc b 0 len cap) = some (l.map f)) : touchA h (.loc b 0 len cap) = [b] := by
  show touch h (1 + 1) (.loc b 0 len cap) = [b]
  rw [touch]
  simp only [hr, touch_rows h 1 f hf l]
theorem votesLaw_sound {plain : TypeId → Bool} {Γ : FuncId → Option Fspec} {Δ : FuncId → Option Pt} (hE : EnvOk ⟨Try.prog, plain, Γ, Δ, fun _ => none, 0⟩) (g_alive : Γ 9 = some aliveS) (g_sorted : Γ 10 = some sortedS) (g_live : Γ 11 = some live2S) : Sound Try.prog 8 lawES := by
  refine sound_of_awp hE Try.func8 rfl (by kernel_rfl) ?_
  rintro Φ ds r ⟨es, hs, rfl, rfl⟩
  refine ⟨by simp [Try.f8], ?_⟩
  unfold st0
  refine W.out (E := ⟨Try.prog, plain, Γ, Δ, Φ, _⟩) ?_
  refine go trivial ?_
  refine x_callN rfl rfl rfl rfl (sv trivial) g_alive (sv trivial) (se trivial) ⟨rfl, rfl⟩ rfl ?_
  refine go trivial ?_
  refine x_callN rfl rfl rfl rfl (sv trivial) g_sorted (sv trivial) (se trivial) ⟨es, hs, rfl, rfl⟩ rfl ?_
  cases hq : srtF es
  · rw [if_neg (by decide)]
    have z0 : ((0 : Int) == 0) = true := rfl
    refine go z0 ?_
    refine x_done (x_out (sr @Try.f8.eq_1) (by simp) (by simp) rfl)
  have z1 : ((1 : Int) == 0) = false := rfl
  have S := srt_of hq
  have hl40 := S.len
  rw [if_pos rfl]
  refine go z1 ?_
  refine x_callS rfl rfl rfl rfl (sv trivial) g_live (sv trivial) (se trivial) ⟨es, hs.l, rfl, rfl⟩ (by simp) (by simp [touchA, touch]) ?_
  have hlen := allL_len unF es
  have hget := allL_get unF es
  generalize hL : allL unF es = L at *
  have hr := encB_rows L
  have hre := encE_rows es
  refine go trivial ?_
  refine x_loopG2 3 18 4 1 (fun σ => ∃ (i : Nat) (b : Nat) (cap : Nat) (sm : List Edt) (sp : List (List Am.V)) (b2 : Nat) (cap2 : Nat) (wt : List Bool) (sp2 : List (List Am.V)), σ.t 0 = .sl (es.map encE) ∧ σ.t 3 = .loc b 0 sm.length cap ∧ σ.t 4 = .loc b2 0 wt.length cap2 ∧ σ.t 5 = .sl (L.map encBo) ∧ σ.t 6 = .s (.int .i64 i) ∧ σ.h b = some ⟨18, sm.map encE ++ sp, true⟩ ∧ σ.h b2 = some ⟨1, wt.map encBo ++ sp2, true⟩ ∧ b < σ.n ∧ b2 < σ.n ∧ i ≤ es.length ∧ ¬ b = b2 ∧ sm.length ≤ cap ∧ cap ≤ sm.length + sp.length ∧ wt.length ≤ cap2 ∧ cap2 ≤ wt.length + sp2.length ∧ sm.length ≤ i ∧ wt.length ≤ i ∧ sm ++ (es.drop i).filter keepE = es.filter keepE ∧ wt ++ wantL (es.drop i) = wantL es) (fun σ => es.length - ix (σ.t 6)) (sca trivial) (by decide) (sca trivial) ⟨0, _, 0, [], [], _, 0, [], [], (by first | assumption | exact sxa trivial), (by first | assumption | exact sxa trivial), (by first | assumption | exact sxa trivial), (by first | assumption | exact sxa trivial), (by first | assumption | exact sxa trivial), (by first | assumption | exact sxa trivial), (by first | assumption | exact sxa trivial), (by first | omega | (dsimp only; omega) | exact soa trivial | omega | (simp; done)), (by first | omega | (dsimp only; omega) | exact soa trivial | omega | (simp; done)), (by first | rfl | omega | assumption | (simp [*]; done)), (by first | rfl | omega | assumption | (simp [*]; done)), (by first | rfl | omega | assumption | (simp [*]; done)), (by first | rfl | omega | assumption | (simp [*]; done)), (by first | rfl | omega | assumption | (simp [*]; done)), (by first | rfl | omega | assumption | (simp [*]; done)), (by first | rfl | omega | assumption | (simp [*]; done)), (by first | rfl | omega | assumption | (simp [*]; done)), (by first | rfl | omega | assumption | (simp [*]; done)), (by first | rfl | omega | assumption | (simp [*]; done))⟩ ?_
  rintro t h n ⟨i, b, cap, sm, sp, b2, cap2, wt, sp2, h0, h3, h4, h5, h6, hhb, hhb2, hn1, hn2, hf0, hf1, hf2, hf3, hf4, hf5, hf6, hf7, hf8, hf9⟩
  simp only at h0 h3 h4 h5 h6 hhb hhb2 hn1 hn2
  refine go (And.intro h0 (And.intro h3 (And.intro h4 (And.intro h5 h6)))) ?_
  refine x_condP (sv (And.intro h0 (And.intro h3 (And.intro h4 (And.intro h5 h6))))) (fun hc => ?_) (fun hc => ?_)
  · have hi : i < es.length := by omega
    have hiL : i < L.length := by omega
    have hrow : ((es.map encE).getD i []) = encE es[i] := getD_map _ _ _ hi
    have hrL : ((L.map encBo).getD i []) = [.s (.bool L[i])] := getD_map _ _ _ hiL
    have hv : L[i] = aliveF unF es[i] (es.drop (i + 1)) := by
      have := hget i hi
      rw [List.getElem?_eq_getElem hiL] at this
      exact Option.some.inj this
    rw [List.drop_eq_getElem_cons hi] at hf8 hf9
    rw [wantL, ← hv] at hf9
    have hk0 : keepE es[i] = false → L[i] = true := fun h => by rw [hv]; exact alive_kind4 _ h
    clear hv
    generalize L[i] = x at *
    generalize hee : es[i] = e at *
    have e1 : (b = n) = False := by simp <;> omega
    have e2 : (b2 = n) = False := by simp <;> omega
    have e3 : (n = b) = False := by simp <;> omega
    have e4 : (n = b2) = False := by simp <;> omega
    have e5 : (b = b2) = False := by simp <;> omega
    have e6 : (b2 = b) = False := by simp <;> omega
    by_cases c1 : e.kind ≤ 4
    · have hk : keepE e = true := decide_eq_true c1
      rw [List.filter_cons_of_pos hk] at hf8
      rw [hk, if_pos rfl] at hf9
      have n1 : (b2 = n + 1) = False := by simp <;> omega
      have n2 : (n + 1 = b2) = False := by simp <;> omega
      have n3 : (b = n + 1) = False := by simp <;> omega
      have n4 : (n + 1 = n + 1 + 1) = False := by simp <;> omega
      have n5 : (n + 1 + 1 = n + 1) = False := by simp <;> omega
      have n6 : (b2 = n + 1 + 1) = False := by simp <;> omega
      have n7 : (n + 1 + 1 = b2) = False := by simp <;> omega
      refine go (And.intro h0 (And.intro h3 (And.intro h4 (And.intro h5 (And.intro h6 (And.intro hre (And.intro hrow (And.intro @encE.eq_1 c1)))))))) ?_
      refine x_appendO rfl rfl rfl rfl rfl rfl (sv (And.intro h3 (And.intro hhb (And.intro @encE.eq_1 (And.intro e1 e3))))) (by decide) (sc (And.intro h3 (And.intro hhb (And.intro @encE.eq_1 (And.intro e1 e3))))) (sv (And.intro h3 (And.intro hhb (And.intro @encE.eq_1 (And.intro e1 e3))))) (sx (And.intro h3 (And.intro hhb (And.intro @encE.eq_1 (And.intro e1 e3))))) (by first | rfl | (simp; done) | (simp [spare_len]; omega)) (by first | omega | (simp; done) | (simp [spare_len]; omega)) (by first | omega | (simp; done) | (simp [spare_len]; omega)) (sx (And.intro h3 (And.intro hhb (And.intro @encE.eq_1 (And.intro e1 e3))))) (okRowsE [e]) (by first | omega | (simp; done) | (simp [spare_len]; omega)) (fun cap' hcap' => ?_)
      have hc2 : sm.length + 1 ≤ cap' := hcap'
      refine go (And.intro h0 (And.intro h3 (And.intro h4 (And.intro h5 (And.intro h6 (And.intro hr (And.intro hrL (And.intro hhb2 (And.intro e1 (And.intro e2 (And.intro e3 (And.intro e4 (And.intro e5 (And.intro e6 (And.intro n1 (And.intro n2 (And.intro n3 (And.intro n4 (And.intro n5 (And.intro n6 n7)))))))))))))))))))) ?_
      have hs1 := spare_len 18 (cap' - (sm.length + 1))
      obtain ⟨cp, hcp⟩ : ∃ cp, cap' = cp := ⟨_, rfl⟩
      rw [hcp] at hc2 hs1
      simp only [hcp]
      clear hcap'
      refine x_appendO rfl rfl rfl rfl rfl rfl (sv (And.intro hhb2 (And.intro @encBo.eq_1 (And.intro e1 (And.intro e2 (And.intro e3 (And.intro e4 (And.intro e5 (And.intro e6 (And.intro n1 (And.intro n2 (And.intro n3 (And.intro n4 (And.intro n5 (And.intro n6 n7))))))))))))))) (by decide) (sc (And.intro hhb2 (And.intro @encBo.eq_1 (And.intro e1 (And.intro e2 (And.intro e3 (And.intro e4 (And.intro e5 (And.intro e6 (And.intro n1 (And.intro n2 (And.intro n3 (And.intro n4 (And.intro n5 (And.intro n6 n7))))))))))))))) (sv (And.intro hhb2 (And.intro @encBo.eq_1 (And.intro e1 (And.intro e2 (And.intro e3 (And.intro e4 (And.intro e5 (And.intro e6 (And.intro n1 (And.intro n2 (And.intro n3 (And.intro n4 (And.intro n5 (And.intro n6 n7))))))))))))))) (sx (And.intro hhb2 (And.intro @encBo.eq_1 (And.intro e1 (And.intro e2 (And.intro e3 (And.intro e4 (And.intro e5 (And.intro e6 (And.intro n1 (And.intro n2 (And.intro n3 (And.intro n4 (And.intro n5 (And.intro n6 n7))))))))))))))) (by first | rfl | (simp; done) | (simp [spare_len]; omega)) (by first | omega | (simp; done) | (simp [spare_len]; omega)) (by first | omega | (simp; done) | (simp [spare_len]; omega)) (sx (And.intro hhb2 (And.intro @encBo.eq_1 (And.intro e1 (And.intro e2 (And.intro e3 (And.intro e4 (And.intro e5 (And.intro e6 (And.intro n1 (And.intro n2 (And.intro n3 (And.intro n4 (And.intro n5 (And.intro n6 n7))))))))))))))) (okRowsB [x]) (by first | omega | (simp; done) | (simp [spare_len]; omega)) (fun cap' hcap' => ?_)
      have hc3 : wt.length + 1 ≤ cap' := hcap'
      have hs2 := spare_len 1 (cap' - (wt.length + 1))
      have n8 : (n + 1 = n + 1 + 1 + 1) = False := by simp <;> omega
      have n9 : (n + 1 + 1 + 1 = n + 1) = False := by simp <;> omega
      have m1 : (sm ++ [e]).length = sm.length + 1 := by simp
      have m2 : (sm ++ [e]).map encE = sm.map encE ++ [encE e] := by simp
      have m3 : (wt ++ [x]).length = wt.length + 1 := by simp
      have m4 : (wt ++ [x]).map encBo = wt.map encBo ++ [encBo x] := by simp
      have m5 : (sm ++ [e]) ++ (es.drop (i + 1)).filter keepE = es.filter keepE := by rw [List.append_assoc]; exact hf8
      have m6 : (wt ++ [x]) ++ wantL (es.drop (i + 1)) = wantL es := by rw [List.append_assoc]; exact hf9
      clear hf8 hf9
      refine go (And.intro h0 (And.intro h3 (And.intro h4 (And.intro h5 (And.intro h6 (And.intro hhb2 (And.intro @encBo.eq_1 (And.intro e1 (And.intro e2 (And.intro e3 (And.intro e4 (And.intro e5 (And.intro e6 (And.intro n1 (And.intro n2 (And.intro n3 (And.intro n4 (And.intro n5 (And.intro n6 (And.intro n7 (And.intro n8 n9))))))))))))))))))))) ?_
      (refine ⟨⟨i + 1, n + 1, cp, sm ++ [e], spare 18 (cp - (sm.length + 1)), n + 1 + 1 + 1, cap', wt ++ [x], spare 1 (cap' - (wt.length + 1)), ?_, ?_, ?_, ?_, ?_, ?_, ?_, ?_, ?_, ?_, ?_, ?_, ?_, ?_, ?_, ?_, ?_, ?_, ?_⟩, ?_⟩ <;> (first | omega | (dsimp only; omega) | (first | omega | assumption | (simp [*]; done)) | exact sxa (And.intro @cast_succ (And.intro @encE.eq_1 (And.intro @encBo.eq_1 (And.intro m1 (And.intro m2 (And.intro m3 (And.intro m4 (And.intro e1 (And.intro e2 (And.intro e3 (And.intro e4 (And.intro e5 (And.intro e6 (And.intro n1 (And.intro n2 (And.intro n3 (And.intro n4 (And.intro n5 (And.intro n6 (And.intro n7 (And.intro n8 n9))))))))))))))))))))) | exact soa trivial))
    · have hk : keepE e = false := decide_eq_false c1
      have hx := hk0 hk
      subst hx
      rw [List.filter_cons_of_neg (by simp [hk])] at hf8
      rw [hk, if_neg (by decide)] at hf9
      refine go (And.intro h0 (And.intro h3 (And.intro h4 (And.intro h5 (And.intro h6 (And.intro hre (And.intro hrow (And.intro hr (And.intro hrL (And.intro @encE.eq_1 c1)))))))))) ?_
      (refine ⟨⟨i + 1, b, cap, sm, sp, b2, cap2, wt, sp2, ?_, ?_, ?_, ?_, ?_, ?_, ?_, ?_, ?_, ?_, ?_, ?_, ?_, ?_, ?_, ?_, ?_, ?_, ?_⟩, ?_⟩ <;> (first | omega | (dsimp only; omega) | (first | omega | assumption | (simp [*]; done)) | exact sxa @cast_succ | exact soa trivial))
  · have ei : i = es.length := by omega
    subst ei
    rw [List.drop_length, List.filter_nil, List.append_nil] at hf8
    rw [List.drop_length, wantL, List.append_nil] at hf9
    subst hf9
    have hsm : smL sm := by
      rw [hf8]
      exact ⟨Nat.le_trans (List.length_filter_le _ _) hs.1, fun u hu => hs.l.2 u (List.mem_filter.1 hu).1⟩
    have hall : allL unF sm = wantL es := by rw [hf8]; exact all_keep es
    clear hf8
    generalize hW : wantL es = wt at *
    clear hW
    have hrw := encB_rows wt
    have e5 : (b = b2) = False := by simp <;> omega
    have e6 : (b2 = b) = False := by simp <;> omega
    have hx1 : ∀ h d, allO (allO (expo h d)) (sm.map encE) = some (sm.map encE) := fun h d => allO_rows h d (deep_map encE _ (fun a => by simp [encE, deepc]))
    have tk : (sm.map encE ++ sp).take sm.length = sm.map encE := List.take_left' (by simp)
    have ln : (sm.length ≤ (sm.map encE ++ sp).length) = True := by simp
    refine go (And.intro h0 (And.intro h3 (And.intro h4 (And.intro h5 h6)))) ?_
    refine x_callF rfl rfl rfl rfl (sv (And.intro h3 (And.intro hhb (And.intro hx1 (And.intro tk ln))))) g_live (sv (And.intro h3 (And.intro hhb (And.intro hx1 (And.intro tk ln))))) (se (And.intro h3 (And.intro hhb (And.intro hx1 (And.intro tk ln))))) ⟨sm, hsm, rfl, rfl⟩ (by simp) (fun h2 hold => ?_)
    rw [hall]
    have hw : h2 b2 = some ⟨1, wt.map encBo ++ sp2, true⟩ := by
      rw [hold b2 (by
        have r1 : rowsOf h (.loc b 0 sm.length cap) = some (sm.map encE) := by simp [rowsOf, hhb, tk]
        simp only [List.flatMap_cons, List.flatMap_nil, touch_loc (fun a v hv => by simp only [encE, List.mem_cons, List.not_mem_nil, or_false] at hv; rcases hv with rfl | rfl | rfl | rfl | rfl | rfl | rfl | rfl | rfl | rfl | rfl | rfl | rfl | rfl | rfl | rfl | rfl | rfl <;> simp [deepc]) r1]
        simp; omega)]
      exact hhb2
    clear hold hhb hhb2 hall hx1 tk ln
    have hwl : wt.length ≤ es.length := by omega
    refine go (And.intro h4 hw) ?_
    refine x_loop (fun σ => ∃ (i : Nat), σ.t 4 = .loc b2 0 wt.length cap2 ∧ σ.t 7 = .sl (wt.map encBo) ∧ σ.t 8 = .s (.int .i64 i) ∧ σ.h b2 = some ⟨1, wt.map encBo ++ sp2, true⟩ ∧ b2 < σ.n ∧ i ≤ wt.length) (fun σ => wt.length - ix (σ.t 8)) ⟨0, (by first | assumption | exact sxa trivial), (by first | assumption | exact sxa trivial), (by first | assumption | exact sxa trivial), (by first | assumption | exact sxa trivial), (by first | omega | (dsimp only; omega) | exact soa trivial | omega | (simp; done)), (by first | rfl | omega | assumption | (simp [*]; done))⟩ ?_
    rintro t2 g2 n2 ⟨i, h4, h7, h8, hhb2, hn1, hf0⟩
    simp only at h4 h7 h8 hhb2 hn1
    refine go (And.intro h4 (And.intro h7 h8)) ?_
    refine x_condP (sv (And.intro h4 (And.intro h7 h8))) (fun hc => ?_) (fun hc => ?_)
    · have hi : i < wt.length := by omega
      have hrow : ((wt.map encBo).getD i []) = [.s (.bool wt[i])] := getD_map _ _ _ hi
      have hrow2 : ((wt.map encBo ++ sp2).getD i []) = [.s (.bool wt[i])] := by
        rw [List.getD_eq_getElem?_getD, List.getElem?_append_left (by simpa using hi), ← List.getD_eq_getElem?_getD]
        exact hrow
      have ln2 : (wt.map encBo ++ sp2).length = wt.length + sp2.length := by simp
      have hil : (i < wt.length + sp2.length) = True := by simp <;> omega
      generalize wt[i] = x at *
      refine go (And.intro h4 (And.intro h7 (And.intro h8 (And.intro hhb2 (And.intro hrw (And.intro hrow (And.intro hrow2 (And.intro ln2 hil)))))))) ?_
      (refine ⟨⟨i + 1, ?_, ?_, ?_, ?_, ?_, ?_⟩, ?_⟩ <;> (first | omega | (dsimp only; omega) | (first | omega | assumption | (simp [*]; done)) | exact sxa @cast_succ | exact soa trivial))
    · have e : i = wt.length := by omega
      subst e
      refine go (And.intro h4 (And.intro h7 h8)) ?_
      refine x_done (x_out (sr @Try.f8.eq_1) (by simp) (by simp) rfl)
end Go.Proofs.Ytahgddfnbjpfiaa

set_option linter.unusedVariables false
set_option linter.unusedSimpArgs false
set_option maxRecDepth 100000
set_option maxHeartbeats 16000000
namespace Go.Proofs.Ytahgddfnbjpfiaa
open Go Go.RowKit Am

theorem deepE (a : Edt) : ∀ v ∈ encE a, deepc v = true := fun v hv => by
  simp only [encE, List.mem_cons, List.not_mem_nil, or_false] at hv
  rcases hv with rfl | rfl | rfl | rfl | rfl | rfl | rfl | rfl | rfl | rfl | rfl | rfl | rfl | rfl | rfl | rfl | rfl | rfl <;> simp [deepc]
theorem touch_one {H : Hp} {bb len cap : Nat} {l : List Edt} (hr : rowsOf H (.loc bb 0 len cap) = some (l.map encE)) {b' : Nat} (hne : b' ≠ bb) : (List.flatMap (touchA H) [.loc bb 0 len cap]).contains b' = false := by
  simp only [List.flatMap_cons, List.flatMap_nil, touch_loc deepE hr, List.append_nil]
  simp [hne]
theorem redoTail1 {plain : TypeId → Bool} {Γ : FuncId → Option Fspec} {Δ : FuncId → Option Pt} (hE : EnvOk ⟨Try.prog, plain, Γ, Δ, fun _ => none, 0⟩) (g_next : Γ 14 = some nextS) (g_live : Γ 11 = some live2S) {Φ : FvSpec} {t : Nat → Am.V} {h : Hp} {n : Nat} {es : List Edt} {u b : Edt} {q : Nat} (hs : smL es) (hl : es.length ≤ 40) (hq : q < es.length) (hud : u.deps.length ≤ 1048576) (hbd : b.deps.length ≤ 1048576) (hsn : ∀ x ∈ es ++ [u], SmN x) (hb : nextF (es ++ [u]) u = b) (R : Redo es q hq u b)
    (h0 : t 0 = .sl (es.map encE)) (h5 : t 5 = .s (.int .i64 q)) (h6 : t 6 = .ptr 0 0 0) (hh0 : h 0 = some ⟨18, [encE u], true⟩) (hn : 0 < n) :
    W ⟨Try.prog, plain, Γ, Δ, Φ, Try.f6.ntmps⟩ (tlC 7 (Try.f6.body.getD .skip)) (retQ ⟨Try.prog, plain, Γ, Δ, Φ, Try.f6.ntmps⟩ Try.f6.results.toList (.s (.bool true))) ⟨t, h, n⟩ := by
  have hre := encE_rows es
  dsimp only [tlC, Try.f6, Option.getD]
  have hMl : (es ++ [u]).length = es.length + 1 := by simp
  have hMm : (es ++ [u]).map encE = es.map encE ++ [encE u] := by simp
  refine x_cutF 7 (fun σ => ∃ (bb : Nat) (cap : Nat) (sp : List (List Am.V)), σ.t 0 = .sl (es.map encE) ∧ σ.t 5 = .s (.int .i64 q) ∧ σ.t 6 = .ptr 0 0 0 ∧ σ.t 7 = .loc bb 0 (es ++ [u]).length cap ∧ σ.h 0 = some ⟨18, [encE u], true⟩ ∧ σ.h bb = some ⟨18, (es ++ [u]).map encE ++ sp, true⟩ ∧ 0 < σ.n ∧ (es ++ [u]).length ≤ cap ∧ ¬ bb = 0) ?_ ?_
  · refine go (And.intro h0 (And.intro h5 (And.intro h6 (And.intro hh0 @encE.eq_1)))) ?_
    refine x_append0 rfl rfl rfl rfl rfl rfl (sv h0) (by decide) (sc h0) (sv h0) (sx h0) (okRowsE es) (by first | omega | (simp; done) | (simp [spare_len]; omega)) (fun cap' hcap' => ?_)
    have hc1 : es.length ≤ cap' := by simpa using hcap'
    have e1 : (n = n + 1) = False := by simp
    have e2 : (n + 1 = n) = False := by simp
    have e3 : (0 = n) = False := eq_false (by omega)
    have e4 : (n = 0) = False := eq_false (by omega)
    have e5 : (0 = n + 1) = False := by simp
    have e6 : (n + 1 = 0) = False := by simp
    refine go (And.intro h0 (And.intro h5 (And.intro h6 (And.intro hh0 (And.intro @encE.eq_1 (And.intro e1 (And.intro e2 (And.intro e3 (And.intro e4 (And.intro e5 e6)))))))))) ?_
    refine x_appendO rfl rfl rfl rfl rfl rfl (sv (And.intro @encE.eq_1 (And.intro e1 (And.intro e2 (And.intro e3 (And.intro e4 (And.intro e5 e6))))))) (by decide) (sc (And.intro @encE.eq_1 (And.intro e1 (And.intro e2 (And.intro e3 (And.intro e4 (And.intro e5 e6))))))) (sv (And.intro @encE.eq_1 (And.intro e1 (And.intro e2 (And.intro e3 (And.intro e4 (And.intro e5 e6))))))) (sx (And.intro @encE.eq_1 (And.intro e1 (And.intro e2 (And.intro e3 (And.intro e4 (And.intro e5 e6))))))) (by first | rfl | (simp; done) | (simp [spare_len]; omega)) (by first | omega | (simp; done) | (simp [spare_len]; omega)) (by first | omega | (simp; done) | (simp [spare_len]; omega)) (sx (And.intro @encE.eq_1 (And.intro e1 (And.intro e2 (And.intro e3 (And.intro e4 (And.intro e5 e6))))))) (okRowsE [u]) (by first | omega | (simp; done) | (simp [spare_len]; omega)) (fun cap' hcap' => ?_)
    have hc2 : es.length + 1 ≤ cap' := by simpa using hcap'
    refine go (And.intro h0 (And.intro h5 (And.intro h6 (And.intro hh0 (And.intro @encE.eq_1 (And.intro e1 (And.intro e2 (And.intro e3 (And.intro e4 (And.intro e5 e6)))))))))) ?_
    (refine ⟨n + 1, cap', spare 18 (cap' - (es.length + 1)), ?_, ?_, ?_, ?_, ?_, ?_, ?_, ?_, ?_⟩ <;> (first | omega | (dsimp only; omega) | exact sxa (And.intro @cast_succ (And.intro hMl (And.intro hMm (And.intro @encE.eq_1 (And.intro e1 (And.intro e2 (And.intro e3 (And.intro e4 (And.intro e5 e6))))))))) | exact soa trivial | (first | omega | assumption | (simp [*]; done))))
  rintro t h n ⟨bb, cap, sp, h0, h5, h6, h7, hh0, hhbb, hn1, hf0, hf1⟩
  simp only at h0 h5 h6 h7 hh0 hhbb hn1
  have hx1 : ∀ h d, allO (allO (expo h d)) ((es ++ [u]).map encE) = some ((es ++ [u]).map encE) := fun h d => allO_rows h d (deep_map encE _ (fun a => by simp [encE, deepc]))
  have tk : ((es ++ [u]).map encE ++ sp).take (es ++ [u]).length = (es ++ [u]).map encE := List.take_left' (by simp)
  have ln : ((es ++ [u]).length ≤ ((es ++ [u]).map encE ++ sp).length) = True := by simp
  refine ⟨.sl ((es ++ [u]).map encE), ?_, fun h2 hold => ?_⟩
  · rw [h7]
    exact se (And.intro hhbb (And.intro hx1 (And.intro tk ln)))
  have r1 : rowsOf h (.loc bb 0 (es ++ [u]).length cap) = some ((es ++ [u]).map encE) := by simp only [rowsOf, hhbb, Nat.zero_add, tk, List.drop_zero, ln, if_true]
  have hw : h2 0 = some ⟨18, [encE u], true⟩ := by
    rw [hold 0 (by
      rw [h7]
      simp only [touch_loc deepE r1]
      simp; omega)]
    exact hh0
  clear hold hhbb hx1 tk ln r1 hh0 h7
  have hi0 : (es ++ [u])[es.length]'(by simp) = u := by simp
  have hMs : smL (es ++ [u]) := ⟨by omega, fun x hx => by
    rcases List.mem_append.1 hx with hx | hx
    · exact hs.2 x hx
    · simp at hx; subst hx; exact hud⟩
  have eb := encE_rows (es ++ [u])
  have hwas : (allL unF es).length = es.length := allL_len unF es
  have hoff : (allL unF (es ++ [u])).length = es.length + 1 := by rw [allL_len]; simp
  have hon : (allL unF (es ++ [u] ++ [b])).length = es.length + 2 := by rw [allL_len]; simp
  have hNs : smL (es ++ [u] ++ [b]) := ⟨by simp; omega, fun x hx => by
    rcases List.mem_append.1 hx with hx | hx
    · exact hMs.2 x hx
    · simp at hx; subst hx; exact hbd⟩
  refine go (And.intro h0 (And.intro h5 h6)) ?_
  refine x_callS rfl rfl rfl rfl (sv trivial) g_next (sv trivial) (se trivial) ⟨es ++ [u], es.length, by omega, by omega, hsn, rfl, rfl⟩ (by simp) (by simp [touchA, touch]) ?_
  rw [hi0, hb]
  have e1 : (n = n + 1) = False := by simp
  have e2 : (n + 1 = n) = False := by simp
  have e3 : (0 = n) = False := eq_false (by omega)
  have e4 : (n = 0) = False := eq_false (by omega)
  have e5 : (0 = n + 1) = False := by simp
  have e6 : (n + 1 = 0) = False := by simp
  refine go (And.intro h0 (And.intro h5 (And.intro h6 (And.intro hw (And.intro @encE.eq_1 (And.intro e1 (And.intro e2 (And.intro e3 (And.intro e4 (And.intro e5 e6)))))))))) ?_
  refine x_callDS rfl rfl rfl rfl rfl (sv trivial) g_live (sv trivial) (se trivial) ⟨es, hs, rfl, rfl⟩ (by simp) (by simp [touchA, touch]) ?_
  refine go (And.intro h0 (And.intro h5 (And.intro h6 (And.intro hw (And.intro @encE.eq_1 (And.intro e1 (And.intro e2 (And.intro e3 (And.intro e4 (And.intro e5 e6)))))))))) ?_
  refine x_callDS rfl rfl rfl rfl rfl (sv trivial) g_live (sv trivial) (se trivial) ⟨es ++ [u], hMs, rfl, rfl⟩ (by simp) (by simp [touchA, touch]) ?_
  refine go (And.intro h0 (And.intro h5 (And.intro h6 (And.intro hw (And.intro @encE.eq_1 (And.intro e1 (And.intro e2 (And.intro e3 (And.intro e4 (And.intro e5 e6)))))))))) ?_
  have e7 : (n = n + 1 + 1) = False := by simp <;> omega
  have e8 : (n + 1 + 1 = n) = False := by simp <;> omega
  have e9 : (n + 1 = n + 1 + 1) = False := by simp
  have ea : (n + 1 + 1 = n + 1) = False := by simp
  have eb1 : (0 = n + 1 + 1) = False := by simp
  have eb2 : (n + 1 + 1 = 0) = False := by simp
  refine x_append0 rfl rfl rfl rfl rfl rfl (sv trivial) (by decide) (sc trivial) (sv trivial) (sx trivial) (okRowsE (es ++ [u])) (by first | omega | (simp; done) | (simp [spare_len]; omega)) (fun cap' hcap' => ?_)
  have hc1 : (es ++ [u]).length ≤ cap' := by simpa using hcap'
  refine go (And.intro h0 (And.intro h5 (And.intro h6 (And.intro hw (And.intro @encE.eq_1 (And.intro e1 (And.intro e2 (And.intro e3 (And.intro e4 (And.intro e5 (And.intro e6 (And.intro e7 (And.intro e8 (And.intro e9 ea)))))))))))))) ?_
  refine x_appendO rfl rfl rfl rfl rfl rfl (sv (And.intro @encE.eq_1 (And.intro e1 (And.intro e2 (And.intro e3 (And.intro e4 (And.intro e5 (And.intro e6 (And.intro e7 (And.intro e8 (And.intro e9 ea))))))))))) (by decide) (sc (And.intro @encE.eq_1 (And.intro e1 (And.intro e2 (And.intro e3 (And.intro e4 (And.intro e5 (And.intro e6 (And.intro e7 (And.intro e8 (And.intro e9 ea))))))))))) (sv (And.intro @encE.eq_1 (And.intro e1 (And.intro e2 (And.intro e3 (And.intro e4 (And.intro e5 (And.intro e6 (And.intro e7 (And.intro e8 (And.intro e9 ea))))))))))) (sx (And.intro @encE.eq_1 (And.intro e1 (And.intro e2 (And.intro e3 (And.intro e4 (And.intro e5 (And.intro e6 (And.intro e7 (And.intro e8 (And.intro e9 ea))))))))))) (by first | rfl | (simp; done) | (simp [spare_len]; omega)) (by first | omega | (simp; done) | (simp [spare_len]; omega)) (by first | omega | (simp; done) | (simp [spare_len]; omega)) (sx (And.intro @encE.eq_1 (And.intro e1 (And.intro e2 (And.intro e3 (And.intro e4 (And.intro e5 (And.intro e6 (And.intro e7 (And.intro e8 (And.intro e9 ea))))))))))) (okRowsE [b]) (by first | omega | (simp; done) | (simp [spare_len]; omega)) (fun cap' hcap' => ?_)
  have hc2 : (es ++ [u]).length + 1 ≤ cap' := by simpa using hcap'
  have tk2 : ∀ k, ((es ++ [u]).map encE ++ [encE b] ++ spare 18 k).take ((es ++ [u]).length + 1) = (es ++ [u] ++ [b]).map encE := fun k => by
    rw [List.map_append (l₁ := es ++ [u]), List.map_cons, List.map_nil]
    exact List.take_left' (by simp)
  have ln2 : ∀ k, ((es ++ [u]).length + 1 ≤ ((es ++ [u]).map encE ++ [encE b] ++ spare 18 k).length) = True := fun k => by simp <;> omega
  have hx2 : ∀ h d, allO (allO (expo h d)) ((es ++ [u] ++ [b]).map encE) = some ((es ++ [u] ++ [b]).map encE) := fun h d => allO_rows h d (deep_map encE _ (fun a => by simp [encE, deepc]))
  refine go (And.intro h0 (And.intro h5 (And.intro h6 (And.intro hw (And.intro e1 (And.intro e2 (And.intro e3 (And.intro e4 (And.intro e5 (And.intro e6 (And.intro e7 (And.intro e8 (And.intro e9 ea))))))))))))) ?_
  refine x_callF rfl rfl rfl rfl (sv (And.intro tk2 (And.intro ln2 (And.intro hx2 (And.intro e7 (And.intro e8 (And.intro e9 ea))))))) g_live (sv (And.intro tk2 (And.intro ln2 (And.intro hx2 (And.intro e7 (And.intro e8 (And.intro e9 ea))))))) (se (And.intro tk2 (And.intro ln2 (And.intro hx2 (And.intro e7 (And.intro e8 (And.intro e9 ea))))))) ⟨es ++ [u] ++ [b], hNs, rfl, rfl⟩ (by simp) (fun h2 hold => ?_)
  refine x_nil ?_
  refine x_kW2 (.inr fun b' hb' => ?_) ?_
  · have hb2 : b' < n + 1 := hb'
    rw [hold b' (touch_one (l := es ++ [u] ++ [b]) (by simp only [rowsOf, upd_same, Nat.zero_add, List.drop_zero, List.length_map, List.length_cons, List.length_nil, List.map_cons, List.map_nil, tk2, ln2, if_true]) (by omega))]
    (repeat (first | rfl | rw [upd_ne _ _ _ _ (by omega)]))
  have hw3 : h2 0 = some ⟨18, [encE u], true⟩ := by
    rw [hold 0 (touch_one (l := es ++ [u] ++ [b]) (by simp only [rowsOf, upd_same, Nat.zero_add, List.drop_zero, List.length_map, List.length_cons, List.length_nil, List.map_cons, List.map_nil, tk2, ln2, if_true]) (by omega))]
    (repeat (first | exact hw | rw [upd_ne _ _ _ _ (by omega)]))
  clear hold
  refine goR trivial ?_
  refine redoTail2 (q := q) (u := u) (Φ := Φ) hE hl hq hwas hoff hon R.off1 R.off2 R.on1 R.on2 R.on R.other R.later (sv h0) (sv h5) (sv h6) (sv trivial) (sv trivial) (sv trivial) (sc hw3) (by omega)
end Go.Proofs.Ytahgddfnbjpfiaa
