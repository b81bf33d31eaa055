/- Texts that the law's proof stands on: V53, V54, V57, V58d, V58. -/
import Derived.Test.YtahgddfnbjpfiaaB22
import Derived.Test.YtahgddfnbjpfiaaB16
import Derived.Test.YtahgddfnbjpfiaaB20
import Derived.Test.YtahgddfnbjpfiaaB24
set_option linter.unusedVariables false
set_option linter.unusedSimpArgs false
namespace Go.Proofs.Ytahgddfnbjpfiaa
open Go Go.RowKit Am

def maxId (y x : Idt) : Idt := ⟨y.a, if y.n < x.n then x.n else y.n⟩
theorem blt (a b : ByteArray) : Op.bytesLess a.toList b.toList = decide (cmpB a b < 0) := by
  rw [bless, ByteArray.toList_eq, ByteArray.toList_eq]; rfl
theorem cB_irr (a : ByteArray) : ¬ cmpB a a < 0 := by
  have := (ordB.z a a).2 rfl
  omega
theorem cB_ne {a b : ByteArray} (h : cmpB a b < 0) : a ≠ b := fun e => by subst e; exact cB_irr a h
theorem cB_as {a b : ByteArray} (h : cmpB a b < 0) : ¬ cmpB b a < 0 := fun h2 => by have := (ordB.an a b).1 h; omega
theorem cB_tri {a b : ByteArray} (h1 : ¬ cmpB a b < 0) (h2 : a ≠ b) : cmpB b a < 0 := by
  have h3 : ¬ cmpB a b = 0 := fun e => h2 ((ordB.z a b).1 e)
  have h4 := ordB.an b a
  exact h4.2 (by omega)
theorem cB_tr {a b c : ByteArray} (h1 : cmpB a b < 0) (h2 : cmpB b c < 0) : cmpB a c < 0 := ordB.tr a b c h1 h2
/-- A valid vector. -/
structure Val (v : List Idt) : Prop where
  ok : ∀ x ∈ v, authF x.a = true ∧ 1 ≤ x.n
  srt : v.Pairwise (fun x y => cmpB x.a y.a < 0)
theorem Val.tail {x : Idt} {v : List Idt} (h : Val (x :: v)) : Val v := ⟨fun y hy => h.ok y (by simp [hy]), (List.pairwise_cons.1 h.srt).2⟩
theorem Val.head {x : Idt} {v : List Idt} (h : Val (x :: v)) : ∀ y ∈ v, cmpB x.a y.a < 0 := (List.pairwise_cons.1 h.srt).1
theorem Val.nil : Val [] := ⟨by simp, by simp⟩
theorem chkFrom_all {v : List Idt} : ∀ (m i : Nat), chkFrom v m i = 0 → ∀ j, i ≤ j → j < i + m → chkAt v j = 0
  | 0, i, _, j, h1, h2 => by omega
  | m + 1, i, h, j, h1, h2 => by
    rw [chkFrom] at h
    by_cases hc : chkAt v i = 0
    · rw [if_pos hc] at h
      by_cases hj : j = i
      · rw [hj]; exact hc
      · exact chkFrom_all m (i + 1) h j (by omega) (by omega)
    · rw [if_neg hc] at h
      exact absurd h hc
theorem chkFrom_of {v : List Idt} : ∀ (m i : Nat), (∀ j, i ≤ j → j < i + m → chkAt v j = 0) → chkFrom v m i = 0
  | 0, i, _ => rfl
  | m + 1, i, h => by
    rw [chkFrom, if_pos (h i (by omega) (by omega))]
    exact chkFrom_of m (i + 1) fun j h1 h2 => h j (by omega) (by omega)
theorem chkAt_iff {v : List Idt} {i : Nat} (hi : i < v.length) : chkAt v i = 0 ↔ authF v[i].a = true ∧ 1 ≤ v[i].n ∧ ∀ h : 0 < i, cmpB v[i - 1].a v[i].a < 0 := by
  have hat := idAt_lt v hi
  unfold chkAt
  rw [hat]
  cases ha : authF v[i].a
  · simp
  · by_cases hn : v[i].n < 1
    · simp [hn]; omega
    · have hn' : 1 ≤ v[i].n := by omega
      by_cases h0 : 0 < i
      · have hjt := idAt_lt v (show i - 1 < v.length by omega)
        rw [hjt, lbeq, blt]
        by_cases h1 : v[i].a = v[i - 1].a
        · have : ¬ cmpB v[i - 1].a v[i].a < 0 := by rw [h1]; exact cB_irr _
          simp [hn, h0, h1]
          exact fun _ => by have := cB_irr v[i - 1].a; omega
        · by_cases h2 : cmpB v[i].a v[i - 1].a < 0
          · have := cB_as h2
            simp [hn, h0, h1, h2]
            omega
          · have := cB_tri h2 h1
            simp [hn, h0, h1, h2, this, hn']
      · simp [hn, h0, hn']
theorem val_of_chk {v : List Idt} (h : chkF v = 0) : Val v := by
  have hall : ∀ j (hj : j < v.length), authF v[j].a = true ∧ 1 ≤ v[j].n ∧ ∀ h : 0 < j, cmpB v[j - 1].a v[j].a < 0 := fun j hj => (chkAt_iff hj).1 (chkFrom_all v.length 0 h j (by omega) (by omega))
  refine ⟨fun x hx => ?_, ?_⟩
  · obtain ⟨j, hj, rfl⟩ := List.getElem_of_mem hx
    exact ⟨(hall j hj).1, (hall j hj).2.1⟩
  · rw [List.pairwise_iff_getElem]
    intro i j hi hj hij
    induction j with
    | zero => omega
    | succ j ih =>
      have h1 := (hall (j + 1) hj).2.2 (by omega)
      simp only [Nat.add_sub_cancel] at h1
      by_cases he : i = j
      · subst he; exact h1
      · exact cB_tr (ih (by omega) (by omega)) h1
theorem chk_of_val {v : List Idt} (h : Val v) : chkF v = 0 := by
  refine chkFrom_of v.length 0 fun j _ hj => (chkAt_iff (by omega)).2 ⟨(h.ok _ (List.getElem_mem _)).1, (h.ok _ (List.getElem_mem _)).2, fun h0 => ?_⟩
  exact (List.pairwise_iff_getElem.1 h.srt) (j - 1) j (by omega) (by omega) (by omega)
theorem up_cons (y : Idt) (v : List Idt) (a : ByteArray) : uptoF (y :: v) a = if y.a = a then y.n else uptoF v a := by
  rw [uptoF, lbeq]
  by_cases h : y.a = a <;> simp [h]
theorem up_none {a : ByteArray} : ∀ {v : List Idt}, (∀ x ∈ v, x.a ≠ a) → uptoF v a = 0
  | [], _ => rfl
  | y :: v, h => by rw [up_cons, if_neg (h y (by simp)), up_none fun x hx => h x (by simp [hx])]
theorem up_nonneg {v : List Idt} (h : Val v) (a : ByteArray) : 0 ≤ uptoF v a := by
  induction v with
  | nil => simp [uptoF]
  | cons y v ih =>
    rw [up_cons]
    split
    · have := (h.ok y (by simp)).2; omega
    · exact ih h.tail
theorem up_mem {v : List Idt} (h : Val v) : ∀ {x : Idt}, x ∈ v → uptoF v x.a = x.n := by
  induction v with
  | nil => intro x hx; simp at hx
  | cons y v ih =>
    intro x hx
    rw [up_cons]
    rcases List.mem_cons.1 hx with rfl | hx
    · rw [if_pos rfl]
    · rw [if_neg (cB_ne (h.head x hx)), ih h.tail hx]
theorem up_cases (v : List Idt) (a : ByteArray) : uptoF v a = 0 ∨ ∃ x ∈ v, x.a = a ∧ uptoF v a = x.n := by
  induction v with
  | nil => exact .inl rfl
  | cons y v ih =>
    rw [up_cons]
    by_cases h : y.a = a
    · exact .inr ⟨y, by simp, h, by rw [if_pos h]⟩
    · rw [if_neg h]
      rcases ih with h1 | ⟨x, h1, h2, h3⟩
      · exact .inl h1
      · exact .inr ⟨x, by simp [h1], h2, h3⟩
/-- Where the search ends. -/
theorem place_at {v : List Idt} (h : Val v) (a : ByteArray) : (∀ k (hk : k < v.length), k < plPos v a → cmpB v[k].a a < 0) ∧ (∀ k (hk : k < v.length), plPos v a ≤ k → ¬ cmpB v[k].a a < 0) := by
  have hs := List.pairwise_iff_getElem.1 h.srt
  have mono : ∀ k m, k ≤ m → m < v.length → cAt (fun x : Idt => cmpB x.a a) v m < 0 → cAt (fun x : Idt => cmpB x.a a) v k < 0 := by
    intro k m hkm hm hc
    rw [cAt_lt _ v hm] at hc
    rw [cAt_lt _ v (show k < v.length by omega)]
    by_cases he : k = m
    · subst he; exact hc
    · exact cB_tr (hs k m (by omega) hm (by omega)) hc
  obtain ⟨l1, l2⟩ := bsF_lb (cAt (fun x : Idt => cmpB x.a a) v) v.length mono v.length 0 v.length (by omega) (by omega) (by omega) (fun k hk => by omega) (fun k h1 h2 => by omega)
  refine ⟨fun k hk h1 => ?_, fun k hk h1 => ?_⟩
  · have := l1 k h1
    rwa [cAt_lt _ v hk] at this
  · have := l2 k h1 hk
    rwa [cAt_lt _ v hk] at this
theorem hit_iff (v : List Idt) (a : ByteArray) : plHit v a = true ↔ ∃ h : plPos v a < v.length, v[plPos v a].a = a := by
  have h1 : plHit v a = (decide (plPos v a < v.length) && decide (cAt (fun x : Idt => cmpB x.a a) v (plPos v a) = 0)) := rfl
  rw [h1, Bool.and_eq_true, decide_eq_true_eq, decide_eq_true_eq]
  constructor
  · rintro ⟨h2, h3⟩
    rw [cAt_lt _ v h2] at h3
    exact ⟨h2, (ordB.z _ _).1 h3⟩
  · rintro ⟨h2, h3⟩
    exact ⟨h2, by rw [cAt_lt _ v h2]; exact (ordB.z _ _).2 h3⟩
theorem cont_has {v : List Idt} (h : Val v) (x : Idt) : contF v x = hasF v x := by
  obtain ⟨l1, l2⟩ := place_at h x.a
  unfold contF hasF
  cases hh : plHit v x.a with
  | true =>
    obtain ⟨h1, h2⟩ := (hit_iff v x.a).1 hh
    rw [nAt_lt v h1]
    have := up_mem h (List.getElem_mem h1)
    rw [h2] at this
    rw [this]
    simp
  | false =>
    have hn : ∀ y ∈ v, y.a ≠ x.a := by
      intro y hy he
      obtain ⟨k, hk, rfl⟩ := List.getElem_of_mem hy
      have hlt : ¬ k < plPos v x.a := fun h1 => cB_ne (l1 k hk h1) he
      have : plHit v x.a = true := (hit_iff v x.a).2 ⟨by omega, by
        by_cases hkp : k = plPos v x.a
        · simp only [← hkp]; exact he
        · have h3 := (List.pairwise_iff_getElem.1 h.srt) (plPos v x.a) k (by omega) hk (by omega)
          rw [he] at h3
          exact absurd h3 (l2 _ (by omega) (Nat.le_refl _))⟩
      rw [this] at hh
      cases hh
    rw [up_none hn]
    by_cases h1 : 1 ≤ x.n
    · have : ¬ x.n ≤ 0 := by omega
      simp [this]
    · simp [h1]
/-- Insertion, place by place. -/
def addL : List Idt → Idt → List Idt
  | [], x => [x]
  | y :: v, x => if cmpB y.a x.a < 0 then y :: addL v x else if y.a = x.a then maxId y x :: v else x :: y :: v
theorem ra_true (x : Idt) : ∀ {v : List Idt}, (∀ y ∈ v, cmpB x.a y.a < 0) → raF v x true = v
  | [], _ => rfl
  | y :: v, h => by
    have h1 : (y.a.toList == x.a.toList) = false := by rw [lbeq]; simpa using fun e : y.a = x.a => cB_ne (h y (by simp)) e.symm
    rw [raF, h1, ra_true x fun z hz => h z (by simp [hz])]
    simp
theorem ra_lay (x : Idt) : ∀ {v : List Idt}, (∀ y ∈ v, cmpB x.a y.a < 0) → raF v x false = x :: v
  | [], _ => rfl
  | y :: v, h => by
    have h0 := h y (by simp)
    have h1 : (y.a.toList == x.a.toList) = false := by rw [lbeq]; simpa using fun e : y.a = x.a => cB_ne h0 e.symm
    have h2 : Op.bytesLess y.a.toList x.a.toList = false := by rw [blt]; simpa using cB_as h0
    rw [raF, h1, h2, ra_true x fun z hz => h z (by simp [hz])]
    simp
theorem radd_addL (x : Idt) : ∀ {v : List Idt}, Val v → raF v x false = addL v x
  | [], _ => rfl
  | y :: v, h => by
    rw [raF, addL, lbeq]
    by_cases h1 : y.a = x.a
    · have hn : ¬ cmpB y.a x.a < 0 := by rw [h1]; exact cB_irr _
      rw [if_pos (by simpa using h1), if_neg hn, if_pos h1]
      have hx : ∀ z ∈ v, cmpB (if x.n < y.n then y else x).a z.a < 0 := by
        intro z hz
        have := h.head z hz
        split
        · exact this
        · rw [← h1]; exact this
      rw [ra_lay _ hx]
      congr 1
      unfold maxId
      by_cases h2 : x.n < y.n
      · rw [if_pos h2, if_neg (by omega)]
      · rw [if_neg h2]
        cases x with | mk xa xn =>
        simp only at h1 h2 ⊢
        subst h1
        congr 1
        split <;> omega
    · rw [if_neg (by simpa using h1)]
      by_cases h2 : cmpB y.a x.a < 0
      · have h3 : Op.bytesLess y.a.toList x.a.toList = true := by rw [blt]; simpa using h2
        rw [h3, if_pos h2, radd_addL x h.tail]
        simp
      · have h3 : Op.bytesLess y.a.toList x.a.toList = false := by rw [blt]; simpa using h2
        have h4 := cB_tri h2 h1
        rw [h3, if_neg h2, if_neg h1, ra_true x fun z hz => cB_tr h4 (h.head z hz)]
        simp [h1]
def imax (m n : Int) : Int := if m < n then n else m
theorem addL_mem {x z : Idt} : ∀ {v : List Idt}, z ∈ addL v x → z.a = x.a ∨ ∃ y ∈ v, z.a = y.a
  | [], h => by simp [addL] at h; exact .inl (by rw [h])
  | y :: v, h => by
    rw [addL] at h
    split at h
    · rcases List.mem_cons.1 h with rfl | h
      · exact .inr ⟨z, by simp, rfl⟩
      · rcases addL_mem h with h | ⟨w, h1, h2⟩
        · exact .inl h
        · exact .inr ⟨w, by simp [h1], h2⟩
    · split at h
      · rcases List.mem_cons.1 h with rfl | h
        · exact .inr ⟨y, by simp, rfl⟩
        · exact .inr ⟨z, by simp [h], rfl⟩
      · rcases List.mem_cons.1 h with rfl | h
        · exact .inl rfl
        · exact .inr ⟨z, h, rfl⟩
theorem addL_val {x : Idt} (hx : authF x.a = true ∧ 1 ≤ x.n) : ∀ {v : List Idt}, Val v → Val (addL v x)
  | [], _ => ⟨by simp [addL]; exact hx, by simp [addL]⟩
  | y :: v, h => by
    rw [addL]
    split
    · rename_i h1
      have ih := addL_val hx h.tail
      refine ⟨fun z hz => ?_, List.pairwise_cons.2 ⟨fun z hz => ?_, ih.srt⟩⟩
      · rcases List.mem_cons.1 hz with rfl | hz
        · exact h.ok _ (by simp)
        · exact ih.ok z hz
      · rcases addL_mem hz with h2 | ⟨w, h2, h3⟩
        · rw [h2]; exact h1
        · rw [h3]; exact h.head w h2
    · split
      · refine ⟨fun z hz => ?_, List.pairwise_cons.2 ⟨fun z hz => h.head z hz, h.tail.srt⟩⟩
        rcases List.mem_cons.1 hz with rfl | hz
        · have h2 := h.ok y (by simp)
          refine ⟨h2.1, ?_⟩
          show 1 ≤ if y.n < x.n then x.n else y.n
          split
          · exact hx.2
          · exact h2.2
        · exact h.tail.ok z hz
      · rename_i h1 h2
        have h3 := cB_tri h1 h2
        refine ⟨fun z hz => ?_, List.pairwise_cons.2 ⟨fun z hz => ?_, h.srt⟩⟩
        · rcases List.mem_cons.1 hz with rfl | hz
          · exact hx
          · exact h.ok z hz
        · rcases List.mem_cons.1 hz with rfl | hz
          · exact h3
          · exact cB_tr h3 (h.head z hz)
theorem addL_up {x : Idt} (hx : 1 ≤ x.n) (a : ByteArray) : ∀ {v : List Idt}, Val v → uptoF (addL v x) a = if x.a = a then imax (uptoF v a) x.n else uptoF v a
  | [], _ => by
    rw [addL, up_cons]
    by_cases h : x.a = a
    · rw [if_pos h, if_pos h]; exact (if_pos (show (0 : Int) < x.n by omega)).symm
    · rw [if_neg h, if_neg h]
  | y :: v, h => by
    rw [addL]
    split
    · rename_i h1
      rw [up_cons, addL_up hx a h.tail, up_cons]
      by_cases h2 : y.a = a
      · have h3 : ¬ x.a = a := fun e => cB_ne h1 (h2.trans e.symm)
        rw [if_pos h2, if_pos h2, if_neg h3]
      · rw [if_neg h2, if_neg h2]
    · split
      · rename_i h1 h2
        rw [up_cons, up_cons]
        show (if y.a = a then (if y.n < x.n then x.n else y.n) else uptoF v a) = _
        by_cases h3 : y.a = a
        · rw [if_pos h3, if_pos h3, if_pos (h2.symm.trans h3)]; rfl
        · rw [if_neg h3, if_neg h3, if_neg (fun e => h3 (h2.trans e))]
      · rename_i h1 h2
        have h3 := cB_tri h1 h2
        rw [up_cons]
        by_cases h4 : x.a = a
        · rw [if_pos h4, if_pos h4]
          have : uptoF (y :: v) a = 0 := up_none fun z hz e => by
            rcases List.mem_cons.1 hz with rfl | hz
            · exact h2 (e.trans h4.symm)
            · exact cB_ne (cB_tr h3 (h.head z hz)) (h4.trans e.symm)
          rw [this]; exact (if_pos (show (0 : Int) < x.n by omega)).symm
        · rw [if_neg h4, if_neg h4]
end Go.Proofs.Ytahgddfnbjpfiaa

set_option linter.unusedVariables false
set_option linter.unusedSimpArgs false
namespace Go.Proofs.Ytahgddfnbjpfiaa
open Go Go.RowKit Am

/-- Is an edit live, when these follow it? -/
def aliveF (un : Edt → Edt → Bool) (e : Edt) : List Edt → Bool
  | [] => true
  | u :: l => !(un u e && aliveF un u l) && aliveF un e l
def allL (un : Edt → Edt → Bool) : List Edt → List Bool
  | [] => []
  | e :: l => aliveF un e l :: allL un l
theorem allL_len (un : Edt → Edt → Bool) : ∀ l, (allL un l).length = l.length
  | [] => rfl
  | e :: l => by simp [allL, allL_len un l]
theorem allL_get (un : Edt → Edt → Bool) : ∀ (l : List Edt) (i : Nat) (h : i < l.length), (allL un l)[i]? = some (aliveF un l[i] (l.drop (i + 1)))
  | e :: l, 0, h => by simp [allL]
  | e :: l, i + 1, h => by
    rw [allL, List.getElem?_cons_succ, allL_get un l i (by simpa using h)]
    rfl
/-- An undo that names an edit and is effective on it. -/
def unF (u e : Edt) : Bool := decide (u.kind = 4) && idE u.target e.id && undF u e
/-- The live undos, from the last on. -/
def livU : List Edt → List Edt
  | [] => []
  | e :: l => if (aliveF unF e l && decide (e.kind = 4)) = true then livU l ++ [e] else livU l
theorem off_any (e : Edt) : ∀ l : List Edt, ((offL (livU l) e.id).any fun u => undF u e) = !aliveF unF e l
  | [] => rfl
  | u :: l => by
    rw [livU, aliveF]
    have ih := off_any e l
    unfold offL at *
    cases h1 : aliveF unF u l <;> by_cases h2 : u.kind = 4 <;> cases h3 : idE u.target e.id <;> cases h4 : undF u e <;> simp [unF, h1, h2, h3, h4, List.filter_append, List.any_append, ih]
theorem run_at (es : List Edt) : ∀ p, p ≤ es.length → runL es (downs es.length p) = (List.replicate (es.length - p) false ++ allL unF (es.drop (es.length - p)), livU (es.drop (es.length - p)))
  | 0, _ => by
    simp [runL, downs, allL, livU]
  | p + 1, h => by
    rw [downs_succ, runL_snoc, run_at es p (by omega)]
    obtain ⟨i, hi⟩ : ∃ i, i = es.length - 1 - p := ⟨_, rfl⟩
    have h1 : es.length - p = i + 1 := by omega
    have h2 : es.length - (p + 1) = i := by omega
    have hil : i < es.length := by omega
    rw [← hi, h1, h2]
    unfold stp
    rw [List.getElem?_eq_getElem hil]
    simp only
    rw [List.drop_eq_getElem_cons hil, allL, livU, off_any, Bool.not_not]
    congr 1
    rw [List.replicate_succ', List.append_assoc, List.set_append_right _ _ (by simp)]
    simp
theorem liveB_all (es : List Edt) : liveB es = allL unF es := by
  unfold liveB
  rw [run_at es es.length (Nat.le_refl _), Nat.sub_self]
  simp
/-- Only the effective pairs count. -/
theorem alive_congr {un un' : Edt → Edt → Bool} (e : Edt) : ∀ l : List Edt, (∀ u ∈ l, ∀ x, (x = e ∨ x ∈ l) → un u x = un' u x) → aliveF un e l = aliveF un' e l
  | [], _ => rfl
  | u :: l, h => by
    rw [aliveF, aliveF, h u (by simp) e (.inl rfl), alive_congr u l (fun v hv x hx => h v (by simp [hv]) x (.inr (by rcases hx with rfl | hx <;> simp [*]))), alive_congr e l (fun v hv x hx => h v (by simp [hv]) x (by rcases hx with rfl | hx <;> simp [*]))]
theorem allL_congr {un un' : Edt → Edt → Bool} : ∀ l : List Edt, (∀ u ∈ l, ∀ x ∈ l, un u x = un' u x) → allL un l = allL un' l
  | [], _ => rfl
  | e :: l, h => by
    rw [allL, allL, alive_congr e l (fun u hu x hx => h u (by simp [hu]) x (by rcases hx with rfl | hx <;> simp [*])), allL_congr l fun u hu x hx => h u (by simp [hu]) x (by simp [hx])]
/-- The reference's word. -/
def rUn (u e : Edt) : Bool := decide (u.kind = 4) && idE u.target e.id && (u.id.a.toList == e.id.a.toList) && decide (1 ≤ e.kind) && decide (e.kind ≤ 4) && hasF u.deps e.id && decide (u.floor < e.clock)
theorem un_r {u : Edt} (h : Val u.deps) (e : Edt) : unF u e = rUn u e := by
  unfold unF rUn undF
  rw [cont_has h]
  simp only [Bool.and_assoc]
end Go.Proofs.Ytahgddfnbjpfiaa

set_option linter.unusedVariables false
set_option linter.unusedSimpArgs false
set_option maxRecDepth 100000
set_option maxHeartbeats 16000000
namespace Go.Proofs.Ytahgddfnbjpfiaa
open Go Go.RowKit Am

def undoesS : Fspec := fun _ ds r => ∃ u e : Edt, u.deps.length ≤ 1099511627776 ∧ ds = [.agg (encE u), .agg (encE e)] ∧ r = .s (.int .i64 (if rUn u e = true then 1 else 0))
theorem undoes_sound {plain : TypeId → Bool} {Γ : FuncId → Option Fspec} {Δ : FuncId → Option Pt} (hE : EnvOk ⟨Try.prog, plain, Γ, Δ, fun _ => none, 0⟩) (hpl : plain 29 = true) (g_has : Γ 15 = some hasS) : Sound Try.prog 35 undoesS := by
  refine sound_of_awp hE Try.func35 rfl (by kernel_rfl) ?_
  rintro Φ ds r ⟨u, e, hd, rfl, rfl⟩
  refine ⟨by simp [Try.f35], ?_⟩
  unfold st0 encE
  refine W.out (E := ⟨Try.prog, plain, Γ, Δ, Φ, _⟩) ?_
  have hkk : (u.kind == 4) = decide (u.kind = 4) := by rw [beq_eq_decide]
  have gid : (u.target.a.toList == e.id.a.toList && u.target.n == e.id.n) = idE u.target e.id := rfl
  have ui : ∀ v, encIds v = .sl (v.map encId) := fun _ => rfl
  have ue : ∀ x : Idt, encId x = [.s (.string x.a), .s (.int .i64 x.n)] := fun _ => rfl
  cases c1 : (u.kind == 4)
  · have hz : rUn u e = false := by simp only [rUn, ← hkk, c1]; simp
    refine go (And.intro hpl (And.intro gid c1)) ?_
    rw [hz, if_neg (by decide)]
    refine x_done (x_out (sr @Try.f35.eq_1) (by simp) (by simp) rfl)
  cases c2 : idE u.target e.id
  · have hz : rUn u e = false := by simp only [rUn, ← hkk, c1, c2]; simp
    refine go (And.intro hpl (And.intro gid (And.intro c1 c2))) ?_
    rw [hz, if_neg (by decide)]
    refine x_done (x_out (sr @Try.f35.eq_1) (by simp) (by simp) rfl)
  cases c3 : (u.id.a.toList == e.id.a.toList)
  · have hz : rUn u e = false := by simp only [rUn, ← hkk, c1, c2, c3]; simp
    refine go (And.intro hpl (And.intro gid (And.intro c1 (And.intro c2 c3)))) ?_
    rw [hz, if_neg (by decide)]
    refine x_done (x_out (sr @Try.f35.eq_1) (by simp) (by simp) rfl)
  by_cases c4 : 1 ≤ e.kind
  rotate_left
  · have hz : rUn u e = false := by simp only [rUn, ← hkk, c1, c2, c3, c4]; simp
    refine go (And.intro hpl (And.intro gid (And.intro c1 (And.intro c2 (And.intro c3 c4))))) ?_
    rw [hz, if_neg (by decide)]
    refine x_done (x_out (sr @Try.f35.eq_1) (by simp) (by simp) rfl)
  by_cases c5 : e.kind ≤ 4
  rotate_left
  · have hz : rUn u e = false := by simp only [rUn, ← hkk, c1, c2, c3, c4, c5]; simp
    refine go (And.intro hpl (And.intro gid (And.intro c1 (And.intro c2 (And.intro c3 (And.intro c4 c5)))))) ?_
    rw [hz, if_neg (by decide)]
    refine x_done (x_out (sr @Try.f35.eq_1) (by simp) (by simp) rfl)
  refine go (And.intro hpl (And.intro gid (And.intro c1 (And.intro c2 (And.intro c3 (And.intro c4 c5)))))) ?_
  refine x_callN rfl rfl rfl rfl (sv (And.intro ui ue)) g_has (sv (And.intro ui ue)) (se (And.intro ui ue)) ⟨u.deps, e.id, hd, rfl, rfl⟩ rfl ?_
  cases c6 : hasF u.deps e.id
  · have hz : rUn u e = false := by simp only [rUn, ← hkk, c1, c2, c3, c4, c5, c6]; simp
    refine go (And.intro hpl (And.intro gid (And.intro c1 (And.intro c2 (And.intro c3 (And.intro c4 (And.intro c5 c6))))))) ?_
    rw [hz, if_neg (by decide)]
    refine x_done (x_out (sr @Try.f35.eq_1) (by simp) (by simp) rfl)
  by_cases c7 : u.floor < e.clock
  rotate_left
  · have hz : rUn u e = false := by simp only [rUn, ← hkk, c1, c2, c3, c4, c5, c6, c7]; simp
    refine go (And.intro hpl (And.intro gid (And.intro c1 (And.intro c2 (And.intro c3 (And.intro c4 (And.intro c5 (And.intro c6 c7)))))))) ?_
    rw [hz, if_neg (by decide)]
    refine x_done (x_out (sr @Try.f35.eq_1) (by simp) (by simp) rfl)
  have hz : rUn u e = true := by simp only [rUn, ← hkk, c1, c2, c3, c4, c5, c6, c7]; simp
  refine go (And.intro hpl (And.intro gid (And.intro c1 (And.intro c2 (And.intro c3 (And.intro c4 (And.intro c5 (And.intro c6 c7)))))))) ?_
  rw [hz, if_pos rfl]
  refine x_done (x_out (sr @Try.f35.eq_1) (by simp) (by simp) rfl)
/-- The list's edits have few Deps. -/
def smL (es : List Edt) : Prop := es.length ≤ 1048576 ∧ ∀ u ∈ es, u.deps.length ≤ 1048576
def doneS (m : Nat) : Fspec := fun _ ds r => ∃ (es : List Edt) (i : Nat) (h : i < es.length), es.length - i ≤ m ∧ smL es ∧ ds = [.sl (es.map encE), .s (.int .i64 i)] ∧ r = .s (.bool (aliveF rUn es[i] (es.drop (i + 1))))
theorem done_step (m : Nat) {plain : TypeId → Bool} {Γ : FuncId → Option Fspec} {Δ : FuncId → Option Pt} (hE : EnvOk ⟨Try.prog, plain, Γ, Δ, fun _ => none, 0⟩) (g_undoes : Γ 35 = some undoesS) (g_done : Γ 23 = some (doneS m)) : Sound Try.prog 23 (doneS (m + 1)) := by
  refine sound_of_awp hE Try.func23 rfl (by kernel_rfl) ?_
  rintro Φ ds r ⟨es, k, hk, hm, hs, rfl, rfl⟩
  refine ⟨by simp [Try.f23], ?_⟩
  unfold st0
  refine W.out (E := ⟨Try.prog, plain, Γ, Δ, Φ, _⟩) ?_
  have hl := hs.1
  have hr := encE_rows es
  generalize hek : es[k] = e at *
  refine go trivial ?_
  refine x_loop (fun σ => ∃ (i : Nat), σ.t 0 = .sl (es.map encE) ∧ σ.t 1 = .s (.int .i64 k) ∧ σ.t 5 = .s (.int .i64 i) ∧ k < i ∧ i ≤ es.length ∧ aliveF rUn e (es.drop i) = aliveF rUn e (es.drop (k + 1))) (fun σ => es.length - ix (σ.t 5)) ⟨k + 1, (by first | assumption | exact sxa trivial), (by first | assumption | exact sxa trivial), (by first | assumption | exact sxa trivial), (by first | rfl | omega | assumption | (simp [*]; done)), (by first | rfl | omega | assumption | (simp [*]; done)), (by first | rfl | omega | assumption | (simp [*]; done))⟩ ?_
  rintro t h n ⟨i, h0, h1, h5, hf0, hf1, hf2⟩
  simp only at h0 h1 h5
  refine go (And.intro h0 (And.intro h1 h5)) ?_
  refine x_condP (sv (And.intro h0 (And.intro h1 h5))) (fun hc => ?_) (fun hc => ?_)
  · have hi : i < es.length := by omega
    rw [List.drop_eq_getElem_cons hi, aliveF] at hf2
    have hui : es[i].deps.length ≤ 1048576 := hs.2 _ (List.getElem_mem hi)
    have hrow : ((es.map encE).getD i []) = encE es[i] := getD_map _ _ _ hi
    have hrok : ((es.map encE).getD k []) = encE e := by rw [← hek]; exact getD_map _ _ _ hk
    generalize heu : es[i] = u at *
    refine go (And.intro h0 (And.intro h1 (And.intro h5 (And.intro hr (And.intro hrow (And.intro hrok @encE.eq_1)))))) ?_
    refine x_callD rfl rfl rfl rfl rfl (sv @encE.eq_1) g_undoes (sv @encE.eq_1) (se @encE.eq_1) ⟨u, e, by omega, rfl, rfl⟩ rfl ?_
    cases c1 : rUn u e
    · rw [c1, Bool.false_and, Bool.not_false, Bool.true_and] at hf2
      rw [if_neg (by decide)]
      have z0 : ((0 : Int) == 1) = false := rfl
      refine go (And.intro h0 (And.intro h1 (And.intro h5 z0))) ?_
      (refine ⟨⟨i + 1, ?_, ?_, ?_, ?_, ?_, ?_⟩, ?_⟩ <;> (first | omega | (dsimp only; omega) | (first | omega | assumption | (simp [*]; done)) | exact sxa @cast_succ | exact soa trivial))
    · rw [c1, Bool.true_and] at hf2
      rw [if_pos rfl]
      have z0 : ((1 : Int) == 1) = true := rfl
      refine go (And.intro h0 (And.intro h1 (And.intro h5 z0))) ?_
      refine x_callD rfl rfl rfl rfl rfl (sv trivial) g_done (sv trivial) (se trivial) ⟨es, i, hi, by omega, hs, rfl, rfl⟩ rfl ?_
      rw [heu]
      cases c2 : aliveF rUn u (es.drop (i + 1))
      · rw [c2, Bool.not_false, Bool.true_and] at hf2
        refine go (And.intro h0 (And.intro h1 (And.intro h5 c2))) ?_
        (refine ⟨⟨i + 1, ?_, ?_, ?_, ?_, ?_, ?_⟩, ?_⟩ <;> (first | omega | (dsimp only; omega) | (first | omega | assumption | (simp [*]; done)) | exact sxa @cast_succ | exact soa trivial))
      · rw [c2, Bool.not_true, Bool.false_and] at hf2
        refine go (And.intro h0 (And.intro h1 (And.intro h5 c2))) ?_
        rw [← hf2]
        refine x_done (x_out (sr @Try.f23.eq_1) (by simp) (by simp) rfl)
  · have ee : i = es.length := by omega
    subst ee
    rw [List.drop_length, aliveF] at hf2
    rw [← hf2]
    refine go (And.intro h0 (And.intro h1 h5)) ?_
    refine x_done (x_out (sr @Try.f23.eq_1) (by simp) (by simp) rfl)
theorem done_all : ∀ (m : Nat) {plain : TypeId → Bool} {Γ : FuncId → Option Fspec} {Δ : FuncId → Option Pt} (hE : EnvOk ⟨Try.prog, plain, Γ, Δ, fun _ => none, 0⟩) (g_undoes : Γ 35 = some undoesS), Sound Try.prog 23 (doneS m)
  | 0, _, _, _, _, _ => fun c Φ ds r vals _ _ _ _ ⟨es, i, h, hm, _⟩ => absurd hm (by omega)
  | m + 1, plain, Γ, Δ, hE, g => done_step m (EnvOk.add hE (done_all m hE g) (by kernel_rfl)) (by rw [upd_ne _ _ _ _ (by decide)]; exact g) (upd_same _ _ _)
def doneXS : Fspec := fun Φ ds r => ∃ m, doneS m Φ ds r
theorem done_sound {plain : TypeId → Bool} {Γ : FuncId → Option Fspec} {Δ : FuncId → Option Pt} (hE : EnvOk ⟨Try.prog, plain, Γ, Δ, fun _ => none, 0⟩) (g_undoes : Γ 35 = some undoesS) : Sound Try.prog 23 doneXS :=
  fun c Φ ds r vals h1 h2 h3 h4 ⟨m, h⟩ => done_all m hE g_undoes c Φ ds r vals h1 h2 h3 h4 h
def rliveS : Fspec := fun _ ds r => ∃ es : List Edt, smL es ∧ ds = [.sl (es.map encE)] ∧ r = .sl ((allL rUn es).map encBo)
theorem okRowsB (l : List Bool) : okRows 1 (l.map encBo) := okRows_map encBo l 1 fun a => ⟨rfl, by simp [encBo, cellish]⟩
theorem deepB (l : List Bool) : ∀ r ∈ l.map encBo, ∀ q ∈ r, deepc q = true := deep_map encBo l fun a => by simp [encBo, deepc]
theorem encB_rows (v : List Bool) : (∀ r ∈ v.map encBo, r.length = 1) = True := rows_map _ _ _ fun _ => rfl
theorem snocB (l : List Bool) (x : Bool) : (l ++ [x]).map encBo = l.map encBo ++ [encBo x] := by simp
theorem rlive_sound {plain : TypeId → Bool} {Γ : FuncId → Option Fspec} {Δ : FuncId → Option Pt} (hE : EnvOk ⟨Try.prog, plain, Γ, Δ, fun _ => none, 0⟩) (g_done : Γ 23 = some doneXS) : Sound Try.prog 12 rliveS := by
  refine sound_of_awp hE Try.func12 rfl (by kernel_rfl) ?_
  rintro Φ ds r ⟨es, hs, rfl, rfl⟩
  refine ⟨by simp [Try.f12], ?_⟩
  unfold st0
  refine W.out (E := ⟨Try.prog, plain, Γ, Δ, Φ, _⟩) ?_
  have hl := hs.1
  refine go trivial ?_
  refine x_loopG 3 1 (fun σ => ∃ (i : Nat) (b : Nat) (cap : Nat) (out : List Bool) (sp : List (List Am.V)), σ.t 0 = .sl (es.map encE) ∧ σ.t 3 = .loc b 0 out.length cap ∧ σ.t 4 = .s (.int .i64 i) ∧ σ.h b = some ⟨1, out.map encBo ++ sp, true⟩ ∧ b < σ.n ∧ i ≤ es.length ∧ out.length ≤ cap ∧ cap ≤ out.length + sp.length ∧ out.length = i ∧ out ++ allL rUn (es.drop i) = allL rUn es) (fun σ => es.length - ix (σ.t 4)) (sca trivial) ⟨0, 0, 0, [], [], (by first | assumption | exact sxa trivial), (by first | assumption | exact sxa trivial), (by first | assumption | exact sxa trivial), (by first | assumption | exact sxa trivial), (by first | omega | (dsimp only; omega) | exact soa trivial | omega | (simp; done)), (by first | rfl | omega | assumption | (simp [*]; done)), (by first | rfl | omega | assumption | (simp [*]; done)), (by first | rfl | omega | assumption | (simp [*]; done)), (by first | rfl | omega | assumption | (simp [*]; done)), (by first | rfl | omega | assumption | (simp [*]; done))⟩ ?_
  rintro t h n ⟨i, b, cap, out, sp, h0, h3, h4, hhb, hn1, hf0, hf1, hf2, hf3, hf4⟩
  simp only at h0 h3 h4 hhb hn1
  refine go (And.intro h0 (And.intro h3 h4)) ?_
  refine x_condP (sv (And.intro h0 (And.intro h3 h4))) (fun hc => ?_) (fun hc => ?_)
  · have hi : i < es.length := by omega
    rw [List.drop_eq_getElem_cons hi, allL] at hf4
    have e1 : (b = n) = False := by simp <;> omega
    have e3 : (n = b) = False := by simp <;> omega
    refine go (And.intro h0 (And.intro h3 (And.intro h4 (And.intro hhb (And.intro e1 e3))))) ?_
    refine x_callN rfl rfl rfl rfl (sv trivial) g_done (sv trivial) (se trivial) ⟨es.length, es, i, hi, by omega, hs, rfl, rfl⟩ rfl ?_
    generalize hx : aliveF rUn es[i] (es.drop (i + 1)) = x at *
    have hl2 : (out ++ [x]).length = out.length + 1 := by simp
    have hfin : (out ++ [x]) ++ allL rUn (es.drop (i + 1)) = allL rUn es := by rw [List.append_assoc]; exact hf4
    clear hf4
    refine go (And.intro h0 (And.intro h3 (And.intro h4 (And.intro hhb (And.intro e1 e3))))) ?_
    refine x_appendO rfl rfl rfl rfl rfl rfl (sv (And.intro h3 (And.intro hhb (And.intro @encBo.eq_1 (And.intro e1 e3))))) (by decide) (sc (And.intro h3 (And.intro hhb (And.intro @encBo.eq_1 (And.intro e1 e3))))) (sv (And.intro h3 (And.intro hhb (And.intro @encBo.eq_1 (And.intro e1 e3))))) (sx (And.intro h3 (And.intro hhb (And.intro @encBo.eq_1 (And.intro e1 e3))))) (by first | rfl | (simp; done) | (simp [spare_len]; omega)) (by first | omega | (simp; done) | (simp [spare_len]; omega)) (by first | omega | (simp; done) | (simp [spare_len]; omega)) (sx (And.intro h3 (And.intro hhb (And.intro @encBo.eq_1 (And.intro e1 e3))))) (okRowsB [x]) (by first | omega | (simp; done) | (simp [spare_len]; omega)) (fun cap' hcap' => ?_)
    refine go (And.intro h0 (And.intro h3 (And.intro h4 (And.intro hhb (And.intro @encBo.eq_1 (And.intro e1 e3)))))) ?_
    have hc2 : out.length + 1 ≤ cap' := hcap'
    have hs1 := spare_len 1 (cap' - (out.length + 1))
    (refine ⟨⟨i + 1, n + 1, cap', out ++ [x], spare 1 (cap' - (out.length + 1)), ?_, ?_, ?_, ?_, ?_, ?_, ?_, ?_, ?_, ?_⟩, ?_⟩ <;> (first | omega | (dsimp only; omega) | (first | omega | assumption | (simp [*]; done)) | exact sxa (And.intro @cast_succ (And.intro @encBo.eq_1 (And.intro hl2 (And.intro @snocB (And.intro e1 e3))))) | exact soa trivial))
  · have ee : i = es.length := by omega
    subst ee
    rw [List.drop_length, allL, List.append_nil] at hf4
    rw [← hf4]
    refine go (And.intro h0 (And.intro h3 h4)) ?_
    refine x_done (x_outL (sp := sp) (sr (And.intro @Try.f12.eq_1 h3)) (sx hhb) (by simp) (deepB _))
end Go.Proofs.Ytahgddfnbjpfiaa

set_option linter.unusedVariables false
set_option linter.unusedSimpArgs false
set_option maxRecDepth 100000
set_option maxHeartbeats 16000000
namespace Go.Proofs.Ytahgddfnbjpfiaa
open Go Go.RowKit Am

def smA (es : List Edt) : Prop := es.length ≤ 1048576 ∧ ∀ u ∈ es, SmE u
theorem smA.l {es : List Edt} (h : smA es) : smL es := ⟨h.1, fun u hu => (h.2 u hu).deps⟩
/-- Is an edit too large, or invalid? -/
def eBad (e : Edt) : Bool := decide (300 < (e.value.size : Int)) || decide (300 < (e.field.size : Int)) || decide (20 < (e.deps.length : Int)) || (chkEF e != 0)
def sFrom (l : List Edt) : Nat → Nat → Bool
  | 0, _ => true
  | m + 1, i => match l[i]? with
    | none => true
    | some e => !eBad e && !(match l[i - 1]? with | none => false | some q => decide (0 < (i : Int)) && decide (0 ≤ cmpE q e)) && sFrom l m (i + 1)
def srtF (l : List Edt) : Bool := decide ((l.length : Int) ≤ 40) && sFrom l l.length 0
def sortedS : Fspec := fun _ ds r => ∃ es : List Edt, smA es ∧ ds = [.sl (es.map encE)] ∧ r = .s (.int .i64 (if srtF es = true then 1 else 0))
end Go.Proofs.Ytahgddfnbjpfiaa

set_option linter.unusedVariables false
set_option linter.unusedSimpArgs false
set_option maxRecDepth 100000
set_option maxHeartbeats 16000000
namespace Go.Proofs.Ytahgddfnbjpfiaa
open Go Go.RowKit Am

theorem sorted_sound {plain : TypeId → Bool} {Γ : FuncId → Option Fspec} {Δ : FuncId → Option Pt} (hE : EnvOk ⟨Try.prog, plain, Γ, Δ, fun _ => none, 0⟩) (g_chkE : Γ 17 = some chkES) (g_rcmp : Γ 18 = some cmpES) : Sound Try.prog 10 sortedS := by
  refine sound_of_awp hE Try.func10 rfl (by kernel_rfl) ?_
  rintro Φ ds r ⟨es, hs, rfl, rfl⟩
  refine ⟨by simp [Try.f10], ?_⟩
  unfold st0
  refine W.out (E := ⟨Try.prog, plain, Γ, Δ, Φ, _⟩) ?_
  have hl := hs.1
  have hr := encE_rows es
  by_cases d0 : 40 < (es.length : Int)
  · have hz : srtF es = false := by simp only [srtF, decide_eq_false (by omega : ¬ (es.length : Int) ≤ 40)]; rfl
    rw [hz, if_neg (by decide)]
    refine go d0 ?_
    refine x_done (x_out (sr @Try.f10.eq_1) (by simp) (by simp) rfl)
  have hz : srtF es = sFrom es es.length 0 := by simp only [srtF, decide_eq_true (by omega : (es.length : Int) ≤ 40)]; rfl
  rw [hz]
  refine go d0 ?_
  refine x_loop (fun σ => ∃ (i : Nat), σ.t 0 = .sl (es.map encE) ∧ σ.t 3 = .s (.int .i64 i) ∧ i ≤ es.length ∧ sFrom es (es.length - i) i = sFrom es es.length 0) (fun σ => es.length - ix (σ.t 3)) ⟨0, (by first | assumption | exact sxa trivial), (by first | assumption | exact sxa trivial), (by first | rfl | omega | assumption | (simp [*]; done)), (by first | rfl | omega | assumption | (simp [*]; done))⟩ ?_
  rintro t h n ⟨i, h0, h3, hf0, hf1⟩
  simp only at h0 h3
  refine go (And.intro h0 h3) ?_
  refine x_condP (sv (And.intro h0 h3)) (fun hc => ?_) (fun hc => ?_)
  · have hi : i < es.length := by omega
    obtain ⟨m, hm⟩ : ∃ m, es.length - i = m + 1 := ⟨es.length - i - 1, by omega⟩
    have hm2 : es.length - (i + 1) = m := by omega
    rw [hm, sFrom, List.getElem?_eq_getElem hi] at hf1
    simp only at hf1
    have hse : SmE es[i] := hs.2 _ (List.getElem_mem hi)
    have hrow : ((es.map encE).getD i []) = encE es[i] := getD_map _ _ _ hi
    generalize heu : es[i] = e at *
    have bad : ∀ x y : Bool, (!(x || y)) = false → True := fun _ _ _ => trivial
    by_cases c1 : 300 < (e.value.size : Int)
    · have hb : eBad e = true := by simp only [eBad, c1]; simp
      rw [hb, Bool.not_true, Bool.false_and, Bool.false_and] at hf1
      rw [← hf1, if_neg (by decide)]
      refine go (And.intro h0 (And.intro h3 (And.intro hr (And.intro hrow (And.intro @encE.eq_1 c1))))) ?_
      refine x_done (x_out (sr @Try.f10.eq_1) (by simp) (by simp) rfl)
    by_cases c2 : 300 < (e.field.size : Int)
    · have hb : eBad e = true := by simp only [eBad, c1, c2]; simp
      rw [hb, Bool.not_true, Bool.false_and, Bool.false_and] at hf1
      rw [← hf1, if_neg (by decide)]
      refine go (And.intro h0 (And.intro h3 (And.intro hr (And.intro hrow (And.intro @encE.eq_1 (And.intro c1 c2)))))) ?_
      refine x_done (x_out (sr @Try.f10.eq_1) (by simp) (by simp) rfl)
    by_cases c3 : 20 < (e.deps.length : Int)
    · have hb : eBad e = true := by simp only [eBad, c1, c2, c3]; simp
      rw [hb, Bool.not_true, Bool.false_and, Bool.false_and] at hf1
      rw [← hf1, if_neg (by decide)]
      refine go (And.intro h0 (And.intro h3 (And.intro hr (And.intro hrow (And.intro @encE.eq_1 (And.intro c1 (And.intro c2 c3))))))) ?_
      refine x_done (x_out (sr @Try.f10.eq_1) (by simp) (by simp) rfl)
    refine go (And.intro h0 (And.intro h3 (And.intro hr (And.intro hrow (And.intro @encE.eq_1 (And.intro c1 (And.intro c2 c3))))))) ?_
    refine x_callD rfl rfl rfl rfl rfl (sv @encE.eq_1) g_chkE (sv @encE.eq_1) (se @encE.eq_1) ⟨e, hse, rfl, rfl⟩ rfl ?_
    cases c4 : (chkEF e != 0)
    rotate_left
    · have hb : eBad e = true := by simp only [eBad, c1, c2, c3, c4]; simp
      rw [hb, Bool.not_true, Bool.false_and, Bool.false_and] at hf1
      rw [← hf1, if_neg (by decide)]
      refine go (And.intro h0 (And.intro h3 c4)) ?_
      refine x_done (x_out (sr @Try.f10.eq_1) (by simp) (by simp) rfl)
    have hb : eBad e = false := by simp only [eBad, c1, c2, c3, c4]; simp
    rw [hb, Bool.not_false, Bool.true_and] at hf1
    by_cases c5 : 0 < (i : Int)
    · have hi1 : i - 1 < es.length := by omega
      have ei : (i : Int) - 1 = ((i - 1 : Nat) : Int) := by omega
      have hrow1 : ((es.map encE).getD (i - 1) []) = encE es[i - 1] := getD_map _ _ _ hi1
      rw [List.getElem?_eq_getElem hi1] at hf1
      simp only at hf1
      rw [decide_eq_true c5, Bool.true_and] at hf1
      generalize heq : es[i - 1] = q at *
      refine go (And.intro h0 (And.intro h3 (And.intro hr (And.intro hrow (And.intro hrow1 (And.intro ei (And.intro @encE.eq_1 (And.intro c4 c5)))))))) ?_
      refine x_callD rfl rfl rfl rfl rfl (sv @encE.eq_1) g_rcmp (sv @encE.eq_1) (se @encE.eq_1) ⟨q, e, rfl, rfl⟩ rfl ?_
      by_cases c6 : 0 ≤ cmpE q e
      · rw [decide_eq_true c6, Bool.not_true, Bool.false_and] at hf1
        rw [← hf1, if_neg (by decide)]
        refine go (And.intro h0 (And.intro h3 (And.intro c4 c6))) ?_
        refine x_done (x_out (sr @Try.f10.eq_1) (by simp) (by simp) rfl)
      · rw [decide_eq_false c6, Bool.not_false, Bool.true_and, ← hm2] at hf1
        refine go (And.intro h0 (And.intro h3 (And.intro c4 c6))) ?_
        (refine ⟨⟨i + 1, ?_, ?_, ?_, ?_⟩, ?_⟩ <;> (first | omega | (dsimp only; omega) | (first | omega | assumption | (simp [*]; done)) | exact sxa @cast_succ | exact soa trivial))
    · have hnx : sFrom es m (i + 1) = sFrom es es.length 0 := by
        rw [← hf1]
        cases es[i - 1]? with
        | none => simp
        | some q => simp only [decide_eq_false c5, Bool.false_and, Bool.not_false, Bool.true_and]
      rw [← hm2] at hnx
      refine go (And.intro h0 (And.intro h3 (And.intro hr (And.intro hrow (And.intro @encE.eq_1 (And.intro c4 c5)))))) ?_
      (refine ⟨⟨i + 1, ?_, ?_, ?_, ?_⟩, ?_⟩ <;> (first | omega | (dsimp only; omega) | (first | omega | assumption | (simp [*]; done)) | exact sxa @cast_succ | exact soa trivial))
  · have ee : i = es.length := by omega
    subst ee
    rw [Nat.sub_self, sFrom] at hf1
    rw [← hf1, if_pos rfl]
    refine go (And.intro h0 h3) ?_
    refine x_done (x_out (sr @Try.f10.eq_1) (by simp) (by simp) rfl)
end Go.Proofs.Ytahgddfnbjpfiaa
