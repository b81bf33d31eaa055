/- Texts that the law's proof stands on: V56, V57, V58, V59, V67t, V67. -/
import Derived.Test.YtgohmphhgglmbaaB8
import Derived.Test.YtgohmphhgglmbaaB9
import Derived.Test.YtgohmphhgglmbaaB7
set_option linter.unusedVariables false
set_option linter.unusedSimpArgs false
namespace Go.Proofs.Ytgohmphhgglmbaa
open Go Go.RowKit Am

theorem pw_ext {α : Type} {R : α → α → Prop} (ha : ∀ a b, R a b → ¬ R b a) : ∀ {v w : List α}, v.Pairwise R → w.Pairwise R → (∀ x, x ∈ v ↔ x ∈ w) → v = w
  | [], [], _, _, _ => rfl
  | [], y :: w, _, _, h => absurd ((h y).2 (by simp)) (by simp)
  | x :: v, [], _, _, h => absurd ((h x).1 (by simp)) (by simp)
  | x :: v, y :: w, hv, hw, h => by
    rw [List.pairwise_cons] at hv hw
    have irr : ∀ a, ¬ R a a := fun a h1 => ha a a h1 h1
    have hxy : x = y := by
      rcases List.mem_cons.1 ((h x).1 (by simp)) with h1 | h1
      · exact h1
      · rcases List.mem_cons.1 ((h y).2 (by simp)) with h2 | h2
        · exact h2.symm
        · exact absurd (hw.1 x h1) (ha _ _ (hv.1 y h2))
    subst hxy
    congr 1
    refine pw_ext ha hv.2 hw.2 fun z => ⟨fun hz => ?_, fun hz => ?_⟩
    · rcases List.mem_cons.1 ((h z).1 (by simp [hz])) with h1 | h1
      · subst h1; exact absurd (hv.1 z hz) (irr z)
      · exact h1
    · rcases List.mem_cons.1 ((h z).2 (by simp [hz])) with h1 | h1
      · subst h1; exact absurd (hw.1 z hz) (irr z)
      · exact h1
theorem ins_mem {α : Type} (v : List α) (i : Nat) (x y : α) : y ∈ insAt v i x ↔ y = x ∨ y ∈ v := by
  have h : y ∈ v ↔ y ∈ v.take i ∨ y ∈ v.drop i := by rw [← List.mem_append, List.take_append_drop]
  rw [insAt, List.mem_append, List.mem_append, List.mem_singleton, h]
  constructor
  · rintro ((h | h) | h)
    · exact .inr (.inl h)
    · exact .inl h
    · exact .inr (.inr h)
  · rintro (h | h | h)
    · exact .inl (.inr h)
    · exact .inl (.inl h)
    · exact .inr h
theorem wr_mem (W : List Wrt) (e : Edt) (m : Wrt) : m ∈ wrF W e ↔ m = mkW e ∨ (m ∈ W ∧ wr1F e m = false) := by
  rw [wrF, ins_mem, keptF, List.mem_filter]
  simp
/-- Two edits that do not know each other. -/
def Apart (e f : Edt) : Prop := wr1F e (mkW f) = false ∧ wr1F f (mkW e) = false
theorem Apart.symm {e f : Edt} (h : Apart e f) : Apart f e := ⟨h.2, h.1⟩
theorem wr_comm {W : List Wrt} {e f : Edt} (hs : SrtW W) (h : Apart e f) : wrF (wrF W e) f = wrF (wrF W f) e := by
  refine pw_ext (fun a b h1 h2 => ?_) (wr_srt (wr_srt hs e) f).1 (wr_srt (wr_srt hs f) e).1 fun m => ?_
  · have := (ordW.an _ _).1 h1; omega
  · rw [wr_mem, wr_mem, wr_mem, wr_mem]
    constructor
    · rintro (h1 | ⟨h1 | h1, h2⟩)
      · exact .inr ⟨.inl h1, by rw [h1]; exact h.1⟩
      · exact .inl h1
      · exact .inr ⟨.inr ⟨h1.1, h2⟩, h1.2⟩
    · rintro (h1 | ⟨h1 | h1, h2⟩)
      · exact .inr ⟨.inl h1, by rw [h1]; exact h.2⟩
      · exact .inl h1
      · exact .inr ⟨.inr ⟨h1.1, h2⟩, h1.2⟩
theorem srt_pw {L : List Rgs} (h : Srt L) : L.Pairwise (fun a b => cmpReg a b < 0) := by
  rw [List.pairwise_iff_getElem]
  intro i j hi hj hij
  have := h i j hij hj
  rw [rAt_lt hi, rAt_lt hj] at this
  exact this
theorem srt_ext {L M : List Rgs} (hl : Srt L) (hm : Srt M) (h : ∀ x, x ∈ L ↔ x ∈ M) : L = M :=
  pw_ext (fun a b h1 h2 => by have := (ordReg.an _ _).1 h1; omega) (srt_pw hl) (srt_pw hm) h
/-- Two registers of a sorted list with one key are one. -/
theorem srt_uniq {L : List Rgs} (h : Srt L) {i j : Nat} (hi : i < L.length) (hj : j < L.length) (hz : cmpReg (rAt L i) (rAt L j) = 0) : i = j := by
  rcases Nat.lt_trichotomy i j with h1 | h1 | h1
  · have := h i j h1 hj; omega
  · exact h1
  · have := h j i h1 hi
    have := (ordReg.an _ _).1 this
    omega
theorem step_mem {L : List Rgs} (hs : Srt L) {e : Edt} (hk : (e.kind == 3) = true) (x : Rgs) : x ∈ stepF L e ↔ x = setW (tgt e) (wrF (getF L e.node e.field) e) ∨ (x ∈ L ∧ keyB x e.node e.field = false) := by
  have l1 := (srt_lb hs e).1
  cases hh : rHit L e
  · have l2 := srt_gt hs hh
    have hst : stepF L e = insAt L (rPos L e) (setW (tgt e) (wrF [] e)) := by simp [stepF, hk, hh]
    have hno : ∀ k, k < L.length → keyB (rAt L k) e.node e.field = false := fun k hkl => by
      rcases Nat.lt_or_ge k (rPos L e) with h1 | h1
      · have := l1 k h1
        exact keyB_ne (by omega)
      · have := l2 k h1 hkl
        exact keyB_ne (by omega)
    have hgn : getF L e.node e.field = [] := getF_none _ _ L hno
    rw [hst, ins_mem, hgn]
    refine or_congr Iff.rfl ⟨fun hx => ⟨hx, ?_⟩, fun hx => hx.1⟩
    obtain ⟨i, hi, rfl⟩ := List.getElem_of_mem hx
    have := hno i hi
    rw [rAt_lt hi] at this
    exact this
  · have hst : stepF L e = L.set (rPos L e) (setW (rAt L (rPos L e)) (wrF (rAt L (rPos L e)).w e)) := by simp [stepF, hk, hh]
    simp only [rHit, bsHit, Bool.and_eq_true, decide_eq_true_eq] at hh
    have hlt : rPos L e < L.length := hh.1
    have h0 : cmpReg (rAt L (rPos L e)) (tgt e) = 0 := by
      have := hh.2
      rw [cAt_rAt _ hh.1] at this
      exact this
    have hkb := (keyB_cmp _ e).2 h0
    have hkey := (keyB_eq _ _ _).1 hkb
    have hga := getF_at hs hlt
    rw [hkey.1, hkey.2] at hga
    have hr : setW (tgt e) (wrF (getF L e.node e.field) e) = setW (rAt L (rPos L e)) (wrF (rAt L (rPos L e)).w e) := by
      rw [hga, setW, setW, hkey.1, hkey.2]
      rfl
    rw [hst, hr]
    generalize hp : rPos L e = p at *
    constructor
    · intro hx
      obtain ⟨i, hi, rfl⟩ := List.getElem_of_mem hx
      rw [List.length_set] at hi
      by_cases hip : i = p
      · subst hip
        left
        simp
      · right
        rw [List.getElem_set_ne (fun h5 => hip h5.symm)]
        refine ⟨List.getElem_mem _, keyB_ne fun h3 => hip ?_⟩
        have h4 := (ordReg.z _ _).1 h3
        have h5 := (ordReg.z _ _).1 h0
        refine srt_uniq hs hi hlt ((ordReg.z _ _).2 ?_)
        rw [rAt_lt hi]
        exact h4.trans h5.symm
    · rintro (rfl | ⟨hx, hn⟩)
      · exact List.mem_iff_getElem.2 ⟨p, by rw [List.length_set]; exact hlt, by simp⟩
      · obtain ⟨i, hi, rfl⟩ := List.getElem_of_mem hx
        have hip : ¬ p = i := fun h3 => by
          subst h3
          rw [← rAt_lt hi, hkb] at hn
          exact Bool.noConfusion hn
        exact List.mem_iff_getElem.2 ⟨i, by rw [List.length_set]; exact hi, by rw [List.getElem_set_ne hip]⟩
end Go.Proofs.Ytgohmphhgglmbaa

set_option linter.unusedVariables false
set_option linter.unusedSimpArgs false
namespace Go.Proofs.Ytgohmphhgglmbaa
open Go Go.RowKit Am

theorem getF_key {M : List Rgs} (h : Srt M) {x : Rgs} (hx : x ∈ M) {y : Idt} {f : ByteArray} (hk : keyB x y f = true) : getF M y f = x.w := by
  obtain ⟨i, hi, rfl⟩ := List.getElem_of_mem hx
  have h1 := getF_at h hi
  rw [rAt_lt hi] at h1
  obtain ⟨h2, h3⟩ := (keyB_eq _ _ _).1 hk
  rw [h2, h3] at h1
  exact h1
theorem getF_no {M : List Rgs} {y : Idt} {f : ByteArray} (h : ∀ x ∈ M, keyB x y f = false) : getF M y f = [] := getF_none _ _ M fun k hk => by
  rw [rAt_lt hk]
  exact h _ (List.getElem_mem hk)
theorem key_tgt (e : Edt) (w : List Wrt) (y : Idt) (f : ByteArray) : keyB (setW (tgt e) w) y f = true ↔ e.node = y ∧ e.field = f := keyB_eq _ _ _
theorem getF_other {L : List Rgs} (hs : Srt L) {e : Edt} {y : Idt} {f : ByteArray} (hn : ¬ (e.node = y ∧ e.field = f)) : getF (stepF L e) y f = getF L y f := by
  cases hk : (e.kind == 3)
  · have : stepF L e = L := by simp [stepF, hk]
    rw [this]
  · have hm := fun x => step_mem hs hk x
    by_cases hx : ∃ x ∈ L, keyB x y f = true
    · obtain ⟨x, hx, hxk⟩ := hx
      have h1 : keyB x e.node e.field = false := by
        cases hb : keyB x e.node e.field
        · rfl
        · have h2 := (keyB_eq _ _ _).1 hb
          have h3 := (keyB_eq _ _ _).1 hxk
          exact absurd ⟨h2.1.symm.trans h3.1, h2.2.symm.trans h3.2⟩ hn
      rw [getF_key hs hx hxk, getF_key (step_srt hs e) ((hm x).2 (.inr ⟨hx, h1⟩)) hxk]
    · have h0 : ∀ x ∈ L, keyB x y f = false := fun x hxl => by
        cases hb : keyB x y f
        · rfl
        · exact absurd ⟨x, hxl, hb⟩ hx
      rw [getF_no h0, getF_no]
      intro x hxs
      rcases (hm x).1 hxs with h1 | h1
      · subst h1
        cases hb : keyB (setW (tgt e) (wrF (getF L e.node e.field) e)) y f
        · rfl
        · exact absurd ((key_tgt _ _ _ _).1 hb) hn
      · exact h0 x h1.1
theorem getF_srtW {L : List Rgs} (hw : ∀ x ∈ L, SrtW x.w) (y : Idt) (f : ByteArray) : SrtW (getF L y f) := by
  induction L with
  | nil => exact ⟨List.Pairwise.nil, List.Pairwise.nil⟩
  | cons x L ih =>
    rw [getF_cons]
    split
    · exact hw x (by simp)
    · exact ih fun z hz => hw z (by simp [hz])
theorem step_comm {L : List Rgs} {e f : Edt} (hs : Srt L) (hw : ∀ x ∈ L, SrtW x.w) (h : Apart e f) : stepF (stepF L e) f = stepF (stepF L f) e := by
  cases hke : (e.kind == 3)
  · have h1 : ∀ M, stepF M e = M := fun M => by simp [stepF, hke]
    rw [h1, h1]
  · cases hkf : (f.kind == 3)
    · have h1 : ∀ M, stepF M f = M := fun M => by simp [stepF, hkf]
      rw [h1, h1]
    · refine srt_ext (step_srt (step_srt hs e) f) (step_srt (step_srt hs f) e) fun x => ?_
      rw [step_mem (step_srt hs e) hkf, step_mem (step_srt hs f) hke, step_mem hs hke, step_mem hs hkf]
      by_cases hkk : e.node = f.node ∧ e.field = f.field
      · have g1 : getF (stepF L e) f.node f.field = wrF (getF L f.node f.field) e := by rw [← hkk.1, ← hkk.2]; exact getF_own hs e hke
        have g2 : getF (stepF L f) e.node e.field = wrF (getF L f.node f.field) f := by rw [hkk.1, hkk.2]; exact getF_own hs f hkf
        have ht : tgt e = tgt f := by rw [tgt, tgt, hkk.1, hkk.2]
        rw [g1, g2, wr_comm (getF_srtW hw _ _) h, ht, hkk.1, hkk.2]
        have hb : ∀ w, keyB (setW (tgt f) w) f.node f.field = true := fun w => (key_tgt _ _ _ _).2 ⟨rfl, rfl⟩
        refine or_congr Iff.rfl ⟨?_, ?_⟩
        · rintro ⟨h1 | h1, h2⟩
          · subst h1; rw [hb] at h2; exact Bool.noConfusion h2
          · exact ⟨.inr h1, h2⟩
        · rintro ⟨h1 | h1, h2⟩
          · subst h1; rw [hb] at h2; exact Bool.noConfusion h2
          · exact ⟨.inr h1, h2⟩
      · have g1 : getF (stepF L e) f.node f.field = getF L f.node f.field := getF_other hs hkk
        have hkk2 : ¬ (f.node = e.node ∧ f.field = e.field) := fun h1 => hkk ⟨h1.1.symm, h1.2.symm⟩
        have g2 : getF (stepF L f) e.node e.field = getF L e.node e.field := getF_other hs hkk2
        rw [g1, g2]
        have b1 : ∀ w, keyB (setW (tgt e) w) f.node f.field = false := fun w => by
          cases hb : keyB (setW (tgt e) w) f.node f.field
          · rfl
          · exact absurd ((key_tgt _ _ _ _).1 hb) hkk
        have b2 : ∀ w, keyB (setW (tgt f) w) e.node e.field = false := fun w => by
          cases hb : keyB (setW (tgt f) w) e.node e.field
          · rfl
          · exact absurd ((key_tgt _ _ _ _).1 hb) hkk2
        constructor
        · rintro (h1 | ⟨h1 | h1, h2⟩)
          · exact .inr ⟨.inl h1, by rw [h1]; exact b2 _⟩
          · exact .inl h1
          · exact .inr ⟨.inr ⟨h1.1, h2⟩, h1.2⟩
        · rintro (h1 | ⟨h1 | h1, h2⟩)
          · exact .inr ⟨.inl h1, by rw [h1]; exact b1 _⟩
          · exact .inl h1
          · exact .inr ⟨.inr ⟨h1.1, h2⟩, h1.2⟩
theorem app_perm {es fs : List Edt} (h : es.Perm fs) : ∀ {L : List Rgs}, Srt L → (∀ x ∈ L, SrtW x.w) → es.Pairwise Apart → appF L es = appF L fs := by
  induction h with
  | nil => intros; rfl
  | cons e _ ih =>
    intro L hs hw hp
    exact ih (step_srt hs e) (step_srtW e hw) (List.pairwise_cons.1 hp).2
  | swap e f l =>
    intro L hs hw hp
    have h1 := (List.pairwise_cons.1 hp).1 e (by simp)
    show appF (stepF (stepF L f) e) l = appF (stepF (stepF L e) f) l
    rw [step_comm hs hw h1]
  | trans h1 h2 ih1 ih2 =>
    intro L hs hw hp
    rw [ih1 hs hw hp]
    exact ih2 hs hw ((h1.pairwise_iff fun h => Apart.symm h).1 hp)
end Go.Proofs.Ytgohmphhgglmbaa

set_option linter.unusedVariables false
set_option linter.unusedSimpArgs false
namespace Go.Proofs.Ytgohmphhgglmbaa
open Go Go.RowKit Am

theorem keep_step {L : List Rgs} (hs : Srt L) {e f : Edt} (h : Apart e f) {y : Idt} {g : ByteArray} (hm : mkW e ∈ getF L y g) : mkW e ∈ getF (stepF L f) y g := by
  cases hk : (f.kind == 3)
  · have : stepF L f = L := by simp [stepF, hk]
    rw [this]; exact hm
  · by_cases hkk : f.node = y ∧ f.field = g
    · obtain ⟨rfl, rfl⟩ := hkk
      rw [getF_own hs f hk, wr_mem]
      exact .inr ⟨hm, h.2⟩
    · rw [getF_other hs hkk]; exact hm
theorem keep_app {e : Edt} {y : Idt} {g : ByteArray} : ∀ (es : List Edt) {L : List Rgs}, Srt L → (∀ f ∈ es, Apart e f) → mkW e ∈ getF L y g → mkW e ∈ getF (appF L es) y g
  | [], _, _, _, h => h
  | f :: es, L, hs, ha, h => keep_app es (step_srt hs f) (fun d hd => ha d (by simp [hd])) (keep_step hs (ha f (by simp)) h)
theorem app_srt : ∀ (es : List Edt) {L : List Rgs}, Srt L → Srt (appF L es)
  | [], _, h => h
  | e :: es, _, h => app_srt es (step_srt h e)
/-- What edits that do not know each other write stays. -/
theorem app_has : ∀ (es : List Edt) {L : List Rgs}, Srt L → es.Pairwise Apart → ∀ e ∈ es, (e.kind == 3) = true → mkW e ∈ getF (appF L es) e.node e.field
  | [], _, _, _, e, he, _ => by simp at he
  | d :: es, L, hs, hp, e, he, hk => by
    rw [List.pairwise_cons] at hp
    show mkW e ∈ getF (appF (stepF L d) es) e.node e.field
    rcases List.mem_cons.1 he with rfl | he
    · refine keep_app es (step_srt hs e) hp.1 ?_
      rw [getF_own hs e hk, wr_mem]
      exact .inl rfl
    · exact app_has es (step_srt hs d) hp.2 e he hk
/-- 'apart' of the law, in plain words. -/
def apartE (e f : Edt) : Bool := ((e.id.a.toList == f.id.a.toList) && (e.id.n == f.id.n)) || hasF e.deps f.id
def apartF (es : List Edt) : Bool := (List.range es.length).all fun i => (List.range es.length).all fun k => i == k || !(match es[i]?, es[k]? with
  | some e, some f => apartE e f
  | _, _ => false)
theorem apart_pw {es : List Edt} (hv : ∀ e ∈ es, Val e.deps) (h : apartF es = true) : es.Pairwise Apart := by
  have hall : ∀ i k (hi : i < es.length) (hk : k < es.length), i ≠ k → apartE es[i] es[k] = false := by
    intro i k hi hk hik
    simp only [apartF, List.all_eq_true, List.mem_range] at h
    have := h i hi k hk
    simp [hik, hi, hk] at this
    exact this
  rw [List.pairwise_iff_getElem]
  intro i j hi hj hij
  have h1 := hall i j hi hj (by omega)
  have h2 := hall j i hj hi (by omega)
  have e1 : ∀ e f : Edt, (e.id.a.toList == f.id.a.toList) = (f.id.a.toList == e.id.a.toList) := fun e f => by
    rw [Bool.eq_iff_iff, beq_iff_eq, beq_iff_eq]; exact eq_comm
  have e2 : ∀ e f : Edt, (e.id.n == f.id.n) = (f.id.n == e.id.n) := fun e f => by
    rw [Bool.eq_iff_iff, beq_iff_eq, beq_iff_eq]; exact eq_comm
  constructor
  · rw [wr1_has (hv _ (List.getElem_mem hi))]
    rw [apartE] at h1
    rw [← h1, e1, e2]
    rfl
  · rw [wr1_has (hv _ (List.getElem_mem hj))]
    rw [apartE] at h2
    rw [← h2, e1, e2]
    rfl
end Go.Proofs.Ytgohmphhgglmbaa

set_option linter.unusedVariables false
set_option linter.unusedSimpArgs false
set_option maxRecDepth 100000
set_option maxHeartbeats 16000000
namespace Go.Proofs.Ytgohmphhgglmbaa
open Go Go.RowKit Am

def apK (e : Edt) (i : Nat) : List Edt → Nat → Bool
  | [], _ => true
  | f :: l, k => if !(i == k) && apartE e f then false else apK e i l (k + 1)
def apI (es : List Edt) : List Edt → Nat → Bool
  | [], _ => true
  | e :: l, i => if apK e i es 0 then apI es l (i + 1) else false
def apartG (es : List Edt) : Bool := apI es es 0
theorem apK_at {e : Edt} {i : Nat} : ∀ (l : List Edt) (k : Nat), apK e i l k = true → ∀ j (h : j < l.length), i ≠ k + j → apartE e l[j] = false
  | [], _, _, j, h, _ => by simp at h
  | f :: l, k, h, 0, _, hj => by
    rw [apK] at h
    have h1 : (i == k) = false := by simpa using hj
    rw [h1] at h
    cases hb : apartE e f
    · exact hb
    · rw [hb] at h; simp at h
  | f :: l, k, h, j + 1, hj, hn => by
    rw [apK] at h
    have h1 : apK e i l (k + 1) = true := by
      split at h
      · exact Bool.noConfusion h
      · exact h
    exact apK_at l (k + 1) h1 j (by simpa using hj) (by omega)
theorem apI_at {es : List Edt} : ∀ (l : List Edt) (i : Nat), apI es l i = true → ∀ j (h : j < l.length), apK l[j] (i + j) es 0 = true
  | [], _, _, j, h => by simp at h
  | e :: l, i, h, j, hj => by
    rw [apI] at h
    split at h
    · rename_i h1
      cases j with
      | zero => exact h1
      | succ j =>
        have := apI_at l (i + 1) h j (by simpa using hj)
        rwa [show i + 1 + j = i + (j + 1) by omega] at this
    · exact Bool.noConfusion h
theorem apartG_pw {es : List Edt} (hv : ∀ e ∈ es, Val e.deps) (h : apartG es = true) : es.Pairwise Apart := by
  refine apart_pw hv ?_
  simp only [apartF, List.all_eq_true, List.mem_range]
  intro i hi k hk
  by_cases hik : i = k
  · simp [hik]
  · have h1 := apI_at es 0 h i hi
    have h2 := apK_at es 0 h1 k hk (by omega)
    simp [hi, hk, h2]
def apartS : Fspec := fun _ ds r => ∃ es : List Edt, es.length ≤ 1099511627776 ∧ (∀ e ∈ es, e.deps.length ≤ 1099511627776) ∧ ds = [.sl (es.map encE)] ∧ r = .s (.bool (apartG es))
theorem apart_sound {plain : TypeId → Bool} {Γ : FuncId → Option Fspec} {Δ : FuncId → Option Pt} (hE : EnvOk ⟨Try.prog, plain, Γ, Δ, fun _ => none, 0⟩) (hpl : plain 31 = true) (g_has : Γ 35 = some hasS) : Sound Try.prog 20 apartS := by
  refine sound_of_awp hE Try.func20 rfl (by kernel_rfl) ?_
  rintro Φ ds r ⟨es, hes, hd, rfl, rfl⟩
  refine ⟨by simp [Try.f20], ?_⟩
  unfold st0
  refine W.out (E := ⟨Try.prog, plain, Γ, Δ, Φ, _⟩) ?_
  have hre := encE_rows' es
  refine go trivial ?_
  refine x_loop (fun σ => ∃ (i : Nat), σ.t 0 = .sl (es.map encE) ∧ σ.t 7 = .sl (es.map encE) ∧ σ.t 8 = .s (.int .i64 es.length) ∧ σ.t 9 = .s (.int .i64 i) ∧ i ≤ es.length ∧ apI es (es.drop i) i = apartG es) (fun σ => es.length - ix (σ.t 9)) ⟨0, (by first | assumption | exact sxa trivial), (by first | assumption | exact sxa trivial), (by first | assumption | exact sxa trivial), (by first | assumption | exact sxa trivial), (by first | rfl | omega | assumption | (simp [*]; done)), (by first | rfl | omega | assumption | (simp [*]; done))⟩ ?_
  rintro t h n ⟨i, h0, h7, h8, h9, hf0, hf1⟩
  simp only at h0 h7 h8 h9
  refine go (And.intro h0 (And.intro h7 (And.intro h8 h9))) ?_
  refine x_condP (sv (And.intro h0 (And.intro h7 (And.intro h8 h9)))) (fun hc => ?_) (fun hc => ?_)
  · have hi : i < es.length := by omega
    have hde := hd _ (List.getElem_mem hi)
    rw [List.drop_eq_getElem_cons hi, apI] at hf1
    generalize hee : es[i] = e at *
    have hfo := hf1
    clear hf1
    refine go (And.intro h0 (And.intro h7 (And.intro h8 (And.intro h9 (And.intro hre (And.intro hee @encE.eq_1)))))) ?_
    refine x_loop (fun σ => ∃ (k : Nat), σ.t 0 = .sl (es.map encE) ∧ σ.t 7 = .sl (es.map encE) ∧ σ.t 8 = .s (.int .i64 es.length) ∧ σ.t 9 = .s (.int .i64 i) ∧ σ.t 3 = .s (.int .i64 i) ∧ σ.t 4 = .ptr n 0 0 ∧ σ.t 14 = .sl (es.map encE) ∧ σ.t 15 = .s (.int .i64 es.length) ∧ σ.t 16 = .s (.int .i64 k) ∧ σ.h n = some ⟨18, [encE e], true⟩ ∧ n < σ.n ∧ k ≤ es.length ∧ apK e i (es.drop k) k = apK e i es 0) (fun σ => es.length - ix (σ.t 16)) ⟨0, (by first | assumption | exact sxa trivial), (by first | assumption | exact sxa trivial), (by first | assumption | exact sxa trivial), (by first | assumption | exact sxa trivial), (by first | assumption | exact sxa trivial), (by first | assumption | exact sxa trivial), (by first | assumption | exact sxa trivial), (by first | assumption | exact sxa trivial), (by first | assumption | exact sxa trivial), (by first | assumption | exact sxa trivial), (by first | omega | (dsimp only; omega) | exact soa trivial | omega | (simp; done)), (by first | rfl | omega | assumption | (simp [*]; done)), (by first | rfl | omega | assumption | (simp [*]; done))⟩ ?_
    rintro t h n2 ⟨k, h0, h7, h8, h9, h3, h4, h14, h15, h16, hhn, hn1, hf0, hf1⟩
    simp only at h0 h7 h8 h9 h3 h4 h14 h15 h16 hhn hn1
    refine go (And.intro h0 (And.intro h7 (And.intro h8 (And.intro h9 (And.intro h3 (And.intro h4 (And.intro h14 (And.intro h15 h16)))))))) ?_
    refine x_condP (sv (And.intro h0 (And.intro h7 (And.intro h8 (And.intro h9 (And.intro h3 (And.intro h4 (And.intro h14 (And.intro h15 h16))))))))) (fun hc => ?_) (fun hc => ?_)
    · have hk : k < es.length := by omega
      rw [List.drop_eq_getElem_cons hk, apK] at hf1
      generalize hff : es[k] = f at *
      have e1 : (n = n2) = False := by simp <;> omega
      have e2 : (n2 = n) = False := by simp <;> omega
      have e3 : (n = n2 + 1) = False := by simp <;> omega
      by_cases hik : i = k
      · have hkk : (i == k) = true := by simpa using hik
        have hz : ((i : Int) != (k : Int)) = false := by simp [bne]; omega
        rw [hkk] at hf1
        simp only [Bool.not_true, Bool.false_and, Bool.false_eq_true, if_false] at hf1
        refine go (And.intro h0 (And.intro h7 (And.intro h8 (And.intro h9 (And.intro h3 (And.intro h4 (And.intro h14 (And.intro h15 (And.intro h16 (And.intro hre (And.intro hff (And.intro hhn (And.intro @encE.eq_1 (And.intro hpl (And.intro hz (And.intro e1 (And.intro e2 e3))))))))))))))))) ?_
        (refine ⟨⟨k + 1, ?_, ?_, ?_, ?_, ?_, ?_, ?_, ?_, ?_, ?_, ?_, ?_, ?_⟩, ?_⟩ <;> (first | omega | (dsimp only; omega) | ((exact hf1)) | exact sxa (And.intro @cast_succ (And.intro h0 (And.intro h7 (And.intro h8 (And.intro h9 (And.intro h3 (And.intro h4 (And.intro h14 (And.intro h15 (And.intro h16 (And.intro hhn (And.intro e1 (And.intro e2 e3))))))))))))) | exact soa trivial))
      · have hkk : (i == k) = false := by simpa using hik
        have hz : ((i : Int) != (k : Int)) = true := by simp [bne]; omega
        rw [hkk, apartE] at hf1
        cases hid : ((e.id.a.toList == f.id.a.toList) && (e.id.n == f.id.n))
        · refine go (And.intro h0 (And.intro h7 (And.intro h8 (And.intro h9 (And.intro h3 (And.intro h4 (And.intro h14 (And.intro h15 (And.intro h16 (And.intro hre (And.intro hff (And.intro hhn (And.intro @encE.eq_1 (And.intro hpl (And.intro hz (And.intro hid (And.intro e1 (And.intro e2 e3)))))))))))))))))) ?_
          refine x_callN rfl rfl rfl rfl (sv (And.intro @encE.eq_1 @encId.eq_1)) g_has (sv (And.intro @encE.eq_1 @encId.eq_1)) (se (And.intro @encE.eq_1 @encId.eq_1)) ⟨e.deps, f.id, by omega, rfl, rfl⟩ rfl ?_
          cases hh : hasF e.deps f.id
          · rw [hid, hh] at hf1
            simp only [Bool.or_self, Bool.and_false, Bool.false_eq_true, if_false] at hf1
            refine go (And.intro h0 (And.intro h7 (And.intro h8 (And.intro h9 (And.intro h3 (And.intro h4 (And.intro h14 (And.intro h15 (And.intro h16 (And.intro hre (And.intro hff (And.intro hhn (And.intro hpl (And.intro hz (And.intro hid (And.intro e1 (And.intro e2 e3))))))))))))))))) ?_
            (refine ⟨⟨k + 1, ?_, ?_, ?_, ?_, ?_, ?_, ?_, ?_, ?_, ?_, ?_, ?_, ?_⟩, ?_⟩ <;> (first | omega | (dsimp only; omega) | ((exact hf1)) | exact sxa (And.intro @cast_succ (And.intro h0 (And.intro h7 (And.intro h8 (And.intro h9 (And.intro h3 (And.intro h4 (And.intro h14 (And.intro h15 (And.intro h16 (And.intro hhn (And.intro e1 (And.intro e2 e3))))))))))))) | exact soa trivial))
          · rw [hid, hh] at hf1
            simp only [Bool.not_false, Bool.false_or, Bool.true_and, if_true] at hf1
            have hap : apartG es = false := by rw [← hf1] at hfo; simpa using hfo.symm
            refine go (And.intro h0 (And.intro h7 (And.intro h8 (And.intro h9 (And.intro h3 (And.intro h4 (And.intro h14 (And.intro h15 (And.intro h16 (And.intro hre (And.intro hff (And.intro hhn (And.intro hpl (And.intro hz (And.intro hid (And.intro e1 (And.intro e2 e3))))))))))))))))) ?_
            refine x_done (x_out (sr (And.intro @Try.f20.eq_1 hap)) (by simp) (by simp) rfl)
        · rw [hid] at hf1
          simp only [Bool.not_false, Bool.true_or, Bool.true_and, if_true] at hf1
          have hap : apartG es = false := by rw [← hf1] at hfo; simpa using hfo.symm
          refine go (And.intro h0 (And.intro h7 (And.intro h8 (And.intro h9 (And.intro h3 (And.intro h4 (And.intro h14 (And.intro h15 (And.intro h16 (And.intro hre (And.intro hff (And.intro hhn (And.intro @encE.eq_1 (And.intro hpl (And.intro hz (And.intro hid (And.intro e1 (And.intro e2 e3)))))))))))))))))) ?_
          refine x_done (x_out (sr (And.intro @Try.f20.eq_1 hap)) (by simp) (by simp) rfl)
    · have ek : k = es.length := by omega
      subst ek
      rw [List.drop_length, apK] at hf1
      rw [← hf1] at hfo
      simp only [if_true] at hfo
      skip
      refine go (And.intro h0 (And.intro h7 (And.intro h8 (And.intro h9 (And.intro h3 (And.intro h4 (And.intro h14 (And.intro h15 h16)))))))) ?_
      (refine ⟨⟨i + 1, ?_, ?_, ?_, ?_, ?_, ?_⟩, ?_⟩ <;> (first | omega | (dsimp only; omega) | ((exact hfo)) | exact sxa (And.intro @cast_succ (And.intro h0 (And.intro h7 (And.intro h8 (And.intro h9 (And.intro h3 (And.intro h4 (And.intro h14 (And.intro h15 h16))))))))) | exact soa trivial))
  · have ei : i = es.length := by omega
    subst ei
    rw [List.drop_length, apI] at hf1
    refine go (And.intro h0 (And.intro h7 (And.intro h8 h9))) ?_
    refine x_done (x_out (sr (And.intro @Try.f20.eq_1 (hf1).symm)) (by simp) (by simp) rfl)
end Go.Proofs.Ytgohmphhgglmbaa

set_option linter.unusedVariables false
set_option linter.unusedSimpArgs false
set_option maxRecDepth 100000
set_option maxHeartbeats 16000000
namespace Go.Proofs.Ytgohmphhgglmbaa
open Go Go.RowKit Am

/-- What of a function's code comes behind its first pieces. -/
def tlC : Nat → Code → Code
  | 0, c => c
  | n + 1, .seq _ b => tlC n b
  | _, _ => .skip
def owP (e : Edt) (m : Wrt) : Bool := ((m.id.a.toList == e.id.a.toList) && (m.id.n == e.id.n)) && ((m.x.toList == e.value.toList) && (m.c == e.clock))
theorem owP_self (e : Edt) : owP e (mkW e) = true := by simp [owP, mkW]
theorem ordTail {plain : TypeId → Bool} {Γ : FuncId → Option Fspec} {Δ : FuncId → Option Pt} (hE : EnvOk ⟨Try.prog, plain, Γ, Δ, fun _ => none, 0⟩) (hpl : plain 31 = true) (g_look : Γ 15 = some lookS) {Φ : FvSpec} {t : Nat → Am.V} {h : Hp} {n : Nat} {X : List Rgs} {es : List Edt} (hXl : X.length ≤ 1099511627776) (hXw : ∀ x ∈ X, x.w.length ≤ 1099511627776) (hel : es.length ≤ 1099511627776) (hglen : ∀ y f, (getF X y f).length ≤ 1000) (hhas : ∀ e ∈ es, (e.kind == 3) = true → mkW e ∈ getF X e.node e.field)
    (h1 : t 1 = .sl (es.map encE)) (h13 : t 13 = .sl (X.map encR)) : W ⟨Try.prog, plain, Γ, Δ, Φ, Try.f5.ntmps⟩ (tlC 10 (Try.f5.body.getD .skip)) (retQ ⟨Try.prog, plain, Γ, Δ, Φ, Try.f5.ntmps⟩ Try.f5.results.toList (.s (.bool true))) ⟨t, h, n⟩ := by
  have hre := encE_rows' es
  dsimp only [tlC, Try.f5, Option.getD]
  refine go (And.intro h1 h13) ?_
  refine x_loop (fun σ => ∃ (i : Nat), σ.t 1 = .sl (es.map encE) ∧ σ.t 13 = .sl (X.map encR) ∧ σ.t 118 = .sl (es.map encE) ∧ σ.t 119 = .s (.int .i64 es.length) ∧ σ.t 120 = .s (.int .i64 i) ∧ i ≤ es.length) (fun σ => es.length - ix (σ.t 120)) ⟨0, (by first | assumption | exact sxa trivial), (by first | assumption | exact sxa trivial), (by first | assumption | exact sxa trivial), (by first | assumption | exact sxa trivial), (by first | assumption | exact sxa trivial), (by first | rfl | omega | assumption | (simp [*]; done))⟩ ?_
  rintro t5 g5 n5 ⟨i, h1, h13, h118, h119, h120, hf0⟩
  simp only at h1 h13 h118 h119 h120
  refine go (And.intro h1 (And.intro h13 (And.intro h118 (And.intro h119 h120)))) ?_
  refine x_condP (sv (And.intro h1 (And.intro h13 (And.intro h118 (And.intro h119 h120))))) (fun hc => ?_) (fun hc => ?_)
  · have hi : i < es.length := by omega
    have hme := hhas _ (List.getElem_mem hi)
    generalize hee : es[i] = e at *
    refine go (And.intro h1 (And.intro h13 (And.intro h118 (And.intro h119 (And.intro h120 (And.intro hre (And.intro hee @encE_kind))))))) ?_
    refine x_callS rfl rfl rfl rfl (sv (And.intro @encId.eq_1 @encE_kind)) g_look (sv (And.intro @encId.eq_1 @encE_kind)) (se (And.intro @encId.eq_1 @encE_kind)) ⟨X, e.node, e.field, hXl, hXw, rfl, rfl⟩ (by simp) (by simp [touchA, touch]) ?_
    have hWl := hglen e.node e.field
    generalize hW : getF X e.node e.field = W at *
    have hrw := encW_rows W
    have hin : ((e.kind != 3) || W.any (owP e)) = true := by
      cases hk : (e.kind == 3)
      · simp [bne, hk]
      · have := List.any_eq_true.2 ⟨mkW e, hme hk, owP_self e⟩
        rw [this, Bool.or_true]
    refine go (And.intro h1 (And.intro h13 (And.intro h118 (And.intro h119 (And.intro h120 @encE_kind))))) ?_
    refine x_loop (fun σ => ∃ (j : Nat) (w : Bool), σ.t 1 = .sl (es.map encE) ∧ σ.t 13 = .sl (X.map encR) ∧ σ.t 118 = .sl (es.map encE) ∧ σ.t 119 = .s (.int .i64 es.length) ∧ σ.t 120 = .s (.int .i64 i) ∧ σ.t 19 = .ptr n5 0 0 ∧ σ.h n5 = some ⟨18, [encE e], true⟩ ∧ n5 < σ.n ∧ σ.t 20 = .s (.bool w) ∧ σ.t 132 = .sl (W.map encW) ∧ σ.t 133 = .s (.int .i64 W.length) ∧ σ.t 134 = .s (.int .i64 j) ∧ j ≤ W.length ∧ (w || (W.drop j).any (owP e)) = true) (fun σ => W.length - ix (σ.t 134)) ⟨0, (e.kind != 3), (by first | assumption | exact sxa trivial), (by first | assumption | exact sxa trivial), (by first | assumption | exact sxa trivial), (by first | assumption | exact sxa trivial), (by first | assumption | exact sxa trivial), (by first | assumption | exact sxa trivial), (by first | assumption | exact sxa trivial), (by first | omega | (dsimp only; omega) | exact soa trivial | omega | (simp; done)), (by first | assumption | exact sxa trivial), (by first | assumption | exact sxa trivial), (by first | assumption | exact sxa trivial), (by first | assumption | exact sxa trivial), (by first | rfl | omega | assumption | (simp [*]; done)), (by first | rfl | omega | assumption | (simp [*]; done))⟩ ?_
    rintro t6 g6 n6 ⟨j, w, h1, h13, h118, h119, h120, h19, hhn5, hn1, h20, h132, h133, h134, hf0, hf1⟩
    simp only at h1 h13 h118 h119 h120 h19 hhn5 hn1 h20 h132 h133 h134
    refine go (And.intro h1 (And.intro h13 (And.intro h118 (And.intro h119 (And.intro h120 (And.intro h19 (And.intro h20 (And.intro h132 (And.intro h133 h134))))))))) ?_
    refine x_condP (sv (And.intro h1 (And.intro h13 (And.intro h118 (And.intro h119 (And.intro h120 (And.intro h19 (And.intro h20 (And.intro h132 (And.intro h133 h134)))))))))) (fun hc => ?_) (fun hc => ?_)
    · have hj : j < W.length := by omega
      rw [List.drop_eq_getElem_cons hj, List.any_cons] at hf1
      generalize hww : W[j] = m at *
      have e1 : (n5 = n6) = False := by simp; omega
      have e2 : (n6 = n5) = False := by simp; omega
      cases w
      · rw [Bool.false_or, owP] at hf1
        cases hid : ((m.id.a.toList == e.id.a.toList) && (m.id.n == e.id.n))
        · rw [hid, Bool.false_and, Bool.false_or] at hf1
          refine go (And.intro h1 (And.intro h13 (And.intro h118 (And.intro h119 (And.intro h120 (And.intro h19 (And.intro h20 (And.intro h132 (And.intro h133 (And.intro h134 (And.intro hhn5 (And.intro hrw (And.intro hww (And.intro @encW.eq_1 (And.intro @encE_kind (And.intro hpl (And.intro hid (And.intro e1 e2)))))))))))))))))) ?_
          (refine ⟨⟨j + 1, false, ?_, ?_, ?_, ?_, ?_, ?_, ?_, ?_, ?_, ?_, ?_, ?_, ?_, ?_⟩, ?_⟩ <;> (first | omega | (dsimp only; omega) | ((rw [Bool.false_or]; exact hf1)) | exact sxa (And.intro @cast_succ (And.intro e1 (And.intro e2 @encE_kind))) | exact soa trivial))
        · cases htx : (m.x.toList == e.value.toList)
          · rw [hid, htx, Bool.false_and, Bool.and_false, Bool.false_or] at hf1
            refine go (And.intro h1 (And.intro h13 (And.intro h118 (And.intro h119 (And.intro h120 (And.intro h19 (And.intro h20 (And.intro h132 (And.intro h133 (And.intro h134 (And.intro hhn5 (And.intro hrw (And.intro hww (And.intro @encW.eq_1 (And.intro @encE_kind (And.intro hpl (And.intro hid (And.intro htx (And.intro e1 e2))))))))))))))))))) ?_
            (refine ⟨⟨j + 1, false, ?_, ?_, ?_, ?_, ?_, ?_, ?_, ?_, ?_, ?_, ?_, ?_, ?_, ?_⟩, ?_⟩ <;> (first | omega | (dsimp only; omega) | ((rw [Bool.false_or]; exact hf1)) | exact sxa (And.intro @cast_succ (And.intro e1 (And.intro e2 @encE_kind))) | exact soa trivial))
          · rw [hid, htx, Bool.true_and, Bool.true_and] at hf1
            refine go (And.intro h1 (And.intro h13 (And.intro h118 (And.intro h119 (And.intro h120 (And.intro h19 (And.intro h20 (And.intro h132 (And.intro h133 (And.intro h134 (And.intro hhn5 (And.intro hrw (And.intro hww (And.intro @encW.eq_1 (And.intro @encE_kind (And.intro hpl (And.intro hid (And.intro htx (And.intro e1 e2))))))))))))))))))) ?_
            (refine ⟨⟨j + 1, m.c == e.clock, ?_, ?_, ?_, ?_, ?_, ?_, ?_, ?_, ?_, ?_, ?_, ?_, ?_, ?_⟩, ?_⟩ <;> (first | omega | (dsimp only; omega) | ((exact hf1)) | exact sxa (And.intro @cast_succ (And.intro e1 (And.intro e2 @encE_kind))) | exact soa trivial))
      · refine go (And.intro h1 (And.intro h13 (And.intro h118 (And.intro h119 (And.intro h120 (And.intro h19 (And.intro h20 (And.intro h132 (And.intro h133 (And.intro h134 (And.intro hhn5 (And.intro hrw (And.intro hww (And.intro @encW.eq_1 (And.intro @encE_kind (And.intro hpl (And.intro e1 e2))))))))))))))))) ?_
        (refine ⟨⟨j + 1, true, ?_, ?_, ?_, ?_, ?_, ?_, ?_, ?_, ?_, ?_, ?_, ?_, ?_, ?_⟩, ?_⟩ <;> (first | omega | (dsimp only; omega) | ((rw [Bool.true_or])) | exact sxa (And.intro @cast_succ (And.intro e1 (And.intro e2 @encE_kind))) | exact soa trivial))
    · have ej : j = W.length := by omega
      rw [ej, List.drop_of_length_le (Nat.le_refl _), List.any_nil, Bool.or_false] at hf1
      subst hf1
      skip
      refine go (And.intro h1 (And.intro h13 (And.intro h118 (And.intro h119 (And.intro h120 (And.intro h19 (And.intro h20 (And.intro h132 (And.intro h133 h134))))))))) ?_
      (refine ⟨⟨i + 1, ?_, ?_, ?_, ?_, ?_, ?_⟩, ?_⟩ <;> (first | omega | (dsimp only; omega) | (omega) | exact sxa @cast_succ | exact soa trivial))
  · skip
    refine go (And.intro h1 (And.intro h13 (And.intro h118 (And.intro h119 h120)))) ?_
    refine x_done (x_out (sr @Try.f5.eq_1) (by simp) (by simp) rfl)
end Go.Proofs.Ytgohmphhgglmbaa

set_option linter.unusedVariables false
set_option linter.unusedSimpArgs false
set_option maxRecDepth 100000
set_option maxHeartbeats 16000000
namespace Go.Proofs.Ytgohmphhgglmbaa
open Go Go.RowKit Am

def bk (es : List Edt) (i : Nat) : List Edt := es.reverse.take i
theorem bk_succ {es : List Edt} {i : Nat} (hi : i < es.length) : bk es (i + 1) = bk es i ++ [es[es.length - 1 - i]'(by omega)] := by
  rw [bk, List.take_succ_eq_append_getElem (by simpa using hi), List.getElem_reverse]
  rfl
theorem wo_abs {E : Env} {ops : Array Oper} {l : List Oper} {Q : Exit → St → Prop} {t : Nat → Am.V} {h : Hp} {n : Nat} (P : Hp → Prop) (hP : P h) (k : ∀ h', P h' → WO E ops l Q ⟨t, h', n⟩) : WO E ops l Q ⟨t, h, n⟩ := k h hP
theorem touch_rows2 (h : Hp) (d : Nat) {α : Type} (f : α → List Am.V) (hf : ∀ a, ∀ v ∈ f a, deepc v = true) (l : List α) : (l.map f).flatMap (fun r => r.flatMap (touch h d)) = [] := by
  rw [List.flatMap_eq_nil_iff]
  intro r hr
  obtain ⟨a, _, rfl⟩ := List.mem_map.1 hr
  rw [List.flatMap_eq_nil_iff]
  exact fun v hv => touch_deep h d (hf a v hv)
theorem touch_loc2 {h : Hp} {b len cap : Nat} {α : Type} {f : α → List Am.V} (hf : ∀ a, ∀ v ∈ f a, deepc v = true) {l : List α} (hr : rowsOf h (.loc b 0 len cap) = some (l.map f)) : touchA h (.loc b 0 len cap) = [b] := by
  show touch h (1 + 1) (.loc b 0 len cap) = [b]
  rw [touch]
  simp only [hr, touch_rows2 h 1 f hf l]
def ordLawS : Fspec := fun _ ds r => ∃ (l : List Rgs) (es : List Edt) (k : Int), smallR 1048576 l ∧ edtOk 1048576 es ∧ 0 ≤ k ∧ k < 256 ∧ ds = [.sl (l.map encR), .sl (es.map encE), .s (.int .u8 k)] ∧ r = .s (.bool true)
theorem ordLaw_sound {plain : TypeId → Bool} {Γ : FuncId → Option Fspec} {Δ : FuncId → Option Pt} (hE : EnvOk ⟨Try.prog, plain, Γ, Δ, fun _ => none, 0⟩) (hpl : plain 31 = true) (g_alive : Γ 9 = some aliveS) (g_right : Γ 10 = some rightS) (g_fine : Γ 11 = some fineS) (g_same : Γ 12 = some sameS) (g_look : Γ 15 = some lookS) (g_apart : Γ 20 = some apartS) (g_app : Γ 13 = some appS) : Sound Try.prog 5 ordLawS := by
  refine sound_of_awp hE Try.func5 rfl (by kernel_rfl) ?_
  rintro Φ ds r ⟨l, es, k, hl, hes, hk0, hk1, rfl, rfl⟩
  refine ⟨by simp [Try.f5], ?_⟩
  unfold st0
  refine W.out (E := ⟨Try.prog, plain, Γ, Δ, Φ, _⟩) ?_
  have hre := encE_rows' es
  have hel := hes.1
  refine go trivial ?_
  refine x_callN rfl rfl rfl rfl (sv trivial) g_alive (sv trivial) (se trivial) ⟨rfl, rfl⟩ rfl ?_
  refine go trivial ?_
  refine x_callN rfl rfl rfl rfl (sv trivial) g_right (sv trivial) (se trivial) ⟨l, hl, rfl, rfl⟩ rfl ?_
  cases hr : (rightF l == 0)
  · refine go hr ?_
    refine x_callN rfl rfl rfl rfl (sv trivial) g_fine (sv trivial) (se trivial) ⟨es, hes.fine.1, hes.fine.2, rfl, rfl⟩ rfl ?_
    cases hf : fineF es
    · refine go (And.intro hr hf) ?_
      refine x_done (x_out (sr @Try.f5.eq_1) (by simp) (by simp) rfl)
    · have hR := right_p hr
      have hF := fine_small hf
      have hes0 := hF.1
      have hdeps := hF.2
      cases hz : ((es.length : Int) == 0)
      · refine go (And.intro hr (And.intro hf hz)) ?_
        refine x_callN rfl rfl rfl rfl (sv trivial) g_apart (sv trivial) (se trivial) ⟨es, by omega, fun e he => by have := hdeps e he; omega, rfl, rfl⟩ rfl ?_
        cases ha : apartG es
        · refine go (And.intro hr (And.intro hf (And.intro hz ha))) ?_
          refine x_done (x_out (sr @Try.f5.eq_1) (by simp) (by simp) rfl)
        · have hpw := apartG_pw (fine_val hf) ha
          refine go (And.intro hr (And.intro hf (And.intro hz ha))) ?_
          have hn0 : (es.length : Int) ≠ 0 := fun h => by rw [h] at hz; cases hz
          have hRs := hR.srt
          have hrl := encR_rows l
          have hl0 := hR.small.1
          have hlw := hR.small.2
          refine x_loop (fun σ => ∃ (i : Nat), σ.t 0 = .sl (l.map encR) ∧ σ.t 1 = .sl (es.map encE) ∧ σ.t 2 = .s (.int .u8 k) ∧ σ.t 43 = .sl (l.map encR) ∧ σ.t 44 = .s (.int .i64 l.length) ∧ σ.t 45 = .s (.int .i64 i) ∧ i ≤ l.length) (fun σ => l.length - ix (σ.t 45)) ⟨0, (by first | assumption | exact sxa trivial), (by first | assumption | exact sxa trivial), (by first | assumption | exact sxa trivial), (by first | assumption | exact sxa trivial), (by first | assumption | exact sxa trivial), (by first | assumption | exact sxa trivial), (by first | rfl | omega | assumption | (simp [*]; done))⟩ ?_
          rintro t h n ⟨i, h0, h1, h2, h43, h44, h45, hf0⟩
          simp only at h0 h1 h2 h43 h44 h45
          refine go (And.intro h0 (And.intro h1 (And.intro h2 (And.intro h43 (And.intro h44 h45))))) ?_
          refine x_condP (sv (And.intro h0 (And.intro h1 (And.intro h2 (And.intro h43 (And.intro h44 h45)))))) (fun hc => ?_) (fun hc => ?_)
          · have hi : i < l.length := by omega
            have hrw := hlw _ (List.getElem_mem hi)
            generalize hmm : l[i] = r at *
            have hrr := encW_rows r.w
            refine go (And.intro h0 (And.intro h1 (And.intro h2 (And.intro h43 (And.intro h44 (And.intro h45 (And.intro hrl (And.intro hmm @encR.eq_1)))))))) ?_
            refine x_loop (fun σ => ∃ (j : Nat), σ.t 0 = .sl (l.map encR) ∧ σ.t 1 = .sl (es.map encE) ∧ σ.t 2 = .s (.int .u8 k) ∧ σ.t 43 = .sl (l.map encR) ∧ σ.t 44 = .s (.int .i64 l.length) ∧ σ.t 45 = .s (.int .i64 i) ∧ σ.t 50 = .sl (r.w.map encW) ∧ σ.t 51 = .s (.int .i64 r.w.length) ∧ σ.t 52 = .s (.int .i64 j) ∧ j ≤ r.w.length) (fun σ => r.w.length - ix (σ.t 52)) ⟨0, (by first | assumption | exact sxa trivial), (by first | assumption | exact sxa trivial), (by first | assumption | exact sxa trivial), (by first | assumption | exact sxa trivial), (by first | assumption | exact sxa trivial), (by first | assumption | exact sxa trivial), (by first | assumption | exact sxa trivial), (by first | assumption | exact sxa trivial), (by first | assumption | exact sxa trivial), (by first | rfl | omega | assumption | (simp [*]; done))⟩ ?_
            rintro t3 g3 n3 ⟨j, h0, h1, h2, h43, h44, h45, h50, h51, h52, hf0⟩
            simp only at h0 h1 h2 h43 h44 h45 h50 h51 h52
            refine go (And.intro h0 (And.intro h1 (And.intro h2 (And.intro h43 (And.intro h44 (And.intro h45 (And.intro h50 (And.intro h51 h52)))))))) ?_
            refine x_condP (sv (And.intro h0 (And.intro h1 (And.intro h2 (And.intro h43 (And.intro h44 (And.intro h45 (And.intro h50 (And.intro h51 h52))))))))) (fun hc => ?_) (fun hc => ?_)
            · have hj : j < r.w.length := by omega
              generalize hww : r.w[j] = m at *
              refine go (And.intro h0 (And.intro h1 (And.intro h2 (And.intro h43 (And.intro h44 (And.intro h45 (And.intro h50 (And.intro h51 (And.intro h52 (And.intro hrr (And.intro hww @encW.eq_1))))))))))) ?_
              refine x_loop (fun σ => ∃ (q : Nat) (b : Nat), σ.t 0 = .sl (l.map encR) ∧ σ.t 1 = .sl (es.map encE) ∧ σ.t 2 = .s (.int .u8 k) ∧ σ.t 43 = .sl (l.map encR) ∧ σ.t 44 = .s (.int .i64 l.length) ∧ σ.t 45 = .s (.int .i64 i) ∧ σ.t 50 = .sl (r.w.map encW) ∧ σ.t 51 = .s (.int .i64 r.w.length) ∧ σ.t 52 = .s (.int .i64 j) ∧ σ.t 10 = .ptr b 0 0 ∧ σ.h b = some ⟨4, [encW m], true⟩ ∧ b < σ.n ∧ σ.t 56 = .sl (es.map encE) ∧ σ.t 57 = .s (.int .i64 es.length) ∧ σ.t 58 = .s (.int .i64 q) ∧ q ≤ es.length) (fun σ => es.length - ix (σ.t 58)) ⟨0, n3, (by first | assumption | exact sxa trivial), (by first | assumption | exact sxa trivial), (by first | assumption | exact sxa trivial), (by first | assumption | exact sxa trivial), (by first | assumption | exact sxa trivial), (by first | assumption | exact sxa trivial), (by first | assumption | exact sxa trivial), (by first | assumption | exact sxa trivial), (by first | assumption | exact sxa trivial), (by first | assumption | exact sxa trivial), (by first | assumption | exact sxa trivial), (by first | omega | (dsimp only; omega) | exact soa trivial | omega | (simp; done)), (by first | assumption | exact sxa trivial), (by first | assumption | exact sxa trivial), (by first | assumption | exact sxa trivial), (by first | rfl | omega | assumption | (simp [*]; done))⟩ ?_
              rintro t4 g4 n4 ⟨q, b, h0, h1, h2, h43, h44, h45, h50, h51, h52, h10, hhb, hn1, h56, h57, h58, hf0⟩
              simp only at h0 h1 h2 h43 h44 h45 h50 h51 h52 h10 hhb hn1 h56 h57 h58
              refine go (And.intro h0 (And.intro h1 (And.intro h2 (And.intro h43 (And.intro h44 (And.intro h45 (And.intro h50 (And.intro h51 (And.intro h52 (And.intro h10 (And.intro h56 (And.intro h57 h58)))))))))))) ?_
              refine x_condP (sv (And.intro h0 (And.intro h1 (And.intro h2 (And.intro h43 (And.intro h44 (And.intro h45 (And.intro h50 (And.intro h51 (And.intro h52 (And.intro h10 (And.intro h56 (And.intro h57 h58))))))))))))) (fun hc => ?_) (fun hc => ?_)
              · have hq : q < es.length := by omega
                generalize hee : es[q] = e at *
                have e1 : (b = n4) = False := by simp; omega
                have e2 : (n4 = b) = False := by simp; omega
                cases hid : ((m.id.a.toList == e.id.a.toList) && (m.id.n == e.id.n))
                · refine go (And.intro h0 (And.intro h1 (And.intro h2 (And.intro h43 (And.intro h44 (And.intro h45 (And.intro h50 (And.intro h51 (And.intro h52 (And.intro h10 (And.intro h56 (And.intro h57 (And.intro h58 (And.intro hhb (And.intro hre (And.intro hee (And.intro @encW.eq_1 (And.intro @encE_kind (And.intro hpl (And.intro hid (And.intro e1 e2))))))))))))))))))))) ?_
                  (refine ⟨⟨q + 1, b, ?_, ?_, ?_, ?_, ?_, ?_, ?_, ?_, ?_, ?_, ?_, ?_, ?_, ?_, ?_, ?_⟩, ?_⟩ <;> (first | omega | (dsimp only; omega) | (omega) | exact sxa (And.intro @cast_succ (And.intro @encW.eq_1 (And.intro e1 e2))) | exact soa trivial))
                · refine go (And.intro h0 (And.intro h1 (And.intro h2 (And.intro h43 (And.intro h44 (And.intro h45 (And.intro h50 (And.intro h51 (And.intro h52 (And.intro h10 (And.intro h56 (And.intro h57 (And.intro h58 (And.intro hhb (And.intro hre (And.intro hee (And.intro @encW.eq_1 (And.intro @encE_kind (And.intro hpl (And.intro hid (And.intro e1 e2))))))))))))))))))))) ?_
                  refine x_done (x_out (sr @Try.f5.eq_1) (by simp) (by simp) rfl)
              · skip
                refine go (And.intro h0 (And.intro h1 (And.intro h2 (And.intro h43 (And.intro h44 (And.intro h45 (And.intro h50 (And.intro h51 (And.intro h52 (And.intro h10 (And.intro h56 (And.intro h57 h58)))))))))))) ?_
                (refine ⟨⟨j + 1, ?_, ?_, ?_, ?_, ?_, ?_, ?_, ?_, ?_, ?_⟩, ?_⟩ <;> (first | omega | (dsimp only; omega) | (omega) | exact sxa @cast_succ | exact soa trivial))
            · skip
              refine go (And.intro h0 (And.intro h1 (And.intro h2 (And.intro h43 (And.intro h44 (And.intro h45 (And.intro h50 (And.intro h51 h52)))))))) ?_
              (refine ⟨⟨i + 1, ?_, ?_, ?_, ?_, ?_, ?_, ?_⟩, ?_⟩ <;> (first | omega | (dsimp only; omega) | (omega) | exact sxa @cast_succ | exact soa trivial))
          · skip
            have b1 := app_small es hR.small
            have hsS : ∀ x ∈ l, SrtW x.w := hR.srtW
            have hpr : appF l es.reverse = appF l es := (app_perm (List.reverse_perm es).symm hRs hsS hpw).symm
            have hpq : ∀ q, appF l (es.drop q ++ es.take q) = appF l es := fun q => (app_perm ((List.Perm.of_eq (List.take_append_drop q es).symm).trans List.perm_append_comm) hRs hsS hpw).symm
            have hhas : ∀ e ∈ es, (e.kind == 3) = true → mkW e ∈ getF (appF l es) e.node e.field := app_has es hRs hpw
            have hglen : ∀ y f, (getF (appF l es) y f).length ≤ 1000 := fun y f => by have h1 := getF_len b1 y f; omega
            refine go (And.intro h0 (And.intro h1 (And.intro h2 (And.intro h43 (And.intro h44 h45))))) ?_
            refine x_callS rfl rfl rfl rfl (sv trivial) g_app (sv trivial) (se trivial) ⟨l, es, hR.small.mono (by omega), by omega, fun e he => by have := hdeps e he; omega, rfl, rfl⟩ (by simp) (by simp [touchA, touch]) ?_
            generalize hX : appF l es = X at *
            refine go (And.intro h0 (And.intro h1 h2)) ?_
            have bk0 : bk es 0 = [] := rfl
            refine x_loopG 14 18 (fun σ => ∃ (i : Nat) (b : Nat) (cap : Nat) (sp : List (List Am.V)), σ.t 0 = .sl (l.map encR) ∧ σ.t 1 = .sl (es.map encE) ∧ σ.t 2 = .s (.int .u8 k) ∧ σ.t 13 = .sl (X.map encR) ∧ σ.t 14 = .loc b 0 (bk es i).length cap ∧ σ.t 73 = .sl (es.map encE) ∧ σ.t 74 = .s (.int .i64 es.length) ∧ σ.t 75 = .s (.int .i64 i) ∧ σ.h b = some ⟨18, (bk es i).map encE ++ sp, true⟩ ∧ b < σ.n ∧ i ≤ es.length ∧ (bk es i).length ≤ cap ∧ cap ≤ (bk es i).length + sp.length ∧ (bk es i).length ≤ i) (fun σ => es.length - ix (σ.t 75)) (sca trivial) ⟨0, _, 0, [], (by first | assumption | exact sxa trivial), (by first | assumption | exact sxa trivial), (by first | assumption | exact sxa trivial), (by first | assumption | exact sxa trivial), (by first | assumption | exact sxa trivial), (by first | assumption | exact sxa trivial), (by first | assumption | exact sxa trivial), (by first | assumption | exact sxa trivial), (by first | assumption | exact sxa trivial), (by first | omega | (dsimp only; omega) | exact soa trivial | omega | (simp; done)), (by first | rfl | omega | assumption | (simp [*]; done)), (by first | rfl | omega | assumption | (simp [*]; done)), (by first | rfl | omega | assumption | (simp [*]; done)), (by first | rfl | omega | assumption | (simp [*]; done))⟩ ?_
            rintro t3 g3 n3 ⟨i, b, cap, sp, h0, h1, h2, h13, h14, h73, h74, h75, hhb, hn1, hf0, hf1, hf2, hf3⟩
            simp only at h0 h1 h2 h13 h14 h73 h74 h75 hhb hn1
            refine go (And.intro h0 (And.intro h1 (And.intro h2 (And.intro h13 (And.intro h14 (And.intro h73 (And.intro h74 h75))))))) ?_
            refine x_condP (sv (And.intro h0 (And.intro h1 (And.intro h2 (And.intro h13 (And.intro h14 (And.intro h73 (And.intro h74 h75)))))))) (fun hc => ?_) (fun hc => ?_)
            · have hi : i < es.length := by omega
              obtain ⟨z, hz1, hz2, hzi⟩ : ∃ z : Nat, (es.length : Int) - 1 - (i : Int) = (z : Int) ∧ z < es.length ∧ z = es.length - 1 - i := ⟨es.length - 1 - i, by omega, by omega, rfl⟩
              have hfl := bk_succ hi
              have hsz : es[es.length - 1 - i]'(by omega) = es[z] := by simp [hzi]
              rw [hsz] at hfl
              generalize hee : es[z] = e at *
              have hl2 : (bk es (i + 1)).length = (bk es i).length + 1 := by rw [hfl]; simp
              have hm2 : (bk es (i + 1)).map encE = (bk es i).map encE ++ [encE e] := by rw [hfl]; simp
              clear hfl
              have e1 : (b = n3) = False := by simp; omega
              have e2 : (b = n3 + 1) = False := by simp; omega
              have e3 : (n3 = b) = False := by simp; omega
              have e4 : (n3 + 1 = b) = False := by simp; omega
              refine go (And.intro h0 (And.intro h1 (And.intro h2 (And.intro h13 (And.intro h14 (And.intro h73 (And.intro h74 (And.intro h75 (And.intro hhb (And.intro hre (And.intro hee (And.intro hz1 (And.intro @encE_kind (And.intro e1 (And.intro e2 (And.intro e3 e4)))))))))))))))) ?_
              refine x_appendO rfl rfl rfl rfl rfl rfl (sv (And.intro h14 (And.intro hhb (And.intro e1 (And.intro e2 (And.intro e3 e4)))))) (by decide) (sc (And.intro h14 (And.intro hhb (And.intro e1 (And.intro e2 (And.intro e3 e4)))))) (sv (And.intro h14 (And.intro hhb (And.intro e1 (And.intro e2 (And.intro e3 e4)))))) (sx (And.intro h14 (And.intro hhb (And.intro e1 (And.intro e2 (And.intro e3 e4)))))) (by first | rfl | (simp; done) | (simp [spare_len]; omega)) (by first | omega | (simp; done) | (simp [spare_len]; omega)) (by first | omega | (simp; done) | (simp [spare_len]; omega)) (sx (And.intro h14 (And.intro hhb (And.intro e1 (And.intro e2 (And.intro e3 e4)))))) (okRowE e) (by first | omega | (simp; done) | (simp [spare_len]; omega)) (fun cap' hcap' => ?_)
              refine go (And.intro h0 (And.intro h1 (And.intro h2 (And.intro h13 (And.intro h14 (And.intro h73 (And.intro h74 (And.intro h75 (And.intro hhb (And.intro hre (And.intro hee (And.intro hz1 (And.intro @encE_kind (And.intro e1 (And.intro e2 (And.intro e3 e4)))))))))))))))) ?_
              have hc2 : (bk es i).length + 1 ≤ cap' := hcap'
              (refine ⟨⟨i + 1, n3 + 1, cap', spare 18 (cap' - ((bk es i).length + 1)), ?_, ?_, ?_, ?_, ?_, ?_, ?_, ?_, ?_, ?_, ?_, ?_, ?_, ?_⟩, ?_⟩ <;> (first | omega | (dsimp only; omega) | ((simp only [hl2, spare_len]; omega)) | exact sxa (And.intro @cast_succ (And.intro hl2 (And.intro hm2 (And.intro @encE_kind (And.intro e1 (And.intro e2 (And.intro e3 e4))))))) | exact soa trivial))
            · have ei : i = es.length := by omega
              subst ei
              skip
              have hbk : bk es es.length = es.reverse := List.take_of_length_le (by simp)
              rw [hbk] at h14 hhb hf1 hf2
              clear hbk bk0
              have hln : es.reverse.length = es.length := List.length_reverse
              generalize hB : es.reverse = B at *
              obtain ⟨q, hq, hq2⟩ : ∃ q : Nat, k.tmod (es.length : Int) = (q : Int) ∧ q < es.length := by
                have h1 : 0 ≤ k.tmod (es.length : Int) := Int.tmod_nonneg _ hk0
                have h2 : k.tmod (es.length : Int) < (es.length : Int) := Int.tmod_lt_of_pos _ (by omega)
                exact ⟨(k.tmod (es.length : Int)).toNat, by omega, by omega⟩
              have tq : (es.map encE).take q = (es.take q).map encE := List.map_take.symm
              have dq : (es.map encE).drop q = (es.drop q).map encE := List.map_drop.symm
              have dq2 : ((es.drop q).map encE).take (es.length - q) = (es.drop q).map encE := List.take_of_length_le (by simp)
              have okD : okRows 18 ((es.drop q).map encE) := okRows_map encE _ 18 fun a => ⟨rfl, by simp [encE, cellish]⟩
              have okT : okRows 18 ((es.take q).map encE) := okRows_map encE _ 18 fun a => ⟨rfl, by simp [encE, cellish]⟩
              have lD : (es.drop q).length = es.length - q := by simp
              have lT : (es.take q).length = q := by simp; omega
              have hpq2 := hpq q
              have e1 : (b = n3) = False := by simp; omega
              have e2 : (b = n3 + 1) = False := by simp; omega
              have e3 : (n3 = b) = False := by simp; omega
              have e4 : (n3 + 1 = b) = False := by simp; omega
              have e5 : (b = n3 + 1 + 1) = False := by simp; omega
              have e6 : (n3 + 1 + 1 = b) = False := by simp; omega
              refine go (And.intro h0 (And.intro h1 (And.intro h2 (And.intro h13 (And.intro h14 (And.intro hq (And.intro hre (And.intro tq (And.intro dq dq2))))))))) ?_
              refine x_append rfl rfl rfl rfl rfl rfl (sv (And.intro h14 (And.intro hhb (And.intro tq (And.intro dq (And.intro dq2 (And.intro e1 (And.intro e2 (And.intro e3 (And.intro e4 (And.intro e5 e6))))))))))) (by decide) (sc (And.intro h14 (And.intro hhb (And.intro tq (And.intro dq (And.intro dq2 (And.intro e1 (And.intro e2 (And.intro e3 (And.intro e4 (And.intro e5 e6))))))))))) (sv (And.intro h14 (And.intro hhb (And.intro tq (And.intro dq (And.intro dq2 (And.intro e1 (And.intro e2 (And.intro e3 (And.intro e4 (And.intro e5 e6))))))))))) (sx (And.intro h14 (And.intro hhb (And.intro tq (And.intro dq (And.intro dq2 (And.intro e1 (And.intro e2 (And.intro e3 (And.intro e4 (And.intro e5 e6))))))))))) okD (sx (And.intro h14 (And.intro hhb (And.intro tq (And.intro dq (And.intro dq2 (And.intro e1 (And.intro e2 (And.intro e3 (And.intro e4 (And.intro e5 e6))))))))))) (by first | rfl | (simp; done)) (by first | rfl | (simp; done)) (by first | omega | (simp; done) | (simp [spare_len]; omega)) (by first | omega | (simp; done) | (simp [spare_len]; omega)) (by first | omega | (simp; done) | (simp [spare_len]; omega)) (fun cap' hcap' => ?_)
              have hc1 : (es.drop q).length ≤ cap' := by simpa using hcap'
              have f1 : (n3 + 1 = n3) = False := by simp
              have f2 : (n3 = n3 + 1) = False := by simp
              have f3 : (n3 + 1 = n3 + 1 + 1) = False := by simp
              have f4 : (n3 + 1 + 1 = n3 + 1) = False := by simp
              refine go (And.intro h0 (And.intro h1 (And.intro h2 (And.intro h13 (And.intro h14 (And.intro hq (And.intro hre (And.intro tq (And.intro dq (And.intro dq2 (And.intro e1 (And.intro e2 (And.intro e3 (And.intro e4 (And.intro e5 e6))))))))))))))) ?_
              refine x_appendO rfl rfl rfl rfl rfl rfl (sv (And.intro h14 (And.intro hhb (And.intro tq (And.intro dq (And.intro dq2 (And.intro e1 (And.intro e2 (And.intro e3 (And.intro e4 (And.intro e5 (And.intro e6 (And.intro f1 (And.intro f2 (And.intro f3 f4))))))))))))))) (by decide) (sc (And.intro h14 (And.intro hhb (And.intro tq (And.intro dq (And.intro dq2 (And.intro e1 (And.intro e2 (And.intro e3 (And.intro e4 (And.intro e5 (And.intro e6 (And.intro f1 (And.intro f2 (And.intro f3 f4))))))))))))))) (sv (And.intro h14 (And.intro hhb (And.intro tq (And.intro dq (And.intro dq2 (And.intro e1 (And.intro e2 (And.intro e3 (And.intro e4 (And.intro e5 (And.intro e6 (And.intro f1 (And.intro f2 (And.intro f3 f4))))))))))))))) (sx (And.intro h14 (And.intro hhb (And.intro tq (And.intro dq (And.intro dq2 (And.intro e1 (And.intro e2 (And.intro e3 (And.intro e4 (And.intro e5 (And.intro e6 (And.intro f1 (And.intro f2 (And.intro f3 f4))))))))))))))) (by first | rfl | (simp; done) | (simp [spare_len]; omega)) (by first | omega | (simp; done) | (simp [spare_len]; omega)) (by first | omega | (simp; done) | (simp [spare_len]; omega)) (sx (And.intro h14 (And.intro hhb (And.intro tq (And.intro dq (And.intro dq2 (And.intro e1 (And.intro e2 (And.intro e3 (And.intro e4 (And.intro e5 (And.intro e6 (And.intro f1 (And.intro f2 (And.intro f3 f4))))))))))))))) okT (by first | omega | (simp; done) | (simp [spare_len]; omega)) (fun cap' hcap' => ?_)
              have hc3 : (es.drop q).length + (es.take q).length ≤ cap' := by simpa using hcap'
              generalize hT : es.drop q ++ es.take q = T at *
              have hTl : T.length = (es.drop q).length + (es.take q).length := by rw [← hT]; exact List.length_append
              have hTm : T.map encE = (es.drop q).map encE ++ (es.take q).map encE := by rw [← hT]; exact List.map_append
              have hTe : T.length = es.length := by rw [hTl, lD, lT]; omega
              have g1 : (n3 + 1 + 1 = n3) = False := by simp; omega
              have hx1 : ∀ h d, allO (allO (expo h d)) (B.map encE) = some (B.map encE) := fun h d => allO_rows h d (deep_map encE _ (fun a => by simp [encE, deepc]))
              have hx2 : ∀ h d, allO (allO (expo h d)) (T.map encE) = some (T.map encE) := fun h d => allO_rows h d (deep_map encE _ (fun a => by simp [encE, deepc]))
              have tk : (B.map encE ++ sp).take B.length = B.map encE := List.take_left' (by simp)
              have ln : (B.length ≤ (B.map encE ++ sp).length) = True := by simp
              have hTi : ∀ e ∈ T, e ∈ es := fun e he => by
                rw [← hT, List.mem_append] at he
                rcases he with h | h
                · exact List.mem_of_mem_drop h
                · exact List.mem_of_mem_take h
              have hBi : ∀ e ∈ B, e ∈ es := fun e he => by rw [← hB] at he; exact List.mem_reverse.1 he
              have hBd : ∀ e ∈ B, e.deps.length ≤ 500000 := fun e he => by have := hdeps e (hBi e he); omega
              have hTd : ∀ e ∈ T, e.deps.length ≤ 500000 := fun e he => by have := hdeps e (hTi e he); omega
              have hsm := same_of b1 (by omega)
              have hBl : B.length ≤ 500000 := by omega
              have hTl2 : T.length ≤ 500000 := by omega
              rw [← hTm, ← hTl] at *
              refine go (And.intro h0 (And.intro h1 (And.intro h2 (And.intro h13 (And.intro h14 (And.intro hq (And.intro hre (And.intro e1 (And.intro e2 (And.intro e3 (And.intro e4 (And.intro e5 (And.intro e6 (And.intro f1 (And.intro f2 (And.intro f3 (And.intro f4 g1))))))))))))))))) ?_
              refine wo_abs (fun h' => h' b = some ⟨18, B.map encE ++ sp, true⟩ ∧ ∃ sp2, h' (n3 + 1 + 1) = some ⟨18, T.map encE ++ sp2, true⟩) ⟨(sc (And.intro hhb (And.intro e1 (And.intro e2 (And.intro e3 (And.intro e4 (And.intro e5 (And.intro e6 (And.intro f1 (And.intro f2 (And.intro f3 (And.intro f4 g1)))))))))))), spare 18 (cap' - ((es.drop q).length + (es.take q).length)), (sc (And.intro e1 (And.intro e2 (And.intro e3 (And.intro e4 (And.intro e5 (And.intro e6 (And.intro f1 (And.intro f2 (And.intro f3 (And.intro f4 g1)))))))))))⟩ ?_
              rintro H ⟨hHb, sp2, hHc⟩
              generalize hcc : n3 + 1 + 1 = c at *
              have k1 : (b = c) = False := by simp; omega
              have k2 : (c = b) = False := by simp; omega
              have hde : ∀ a : Edt, ∀ v ∈ encE a, deepc v = true := fun a v hv => by simp [encE] at hv; rcases hv with rfl | rfl | rfl | rfl | rfl | rfl | rfl | rfl | rfl | rfl | rfl | rfl | rfl | rfl | rfl | rfl | rfl | rfl <;> rfl
              have r1 : rowsOf H (.loc b 0 B.length cap) = some (B.map encE) := by simp [rowsOf, hHb, tk]
              have tk2 : (T.map encE ++ sp2).take T.length = T.map encE := List.take_left' (by simp)
              have ln2 : (T.length ≤ (T.map encE ++ sp2).length) = True := by simp
              refine x_callF rfl rfl rfl rfl (sv (And.intro h14 (And.intro hHb (And.intro hx1 (And.intro tk ln))))) g_app (sv (And.intro h14 (And.intro hHb (And.intro hx1 (And.intro tk ln))))) (se (And.intro h14 (And.intro hHb (And.intro hx1 (And.intro tk ln))))) ⟨l, B, hR.small.mono (by omega), hBl, hBd, rfl, rfl⟩ (by simp) (fun h2 hold => ?_)
              have hHc2 : h2 c = some ⟨18, T.map encE ++ sp2, true⟩ := by
                rw [hold c (by
                  simp only [List.flatMap_cons, List.flatMap_nil, touch_loc2 hde r1]
                  have zb : ¬ (c = b) := by omega
                  simp [touchA, touch, zb])]
                exact hHc
              clear hold
              rw [hpr]
              refine go (And.intro h0 (And.intro h1 (And.intro h13 hre))) ?_
              refine x_callN rfl rfl rfl rfl (sv trivial) g_same (sv trivial) (se trivial) ⟨X, X, hsm.1, hsm.1, hsm.2, hsm.2, rfl, rfl⟩ rfl ?_
              rw [sameF_refl]
              refine go (And.intro h0 (And.intro h1 (And.intro h13 (And.intro hre (hTl).symm)))) ?_
              have hTs : (es.drop q).length + (es.take q).length = T.length := by omega
              have tk3 : (T.map encE ++ sp2).take ((es.drop q).length + (es.take q).length) = T.map encE := by rw [hTs]; exact tk2
              have ln3 : ((es.drop q).length + (es.take q).length ≤ (T.map encE ++ sp2).length) = True := by rw [hTs]; exact ln2
              refine x_callF rfl rfl rfl rfl (sv (And.intro hHc2 (And.intro hx2 (And.intro tk3 ln3)))) g_app (sv (And.intro hHc2 (And.intro hx2 (And.intro tk3 ln3)))) (se (And.intro hHc2 (And.intro hx2 (And.intro tk3 ln3)))) ⟨l, T, hR.small.mono (by omega), hTl2, hTd, rfl, rfl⟩ (by simp) (fun h2 hold => ?_)
              clear hold hHc2 hHc hHb
              rw [hpq2]
              refine go (And.intro h0 (And.intro h1 (And.intro h13 hre))) ?_
              refine x_callN rfl rfl rfl rfl (sv trivial) g_same (sv trivial) (se trivial) ⟨X, X, hsm.1, hsm.1, hsm.2, hsm.2, rfl, rfl⟩ rfl ?_
              rw [sameF_refl]
              refine goR (And.intro h0 (And.intro h1 (And.intro h13 hre))) ?_
              exact ordTail hE hpl g_look hsm.1 hsm.2 (by omega) hglen hhas (sv h1) (sv h13)
      · refine go (And.intro hr (And.intro hf hz)) ?_
        refine x_done (x_out (sr @Try.f5.eq_1) (by simp) (by simp) rfl)
  · refine go hr ?_
    refine x_done (x_out (sr @Try.f5.eq_1) (by simp) (by simp) rfl)
end Go.Proofs.Ytgohmphhgglmbaa
