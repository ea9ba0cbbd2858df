/-
  Regions that draw their order are sound.
-/
import Derived.Test.YthgamgdcjgbmnaaGreatDoorAbsM
namespace Go.Abs
set_option linter.unusedSimpArgs false
set_option linter.unusedVariables false
open Go Go.RowKit

section
variable {P : Program} {B : Nat} {N : Nat} {w0 : Bs} {call : CT} {an : Ann} {ops : Array Oper} {F : Nat → St} {m : Nat}

theorem rhoS_none {listed : Array Bool} (h : ∀ j, listed.getD j false = false) : rhoS ops F m listed = getT (F 0).t ∧ etaS ops F m listed = getH (F 0).h := by
  constructor
  · funext q
    unfold rhoS
    rw [if_neg]
    rintro ⟨j, o, _, hl, _⟩
    rw [h j] at hl
    cases hl
  · funext q
    exact eta_none (fun j _ _ _ _ => h j)
theorem Free.all (hF : Free P call N ops F m) {listed : Array Bool} (h : ∀ i, i < m → listed.getD i false = true) : rhoS ops F m listed = getT (F m).t ∧ etaS ops F m listed = getH (F m).h := by
  have key : ∀ q, ¬ Wrote ops m listed q → ∀ j o, j < m → ops[j]? = some o → o.dst ≠ some q := fun q hq j o hj ho e => hq ⟨j, o, hj, h j hj, ho, e⟩
  constructor
  · funext q
    unfold rhoS
    split
    · rfl
    · rename_i hq
      exact (hF.never (key q hq) (Nat.le_refl m)).symm
  · funext q
    by_cases he : ∃ j o, j < m ∧ ops[j]? = some o ∧ wrs o q = true
    · obtain ⟨j, o, hj, ho, hw⟩ := he
      obtain ⟨k, _, hL⟩ := last_ex (m := m) m j o (by omega) hj ho hw (h j hj)
      rw [eta_last hL]
      obtain ⟨h1, h2, h3, h5⟩ := hL
      have := hF.keepH q (m - (k + 1)) (k + 1) (by omega) (fun n on hn1 hn2 hon => by
        cases hwn : wrs on q with
        | false => rfl
        | true =>
          have e1 := h5 n on (by omega) (by omega) hon hwn
          rw [h n (by omega)] at e1
          cases e1)
      rw [show k + 1 + (m - (k + 1)) = m by omega] at this
      exact this.symm
    · rw [eta_none (fun j o hj ho hw => absurd ⟨j, o, hj, ho, hw⟩ he)]
      have := hF.keepH q m 0 (by omega) (fun n on _ hn hon => by
        cases hwn : wrs on q with
        | false => rfl
        | true => exact absurd ⟨n, on, by omega, hon, hwn⟩ he)
      simpa using this.symm

/-- One operation of the free part, at whatever moment it comes up. -/
theorem Free.stepAny (hF : Free P call N ops F m) (hcall : CTok P call) (hG : w0.G = call.g) {listed : Array Bool} (hsz : listed.size = ops.size) (hc : Closed ops listed) {i : Nat} {o : Oper} (hi : i < m) (ho : ops[i]? = some o) (hl : listed.getD i false = false) (hr : ∀ j ∈ aft o, listed.getD j false = true)
    {a : Act} {w : World} (h : ∃ ι, Rel N B w0 ι (rhoS ops F m listed) (etaS ops F m listed) a w) {K : Act → World → Prop} {Q : Exit → Act → World → Prop}
    (hk : ∀ a' w', (∃ ι, Rel N B w0 ι (rhoS ops F m (listed.setIfInBounds i true)) (etaS ops F m (listed.setIfInBounds i true)) a' w') → K a' w') : wpOp P ops Q i K a w := by
  obtain ⟨ι, hrel⟩ := h
  have hil : i < listed.size := by rw [hsz]; exact Nat.lt_of_lt_of_le hi hF.le
  obtain ⟨o', ho', hs⟩ := hF.step i hi
  rw [ho] at ho'
  cases ho'
  have hev : ∀ x ∈ o.op.operands, ev (getT (F i).t) x = ev (rhoS ops F m listed) x := by
    intro x hx
    cases x with
    | tmp t =>
      simp only [ev]
      refine (hF.looks hc hi ho hl hr ?_).symm
      unfold Oper.looksAt
      refine List.mem_append.2 (.inl ?_)
      rw [List.mem_filterMap]
      exact ⟨.tmp t, by simpa using hx, rfl⟩
    | const v => rfl
    | global g => rfl
    | func f => rfl
  have hguard : guardV ops (getT (F i).t) o.guard = guardV ops (rhoS ops F m listed) o.guard := by
    cases hg : o.guard with
    | none => rfl
    | some jw =>
      obtain ⟨j, want⟩ := jw
      simp only [guardV]
      split
      · rename_i oj hj
        split
        · rename_i t ht
          rw [hF.looks hc hi ho hl hr (q := t) (by
            unfold Oper.looksAt
            refine List.mem_append.2 (.inr ?_)
            simp [hg, hj, ht])]
        · rfl
      · rfl
  -- how the relation goes on where nothing but the slot has turned
  have wr : ∀ q, Wrote ops m (listed.setIfInBounds i true) q ↔ Wrote ops m listed q ∨ o.dst = some q := by
    intro q
    rw [wrote_set hil]
    constructor
    · rintro (h | ⟨_, o2, ho2, h⟩)
      · exact .inl h
      · rw [ho] at ho2; cases ho2; exact .inr h
    · rintro (h | h)
      · exact .inl h
      · exact .inr ⟨hi, o, ho, h⟩
  have notW : ∀ t, o.dst = some t → ¬ Wrote ops m listed t := by
    rintro t ht ⟨j, oj, hj, hlj, hoj, hd⟩
    have := hF.distinct hi hj ho hoj ht hd
    subst this
    rw [hl] at hlj
    cases hlj
  have rhoSame : o.dst = none → rhoS ops F m (listed.setIfInBounds i true) = rhoS ops F m listed := by
    intro hd
    have : ∀ q, Wrote ops m (listed.setIfInBounds i true) q ↔ Wrote ops m listed q := fun q => by rw [wr q, hd]; simp
    funext q
    unfold rhoS
    by_cases hq : Wrote ops m listed q
    · rw [if_pos hq, if_pos ((this q).2 hq)]
    · rw [if_neg hq, if_neg (fun h => hq ((this q).1 h))]
  have same : o.dst = none → storeTgt o = none → rhoS ops F m (listed.setIfInBounds i true) = rhoS ops F m listed ∧ etaS ops F m (listed.setIfInBounds i true) = etaS ops F m listed := by
    intro hd hst
    refine ⟨rhoSame hd, ?_⟩
    funext q
    exact eta_same ho (by simp [wrs, hd, hst])
  have next : ∀ t, o.dst = some t → rhoS ops F m (listed.setIfInBounds i true) = upd (rhoS ops F m listed) t (getT (F (i + 1)).t t) ∧
      etaS ops F m (listed.setIfInBounds i true) = upd (etaS ops F m listed) t (getH (F (i + 1)).h t) := by
    intro t ht
    have b1 := hF.behind hi ho ht (Nat.lt_succ_self i) hi
    have hst : storeTgt o = none := by
      unfold storeTgt
      rw [ht]
      split
      · rename_i e; cases e
      · rfl
    constructor
    · funext q
      unfold rhoS
      by_cases hq : q = t
      · subst hq
        rw [if_pos ((wr q).2 (.inr ht))]
        simp [b1]
      · rw [upd_ne _ _ hq]
        have : Wrote ops m (listed.setIfInBounds i true) q ↔ Wrote ops m listed q := by
          rw [wr q]
          constructor
          · rintro (h | h)
            · exact h
            · rw [ht] at h; cases h; exact absurd rfl hq
          · exact .inl
        by_cases hw : Wrote ops m listed q
        · rw [if_pos hw, if_pos (this.2 hw)]
        · rw [if_neg hw, if_neg (fun h => hw (this.1 h))]
    · funext q
      by_cases hq : q = t
      · subst hq
        rw [upd_same, hF.eta_next hc hi ho hl hr hil (by simp [wrs, ht])]
      · rw [upd_ne _ _ hq]
        exact eta_same ho (by simp [wrs, ht, hst, Ne.symm hq])
  have eta0 : ∀ t, wrs o t = true → etaS ops F m listed t = getH (F i).h t := by
    intro t ht
    exact hF.eta_at hc hi ho hl hr (fun j oj hj hij hoj hwj => hF.ord hi hj (Ne.symm hij) ho hoj ht hwj)
  unfold wpOp
  simp only [ho]
  unfold dstep at hs
  split at hs
  · rename_i hg
    rw [hguard] at hg
    rw [if_pos (guard_sound hrel hg)]
    left
    split at hs
    · rename_i t htgt
      have hdn : o.dst = none ∧ ∃ ty x, o.op = .store ty (.tmp t) x := by
        unfold storeTgt at htgt
        split at htgt
        · rename_i ty t' x e1 e2
          cases htgt
          exact ⟨e2, ty, x, e1⟩
        · cases htgt
      obtain ⟨hd, ty, x, hop⟩ := hdn
      rw [hop] at hs hev
      simp only [dstore] at hs
      have hevt := hev (.tmp t) (by simp [Op.operands])
      have hevx := hev x (by simp [Op.operands])
      simp only [ev] at hevt
      split at hs
      · rename_i id off hptr
        split at hs
        · rename_i hidt
          subst hidt
          split at hs
          · rename_i bt cs hbox
            split at hs
            · rename_i cs' hst
              injection hs with hs
              have hw : wrs o id = true := by simp [wrs, htgt]
              have hη : etaS ops F m listed id = some (.box bt cs) := by rw [eta0 id hw]; exact hbox
              rw [hevx] at hst
              have hr1 := hrel.ev (.tmp id)
              simp only [ev] at hr1
              rw [← hevt, hptr] at hr1
              obtain ⟨w', hrun, hrel'⟩ := storeBox_sound hrel hr1 (hrel.ev x) hη hst
              simp only [Oper.wp, execOp, hop, Sem.run_bind, hrun, Result.andThen_ok, Sem.run_pure]
              rw [Oper.upon_skip, hd, put_none]
              refine hk _ _ ⟨ι, ?_⟩
              rw [rhoSame hd]
              have e2 : etaS ops F m (listed.setIfInBounds i true) = upd (etaS ops F m listed) id (some (.box bt cs')) := by
                funext q
                by_cases hq : q = id
                · subst hq
                  rw [upd_same, hF.eta_next hc hi ho hl hr hil hw, ← hs]
                  simp only [getH_set, upd_same]
                · rw [upd_ne _ _ hq]
                  exact eta_same ho (by simp [wrs, hd, htgt, Ne.symm hq])
              rw [e2]
              exact hrel'
            · cases hs
          · cases hs
        · cases hs
      · cases hs
    · rename_i htgt
      split at hs
      · rename_i t hd
        split at hs
        · rename_i ht
          split at hs
          · rename_i d ha
            injection hs with hs
            rw [aopF_congr o.op hev] at ha
            have ha := aopF_mono (hF.less hc hi ho hl hr) o.op ha
            refine out_wp (aopF_sound hrel hcall hG (fun h => by cases h) ha) (fun v w' hgd => ?_)
            rw [hd]
            obtain ⟨n1, n2⟩ := next t hd
            have e1 : getT (F (i + 1)).t t = d := by rw [← hs]; simp [St.put, getT_set]
            have e2 : upd (etaS ops F m listed) t (getH (F (i + 1)).h t) = etaS ops F m listed := by
              funext q
              by_cases hq : q = t
              · subst hq
                rw [upd_same, ← hs, eta0 q (by simp [wrs, hd])]
                rfl
              · rw [upd_ne _ _ hq]
            rw [n1, n2, e1, e2] at hk
            exact hk _ _ ⟨ι, (hrel.ext hgd.1).put ht hgd.2⟩
          · rename_i d ob ha
            split at hs
            · rename_i hη
              injection hs with hs
              rw [aopF_congr o.op hev] at ha
              have ha := aopF_mono (hF.less hc hi ho hl hr) o.op ha
              have hη' : etaS ops F m listed t = none := by rw [eta0 t (by simp [wrs, hd])]; exact hη
              refine out_wp (aopF_sound hrel hcall hG (fun _ => hη') ha) (fun v w' hgd => ?_)
              rw [hd]
              obtain ⟨n1, n2⟩ := next t hd
              have e1 : getT (F (i + 1)).t t = d := by rw [← hs]; simp [St.putO, getT_set]
              have e2 : getH (F (i + 1)).h t = some ob := by rw [← hs]; simp [St.putO, getH_set]
              rw [n1, n2, e1, e2] at hk
              obtain ⟨vr, hx, hf, hob, hrep⟩ := hgd
              exact hk _ _ ⟨_, hrel.new ht hη' hx hf hob hrep⟩
            · cases hs
          · cases hs
        · cases hs
      · rename_i hd
        split at hs
        · rename_i d ha
          rw [aopF_congr o.op hev] at ha
          have ha := aopF_mono (hF.less hc hi ho hl hr) o.op ha
          refine out_wp (aopF_sound hrel hcall hG (fun h => by cases h) ha) (fun v w' hgd => ?_)
          rw [hd, put_none]
          obtain ⟨n1, n2⟩ := same hd htgt
          rw [n1, n2] at hk
          exact hk _ _ ⟨ι, hrel.ext hgd.1⟩
        · cases hs
  · rename_i hg
    rw [hguard] at hg
    rw [if_neg (by rw [guard_sound hrel hg]; simp)]
    split at hs
    · rename_i t hd
      split at hs
      · rename_i ht
        injection hs with hs
        rw [hd]
        obtain ⟨n1, n2⟩ := next t hd
        have e1 : getT (F (i + 1)).t t = .x undef := by rw [← hs]; simp [St.put, getT_set]
        have e2 : upd (etaS ops F m listed) t (getH (F (i + 1)).h t) = etaS ops F m listed := by
          funext q
          by_cases hq : q = t
          · subst hq
            rw [upd_same, ← hs, eta0 q (by simp [wrs, hd])]
            rfl
          · rw [upd_ne _ _ hq]
        rw [n1, n2, e1, e2] at hk
        exact hk _ _ ⟨ι, hrel.put ht (.inl (.inl (.x _)))⟩
      · cases hs
    · rename_i hd
      rw [hd, put_none]
      cases htgt : storeTgt o with
      | none =>
        obtain ⟨n1, n2⟩ := same hd htgt
        rw [n1, n2] at hk
        exact hk _ _ ⟨ι, hrel⟩
      | some t =>
        injection hs with hs
        refine hk _ _ ⟨ι, ?_⟩
        rw [rhoSame hd]
        have e2 : etaS ops F m (listed.setIfInBounds i true) = etaS ops F m listed := by
          funext q
          by_cases hq : wrs o q = true
          · rw [hF.eta_next hc hi ho hl hr hil hq, eta0 q hq, hs]
          · exact eta_same ho (by simpa using hq)
        rw [e2]
        exact hrel
  · cases hs

/-- How far a run through the region has come. -/
def InvA (B N : Nat) (w0 : Bs) (ops : Array Oper) (F : Nat → St) (m : Nat) (listed : Array Bool) (a : Act) (w : World) : Prop :=
  (∃ ι, Rel N B w0 ι (rhoS ops F m listed) (etaS ops F m listed) a w) ∧ ∀ i, m ≤ i → listed.getD i false = false
def InvB (B N : Nat) (w0 : Bs) (n : Nat) (F : Nat → St) (m : Nat) (listed : Array Bool) (a : Act) (w : World) : Prop :=
  ∃ k, m ≤ k ∧ k ≤ n ∧ (∀ i, i < n → (listed.getD i false = true ↔ i < k)) ∧ SRel N B w0 (F k) a w

theorem draw_any (hF : Free P call N ops F m) (hcall : CTok P call) (hG : w0.G = call.g)
    (htail : ∀ i, m ≤ i → i < ops.size → ∃ o, ops[i]? = some o ∧ stepG P call an N ops (F i) o = some (F (i + 1)) ∧ ∀ listed : Array Bool, Closed ops listed → (∀ j ∈ aft o, listed.getD j false = true) → ∀ j, j < i → listed.getD j false = true)
    {Q : Exit → Act → World → Prop} (hk : ∀ a' w', SRel N B w0 (F ops.size) a' w' → Q .normal a' w') :
    ∀ (fuel : Nat) (listed : Array Bool) (a : Act) (w : World), listed.size = ops.size → Closed ops listed → (List.range ops.size).countP (fun i => !listed.getD i false) ≤ fuel →
      (InvA B N w0 ops F m listed a w ∨ InvB B N w0 ops.size F m listed a w) → wpAny P .any ops Q fuel listed a w := by
  -- where nothing is ready, all is listed
  have done : ∀ (listed : Array Bool), listed.size = ops.size → Region.ready .any ops listed = [] → ∀ i, i < ops.size → listed.getD i false = true := by
    intro listed hsz hr i
    induction i using Nat.strongRecOn with
    | _ i ih =>
      intro hi
      cases hli : listed.getD i false with
      | true => rfl
      | false =>
        exfalso
        have hmem : i ∈ Region.ready .any ops listed := by
          rw [mem_ready]
          have ho : ops[i]? = some ops[i] := Array.getElem?_eq_getElem hi
          refine ⟨?_, _, ho, fun e he hb => ?_⟩
          · have hil : i < listed.size := by omega
            simp [hil] at hli ⊢
            exact hli
          · have hj : e.on ∈ aft ops[i] := mem_aft.2 ⟨e, he, hb, rfl⟩
            have hlt := hF.back i _ ho _ hj
            exact ih _ hlt (by omega)
        rw [hr] at hmem
        cases hmem
  have final : ∀ (listed : Array Bool) (a : Act) (w : World), (∀ i, i < ops.size → listed.getD i false = true) → (InvA B N w0 ops F m listed a w ∨ InvB B N w0 ops.size F m listed a w) → Q .normal a w := by
    rintro listed a w hall (⟨⟨ι, hrel⟩, hno⟩ | ⟨k, hk1, hk2, hk3, hrel⟩)
    · have hm : m = ops.size := by
        rcases Nat.lt_or_ge m ops.size with h | h
        · have := hno m (Nat.le_refl m)
          rw [hall m h] at this
          cases this
        · exact Nat.le_antisymm hF.le h
      obtain ⟨e1, e2⟩ := hF.all (listed := listed) (fun i hi => hall i (by have := hF.le; omega))
      rw [e1, e2] at hrel
      rw [hm] at hrel
      exact hk _ _ ⟨ι, hrel⟩
    · have : k = ops.size := by
        rcases Nat.lt_or_ge k ops.size with h | h
        · have := (hk3 k h).1 (hall k h)
          omega
        · omega
      rw [this] at hrel
      exact hk _ _ hrel
  intro fuel
  induction fuel with
  | zero =>
    intro listed a w hsz hc hcount hinv
    have hall : ∀ i, i < ops.size → listed.getD i false = true := by
      intro i hi
      have h0 : (List.range ops.size).countP (fun i => !listed.getD i false) = 0 := by omega
      rw [List.countP_eq_zero] at h0
      have := h0 i (by simpa using hi)
      simpa using this
    refine ⟨?_, final listed a w hall hinv⟩
    rw [List.eq_nil_iff_forall_not_mem]
    intro i hi
    rw [mem_ready] at hi
    obtain ⟨h1, o, ho, _⟩ := hi
    have hlt := (Array.getElem?_eq_some_iff.1 ho).1
    have h2 := hall i hlt
    have hil : i < listed.size := by omega
    simp [hil] at h1 h2
    rw [h1] at h2
    cases h2
  | succ fuel ih =>
    intro listed a w hsz hc hcount hinv
    refine ⟨fun hr => final listed a w (done listed hsz hr) hinv, fun i hi => ?_⟩
    rw [mem_ready] at hi
    obtain ⟨h1, o, ho, hall⟩ := hi
    have hlt := (Array.getElem?_eq_some_iff.1 ho).1
    have hil : i < listed.size := by omega
    have hli : listed.getD i false = false := by
      simp [hil] at h1 ⊢
      exact h1
    have haft : ∀ j ∈ aft o, listed.getD j false = true := by
      intro j hj
      obtain ⟨e, he, hb, rfl⟩ := mem_aft.1 hj
      exact hall e he hb
    have hc' : Closed ops (listed.setIfInBounds i true) := by
      intro k ok hok hlk j hj
      by_cases hik : i = k
      · subst hik
        rw [ho] at hok
        cases hok
        exact getD_set_true (haft j hj)
      · rw [getD_set_ne false hik] at hlk
        exact getD_set_true (hc k ok hok hlk j hj)
    have hcount' : (List.range ops.size).countP (fun k => !(listed.setIfInBounds i true).getD k false) ≤ fuel := by
      have := countP_lt (fun k => !listed.getD k false) (fun k => !(listed.setIfInBounds i true).getD k false) (List.range ops.size)
        (fun k _ hq => by
          cases hlk : listed.getD k false with
          | false => simp
          | true =>
            simp only [getD_set_true hlk] at hq
            cases hq)
        ⟨i, by simpa using hlt, by simp only [hli]; rfl, by simp [hil]⟩
      omega
    have hsz' : (listed.setIfInBounds i true).size = ops.size := by simpa using hsz
    -- the tail's own step
    have tail : ∀ k, m ≤ k → (∀ i, i < ops.size → (listed.getD i false = true ↔ i < k)) → SRel N B w0 (F k) a w → wpOp P ops Q i (wpAny P .any ops Q fuel (listed.setIfInBounds i true)) a w := by
      intro k hmk hk3 hrel
      have hik : k ≤ i := by
        rcases Nat.lt_or_ge i k with h | h
        · have := (hk3 i hlt).2 h
          rw [hli] at this
          cases this
        · exact h
      obtain ⟨o', ho', hs, hb⟩ := htail i (by omega) hlt
      rw [ho] at ho'
      cases ho'
      have hki : i ≤ k := by
        rcases Nat.lt_or_ge k i with h | h
        · have := (hk3 k (by omega)).1 (hb listed hc haft k h)
          omega
        · exact h
      have hik : i = k := by omega
      subst hik
      refine stepG_sound hcall hG ho hrel hs (fun a' w' h' => ih _ a' w' hsz' hc' hcount' (.inr ⟨i + 1, by omega, by omega, fun q hq => ?_, h'⟩))
      by_cases hqi : i = q
      · subst hqi
        simp [hil]
      · rw [getD_set_ne false hqi, hk3 q hq]
        omega
    rcases hinv with ⟨hrel, hno⟩ | ⟨k, hk1, hk2, hk3, hrel⟩
    · by_cases him : i < m
      · refine hF.stepAny hcall hG hsz hc him ho hli haft hrel (fun a' w' h' => ih _ a' w' hsz' hc' hcount' (.inl ⟨h', fun q hq => ?_⟩))
        rw [getD_set_ne false (by omega)]
        exact hno q hq
      · obtain ⟨o', ho', hs, hb⟩ := htail i (by omega) hlt
        rw [ho] at ho'
        cases ho'
        have hpre : ∀ j, j < m → listed.getD j false = true := fun j hj => hb listed hc haft j (by omega)
        obtain ⟨ι, hrel⟩ := hrel
        obtain ⟨e1, e2⟩ := hF.all hpre
        rw [e1, e2] at hrel
        refine tail m (Nat.le_refl m) (fun q hq => ⟨fun h => ?_, fun h => hpre q h⟩) ⟨ι, hrel⟩
        rcases Nat.lt_or_ge q m with h' | h'
        · exact h'
        · rw [hno q h'] at h
          cases h
    · exact tail k hk1 hk3 hrel

/-- What goes before an operation, through others too, is listed where the listed ones are closed. -/
def Up (listed : Array Bool) (mask : Nat) : Prop := ∀ j, mask.testBit j = true → listed.getD j false = true
theorem up_fold {listed : Array Bool} {acc : List Nat} (hacc : ∀ k, listed.getD k false = true → Up listed (acc.getD k 0)) : ∀ (l : List Nat) (s : Nat), (∀ j ∈ l, listed.getD j false = true) → Up listed s → Up listed (l.foldl (fun s j => s ||| 2 ^ j ||| acc.getD j 0) s)
  | [], _, _, hs => hs
  | j :: l, s, hl, hs => by
    rw [List.foldl_cons]
    refine up_fold hacc l _ (fun k hk => hl k (by simp [hk])) (fun k hk => ?_)
    rw [Nat.testBit_or, Nat.testBit_or, Bool.or_eq_true, Bool.or_eq_true] at hk
    rcases hk with (hk | hk) | hk
    · exact hs k hk
    · rw [Nat.testBit_two_pow] at hk
      have : j = k := by simpa using hk
      rw [← this]
      exact hl j (by simp)
    · exact hacc j (hl j (by simp)) k hk
theorem up_masks {listed : Array Bool} (hc : Closed ops listed) : ∀ (l : List Oper) (acc : List Nat), (∀ j, l[j]? = ops[acc.length + j]?) →
    (∀ k, listed.getD k false = true → Up listed (acc.getD k 0)) → (∀ k o, k < acc.length → ops[k]? = some o → (∀ j ∈ aft o, listed.getD j false = true) → Up listed (acc.getD k 0)) →
    ∀ k o, ops[k]? = some o → (∀ j ∈ aft o, listed.getD j false = true) → Up listed ((masks l acc).getD k 0)
  | [], acc, hl, h1, h2, k, o, ho, hr => by
    rcases Nat.lt_or_ge k acc.length with h | h
    · exact h2 k o h ho hr
    · intro j hj
      rw [masks, List.getD_eq_getElem?_getD, List.getElem?_eq_none h] at hj
      simp at hj
  | x :: l, acc, hl, h1, h2, k, o, ho, hr => by
    have hx : ops[acc.length]? = some x := by have := hl 0; simpa using this.symm
    have new : (∀ j ∈ aft x, listed.getD j false = true) → Up listed ((aft x).foldl (fun s j => s ||| 2 ^ j ||| acc.getD j 0) 0) := fun h => up_fold h1 _ 0 h (fun j hj => by simp at hj)
    have at_ : ∀ k, (acc ++ [(aft x).foldl (fun s j => s ||| 2 ^ j ||| acc.getD j 0) 0]).getD k 0 = if k = acc.length then (aft x).foldl (fun s j => s ||| 2 ^ j ||| acc.getD j 0) 0 else acc.getD k 0 := by
      intro k
      rcases Nat.lt_trichotomy k acc.length with h | h | h
      · rw [if_neg (by omega), List.getD_eq_getElem?_getD, List.getElem?_append_left h, ← List.getD_eq_getElem?_getD]
      · subst h
        rw [if_pos rfl, List.getD_eq_getElem?_getD, List.getElem?_append_right (Nat.le_refl _)]
        simp
      · rw [if_neg (by omega), List.getD_eq_getElem?_getD, List.getElem?_eq_none (by simp; omega), List.getD_eq_getElem?_getD, List.getElem?_eq_none (by omega)]
    refine up_masks hc l _ (fun j => ?_) (fun k hk => ?_) (fun k o hk ho hr => ?_) k o ho hr
    · have := hl (j + 1)
      rw [List.length_append, List.length_singleton, Nat.add_assoc, Nat.add_comm 1 j]
      simpa using this
    · rw [at_]
      split
      · rename_i e
        subst e
        exact new (fun j hj => hc _ x hx hk j hj)
      · exact h1 k hk
    · rw [at_]
      split
      · rename_i e
        subst e
        rw [hx] at ho
        cases ho
        exact new hr
      · rename_i e
        rw [List.length_append, List.length_singleton] at hk
        exact h2 k o (by omega) ho hr

theorem draw_sound (hmix : P.follows .mixedOrders = true) {m : Nat} (hok : okDraw ops m = true) (hcall : CTok P call) (hG : w0.G = call.g) {id : Nat} {Q : Exit → Act → World → Prop} {s s' : St} {a : Act} {w : World} (h : SRel N B w0 s a w)
    (hs : runDraw P call an N ops m 0 ops.toList s = some s') (hk : ∀ a' w', SRel N B w0 s' a' w' → Q .normal a' w') : (Code.region id ops true).wp P Q a w := by
  obtain ⟨F, hF0, hFn, hst⟩ := draw_states ops.toList 0 s hs (fun j => by simp)
  simp only [Nat.zero_add, Array.length_toList] at hFn hst
  simp only [okDraw, Bool.and_eq_true, decide_eq_true_eq] at hok
  obtain ⟨hm, hok⟩ := hok
  have hcheck : ∀ (i : Nat) (o : Oper), ops[i]? = some o → ((∀ j ∈ aft o, j < i) ∧ (i < m → ∀ j oj, j < m → i ≠ j → ops[j]? = some oj → okPair ops i j o oj = true) ∧ (m ≤ i → ∀ j, j < i → ((masks ops.toList []).getD i 0).testBit j = true)) := by
    intro i o ho
    have hlt := (Array.getElem?_eq_some_iff.1 ho).1
    have := List.all_eq_true.1 hok i (by simpa using hlt)
    simp only [ho, Bool.and_eq_true] at this
    obtain ⟨h1, h2⟩ := this
    refine ⟨fun j hj => by simpa using List.all_eq_true.1 h1 j hj, fun him j oj hj hij hoj => ?_, fun him j hj => ?_⟩
    · rw [if_pos him] at h2
      have := List.all_eq_true.1 h2 j (by simpa using hj)
      simp only [hoj, Bool.or_eq_true, beq_iff_eq] at this
      rcases this with h | h
      · exact absurd h.symm hij
      · exact h
    · rw [if_neg (by omega)] at h2
      exact List.all_eq_true.1 h2 j (by simpa using hj)
  have hFree : Free P call N ops F m := {
    le := hm
    step := fun i hi => by
      obtain ⟨o, ho, h1, _⟩ := hst i (Nat.zero_le _) (by omega)
      exact ⟨o, ho, h1 hi⟩
    apart := fun i j o oj hi hj hij ho hoj => (hcheck i o ho).2.1 hi j oj hj hij hoj
    back := fun i o ho => (hcheck i o ho).1 }
  apply wp_region_any hmix
  have nothing : ∀ i, (Array.replicate ops.size false).getD i false = false := by
    intro i
    by_cases hi : i < ops.size <;> simp [hi]
  refine draw_any (an := an) hFree hcall hG (fun i hi1 hi2 => ?_) (fun a' w' h' => hk a' w' (by rw [← hFn]; exact h')) ops.size _ a _ (by simp) ?_ ?_ (.inl ⟨?_, fun i _ => nothing i⟩)
  · obtain ⟨o, ho, _, h2⟩ := hst i (Nat.zero_le _) hi2
    exact ⟨o, ho, h2 hi1, fun listed hc hr j hj => up_masks hc ops.toList [] (fun j => by simp) (fun k _ j hj => by simp at hj) (fun k o hk => by simp at hk) i o ho hr j ((hcheck i o ho).2.2 hi1 j hj)⟩
  · intro i o ho hl
    rw [nothing] at hl
    cases hl
  · exact Nat.le_trans List.countP_le_length (by simp)
  · obtain ⟨ι, hrel⟩ := h
    obtain ⟨e1, e2⟩ := rhoS_none (ops := ops) (F := F) (m := m) (listed := Array.replicate ops.size false) nothing
    rw [e1, e2, hF0]
    refine ⟨ι, hrel.ext ?_⟩
    exact ⟨rfl, rfl, rfl, Nat.le_refl _, fun _ _ => rfl⟩

end
end Go.Abs
