/-
  A kiln's tick in plain words: what stays true of a kiln, whatever faults occur.
-/
import Derived.Test.YthgamgdcjgbmnaaDoorKlM
namespace Go.Proofs.YthgamgdcjgbmnaaDoor
set_option linter.unusedSimpArgs false
set_option linter.unusedVariables false
open Go Go.Abs
set_option maxHeartbeats 2000000
set_option maxRecDepth 100000
theorem rangeW_iff (w : Spc) : rangeW w = true ↔ 3000 ≤ w.green ∧ w.green ≤ 20000 ∧ 1 ≤ w.fast ∧ w.fast ≤ 10000 ∧ 1 ≤ w.slow ∧ w.slow ≤ w.fast ∧ 0 ≤ w.safe ∧ w.safe ≤ w.grad ∧ 1 ≤ w.grad ∧ w.grad ≤ 20000 ∧ 1 ≤ w.crack ∧ w.crack ≤ 1000000 ∧
  200 ≤ w.temp ∧ w.temp ≤ 1200 ∧ 100 ≤ w.dep ∧ w.dep ≤ 400 ∧ 200 ≤ w.dens ∧ w.dens ≤ 1500 ∧ 1000 ≤ w.stiff ∧ w.stiff ≤ 30000 ∧ 0 ≤ w.loss ∧ w.loss ≤ 1000 ∧ 0 ≤ w.shrink ∧ w.shrink ≤ 200 := by
  unfold rangeW
  exact decide_eq_true_iff
theorem soundAll_iff : ∀ l : List Stg, soundAll l = true ↔ ∀ g ∈ l, soundG g = true
  | [] => by simp [soundAll]
  | x :: r => by
    have ih := soundAll_iff r
    simp only [soundAll, List.mem_cons, forall_eq_or_imp]
    split
    · rename_i h; simp [h, ih]
    · rename_i h; simp [h]
theorem checkT_iff : ∀ l : List Itm, checkT l = 0 → ∀ x ∈ l, (1 ≤ x.th ∧ x.th ≤ 600) ∧ checkM x.cel = 0
  | [], _ => by simp
  | x :: r, h => by
    unfold checkT at h
    split at h
    · simp at h
    · split at h
      · simp at h
      · split at h
        · rename_i h1 h2 h3
          intro y hy
          rcases List.mem_cons.1 hy with rfl | hy
          · exact ⟨by omega, h3⟩
          · exact checkT_iff r h y hy
        · rename_i h3; exact absurd h h3
/-- What stays true of a kiln. -/
structure InvK (k : Kl) : Prop where
  stage : k.stage ≤ k.stages.length
  stages : k.stages.length ≤ 12
  sound : ∀ g ∈ k.stages, soundG g = true
  wood : rangeW k.w = true
  some : 0 < k.items.length
  many : k.items.length ≤ 1024
  cells : ∀ x ∈ k.items, checkM x.cel = 0
  temp : 0 ≤ k.t ∧ k.t ≤ k.w.temp
  dep : 0 ≤ k.d ∧ k.d ≤ k.w.dep
theorem inv_new {nm : ByteArray} {ramp : Int} {g : List Stg} {w : Spc} {l : List Itm} (h : checkK nm ramp g w l = 0) : InvK (newK nm ramp g w l) := by
  unfold checkK at h
  split at h
  · rename_i h1
    split at h
    · rename_i h2
      split at h
      · simp at h
      · split at h
        · simp at h
        · rename_i h3 h4
          have hg : g.length ≤ 12 ∧ soundAll g = true := by
            unfold checkSg at h1
            repeat' split at h1
            all_goals first | omega | (refine ⟨by omega, ?_⟩; assumption) | simp at h1
          have hw : rangeW w = true := by
            unfold checkW at h2
            repeat' split at h2
            all_goals first | assumption | simp at h2
          have hr := (rangeW_iff w).1 hw
          have hs := (soundAll_iff g).1 hg.2
          exact ⟨Nat.zero_le _, hg.1, hs, hw, by simp only [newK]; omega, by simp only [newK]; omega, fun x hx => (checkT_iff l h x hx).2, by simp only [newK]; omega, by simp only [newK]; omega⟩
    · rename_i h2; exact absurd h h2
  · rename_i h1; exact absurd h h1
theorem tick_ok {x : Cel} (h : checkM x = 0) (w : Spc) (th t d : Int) (fan : Bool) : checkM (tick x w th t d fan) = 0 := by
  cases hc : comp x w th t d
  · rw [tick_not hc]; exact h
  · exact (ticked (comp_iff.1 hc) fan).ok
theorem dryL_mem {w : Spc} {t d : Int} {fan : Bool} : ∀ {l : List Itm}, (∀ x ∈ l, checkM x.cel = 0) → ∀ x ∈ dryL w t d fan l, checkM x.cel = 0
  | [], _, x, hx => by simp [dryL] at hx
  | y :: r, h, x, hx => by
    simp only [dryL, List.mem_cons] at hx
    rcases hx with rfl | hx
    · exact tick_ok (h y (by simp)) w y.th t d fan
    · exact dryL_mem (fun z hz => h z (by simp [hz])) x hx
theorem step_in {a b k hi : Int} (hk : 0 ≤ k) (ha : 0 ≤ a ∧ a ≤ hi) (hb : 0 ≤ b ∧ b ≤ hi) : 0 ≤ step a b k ∧ step a b k ≤ hi := by
  unfold step clampN
  repeat' split
  all_goals omega
theorem clampN_in {n lo hi : Int} (h1 : lo ≤ n) (h2 : n ≤ hi) : clampN n lo hi = n := by
  unfold clampN
  repeat' split
  all_goals omega
theorem inv_tickC {k : Kl} (h : InvK k) (hs : k.stage < k.stages.length) (t d : Int) (st : Bool) (ht : 0 ≤ t ∧ t ≤ k.w.temp) (hd : 0 ≤ d ∧ d ≤ k.w.dep) : InvK (tickC k t d st) := by
  have hi : (itsK k t d st).length = k.items.length := by simp [itsK]
  refine ⟨?_, h.stages, h.sound, h.wood, ?_, ?_, ?_, ht, hd⟩
  · unfold tickC
    dsimp only
    split
    · exact hs
    · exact Nat.le_of_lt hs
  · show 0 < (itsK k t d st).length
    rw [hi]; exact h.some
  · show (itsK k t d st).length ≤ 1024
    rw [hi]; exact h.many
  · exact dryL_mem h.cells
theorem climate_in {k : Kl} (h : InvK k) (hs : k.stage < k.stages.length) (f : List Int) : (0 ≤ nextT k.t (tgtT k) k.ramp f ∧ nextT k.t (tgtT k) k.ramp f ≤ k.w.temp) ∧ (0 ≤ nextD k.d (tgtD k) k.ramp f ∧ nextD k.d (tgtD k) k.ramp f ≤ k.w.dep) := by
  have hr := (rangeW_iff k.w).1 h.wood
  have hg := (soundG_iff (stgK k)).1 (h.sound _ (by rw [stgK_eq hs]; exact List.getElem_mem hs))
  have h1 := h.temp
  have h2 := h.dep
  have b3 := clampN_bnd k.ramp 1200 (by omega)
  have t1 : 0 ≤ tgtT k ∧ tgtT k ≤ k.w.temp := by unfold tgtT; split <;> omega
  have t2 : 0 ≤ tgtD k ∧ tgtD k ≤ k.w.dep := by unfold tgtD; split <;> omega
  unfold nextT nextD
  rw [clampN_in h1.1 (by omega), clampN_in t1.1 (by omega), clampN_in h2.1 (by omega), clampN_in t2.1 (by omega)]
  refine ⟨step_in b3.1 h1 ?_, step_in b3.1 h2 ?_⟩
  · unfold goalT; split <;> omega
  · unfold goalD; split <;> omega
theorem inv_tick {k : Kl} (h : InvK k) (hs : k.stage < k.stages.length) (f : List Int) : InvK (tickK k f) :=
  inv_tickC h hs _ _ _ (climate_in h hs f).1 (climate_in h hs f).2
theorem inv_step {k : Kl} (h : InvK k) (f : List Int) : InvK (stepK k f) := by
  unfold stepK
  split
  · exact h
  · rename_i hne
    exact inv_tick h (by have := h.stage; omega) f
/-- Boards against those at first: their thickness, their cells, their gradients. -/
def BndL (m : Int) : List Itm → List Itm → Prop
  | [], [] => True
  | x :: r, y :: q => x.th = y.th ∧ grad x.cel ≤ (if m < grad y.cel then grad y.cel else m) ∧ checkM x.cel = 0 ∧ BndL m r q
  | _, _ => False
theorem BndL.refl {m : Int} : ∀ {l : List Itm}, (∀ x ∈ l, checkM x.cel = 0) → BndL m l l
  | [], _ => trivial
  | x :: r, h => ⟨rfl, by split <;> omega, h x (by simp), BndL.refl (fun y hy => h y (by simp [hy]))⟩
theorem BndL.len {m : Int} : ∀ {l q : List Itm}, BndL m l q → l.length = q.length
  | [], [], _ => rfl
  | x :: r, y :: q, h => by simp [h.2.2.2.len]
theorem grad_still {x : Cel} (h : checkM x = 0) (w : Spc) (th t d : Int) : grad (tick x w th t d false) ≤ (if 0 < grad x then grad x else 0) := by
  cases hc : comp x w th t d
  · rw [tick_not hc]; split <;> omega
  · have hk := ticked (comp_iff.1 hc) false
    have hs : (tick x w th t d false).s = x.s := by
      rw [tick, if_pos hc]
      rfl
    have hb := btw_iff.1 hk.c
    rw [grad, if_pos hk.ok, grad, if_pos h]
    rw [hs] at hb ⊢
    split <;> omega
theorem dry_still {m : Int} (hm : 0 ≤ m) (w : Spc) (t d : Int) : ∀ {l q : List Itm}, BndL m l q → BndL m (dryL w t d false l) q
  | [], [], _ => trivial
  | x :: r, y :: q, ⟨h1, h2, h3, h4⟩ => by
    have := grad_still h3 w x.th t d
    refine ⟨h1, ?_, tick_ok h3 _ _ _ _ _, dry_still hm w t d h4⟩
    show grad (tick x.cel w x.th t d false) ≤ _
    split at h2 <;> split at this <;> split <;> omega
theorem dry_flat {m : Int} (w : Spc) (t d : Int) : ∀ {l q : List Itm}, BndL m l q → steepL m (dryL w t d true l) l = false → BndL m (dryL w t d true l) q
  | [], [], _, _ => trivial
  | x :: r, y :: q, ⟨h1, h2, h3, h4⟩, hs => by
    simp only [dryL, steepL] at hs
    split at hs
    · simp at hs
    · rename_i hn
      refine ⟨h1, ?_, tick_ok h3 _ _ _ _ _, dry_flat w t d h4 hs⟩
      show grad (tick x.cel w x.th t d true) ≤ _
      split at h2 <;> split <;> omega
theorem bnd_tick {k : Kl} (h : InvK k) {q : List Itm} (hb : BndL k.w.grad k.items q) (f : List Int) : BndL k.w.grad (tickK k f).items q := by
  have hr := (rangeW_iff k.w).1 h.wood
  show BndL k.w.grad (itsK k _ _ (inL 2 f)) q
  unfold itsK
  cases hst : inL 2 f
  · cases hs : steepL k.w.grad (dryL k.w (nextT k.t (tgtT k) k.ramp f) (nextD k.d (tgtD k) k.ramp f) true k.items) k.items
    · exact dry_flat _ _ _ hb hs
    · exact dry_still (by omega) _ _ _ hb
  · exact dry_still (by omega) _ _ _ hb
theorem bnd_step {k : Kl} (h : InvK k) {q : List Itm} (hb : BndL k.w.grad k.items q) (f : List Int) : BndL (stepK k f).w.grad (stepK k f).items q := by
  unfold stepK
  split
  · exact hb
  · exact bnd_tick h hb f
theorem BndL.at {m : Int} : ∀ {l q : List Itm} (i : Nat) (x y : Itm), BndL m l q → l[i]? = some x → q[i]? = some y → x.th = y.th ∧ grad x.cel ≤ (if m < grad y.cel then grad y.cel else m) ∧ checkM x.cel = 0
  | [], [], i, x, y, _, h1, _ => by simp at h1
  | x' :: r, y' :: q, 0, x, y, h, h1, h2 => by
    simp at h1 h2
    subst h1 h2
    exact ⟨h.1, h.2.1, h.2.2.1⟩
  | x' :: r, y' :: q, i + 1, x, y, h, h1, h2 => BndL.at i x y h.2.2.2 (by simpa using h1) (by simpa using h2)
@[simp] theorem stepK_w (k : Kl) (f : List Int) : (stepK k f).w = k.w := by unfold stepK; split <;> rfl
@[simp] theorem stepK_stages (k : Kl) (f : List Int) : (stepK k f).stages = k.stages := by unfold stepK; split <;> rfl
@[simp] theorem tickK_stages (k : Kl) (f : List Int) : (tickK k f).stages = k.stages := rfl
@[simp] theorem tickK_w (k : Kl) (f : List Int) : (tickK k f).w = k.w := rfl
end Go.Proofs.YthgamgdcjgbmnaaDoor
