/-
  Plain: what the value of an expression depends on.
-/
import Derived.Test.YtkdmoefacgbgkaaRlG
namespace Go.Proofs.Ytkdmoefacgbgkaa
set_option linter.unusedSimpArgs false
set_option linter.unusedVariables false
open Go Go.Abs
set_option maxHeartbeats 1000000
/-- At most so many levels. -/
def dep : Nat → Ex → Prop
  | 0, _ => False
  | k + 1, e => ∀ a ∈ e.args, dep k a
theorem cntL_mem {c : Ex → Int → Int} {lm : Int} (hc : ∀ a m, 0 ≤ m → m ≤ lm → 1 ≤ c a m ∧ c a m ≤ m + 1) : ∀ (l : List Ex) (n : Int), 1 ≤ n → n ≤ lm + 1 → cntL c lm l n ≤ lm → ∀ a ∈ l, ∃ m, 0 ≤ m ∧ m ≤ lm ∧ c a m ≤ m
  | [], _, _, _, _, a, h => by simp at h
  | x :: r, n, h1, h2, h, a, ha => by
    unfold cntL at h
    split at h
    · rename_i hn
      have hb := hc x (lm - n) (by omega) (by omega)
      rcases List.mem_cons.1 ha with rfl | ha
      · refine ⟨lm - n, by omega, by omega, ?_⟩
        have hm : ∀ (l : List Ex) (n : Int), 1 ≤ n → n ≤ lm + 1 → n ≤ cntL c lm l n := by
          intro l
          induction l with
          | nil => intro n _ _; exact Int.le_refl _
          | cons a r ih =>
            intro n g1 g2
            unfold cntL
            split
            · have := hc a (lm - n) (by omega) (by omega)
              have := ih (n + c a (lm - n)) (by omega) (by omega)
              omega
            · exact Int.le_refl _
        have := hm r (n + c a (lm - n)) (by omega) (by omega)
        omega
      · exact cntL_mem hc r _ (by omega) (by omega) h a ha
    · omega
theorem cnt_dep : ∀ (k : Nat) (e : Ex) (lm : Int), 0 ≤ lm → cnt k e lm ≤ lm → dep k e
  | 0, e, lm, h, h' => by unfold cnt at h'; omega
  | k + 1, e, lm, h, h' => by
    intro a ha
    unfold cnt at h'
    split at h'
    · omega
    · split at h'
      · omega
      · obtain ⟨m, m1, m2, m3⟩ := cntL_mem (fun a m h0 h1 => cnt_bound k a m h0) e.args 1 (by omega) (by omega) h' a ha
        exact cnt_dep k a m m1 m3
theorem firstE_congr {v w : Ex → Int} : ∀ {l : List Ex}, (∀ a ∈ l, v a = w a) → firstE v l = firstE w l
  | [], _ => rfl
  | x :: r, h => by
    unfold firstE
    rw [h x (by simp), firstE_congr (fun a ha => h a (by simp [ha]))]
theorem vis_dep (ns : List ByteArray) : ∀ (k : Nat) (e : Ex), dep k e → vis ns (k + 1) e = vis ns k e
  | 0, _, h => h.elim
  | k + 1, e, h => by
    have := firstE_congr (v := vis ns (k + 1)) (w := vis ns k) (l := e.args) (fun a ha => vis_dep ns k a (h a ha))
    show (if firstE (vis ns (k + 1)) e.args = 0 then node ns e else firstE (vis ns (k + 1)) e.args) = (if firstE (vis ns k) e.args = 0 then node ns e else firstE (vis ns k) e.args)
    rw [this]
theorem dep_succ : ∀ (k : Nat) (e : Ex), dep k e → dep (k + 1) e
  | 0, _, h => h.elim
  | k + 1, e, h => fun a ha => dep_succ k a (h a ha)
theorem val_dep (l : List (ByteArray × Int)) : ∀ (k : Nat) (e : Ex), dep k e → val l (k + 1) e = val l k e
  | 0, _, h => h.elim
  | k + 1, e, h => by
    have ih : ∀ a ∈ e.args, val l (k + 1) a = val l k a := fun a ha => val_dep l k a (h a ha)
    rw [val, val]
    match hargs : e.args with
    | [] => rfl
    | [a] =>
      rw [hargs] at ih
      simp only [ih a (by simp)]
    | a :: b :: r =>
      rw [hargs] at ih
      simp only [ih a (by simp), ih b (by simp)]
theorem lim_err (n : Int) : (lim n).2 = 0 ∨ (lim n).2 = 9 := by unfold lim; split <;> simp
theorem comb_err (op a b : Int) : (comb op a b).2 = 0 ∨ (comb op a b).2 = 9 := by
  unfold comb
  (repeat' split) <;> first | exact lim_err _ | exact .inl rfl
theorem val_err (l : List (ByteArray × Int)) : ∀ (k : Nat) (e : Ex), (val l k e).2 = 0 ∨ (val l k e).2 = 9
  | 0, _ => .inl rfl
  | k + 1, e => by
    unfold val
    split
    · exact lim_err _
    · split
      · exact lim_err _
      · split
        · exact .inl rfl
        · rename_i a r _
          split
          · exact val_err l k a
          · split
            · exact .inl rfl
            · split
              · exact .inl rfl
              · rename_i b _ _
                split
                · exact .inl rfl
                · split
                  · exact val_err l k b
                  · split
                    · exact .inl rfl
                    · exact comb_err _ _ _
theorem getF_has (x : ByteArray) : ∀ l : List (ByteArray × Int), hasS (nms l) x = (getF x l).isSome
  | [] => rfl
  | f :: r => by
    unfold nms hasS getF
    split
    · rfl
    · exact getF_has x r
theorem plainL_mem {c : Ex → Bool} : ∀ {l : List Ex}, plainL c l = true → ∀ a ∈ l, c a = true
  | [], _, a, h => by simp at h
  | x :: r, hl, a, h => by
    unfold plainL at hl
    split at hl
    · rename_i hx
      rcases List.mem_cons.1 h with rfl | h
      · exact hx
      · exact plainL_mem hl a h
    · cases hl
/-- Without sums, differences and products, and with features within the limits, there is a value. -/
theorem plain_ok (l : List (ByteArray × Int)) (hl : ∀ f ∈ l, bnd' f.2 = true) (ns : List ByteArray) : ∀ (k : Nat) (e : Ex), vis ns k e = 0 → plainM k e = true → (val l k e).2 = 0
  | 0, e, h, _ => by cases h
  | k + 1, e, h, hp => by
    obtain ⟨ha, hn⟩ := vis_zero h
    obtain ⟨ho, _, _, hlen, _, hbn, hc⟩ := node_zero hn
    unfold plainM at hp
    split at hp
    · rename_i hpl
      have ih : ∀ a ∈ e.args, (val l k a).2 = 0 := fun a h => plain_ok l hl ns k a (ha a h) (plainL_mem hpl a h)
      have hg : ∀ x, bnd' ((getF x l).getD 0) = true := by
        intro x
        have key : ∀ l : List (ByteArray × Int), (∀ f ∈ l, bnd' f.2 = true) → bnd' ((getF x l).getD 0) = true := by
          intro l
          induction l with
          | nil => intro _; rfl
          | cons f r ih =>
            intro h
            unfold getF
            split
            · exact h f (by simp)
            · exact ih (fun g hg => h g (by simp [hg]))
        exact key l hl
      unfold val
      split
      · rename_i h1; simp [lim, hbn h1]
      · split
        · simp [lim, hg]
        · match hargs : e.args with
          | [] => rfl
          | a :: r =>
            rw [hargs] at ih
            have ia := ih a (by simp)
            simp only [ia, ne_eq, not_true_eq_false, if_false]
            split
            · rfl
            · match r with
              | [] => rfl
              | b :: r' =>
                have ib := ih b (by simp)
                simp only [ib, ne_eq, not_true_eq_false, if_false]
                split
                · rfl
                · split
                  · rfl
                  · simp at hp
                    unfold comb
                    (repeat' split) <;> first | rfl | omega
    · cases hp
/-! ### What a value depends on -/
theorem mentL_mem {c : Ex → List ByteArray} {x : ByteArray} : ∀ {l : List Ex} {a : Ex}, a ∈ l → x ∈ c a → x ∈ mentL c l
  | y :: r, a, h, hx => by
    simp only [mentL, List.mem_append]
    rcases List.mem_cons.1 h with rfl | h
    · exact .inl hx
    · exact .inr (mentL_mem h hx)
theorem node_names {ns ns' : List ByteArray} {e : Ex} (h : node ns e = 0) (hx : e.op = 2 → hasS ns' e.name = true) : node ns' e = 0 := by
  obtain ⟨h1, h2, h3, h4, h5, h6, h7⟩ := node_zero h
  have hb : anyBad (takesC e.op) e.args = false := by
    have key : ∀ l : List Ex, (∀ a ∈ l, isC a.op = takesC e.op) → anyBad (takesC e.op) l = false := by
      intro l
      induction l with
      | nil => intro _; rfl
      | cons a r ih => intro h; unfold anyBad; rw [if_pos (h a (by simp))]; exact ih (fun b hb => h b (by simp [hb]))
    exact key _ h7
  unfold node
  rw [if_neg (by omega), if_neg, if_neg, if_neg, hb]
  · rfl
  · rintro ⟨g1, g2⟩; rw [h6 g1] at g2; cases g2
  · rintro ⟨g1, g2⟩; rw [hx g1] at g2; cases g2
  · rintro (⟨g1, g2⟩ | ⟨g1, g2⟩ | g)
    · exact h2.elim g1 g2
    · exact h3.elim g1 g2
    · exact g h4
theorem firstE_all {v : Ex → Int} : ∀ {l : List Ex}, (∀ a ∈ l, v a = 0) → firstE v l = 0
  | [], _ => rfl
  | x :: r, h => by
    unfold firstE
    rw [if_pos (h x (by simp))]
    exact firstE_all (fun a ha => h a (by simp [ha]))
theorem vis_names {ns ns' : List ByteArray} : ∀ (k : Nat) (e : Ex), vis ns k e = 0 → (∀ x ∈ ment k e, hasS ns' x = true) → vis ns' k e = 0
  | 0, e, h, _ => by cases h
  | k + 1, e, h, hx => by
    obtain ⟨ha, hn⟩ := vis_zero h
    simp only [ment, List.mem_append] at hx
    have := firstE_all (v := vis ns' k) (l := e.args) (fun a h' => vis_names k a (ha a h') (fun x hm => hx x (.inr (mentL_mem h' hm))))
    unfold vis
    rw [if_pos this]
    exact node_names hn (fun h2 => hx e.name (.inl (by simp [h2])))
theorem val_names {l l' : List (ByteArray × Int)} : ∀ (k : Nat) (e : Ex), (∀ x ∈ ment k e, getF x l' = getF x l) → val l' k e = val l k e
  | 0, e, _ => rfl
  | k + 1, e, hx => by
    simp only [ment, List.mem_append] at hx
    have ih : ∀ a ∈ e.args, val l' k a = val l k a := fun a h' => val_names k a (fun x hm => hx x (.inr (mentL_mem h' hm)))
    rw [val, val]
    by_cases h1 : e.op = 1
    · simp only [h1, if_true]
    by_cases h2 : e.op = 2
    · rw [if_neg h1, if_neg h1, if_pos h2, if_pos h2, hx e.name (.inl (by simp [h2]))]
    simp only [h1, h2, if_false]
    match hargs : e.args with
    | [] => rfl
    | [a] =>
      rw [hargs] at ih
      simp only [ih a (by simp)]
    | a :: b :: r =>
      rw [hargs] at ih
      simp only [ih a (by simp), ih b (by simp)]
theorem ment_has {ns : List ByteArray} : ∀ (k : Nat) (e : Ex), vis ns k e = 0 → ∀ x ∈ ment k e, hasS ns x = true
  | 0, e, h, _, _ => by cases h
  | k + 1, e, h, x, hx => by
    obtain ⟨ha, hn⟩ := vis_zero h
    obtain ⟨_, _, _, _, h5, _⟩ := node_zero hn
    simp only [ment, List.mem_append] at hx
    rcases hx with hx | hx
    · split at hx
      · rename_i h2
        simp at hx
        rw [hx]
        exact h5 h2
      · simp at hx
    · have key : ∀ l : List Ex, (∀ a ∈ l, vis ns k a = 0) → x ∈ mentL (ment k) l → hasS ns x = true := by
        intro l
        induction l with
        | nil => intro _ h; simp [mentL] at h
        | cons a r ih =>
          intro hv h
          simp only [mentL, List.mem_append] at h
          rcases h with h | h
          · exact ment_has k a (hv a (by simp)) x h
          · exact ih (fun b hb => hv b (by simp [hb])) h
      exact key _ ha hx
end Go.Proofs.Ytkdmoefacgbgkaa
