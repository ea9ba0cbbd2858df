/-
  RuleTypes, RuleFirst, RuleLogic, run abstractly.
-/
import Derived.Test.YtkdmoefacgbgkaaRlH
import Derived.Test.YtkdmoefacgbgkaaRlJ
namespace Go.Proofs.Ytkdmoefacgbgkaa
set_option linter.unusedSimpArgs false
set_option linter.unusedVariables false
open Go Go.Abs
set_option maxHeartbeats 4000000
set_option maxRecDepth 100000
/-- Whether all features are within the limits. -/
def fitL : Bool → List (ByteArray × Int) → Bool
  | b, [] => b
  | b, f :: r => fitL (b && bnd' f.2) r
theorem fitL_true : ∀ {l : List (ByteArray × Int)} {b : Bool}, fitL b l = true → b = true ∧ ∀ f ∈ l, bnd' f.2 = true
  | [], b, h => ⟨h, by simp⟩
  | f :: r, b, h => by
    obtain ⟨h1, h2⟩ := fitL_true (l := r) h
    simp only [Bool.and_eq_true] at h1
    exact ⟨h1.1, by simp only [List.mem_cons, forall_eq_or_imp]; exact ⟨h1.2, h2⟩⟩
theorem types_loop (l : List (ByteArray × Int)) (hl : l.length ≤ 1000) (n0 g0 : Int) : ∀ (n i : Nat) (r : List (ByteArray × Int)) (b : Bool), l.drop i = r → r.length < n →
    L_law43_RuleTypes 9 n ⟨[(0, .any), (1, .sl (l.map eF)), (2, .any), (4, .any), (5, .any), (6, I n0), (7, I g0), (8, B b), (9, I i)], []⟩ =
      some (.ex 0, ⟨[(0, .any), (1, .any), (2, .any), (4, .any), (5, .any), (6, I n0), (7, I g0), (8, B (fitL b r)), (9, .any)], []⟩)
  | 0, _, _, _, _, hn => by omega
  | n + 1, i, [], b, hr, hn => by
    rw [L_law43_RuleTypes_succ, R_law43_RuleTypes_eq]
    simp [dn hr, fitL]
  | n + 1, i, x :: r, b, hr, hn => by
    rw [L_law43_RuleTypes_succ, R_law43_RuleTypes_eq]
    obtain ⟨h1, h3, hr', hi⟩ := dc (enc := eF) hr
    have hw := wrapN (n := i) (by omega)
    have ih := types_loop l hl n0 g0 n (i + 1) r (b && bnd' x.2) hr' (by simp at hn; omega)
    skip
    cases b with
    | false => simp at ih; simp [h1, h3, hw, fitL, ih]
    | true =>
      by_cases g1 : -1099511627776 ≤ x.2
      · by_cases g2 : x.2 ≤ 1099511627776
        · have g : bnd' x.2 = true := bnd'_iff.2 ⟨g1, g2⟩
          simp [g] at ih
          simp [h1, h3, hw, fitL, g1, g2, g, ih]
        · have g : bnd' x.2 = false := by simp [bnd', g2]
          simp [g] at ih
          simp [h1, h3, hw, fitL, g1, g2, g, ih]
      · have g : bnd' x.2 = false := by simp [bnd', g1]
        simp [g] at ih
        simp [h1, h3, hw, fitL, g1, g, ih]
theorem types_run (e : Ex) (hf : Fits e) (l : List (ByteArray × Int)) : F_law43_RuleTypes [.agg (eX e), .sl (l.map eF)] = some (B true) := by
  rw [F_law43_RuleTypes_eq]
  by_cases h1 : cnt 12 e 300 ≤ 300
  · by_cases h2 : l.length ≤ 60
    · cases h3 : shortM l with
      | false => simp [small_run e hf, h1, short_run, h2, h3, awake_run]
      | true =>
        have hc := Check_run (nms l) (by rw [nms_length]; omega) e hf
        have he := Eval_run l (by omega) e hf
        have hp : F_law43_plain [.agg (eX e), I 8] = some (B (plainM 8 e)) := plain_run 8 1000 e 8 hf (by omega) (by omega) (by omega)
        by_cases hv : vis (nms l) 8 e = 0
        · have e1 : evalM l e = val l 8 e := by simp [evalM, hv]
          obtain ⟨v1, v2, v3⟩ := val_ok l (nms l) 8 e hv
          rw [e1] at he
          by_cases ho : isC e.op = true
          · have h4 : checkM (nms l) e = 0 := by simp [checkM, hv, ho]
            have hbig := bigL_ge
            have ih := types_loop l (by omega) (val l 8 e).1 (val l 8 e).2 bigL 0 l (plainM 8 e) rfl (by omega)
            simp at ih
            by_cases hg : (val l 8 e).2 = 0
            · have hn := v3 ho
              rw [hg] at ih
              rcases hn with hn | hn <;> rw [hn] at ih <;> simp [small_run e hf, h1, short_run, h2, h3, hc, h4, he, rNames_run l (by omega), hp, ih, awake_run, hg, hn]
            · have hg9 := (val_err l 8 e).resolve_left hg
              have hn := v2 hg
              have hfit : fitL (plainM 8 e) l = false := by
                cases hft : fitL (plainM 8 e) l with
                | false => rfl
                | true =>
                  obtain ⟨p1, p2⟩ := fitL_true hft
                  exact absurd (plain_ok l p2 (nms l) 8 e hv p1) hg
              rw [hn, hg9, hfit] at ih
              simp [small_run e hf, h1, short_run, h2, h3, hc, h4, he, rNames_run l (by omega), hp, ih, awake_run, hg9, hn]
          · have h4 : checkM (nms l) e = 27 := by simp [checkM, hv, ho]
            rcases val_err l 8 e with hg | hg
            · simp [small_run e hf, h1, short_run, h2, h3, hc, h4, he, rNames_run l (by omega), awake_run, hg]
            · have hn := v2 (by rw [hg]; decide)
              simp [small_run e hf, h1, short_run, h2, h3, hc, h4, he, rNames_run l (by omega), awake_run, hg, hn]
        · have h4 : checkM (nms l) e = vis (nms l) 8 e := by simp [checkM, hv]
          have h5 : evalM l e = (0, vis (nms l) 8 e) := by simp [evalM, hv]
          rw [h4] at hc
          rw [h5] at he
          simp [small_run e hf, h1, short_run, h2, h3, hc, he, rNames_run l (by omega), awake_run, hv]
    · simp [small_run e hf, h1, short_run, h2, awake_run]
  · simp [small_run e hf, h1, awake_run]
/-! ### RuleFirst -/
theorem rules_all {ns : List ByteArray} : ∀ {l : List (Int × Ex)}, rulesE ns l = 0 ↔ ∀ x ∈ l, ¬ (x.1 < 0 ∨ 9 < x.1) ∧ checkM ns x.2 = 0
  | [] => by simp [rulesE]
  | r :: l => by
    unfold rulesE
    split
    · rename_i h; simp; intro h1; omega
    · rename_i h
      split
      · rename_i h2
        rw [rules_all (l := l)]
        simp only [List.mem_cons, forall_eq_or_imp]
        exact ⟨fun g => ⟨⟨h, h2⟩, g⟩, fun g => g.2⟩
      · rename_i h2
        constructor
        · intro g; exact absurd g h2
        · intro g; exact absurd (g r (by simp)).2 h2
theorem gradeL_hit (f : List (ByteArray × Int)) : ∀ (j : Nat) (l : List (Int × Ex)) (i : Nat) (hj : j < l.length), (∀ q, q < j → ∀ x, l[q]? = some x → val f 8 x.2 = (0, 0)) → val f 8 l[j].2 = (1, 0) → gradeL f i l = (l[j].1, ((i + j : Nat) : Int), 0)
  | 0, r :: l, i, _, _, h => by
    simp only [List.getElem_cons_zero] at h ⊢
    simp [gradeL, h]
  | j + 1, r :: l, i, hj, hq, h => by
    have h0 := hq 0 (by omega) r rfl
    simp only [List.getElem_cons_succ] at h ⊢
    have ih := gradeL_hit f j l (i + 1) (by simpa using hj) (fun q hqj x hx => hq (q + 1) (by omega) x (by simpa using hx)) h
    rw [gradeL, h0]
    simp only [if_true, show ¬ ((0 : Int) = 1) by decide, if_false]
    rw [ih]
    congr 2
    omega
theorem gradeL_cases (f : List (ByteArray × Int)) : ∀ (l : List (Int × Ex)) (i : Nat), (∀ x ∈ l, (val f 8 x.2).1 = 0 ∨ (val f 8 x.2).1 = 1) → (gradeL f i l).2.2 = 0 →
    (gradeL f i l = (0, -1, 0) ∧ ∀ x ∈ l, val f 8 x.2 = (0, 0)) ∨ ∃ j, ∃ hj : j < l.length, (∀ q, q < j → ∀ x, l[q]? = some x → val f 8 x.2 = (0, 0)) ∧ val f 8 l[j].2 = (1, 0)
  | [], i, _, _ => .inl ⟨rfl, by simp⟩
  | r :: l, i, hc, h => by
    unfold gradeL at h ⊢
    split at h
    · rename_i h2
      split at h
      · rename_i h1
        right
        exact ⟨0, by simp, by omega, by simp; exact Prod.ext h1 h2⟩
      · rename_i h1
        rw [if_pos h2, if_neg h1]
        have h0 : val f 8 r.2 = (0, 0) := Prod.ext ((hc r (by simp)).resolve_right h1) h2
        rcases gradeL_cases f l (i + 1) (fun x hx => hc x (by simp [hx])) h with ⟨g1, g2⟩ | ⟨j, hj, g1, g2⟩
        · exact .inl ⟨g1, by simp only [List.mem_cons, forall_eq_or_imp]; exact ⟨h0, g2⟩⟩
        · refine .inr ⟨j + 1, by simpa using hj, fun q hq x hx => ?_, by simpa using g2⟩
          cases q with
          | zero => simp at hx; rw [← hx]; exact h0
          | succ q => exact g1 q (by omega) x (by simpa using hx)
    · rename_i h2; exact absurd h h2
theorem first_loop (l : List (Int × Ex)) (hl : l.length ≤ 1000) (f : List (ByteArray × Int)) (hfl : f.length ≤ 1000) (hf : ∀ x ∈ l, Fits x.2) (g a : Int) (m : Nat) (hm : m ≤ l.length) (hz : ∀ q, q < m → ∀ x, l[q]? = some x → evalM f x.2 = (0, 0)) : ∀ (n i : Nat), i ≤ m → m - i < n →
    L_law43_RuleFirst 12 n ⟨[(0, .sl (l.map eR)), (1, .sl (f.map eF)), (4, .any), (5, I g), (6, I a), (7, .any), (8, I m), (9, I i), (10, .any), (11, .any), (12, .any), (13, .any), (14, .any), (15, .any), (16, .any), (17, .any), (18, .any), (19, .any)], []⟩ =
      some (.ex 0, ⟨[(0, .sl (l.map eR)), (1, .sl (f.map eF)), (4, .any), (5, I g), (6, I a), (7, .any), (8, .any), (9, .any), (10, .any), (11, .any), (12, .any), (13, .any), (14, .any), (15, .any), (16, .any), (17, .any), (18, .any), (19, .any)], []⟩)
  | 0, _, _, hn => by omega
  | n + 1, i, hi, hn => by
    rw [L_law43_RuleFirst_succ, R_law43_RuleFirst_eq]
    by_cases h : i < m
    · have hil : i < l.length := by omega
      have h1 := mapGet (enc := eR) hil
      have h3 : (i : Int) < m := by omega
      have h3' : (i : Int) < l.length := by omega
      have hw := wrapN (n := i) (by omega)
      have he := Eval_run f (by omega) l[i].2 (hf _ (List.getElem_mem hil))
      rw [hz i h l[i] (List.getElem?_eq_getElem hil)] at he
      have ih := first_loop l hl f hfl hf g a m hm hz n (i + 1) (by omega) (by omega)
      simp at ih
      simp [h1, h3, h3', hw, he, ih]
    · have h3 : ¬ (i : Int) < m := by omega
      simp [h3]
theorem first_run (l : List (Int × Ex)) (hf : ∀ x ∈ l, Fits x.2) (f : List (ByteArray × Int)) : F_law43_RuleFirst [.sl (l.map eR), .sl (f.map eF)] = some (B true) := by
  rw [F_law43_RuleFirst_eq]
  by_cases h1 : l.length ≤ 40
  · cases h1' : tableM l with
    | false => simp [table_run l hf, h1, h1', awake_run]
    | true =>
      by_cases h2 : f.length ≤ 60
      · cases h3 : shortM f with
        | false => simp [table_run l hf, h1, h1', short_run, h2, h3, awake_run]
        | true =>
          have hg := Grade_run f (by omega) l (by omega) hf
          by_cases hc : checkRulesM (nms f) l = 0
          · have hgm : gradeM l f = gradeL f 0 l := by simp [gradeM, hc]
            have hr : rulesE (nms f) l = 0 := by
              unfold checkRulesM at hc
              split at hc
              · cases hc
              · exact hc
            have hlen : l.length ≤ 32 := by
              unfold checkRulesM at hc
              split at hc
              · cases hc
              · omega
            have hv := fun x hx => rules_vis hr x hx
            have hev : ∀ x ∈ l, evalM f x.2 = val f 8 x.2 := fun x hx => by simp [evalM, (hv x hx).1]
            rw [hgm] at hg
            by_cases h4 : (gradeL f 0 l).2.2 = 0
            · have hbig := bigL_ge
              rcases gradeL_cases f l 0 (fun x hx => (val_ok f (nms f) 8 x.2 (hv x hx).1).2.2 (hv x hx).2) h4 with ⟨g1, g2⟩ | ⟨j, hj, g1, g2⟩
              · have ih := first_loop l (by omega) f (by omega) hf 0 (-1) l.length (Nat.le_refl _) (fun q hq x hx => by rw [hev x (List.mem_of_getElem? hx)]; exact g2 x (List.mem_of_getElem? hx)) bigL 0 (by omega) (by omega)
                simp at ih
                rw [g1] at hg
                have hlt : (-1 : Int) < l.length := by omega
                simp [table_run l hf, h1, h1', short_run, h2, h3, hg, ih, awake_run, hlt]
              · have e1 := gradeL_hit f j l 0 hj g1 g2
                rw [Nat.zero_add] at e1
                have ih := first_loop l (by omega) f (by omega) hf l[j].1 j j (by omega) (fun q hq x hx => by rw [hev x (List.mem_of_getElem? hx)]; exact g1 q hq x hx) bigL 0 (by omega) (by omega)
                simp at ih
                rw [e1] at hg
                have hx : l[j] ∈ l := List.getElem_mem hj
                have he := Eval_run f (by omega) l[j].2 (hf _ hx)
                rw [hev _ hx, g2] at he
                -- the rules up to the deciding one
                have t1 := Grade_run f (by omega) (l.take (j + 1)) (by simp; omega) (fun x hx => hf x (List.mem_of_mem_take hx))
                have t2 : gradeM (l.take (j + 1)) f = (l[j].1, (j : Int), 0) := by
                  have : checkRulesM (nms f) (l.take (j + 1)) = 0 := by
                    unfold checkRulesM
                    rw [if_neg (by simp; omega)]
                    exact rules_all.2 (fun x hx => rules_all.1 hr x (List.mem_of_mem_take hx))
                  unfold gradeM
                  rw [if_pos this]
                  have := gradeL_hit f j (l.take (j + 1)) 0 (by simp; omega) (fun q hq x hx => g1 q hq x (by rw [List.getElem?_take_of_lt (by omega)] at hx; exact hx)) (by rw [List.getElem_take]; exact g2)
                  rw [List.getElem_take, Nat.zero_add] at this
                  exact this
                rw [t2] at t1
                -- the rules from it on
                have d1 := Grade_run f (by omega) (l.drop j) (by simp; omega) (fun x hx => hf x (List.mem_of_mem_drop hx))
                have d2 : gradeM (l.drop j) f = (l[j].1, 0, 0) := by
                  have : checkRulesM (nms f) (l.drop j) = 0 := by
                    unfold checkRulesM
                    rw [if_neg (by simp; omega)]
                    exact rules_all.2 (fun x hx => rules_all.1 hr x (List.mem_of_mem_drop hx))
                  unfold gradeM
                  rw [if_pos this]
                  have := gradeL_hit f 0 (l.drop j) 0 (by simp; omega) (fun q hq => by omega) (by simpa using g2)
                  simpa using this
                rw [d2] at d1
                have k1 := mapGet (enc := eR) hj
                have k2 : ¬ (l.length : Int) ≤ j := by omega
                have k3 : ¬ (j : Int) < -1 := by omega
                have k4 : ¬ (j : Int) < 0 := by omega
                have k5 : (j : Int) ≤ l.length := by omega
                have k6 : (0 : Int) ≤ (j : Int) + 1 := by omega
                have k7 : (j : Int) + 1 ≤ l.length := by omega
                have k8 : ((j : Int) + 1).toNat = j + 1 := by omega
                have hw := wrapN (n := j) (by omega)
                have k9 : List.take l.length (l.map eR) = l.map eR := List.take_of_length_le (by simp)
                simp at t1 d1
                simp [table_run l hf, h1, h1', short_run, h2, h3, hg, ih, awake_run, k1, k2, k3, k4, k5, k6, k7, k8, k9, hw, he, t1, d1]
            · have hz : (gradeL f 0 l).1 = 0 ∧ (gradeL f 0 l).2.1 = 0 := by
                have key : ∀ (l : List (Int × Ex)) (i : Nat), (gradeL f i l).2.2 ≠ 0 → (gradeL f i l).1 = 0 ∧ (gradeL f i l).2.1 = 0 := by
                  intro l
                  induction l with
                  | nil => intro i h; exact absurd rfl h
                  | cons r l ih =>
                    intro i h
                    unfold gradeL at h ⊢
                    split at h
                    · rename_i h2
                      rw [if_pos h2]
                      split at h
                      · exact absurd rfl h
                      · rename_i h1; rw [if_neg h1]; exact ih _ h
                    · rename_i h2; rw [if_neg h2]; exact ⟨rfl, rfl⟩
                exact key l 0 h4
              rw [hz.1, hz.2] at hg
              simp [table_run l hf, h1, h1', short_run, h2, h3, hg, h4, awake_run]
          · have hgm : gradeM l f = (0, 0, checkRulesM (nms f) l) := by simp [gradeM, hc]
            rw [hgm] at hg
            simp [table_run l hf, h1, h1', short_run, h2, h3, hg, hc, awake_run]
      · simp [table_run l hf, h1, h1', short_run, h2, awake_run]
  · simp [table_run l hf, h1, awake_run]
end Go.Proofs.Ytkdmoefacgbgkaa
