/-
  The value of an expression, run abstractly: in the program and in the reference.
-/
import Derived.Test.YtldekjlihfidlaaGreatDoorRlB
namespace Go.Proofs.YtldekjlihfidlaaGreatDoor.Rl
set_option linter.unusedSimpArgs false
set_option linter.unusedVariables false
open Go Go.Abs
set_option maxHeartbeats 4000000
set_option maxRecDepth 100000
/-- Two numbers that are handed back. -/
abbrev T2 (p : Int × Int) : D := .tup [I p.1, I p.2]
def lim (n : Int) : Int × Int := if bnd' n = true then (n, 0) else (0, 9)
theorem lim_tup (n : Int) : D.tup [I (lim n).1, I (lim n).2] = if bnd' n = true then .tup [I n, I 0] else .tup [I 0, I 9] := by
  unfold lim
  split <;> rfl
theorem limited_run (n : Int) : F_rule_limited [I n] = some (T2 (lim n)) := by
  rw [F_rule_limited_eq]
  by_cases h : bnd' n = true <;> simp [bounded_run, lim, h]
theorem number_run (n : Int) : F_ref43_number [I n] = some (T2 (lim n)) := by
  rw [F_ref43_number_eq]
  by_cases h : bnd' n = true <;> simp [big_run, lim, h]
theorem bnd'_iff {n : Int} : bnd' n = true ↔ -1099511627776 ≤ n ∧ n ≤ 1099511627776 := by simp [bnd']
def mag (n : Int) : Int := if n < 0 then -n else n
theorem magnitude_run (n : Int) (h : bnd' n = true) : F_rule_magnitude [I n] = some (I (mag n)) := by
  rw [F_rule_magnitude_eq]
  have := bnd'_iff.1 h
  have hw : IntKind.i64.wrap (0 - n) = -n := by rw [wrap64] <;> omega
  simp at hw
  simp [hw, mag]
  (repeat' split) <;> omega
def tr (b : Bool) : Int := if b = true then 1 else 0
theorem truth_run (b : Bool) : F_rule_truth [B b] = some (I (tr b)) := by
  rw [F_rule_truth_eq]
  simp [tr]
theorem bit_run (b : Bool) : F_ref43_bit [B b] = some (I (tr b)) := by
  rw [F_ref43_bit_eq]
  simp [tr]
def comb (op a b : Int) : Int × Int :=
  if op = 3 then lim (a + b) else if op = 4 then lim (a - b) else if op = 5 then lim (a * b) else if op = 6 then (tr (decide (a = b)), 0) else if op = 7 then (tr (decide (a < b)), 0) else (tr (decide (a ≤ b)), 0)
theorem mag_mul {a b : Int} (ha : bnd' a = true) (hb : bnd' b = true) (h0 : a ≠ 0) : (1099511627776 : Int).tdiv (mag a) < mag b ↔ bnd' (a * b) = false := by
  rw [bnd'_iff] at ha hb
  have hm : 0 < mag a := by unfold mag; split <;> omega
  have e : (1099511627776 : Int).tdiv (mag a) = 1099511627776 / mag a := by rw [Int.tdiv_eq_ediv_of_nonneg (by omega)]
  rw [e, Int.ediv_lt_iff_lt_mul hm]
  have e2 : mag b * mag a = mag (a * b) := by
    unfold mag
    rcases (by omega : a < 0 ∨ 0 ≤ a) with h1 | h1 <;> rcases (by omega : b < 0 ∨ 0 ≤ b) with h2 | h2
    · have : 0 < a * b := Int.mul_pos_of_neg_of_neg h1 h2
      rw [if_pos h1, if_pos h2, if_neg (by omega)]
      rw [Int.neg_mul_neg, Int.mul_comm]
    · have : a * b ≤ 0 := Int.mul_nonpos_of_nonpos_of_nonneg (by omega) h2
      rw [if_pos h1, if_neg (show ¬ b < 0 by omega), Int.mul_neg, Int.mul_comm b a]
      split <;> omega
    · have : a * b ≤ 0 := Int.mul_nonpos_of_nonneg_of_nonpos h1 (by omega)
      rw [if_pos h2, if_neg (show ¬ a < 0 by omega), Int.neg_mul, Int.mul_comm b a]
      split <;> omega
    · have : 0 ≤ a * b := Int.mul_nonneg h1 h2
      rw [if_neg (show ¬ a < 0 by omega), if_neg (show ¬ b < 0 by omega), if_neg (show ¬ a * b < 0 by omega), Int.mul_comm]
  rw [e2]
  unfold mag bnd'
  split <;> simp <;> omega
theorem mul_le {a b : Int} (ha : bnd' a = true) (hb : bnd' b = true) : -9223372036854775808 ≤ a + b ∧ a + b ≤ 9223372036854775807 ∧ -9223372036854775808 ≤ a - b ∧ a - b ≤ 9223372036854775807 := by
  rw [bnd'_iff] at ha hb
  omega
theorem combine_run (op a b : Int) (ha : bnd' a = true) (hb : bnd' b = true) : F_rule_combine [I op, I a, I b] = some (T2 (comb op a b)) := by
  rw [F_rule_combine_eq]
  obtain ⟨h1, h2, h3, h4⟩ := mul_le ha hb
  have hw1 := wrap64 h1 h2
  have hw2 := wrap64 h3 h4
  by_cases g3 : op = 3
  · simp [g3, hw1, limited_run, comb]
  by_cases g4 : op = 4
  · simp [g4, hw2, limited_run, comb]
  by_cases g5 : op = 5
  · have hm : ¬ mag a = 0 ∨ a = 0 := by unfold mag; split <;> omega
    by_cases h0 : a = 0
    · simp [g5, comb, h0, lim, bnd']
    · have hm : ¬ mag a = 0 := by unfold mag; split <;> omega
      have hmm := mag_mul ha hb h0
      have hmb := bnd'_iff.1 ha
      have hmp : 0 < mag a := by unfold mag; split <;> omega
      have hmw : IntKind.i64.wrap ((1099511627776 : Int).tdiv (mag a)) = (1099511627776 : Int).tdiv (mag a) := by
        rw [Int.tdiv_eq_ediv_of_nonneg (by omega)]
        have l1 := Int.ediv_nonneg (a := 1099511627776) (b := mag a) (by omega) (by omega)
        have l2 := Int.ediv_le_self (a := 1099511627776) (mag a) (by omega)
        exact wrap64 (by omega) (by omega)
      by_cases hq : bnd' (a * b) = true
      · have hr := bnd'_iff.1 hq
        have hw3 := wrap64 (n := a * b) (by omega) (by omega)
        have hq' : ¬ (1099511627776 : Int).tdiv (mag a) < mag b := fun h => by rw [hmm, hq] at h; cases h
        simp [g5, comb, h0, lim, magnitude_run _ ha, magnitude_run _ hb, hm, hmw, hq, hq', hw3]
      · have hq2 : bnd' (a * b) = false := by simpa using hq
        have hq' := hmm.2 hq2
        simp [g5, comb, h0, lim, magnitude_run _ ha, magnitude_run _ hb, hm, hmw, hq2, hq']
  by_cases g6 : op = 6
  · simp [g6, comb, truth_run]
  by_cases g7 : op = 7
  · simp [g7, comb, truth_run]
  simp [g3, g4, g5, g6, g7, comb, truth_run]
/-- The value of an expression that was checked. -/
def val (l : List (ByteArray × Int)) : Nat → Ex → Int × Int
  | 0, _ => (0, 0)
  | k + 1, e =>
    if e.op = 1 then lim e.n
    else if e.op = 2 then lim ((getF e.name l).getD 0)
    else match e.args with
      | [] => (0, 0)
      | a :: r =>
        if (val l k a).2 ≠ 0 then (0, (val l k a).2)
        else if e.op = 9 then (1 - (val l k a).1, 0)
        else match r with
          | [] => (0, 0)
          | b :: _ =>
            if (e.op = 10 ∧ (val l k a).1 = 0) ∨ (e.op = 11 ∧ (val l k a).1 = 1) then ((val l k a).1, 0)
            else if (val l k b).2 ≠ 0 then (0, (val l k b).2)
            else if e.op = 10 ∨ e.op = 11 then ((val l k b).1, 0)
            else comb e.op (val l k a).1 (val l k b).1
theorem lim_ok (n : Int) : bnd' (lim n).1 = true ∧ ((lim n).2 ≠ 0 → (lim n).1 = 0) := by
  unfold lim
  split
  · rename_i h; exact ⟨h, fun h => absurd rfl h⟩
  · exact ⟨rfl, fun _ => rfl⟩
theorem tr_ok (b : Bool) : bnd' (tr b) = true ∧ (tr b = 0 ∨ tr b = 1) := by cases b <;> simp [tr, bnd']
theorem comb_ok (op a b : Int) : bnd' (comb op a b).1 = true ∧ ((comb op a b).2 ≠ 0 → (comb op a b).1 = 0) ∧ (6 ≤ op → op ≤ 8 → (comb op a b).1 = 0 ∨ (comb op a b).1 = 1) := by
  unfold comb
  (repeat' split) <;> first | exact ⟨(lim_ok _).1, (lim_ok _).2, by omega⟩ | exact ⟨(tr_ok _).1, fun h => absurd rfl h, fun _ _ => (tr_ok _).2⟩
theorem firstE_zero {v : Ex → Int} : ∀ {l : List Ex}, firstE v l = 0 → ∀ a ∈ l, v a = 0
  | [], _, a, h => by simp at h
  | x :: r, hf, a, h => by
    unfold firstE at hf
    split at hf
    · rename_i hx
      rcases List.mem_cons.1 h with rfl | h
      · exact hx
      · exact firstE_zero hf a h
    · rename_i hx; exact absurd hf hx
theorem vis_zero {ns : List ByteArray} {k : Nat} {e : Ex} (h : vis ns (k + 1) e = 0) : (∀ a ∈ e.args, vis ns k a = 0) ∧ node ns e = 0 := by
  unfold vis at h
  split at h
  · rename_i hz; exact ⟨firstE_zero hz, h⟩
  · rename_i hz; exact absurd h hz
theorem anyBad_false {t : Bool} : ∀ {l : List Ex}, anyBad t l = false → ∀ a ∈ l, isC a.op = t
  | [], _, a, h => by simp at h
  | x :: r, hf, a, h => by
    unfold anyBad at hf
    split at hf
    · rename_i hx
      rcases List.mem_cons.1 h with rfl | h
      · exact hx
      · exact anyBad_false hf a h
    · cases hf
/-- What a node that is in order is like. -/
theorem node_zero {ns : List ByteArray} {e : Ex} (h : node ns e = 0) : (1 ≤ e.op ∧ e.op ≤ 11) ∧ (e.n = 0 ∨ e.op = 1) ∧ (e.name = ByteArray.empty ∨ e.op = 2) ∧ (e.args.length : Int) = takesN e.op ∧ (e.op = 2 → hasS ns e.name = true) ∧ (e.op = 1 → bnd' e.n = true) ∧ ∀ a ∈ e.args, isC a.op = takesC e.op := by
  unfold node at h
  split at h
  · cases h
  · rename_i g1
    split at h
    · cases h
    · rename_i g2
      split at h
      · cases h
      · rename_i g3
        split at h
        · cases h
        · rename_i g4
          split at h
          · cases h
          · rename_i g5
            refine ⟨by omega, ?_, ?_, ?_, ?_, ?_, anyBad_false (by simpa using g5)⟩
            · by_cases hn : e.n = 0
              · exact .inl hn
              · right
                by_cases ho : e.op = 1
                · exact ho
                · exact absurd (.inl ⟨hn, ho⟩) g2
            · by_cases hn : e.name = ByteArray.empty
              · exact .inl hn
              · right
                by_cases ho : e.op = 2
                · exact ho
                · exact absurd (.inr (.inl ⟨hn, ho⟩)) g2
            · by_cases hn : (e.args.length : Int) = takesN e.op
              · exact hn
              · exact absurd (.inr (.inr hn)) g2
            · intro ho
              cases hh : hasS ns e.name with
              | true => rfl
              | false => exact absurd ⟨ho, hh⟩ g3
            · intro ho
              cases hh : bnd' e.n with
              | true => rfl
              | false => exact absurd ⟨ho, hh⟩ g4
theorem val_ok (l : List (ByteArray × Int)) (ns : List ByteArray) : ∀ (k : Nat) (e : Ex), vis ns k e = 0 → bnd' (val l k e).1 = true ∧ ((val l k e).2 ≠ 0 → (val l k e).1 = 0) ∧ (isC e.op = true → (val l k e).1 = 0 ∨ (val l k e).1 = 1) := by
  intro k
  induction k with
  | zero => intro e h; cases h
  | succ k ih =>
    intro e h
    obtain ⟨ha, hn⟩ := vis_zero h
    obtain ⟨ho, _, _, hlen, _, _, hc⟩ := node_zero hn
    unfold val
    by_cases h1 : e.op = 1
    · rw [if_pos h1]
      exact ⟨(lim_ok _).1, (lim_ok _).2, fun h => by simp [isC, h1] at h⟩
    rw [if_neg h1]
    by_cases h2 : e.op = 2
    · rw [if_pos h2]
      exact ⟨(lim_ok _).1, (lim_ok _).2, fun h => by simp [isC, h2] at h⟩
    rw [if_neg h2]
    match hargs : e.args with
    | [] => simp [bnd']
    | a :: r =>
      obtain ⟨a1, a2, a3⟩ := ih a (ha a (by rw [hargs]; simp))
      have ca := hc a (by rw [hargs]; simp)
      simp only
      split
      · exact ⟨rfl, fun _ => rfl, fun _ => .inl rfl⟩
      · rename_i he
        split
        · rename_i h9
          rw [h9] at ca
          have := a3 (by rw [ca]; rfl)
          rcases this with g | g <;> simp [g, bnd']
        · rename_i h9
          match r, hargs with
          | [], _ => simp [bnd']
          | b :: r', hargs =>
            obtain ⟨b1, b2, b3⟩ := ih b (ha b (by rw [hargs]; simp))
            have cb := hc b (by rw [hargs]; simp)
            simp only
            split
            · rename_i hq
              refine ⟨a1, fun h => absurd rfl h, fun _ => a3 ?_⟩
              rw [ca]
              rcases hq with ⟨hq, _⟩ | ⟨hq, _⟩ <;> simp [takesC, hq]
            · split
              · exact ⟨rfl, fun _ => rfl, fun _ => .inl rfl⟩
              · split
                · rename_i hq
                  refine ⟨b1, fun h => absurd rfl h, fun _ => b3 ?_⟩
                  rw [cb]
                  rcases hq with hq | hq <;> simp [takesC, hq]
                · rename_i hq
                  obtain ⟨c1, c2, c3⟩ := comb_ok e.op (val l k a).1 (val l k b).1
                  refine ⟨c1, c2, fun h => c3 ?_ ?_⟩ <;> simp [isC] at h <;> omega
theorem args0 {e : Ex} (h : (e.args.length : Int) = takesN e.op) (h1 : ¬ e.op = 1) (h2 : ¬ e.op = 2) (h9 : ¬ e.op = 9) : ∃ a b, e.args = [a, b] := by
  simp only [takesN, h1, h2, or_self, if_false, h9] at h
  match e.args, h with
  | [a, b], _ => exact ⟨a, b, rfl⟩
theorem args1 {e : Ex} (h : (e.args.length : Int) = takesN e.op) (h9 : e.op = 9) : ∃ a, e.args = [a] := by
  simp [takesN, h9] at h
  match e.args, h with
  | [a], _ => exact ⟨a, rfl⟩
theorem value_run (l : List (ByteArray × Int)) (hl : l.length ≤ 1000000) (ns : List ByteArray) : ∀ (k m : Nat) (e : Ex), vis ns k e = 0 → k ≤ m → FN_rule_value m [.agg (eX e), .sl (l.map eF)] = some (T2 (val l k e)) := by
  intro k
  induction k with
  | zero => intro m e h; cases h
  | succ k ih =>
    intro m e h hm
    obtain ⟨ha, hn⟩ := vis_zero h
    obtain ⟨ho, _, _, hlen, _, _, hc⟩ := node_zero hn
    obtain ⟨m, rfl⟩ : ∃ q, m = q + 1 := ⟨m - 1, by omega⟩
    rw [FN_rule_value_eq]
    by_cases h1 : e.op = 1
    · simp [eX_eq e, h1, limited_run, val]
    by_cases h2 : e.op = 2
    · simp [eX_eq e, h2, limited_run, Get_run l e.name (by omega), val]
    by_cases h9 : e.op = 9
    · obtain ⟨a, hargs⟩ := args1 hlen h9
      have va := ih m a (ha a (by rw [hargs]; simp)) (by omega)
      obtain ⟨a1, a2, a3⟩ := val_ok l ns k a (ha a (by rw [hargs]; simp))
      rw [bnd'_iff] at a1
      have hw : IntKind.i64.wrap (1 - (val l k a).1) = 1 - (val l k a).1 := wrap64 (by omega) (by omega)
      by_cases he : (val l k a).2 = 0 <;> simp [eX_eq e, h9, hargs, va, he, hw, val]
    obtain ⟨a, b, hargs⟩ := args0 hlen h1 h2 h9
    have va := ih m a (ha a (by rw [hargs]; simp)) (by omega)
    obtain ⟨a1, a2, a3⟩ := val_ok l ns k a (ha a (by rw [hargs]; simp))
    have vb := ih m b (ha b (by rw [hargs]; simp)) (by omega)
    obtain ⟨b1, b2, b3⟩ := val_ok l ns k b (ha b (by rw [hargs]; simp))
    by_cases he : (val l k a).2 = 0
    · by_cases h10 : e.op = 10
      · by_cases hx : (val l k a).1 = 0
        · simp [eX_eq e, h10, hargs, va, he, hx, val]
        · by_cases hb : (val l k b).2 = 0
          · simp [eX_eq e, h10, hargs, va, vb, he, hx, hb, val]
          · simp [eX_eq e, h10, hargs, va, vb, he, hx, hb, val, b2 hb]
      by_cases h11 : e.op = 11
      · by_cases hx : (val l k a).1 = 1
        · simp [eX_eq e, h11, hargs, va, he, hx, val]
        · by_cases hb : (val l k b).2 = 0
          · simp [eX_eq e, h11, hargs, va, vb, he, hx, hb, val]
          · simp [eX_eq e, h11, hargs, va, vb, he, hx, hb, val, b2 hb]
      by_cases hb : (val l k b).2 = 0
      · simp [eX_eq e, h1, h2, h9, h10, h11, hargs, va, vb, he, hb, val, combine_run e.op _ _ a1 b1]
      · simp [eX_eq e, h1, h2, h9, h10, h11, hargs, va, vb, he, hb, val]
    · simp [eX_eq e, h1, h2, h9, hargs, va, he, val]
theorem product_run (a b : Int) (ha : bnd' a = true) (hb : bnd' b = true) : F_ref43_product [I a, I b] = some (.tup [I (lim (a * b)).1, B (decide ((lim (a * b)).2 = 0))]) := by
  rw [F_ref43_product_eq]
  by_cases h0 : a = 0
  · simp [h0, lim, bnd']
  by_cases h0b : b = 0
  · simp [h0b, lim, bnd']
  have ha' := bnd'_iff.1 ha
  have hb' := bnd'_iff.1 hb
  have w1 : IntKind.i64.wrap (0 - a) = -a := by rw [wrap64] <;> omega
  have w2 : IntKind.i64.wrap (0 - b) = -b := by rw [wrap64] <;> omega
  simp at w1 w2
  have e1 : (if a < -a then -a else a) = mag a := by unfold mag; (repeat' split) <;> omega
  have e2 : (if b < -b then -b else b) = mag b := by unfold mag; (repeat' split) <;> omega
  have hmp : 0 < mag b := by unfold mag; split <;> omega
  have hm0 : ¬ mag b = 0 := by omega
  have hmw : IntKind.i64.wrap ((1099511627776 : Int).tdiv (mag b)) = (1099511627776 : Int).tdiv (mag b) := by
    rw [Int.tdiv_eq_ediv_of_nonneg (by omega)]
    have l1 := Int.ediv_nonneg (a := 1099511627776) (b := mag b) (by omega) (by omega)
    have l2 := Int.ediv_le_self (a := 1099511627776) (mag b) (by omega)
    exact wrap64 (by omega) (by omega)
  have hmm := mag_mul hb ha h0b
  rw [Int.mul_comm] at hmm
  by_cases hq : bnd' (a * b) = true
  · have hr := bnd'_iff.1 hq
    have hw3 := wrap64 (n := a * b) (by omega) (by omega)
    have hq' : ¬ (1099511627776 : Int).tdiv (mag b) < mag a := fun h => by rw [hmm, hq] at h; cases h
    simp [h0, h0b, w1, w2, e1, e2, hm0, hmw, hq', hw3, lim, hq]
  · have hq2 : bnd' (a * b) = false := by simpa using hq
    have hq' := hmm.2 hq2
    simp [h0, h0b, w1, w2, e1, e2, hm0, hmw, hq', lim, hq2]
theorem rvalue_run (l : List (ByteArray × Int)) (hl : l.length ≤ 1000000) (ns : List ByteArray) : ∀ (k m : Nat) (e : Ex), vis ns k e = 0 → k ≤ m → FN_ref43_value m [.agg (eX e), .sl (l.map eF)] = some (T2 (val l k e)) := by
  intro k
  induction k with
  | zero => intro m e h; cases h
  | succ k ih =>
    intro m e h hm
    obtain ⟨ha, hn⟩ := vis_zero h
    obtain ⟨ho, _, _, hlen, _, hbn, hc⟩ := node_zero hn
    obtain ⟨m, rfl⟩ : ∃ q, m = q + 1 := ⟨m - 1, by omega⟩
    rw [FN_ref43_value_eq]
    by_cases h1 : e.op = 1
    · simp [eX_eq e, h1, val, lim, hbn h1]
    by_cases h2 : e.op = 2
    · simp [eX_eq e, h2, number_run, rget_run l e.name (by omega), val]
    by_cases h9 : e.op = 9
    · obtain ⟨a, hargs⟩ := args1 hlen h9
      have va := ih m a (ha a (by rw [hargs]; simp)) (by omega)
      obtain ⟨a1, a2, a3⟩ := val_ok l ns k a (ha a (by rw [hargs]; simp))
      rw [bnd'_iff] at a1
      have hw : IntKind.i64.wrap (1 - (val l k a).1) = 1 - (val l k a).1 := wrap64 (by omega) (by omega)
      by_cases he : (val l k a).2 = 0 <;> simp [eX_eq e, h9, hargs, va, he, hw, val]
    obtain ⟨a, b, hargs⟩ := args0 hlen h1 h2 h9
    have va := ih m a (ha a (by rw [hargs]; simp)) (by omega)
    obtain ⟨a1, a2, a3⟩ := val_ok l ns k a (ha a (by rw [hargs]; simp))
    have vb := ih m b (ha b (by rw [hargs]; simp)) (by omega)
    obtain ⟨b1, b2, b3⟩ := val_ok l ns k b (ha b (by rw [hargs]; simp))
    by_cases he : (val l k a).2 = 0
    · by_cases h10 : e.op = 10
      · by_cases hx : (val l k a).1 = 0
        · simp [eX_eq e, h10, hargs, va, he, hx, val]
        · by_cases hb : (val l k b).2 = 0
          · simp [eX_eq e, h10, hargs, va, vb, he, hx, hb, val]
          · simp [eX_eq e, h10, hargs, va, vb, he, hx, hb, val, b2 hb]
      by_cases h11 : e.op = 11
      · by_cases hx : (val l k a).1 = 1
        · simp [eX_eq e, h11, hargs, va, he, hx, val]
        · by_cases hb : (val l k b).2 = 0
          · simp [eX_eq e, h11, hargs, va, vb, he, hx, hb, val]
          · simp [eX_eq e, h11, hargs, va, vb, he, hx, hb, val, b2 hb]
      by_cases hb : (val l k b).2 = 0
      · obtain ⟨m1, m2, m3, m4⟩ := mul_le a1 b1
        have hw1 := wrap64 m1 m2
        have hw2 := wrap64 m3 m4
        by_cases h3 : e.op = 3
        · simp [eX_eq e, h3, hargs, va, vb, he, hb, val, comb, number_run, hw1]
        by_cases h4 : e.op = 4
        · simp [eX_eq e, h4, hargs, va, vb, he, hb, val, comb, number_run, hw2]
        by_cases h5 : e.op = 5
        · have hp := product_run _ _ a1 b1
          by_cases hq : bnd' ((val l k a).1 * (val l k b).1) = true
          · simp [lim, hq] at hp
            simp [eX_eq e, h5, hargs, va, vb, he, hb, val, comb, lim, hq, hp]
          · simp [lim, hq] at hp
            simp [eX_eq e, h5, hargs, va, vb, he, hb, val, comb, lim, hq, hp]
        by_cases h6 : e.op = 6
        · simp [eX_eq e, h6, hargs, va, vb, he, hb, val, comb, bit_run]
        by_cases h7 : e.op = 7
        · simp [eX_eq e, h7, hargs, va, vb, he, hb, val, comb, bit_run]
        have h8 : e.op = 8 := by omega
        simp [eX_eq e, h8, hargs, va, vb, he, hb, val, comb, bit_run]
      · simp [eX_eq e, h1, h2, h9, h10, h11, hargs, va, vb, he, hb, val]
    · simp [eX_eq e, h1, h2, h9, hargs, va, he, val]
end Go.Proofs.YtldekjlihfidlaaGreatDoor.Rl
