/-
  The names that an expression mentions, run abstractly: in the program (sorted, of equal ones one) and in the reference (each put into its place).
-/
import Derived.Test.YtldekjlihfidlaaGreatDoorRlE
namespace Go.Proofs.YtldekjlihfidlaaGreatDoor.Rl
set_option linter.unusedSimpArgs false
set_option linter.unusedVariables false
open Go Go.Abs
set_option maxHeartbeats 4000000
set_option maxRecDepth 100000
def mentL (c : Ex → List ByteArray) : List Ex → List ByteArray
  | [] => []
  | a :: r => c a ++ mentL c r
/-- The names in so many levels of an expression. -/
def ment : Nat → Ex → List ByteArray
  | 0, _ => []
  | k + 1, e => (if e.op = 2 then [e.name] else []) ++ mentL (ment k) e.args
theorem mentL_le {c : Ex → List ByteArray} {d : Ex → Nat} (h : ∀ a, (c a).length ≤ d a) : ∀ l : List Ex, (mentL c l).length ≤ nodesL d l
  | [] => Nat.le_refl _
  | a :: r => by
    have := mentL_le h r
    have := h a
    simp only [mentL, nodesL, List.length_append]
    omega
theorem ment_le : ∀ (k : Nat) (e : Ex), (ment k e).length ≤ nodes k e
  | 0, _ => Nat.le_refl _
  | k + 1, e => by
    have := mentL_le (ment_le k) e.args
    simp only [ment, nodes, List.length_append]
    split <;> simp <;> omega
theorem nodesL_mem {d : Ex → Nat} : ∀ {l : List Ex} {a : Ex}, a ∈ l → d a ≤ nodesL d l
  | x :: r, a, h => by
    simp only [nodesL]
    rcases List.mem_cons.1 h with rfl | h
    · omega
    · have := nodesL_mem (d := d) h
      omega
@[simp] theorem eS_len (l : List ByteArray) : (l.map eS).all (fun c => c.length == 1) = true := by simp
@[simp] theorem eS_flat (l : List ByteArray) : flat (l.map eS) = true := by simp [flat]
theorem ment_loop (sf : List D → Option D) (c : Ex → List ByteArray) (e : Ex) (lv : Int) (hl : e.args.length ≤ 9223372036854775807) (hlv : -1000 ≤ lv ∧ lv ≤ 8) (hsf : ∀ a ∈ e.args, sf [.agg (eX a), I (lv + 1)] = some (.own true ((c a).map eS))) : ∀ (n i : Nat) (r : List (Ex)) (acc : List ByteArray), e.args.drop i = r → r.length < n → acc.length + (mentL c r).length ≤ 1000000 →
    L_rule_mentioned sf 7 n ⟨[(0, .any), (1, I lv), (2, .any), (4, .any), (5, .row 5), (7, .any), (19, .sl (e.args.map eX)), (20, I e.args.length), (21, I i)], [(5, .row 9 1 true (acc.map eS))]⟩ =
      some (.ex 0, ⟨[(0, .any), (1, .any), (2, .any), (4, .any), (5, .row 5), (7, .any), (19, .any), (20, .any), (21, .any)], [(5, .row 9 1 true ((acc ++ mentL c r).map eS))]⟩)
  | 0, _, _, _, _, hn, _ => by omega
  | n + 1, i, [], acc, hr, hn, hb => by
    rw [L_rule_mentioned_succ, R_rule_mentioned_eq]
    simp [dn hr, mentL]
  | n + 1, i, x :: r, acc, hr, hn, hb => by
    rw [L_rule_mentioned_succ, R_rule_mentioned_eq]
    obtain ⟨h1, h3, hr', hi⟩ := dc (enc := eX) hr
    have hw := wrapN (n := i) (by omega)
    have ih := ment_loop sf c e lv hl hlv hsf n (i + 1) r (acc ++ c x) hr' (by simp at hn; omega)
    skip
    have h5 := hsf x (by rw [← List.take_append_drop i e.args, hr]; simp)
    have hw2 : IntKind.i64.wrap (lv + 1) = lv + 1 := wrap64 (by omega) (by omega)
    simp only [mentL, List.length_append] at hb
    have h4 : (acc.length + (c x).length) * 17 ≤ 140737488355328 := by omega
    have ih := ih (by simp only [List.length_append]; omega)
    simp at ih
    simp [h1, h3, hw, h5, hw2, h4, mentL, ih]
theorem mentO_loop (c : Ex → List ByteArray) (e : Ex) (lv : Int) (hl : e.args.length ≤ 9223372036854775807) (hlv : -1000 ≤ lv ∧ lv ≤ 8) (hsf : ∀ a ∈ e.args, F_rule_mentioned [.agg (eX a), I (lv + 1)] = some (.own true ((c a).map eS))) : ∀ (n i : Nat) (r : List (Ex)) (acc : List ByteArray), e.args.drop i = r → r.length < n → acc.length + (mentL c r).length ≤ 1000000 →
    L_rule_mentioned_obj 7 n ⟨[(0, .any), (1, I lv), (2, .any), (4, .any), (5, .row 5), (7, .any), (19, .sl (e.args.map eX)), (20, I e.args.length), (21, I i)], [(5, .row 9 1 true (acc.map eS))]⟩ =
      some (.ex 0, ⟨[(0, .any), (1, .any), (2, .any), (4, .any), (5, .row 5), (7, .any), (19, .any), (20, .any), (21, .any)], [(5, .row 9 1 true ((acc ++ mentL c r).map eS))]⟩)
  | 0, _, _, _, _, hn, _ => by omega
  | n + 1, i, [], acc, hr, hn, hb => by
    rw [L_rule_mentioned_obj_succ, R_rule_mentioned_obj_eq]
    simp [dn hr, mentL]
  | n + 1, i, x :: r, acc, hr, hn, hb => by
    rw [L_rule_mentioned_obj_succ, R_rule_mentioned_obj_eq]
    obtain ⟨h1, h3, hr', hi⟩ := dc (enc := eX) hr
    have hw := wrapN (n := i) (by omega)
    have ih := mentO_loop c e lv hl hlv hsf n (i + 1) r (acc ++ c x) hr' (by simp at hn; omega)
    skip
    have h5 := hsf x (by rw [← List.take_append_drop i e.args, hr]; simp)
    have hw2 : IntKind.i64.wrap (lv + 1) = lv + 1 := wrap64 (by omega) (by omega)
    simp only [mentL, List.length_append] at hb
    have h4 : (acc.length + (c x).length) * 17 ≤ 140737488355328 := by omega
    have ih := ih (by simp only [List.length_append]; omega)
    simp at ih
    simp [h1, h3, hw, h5, hw2, h4, mentL, ih]
theorem ment_run : ∀ (k m : Nat) (e : Ex) (lv : Int), Fits e → nodes k e ≤ 1000000 → k < m → lv = 9 - (k : Int) → -1000 ≤ lv → FN_rule_mentioned m [.agg (eX e), I lv] = some (.own true ((ment k e).map eS)) := by
  intro k
  induction k with
  | zero =>
    intro m e lv hf hb hm hlv _
    obtain ⟨m, rfl⟩ : ∃ q, m = q + 1 := ⟨m - 1, by omega⟩
    subst hlv
    rw [FN_rule_mentioned_eq]
    simp [ment]
  | succ k ih =>
    intro m e lv hf hb hm hlv hlow
    obtain ⟨m, rfl⟩ : ∃ q, m = q + 1 := ⟨m - 1, by omega⟩
    rw [FN_rule_mentioned_eq]
    have h8 : ¬ 8 < lv := by omega
    have hbig := bigL_ge
    obtain ⟨ho, hn, hs, hl, ha⟩ := hf
    have hle := mentL_le (ment_le k) e.args
    simp only [nodes] at hb
    have hA := fun acc hacc => ment_loop (FN_rule_mentioned m) (ment k) e lv hl ⟨by omega, by omega⟩ (fun a h => ih m a (lv + 1) (ha a h) (by have := nodesL_mem (d := nodes k) h; omega) (by omega) (by omega) (by omega)) bigL 0 e.args acc rfl (by omega) hacc
    by_cases h2 : e.op = 2
    · have hA := hA [e.name] (by simp; omega)
      simp at hA
      simp [h8, h2, hA, ment]
    · have hA := hA [] (by simp; omega)
      simp at hA
      simp [h8, h2, hA, ment]
theorem mentO_run (e : Ex) (hf : Fits e) (hb : nodes 8 e ≤ 1000000) : E_rule_mentioned_obj [] [.agg (eX e), I 1] = some (.row 5, [(5, .row 9 1 true ((ment 8 e).map eS))]) := by
  rw [E_rule_mentioned_obj_eq]
  have hbig := bigL_ge
  obtain ⟨ho, hn, hs, hl, ha⟩ := hf
  have hle := mentL_le (ment_le 7) e.args
  have hb : 1 + nodesL (nodes 7) e.args ≤ 1000000 := hb
  have hA := fun acc hacc => mentO_loop (ment 7) e 1 hl ⟨by omega, by omega⟩ (fun a h => ment_run 7 1000 a (1 + 1) (ha a h) (by have := nodesL_mem (d := nodes 7) h; omega) (by omega) (by omega) (by omega)) bigL 0 e.args acc rfl (by omega) hacc
  by_cases h2 : e.op = 2
  · have hA := hA [e.name] (by simp; omega)
    simp at hA
    simp [h2, hA, ment]
  · have hA := hA [] (by simp; omega)
    simp at hA
    simp [h2, hA, ment]
theorem Uses_run (e : Ex) (hf : Fits e) (hb : nodes 8 e ≤ 1000000) : F_rule_Uses [.agg (eX e)] = some (.own true ((compactS (sortS (ment 8 e))).map eS)) := by
  rw [F_rule_Uses_eq]
  have hle := ment_le 8 e
  have hs := E_sortS_eq 9 true (ment 8 e) (by omega)
  have hc := E_compactS_eq 9 true (sortS (ment 8 e)) (by rw [sortS_length]; omega)
  simp [mentO_run e hf hb, hs, hc]
/-! ### The reference -/
/-- Whether a string is above another. -/
def gtS (a b : ByteArray) : Bool := decide (Op.bytesLess a.toList b.toList = false ∧ ¬ a = b)
def addL (x : ByteArray) : Bool → List ByteArray → List ByteArray
  | d, [] => if d = true then [] else [x]
  | d, s :: r => if d = true then s :: addL x true r else if gtS s x = true then x :: s :: addL x true r else s :: addL x false r
def bodyL (x : ByteArray) : Bool → List ByteArray → List ByteArray
  | _, [] => []
  | d, s :: r => if d = true then s :: bodyL x true r else if gtS s x = true then x :: s :: bodyL x true r else s :: bodyL x false r
def doneOf (x : ByteArray) : Bool → List ByteArray → Bool
  | d, [] => d
  | d, s :: r => if d = true then doneOf x true r else if gtS s x = true then doneOf x true r else doneOf x false r
theorem addL_body (x : ByteArray) : ∀ (l : List ByteArray) (d : Bool), addL x d l = if doneOf x d l = true then bodyL x d l else bodyL x d l ++ [x]
  | [], d => by cases d <;> rfl
  | s :: r, d => by
    have h1 := addL_body x r true
    have h2 := addL_body x r false
    unfold addL bodyL doneOf
    cases d
    · simp only [Bool.false_eq_true, if_false]
      split
      · rw [h1]; split <;> simp
      · rw [h2]; split <;> simp
    · simp only [if_true]
      rw [h1]; split <;> simp
theorem bodyL_le (x : ByteArray) : ∀ (l : List ByteArray) (d : Bool), (bodyL x d l).length ≤ 2 * l.length
  | [], d => by simp [bodyL]
  | s :: r, d => by
    have h1 := bodyL_le x r true
    have h2 := bodyL_le x r false
    unfold bodyL
    split
    · simp; omega
    · split <;> simp <;> omega
def addS (l : List ByteArray) (x : ByteArray) : List ByteArray := addL x (hasS l x) l
theorem addL_le (x : ByteArray) : ∀ (l : List ByteArray) (d : Bool), (addL x d l).length ≤ l.length + 1
  | [], d => by unfold addL; split <;> simp
  | s :: r, d => by
    unfold addL
    have h1 := addL_le x r true
    have h2 := addL_le x r false
    have h3 : ∀ (l : List ByteArray), (addL x true l).length = l.length := by
      intro l
      induction l with
      | nil => rfl
      | cons s r ih => simp [addL, ih]
    have := h3 r
    split
    · simp; omega
    · split
      · simp; omega
      · simp; omega
theorem add_loop (l : List ByteArray) (x : ByteArray) (hl : l.length ≤ 1000000) : ∀ (n i : Nat) (r : List (ByteArray)) (acc : List ByteArray) (d : Bool), l.drop i = r → r.length < n → acc.length ≤ 2 * i →
    L_ref43_add 4 n ⟨[(0, .sl (l.map eS)), (1, St' x), (4, .any), (5, .row 5), (6, B d), (7, I i)], [(5, .row 9 1 true (acc.map eS))]⟩ =
      some (.ex 0, ⟨[(0, .any), (1, St' x), (4, .any), (5, .row 5), (6, B (doneOf x d r)), (7, .any)], [(5, .row 9 1 true ((acc ++ bodyL x d r).map eS))]⟩)
  | 0, _, _, _, _, _, hn, _ => by omega
  | n + 1, i, [], acc, d, hr, hn, ha => by
    rw [L_ref43_add_succ, R_ref43_add_eq]
    cases d <;> simp [dn hr, bodyL, doneOf]
  | n + 1, i, y :: r, acc, d, hr, hn, ha => by
    rw [L_ref43_add_succ, R_ref43_add_eq]
    obtain ⟨h1, h3, hr', hi⟩ := dc (enc := eS) hr
    have hw := wrapN (n := i) (by omega)
    have h4 : (acc.length + 1) * 17 ≤ 140737488355328 := by omega
    have h5 : (acc.length + 1 + 1) * 17 ≤ 140737488355328 := by omega
    cases d with
    | true =>
      have ih := add_loop l x hl n (i + 1) r (acc ++ [y]) true hr' (by simp at hn; omega) (by simp; omega)
      simp at ih
      simp [h1, h3, hw, h4, bodyL, doneOf, ih]
    | false =>
      by_cases g : gtS y x = true
      · have g' := g
        simp [gtS] at g'
        have ih := add_loop l x hl n (i + 1) r (acc ++ [x, y]) true hr' (by simp at hn; omega) (by simp; omega)
        simp at ih
        simp [h1, h3, hw, h4, h5, bodyL, doneOf, g, g', ih]
      · have g' := g
        simp only [gtS, decide_eq_true_eq] at g'
        have ih := add_loop l x hl n (i + 1) r (acc ++ [y]) false hr' (by simp at hn; omega) (by simp; omega)
        simp at ih
        simp [h1, h3, hw, h4, bodyL, doneOf, g, g', ih]
theorem add_run (l : List ByteArray) (x : ByteArray) (hl : l.length ≤ 1000000) : F_ref43_add [.sl (l.map eS), St' x] = some (.own true ((addS l x).map eS)) := by
  rw [F_ref43_add_eq]
  have hbig := bigL_ge
  have ih := add_loop l x hl bigL 0 l [] (hasS l x) rfl (by omega) (by simp)
  simp at ih
  have e := addL_body x l (hasS l x)
  have hle := bodyL_le x l (hasS l x)
  have h4 : ((bodyL x (hasS l x) l).length + 1) * 17 ≤ 140737488355328 := by omega
  cases hd : doneOf x (hasS l x) l <;> simp [hd] at ih e <;> simp [rin_run l x (by omega), ih, hd, h4, addS, e]
/-- Each name in its place. -/
def addAll : List ByteArray → List ByteArray → List ByteArray
  | l, [] => l
  | l, x :: r => addAll (addS l x) r
theorem addAll_append : ∀ (l a b : List ByteArray), addAll l (a ++ b) = addAll (addAll l a) b
  | l, [], b => rfl
  | l, x :: r, b => addAll_append (addS l x) r b
theorem addAll_le : ∀ (l a : List ByteArray), (addAll l a).length ≤ l.length + a.length
  | l, [] => by simp [addAll]
  | l, x :: r => by
    have h1 := addAll_le (addS l x) r
    have h2 := addL_le x l (hasS l x)
    simp only [addAll, List.length_cons, addS] at h1 ⊢
    omega
theorem uses_loop (sf : List D → Option D) (c : Ex → List ByteArray) (e : Ex) (lv : Int) (hl : e.args.length ≤ 9223372036854775807) (hlv : -1000 ≤ lv ∧ lv ≤ 8) (b : Ex → Nat) (hcb : ∀ a, (c a).length ≤ b a) (hsf : ∀ a ∈ e.args, ∀ q : List ByteArray, q.length + b a ≤ 1000000 → ∃ d', (d' = .own true ((addAll q (c a)).map eS) ∨ d' = .sl ((addAll q (c a)).map eS)) ∧ sf [.agg (eX a), I (lv + 1), .sl (q.map eS)] = some d') : ∀ (n i : Nat) (r : List (Ex)) (q : List ByteArray) (dq : D), e.args.drop i = r → r.length < n → q.length + nodesL b r ≤ 1000000 → (dq = .own true (q.map eS) ∨ dq = .sl (q.map eS)) →
    ∃ dr, (dr = .own true ((addAll q (mentL c r)).map eS) ∨ dr = .sl ((addAll q (mentL c r)).map eS)) ∧ L_ref43_uses sf 6 n ⟨[(0, .any), (1, I lv), (2, dq), (3, .ptr 3 0), (6, .any), (7, I i)], [(3, .box 46 (eX e))]⟩ =
      some (.ex 0, ⟨[(0, .any), (1, .any), (2, dr), (3, .any), (6, .any), (7, .any)], []⟩)
  | 0, _, _, _, _, _, hn, _, _ => by omega
  | n + 1, i, [], q, dq, hr, hn, hb, hdq => by
    simp only [mentL, addAll]
    rw [L_ref43_uses_succ, R_ref43_uses_eq]
    exact ⟨dq, hdq, by rcases hdq with rfl | rfl <;> simp [dn hr]⟩
  | n + 1, i, x :: r, q, dq, hr, hn, hb, hdq => by
    rw [L_ref43_uses_succ, R_ref43_uses_eq]
    obtain ⟨h1, h3, hr', hi⟩ := dc (enc := eX) hr
    have hw := wrapN (n := i) (by omega)
    simp only [nodesL] at hb
    have hle := addAll_le q (c x)
    have hcx := hcb x
    obtain ⟨d', hd', h5⟩ := hsf x (by rw [← List.take_append_drop i e.args, hr]; simp) q (by omega)
    have hw2 : IntKind.i64.wrap (lv + 1) = lv + 1 := wrap64 (by omega) (by omega)
    rw [mentL, addAll_append]
    obtain ⟨dr, e1, e2⟩ := uses_loop sf c e lv hl hlv b hcb hsf n (i + 1) r (addAll q (c x)) d' hr' (by simp at hn; omega) (by omega) hd'
    refine ⟨dr, e1, ?_⟩
    simp at e2
    rcases hdq with rfl | rfl <;> rcases hd' with rfl | rfl <;> simp [h1, h3, hw, h5, hw2, e2]
theorem uses_run : ∀ (k m : Nat) (e : Ex) (lv : Int) (q : List ByteArray), Fits e → q.length + nodes k e ≤ 1000000 → k < m → lv = 9 - (k : Int) → -1000 ≤ lv →
    ∃ d', (d' = .own true ((addAll q (ment k e)).map eS) ∨ d' = .sl ((addAll q (ment k e)).map eS)) ∧ FN_ref43_uses m [.agg (eX e), I lv, .sl (q.map eS)] = some d' := by
  intro k
  induction k with
  | zero =>
    intro m e lv q hf hb hm hlv _
    obtain ⟨m, rfl⟩ : ∃ q, m = q + 1 := ⟨m - 1, by omega⟩
    subst hlv
    refine ⟨_, .inr rfl, ?_⟩
    rw [FN_ref43_uses_eq]
    simp [ment, addAll]
  | succ k ih =>
    intro m e lv q hf hb hm hlv hlow
    obtain ⟨m, rfl⟩ : ∃ q, m = q + 1 := ⟨m - 1, by omega⟩
    have h8 : ¬ 8 < lv := by omega
    have hbig := bigL_ge
    obtain ⟨ho, hn, hs, hl, ha⟩ := hf
    have hb : q.length + (1 + nodesL (nodes k) e.args) ≤ 1000000 := hb
    have hle := addL_le e.name q (hasS q e.name)
    have hA := fun p d' h1 h2 => uses_loop (FN_ref43_uses m) (ment k) e lv hl ⟨by omega, by omega⟩ (nodes k) (ment_le k) (fun a h p hp => ih m a (lv + 1) p (ha a h) hp (by omega) (by omega) (by omega)) bigL 0 e.args p d' rfl (by omega) h1 h2
    by_cases h2 : e.op = 2
    · obtain ⟨dr, e1, e2⟩ := hA (addS q e.name) (.own true ((addS q e.name).map eS)) (by unfold addS; omega) (.inl rfl)
      refine ⟨dr, ?_, ?_⟩
      · simp only [ment, h2, if_true, List.cons_append, List.nil_append, addAll]
        exact e1
      · rw [FN_ref43_uses_eq]
        simp at e2
        rcases e1 with rfl | rfl <;> simp [h8, h2, add_run q e.name (by omega), e2]
    · obtain ⟨dr, e1, e2⟩ := hA q (.sl (q.map eS)) (by omega) (.inr rfl)
      refine ⟨dr, ?_, ?_⟩
      · simp only [ment, h2, if_false, List.nil_append]
        exact e1
      · rw [FN_ref43_uses_eq]
        simp at e2
        rcases e1 with rfl | rfl <;> simp [h8, h2, e2]
theorem rUses_run (e : Ex) (hf : Fits e) (hb : nodes 8 e ≤ 1000000) : ∃ d', (d' = .own true ((addAll [] (ment 8 e)).map eS) ∨ d' = .sl ((addAll [] (ment 8 e)).map eS)) ∧ F_ref43_Uses [.agg (eX e)] = some d' := by
  obtain ⟨d', h1, h2⟩ := uses_run 8 1000 e 1 [] hf (by simpa using hb) (by omega) (by omega) (by omega)
  have h2 : F_ref43_uses [.agg (eX e), I 1, .sl []] = some d' := h2
  refine ⟨d', h1, ?_⟩
  rw [F_ref43_Uses_eq]
  rcases h1 with rfl | rfl <;> simp [h2]
end Go.Proofs.YtldekjlihfidlaaGreatDoor.Rl
