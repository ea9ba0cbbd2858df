/-
  The reference's ledger, run abstractly: new, sums, balances.
-/
import Derived.Test.YtgngoijehjphoaaDoorLgH
import Derived.Test.YtgngoijehjphoaaDoorLgF
namespace Go.Proofs.YtgngoijehjphoaaDoor
set_option linter.unusedSimpArgs false
set_option linter.unusedVariables false
open Go Go.Abs
set_option maxHeartbeats 8000000
set_option maxRecDepth 100000
/-- The first error of accounts, behind accounts. -/
def newP (p : List ByteArray) : List ByteArray → Int
  | [] => 0
  | a :: r => if isNm a = true then (if hasK a p = true then 7 else newP (p ++ [a]) r) else 6
theorem newE_P : ∀ (l p : List ByteArray), newE (p.map fun a => (a, 0)) l = newP p l
  | [], _ => rfl
  | a :: r, p => by
    have ih := newE_P r (p ++ [a])
    have e := balO_L (fun _ => 0) a p
    simp only [List.map_append, List.map_cons, List.map_nil] at ih
    simp only [newE, newP, ih]
    rw [e]
    cases hasK a p <;> simp
theorem newL_P : ∀ (l p : List ByteArray), newL (p.map fun a => (a, (0 : Int))) l = (p ++ l).map fun a => (a, 0)
  | [], p => by simp [newL]
  | a :: r, p => by
    have ih := newL_P r (p ++ [a])
    simp only [List.map_append, List.map_cons, List.map_nil, List.append_assoc] at ih
    simp only [newL, ih]
    simp
theorem hasK_snoc {a x : ByteArray} : ∀ {l : List ByteArray}, hasK a (l ++ [x]) = (hasK a l || decide (a = x))
  | [] => by by_cases h : a = x <;> simp [hasK, h]
  | y :: r => by
    have ih := hasK_snoc (a := a) (x := x) (l := r)
    simp only [List.cons_append, hasK, ih]
    split <;> simp
theorem newRI_loop (l : List ByteArray) (hl : l.length ≤ 1000) (i : Nat) (hi : i < l.length) : ∀ (n k : Nat), k ≤ i → i - k < n →
    L_ref51_New 9 n ⟨[(0, .sl (l.map eNm)), (2, .ptr 2 0), (3, .any), (4, I i), (5, I k)], [(2, .box 31 [.emp, .emp])]⟩ =
      if hasK l[i] ((l.take i).drop k) = true then some (.ret, ⟨[(0, .any), (2, .ptr 2 0), (3, I 7), (4, .any), (5, .any)], [(2, .box 31 [.emp, .emp])]⟩)
      else some (.ex 2, ⟨[(0, .sl (l.map eNm)), (2, .ptr 2 0), (3, .any), (4, I i), (5, .any)], [(2, .box 31 [.emp, .emp])]⟩) := by
  intro n
  induction n with
  | zero => intro k hk hn; omega
  | succ n ih =>
    intro k hk hn
    rw [L_ref51_New_succ, R_ref51_New_eq]
    by_cases h : k = i
    · subst h
      have e : (l.take k).drop k = [] := by simp
      simp [e, hasK]
    · have hki : k < i := by omega
      have h1 : (k : Int) < i := by omega
      have g1 : l[k]? = some (l[k]'(by omega)) := List.getElem?_eq_getElem (by omega)
      have g2 : l[i]? = some l[i] := List.getElem?_eq_getElem hi
      have hd : (l.take i).drop k = l[k]'(by omega) :: (l.take i).drop (k + 1) := by
        rw [List.drop_eq_getElem_cons (by simp; omega)]
        simp
      have hw := wrapN (n := k) (by omega)
      have ih' := ih (k + 1) (by omega) (by omega)
      simp only [Int.natCast_add, Int.cast_ofNat_Int] at ih'
      rw [hd]
      generalize l[i] = a at *
      generalize l[k]'(by omega) = c at *
      by_cases hc : a = c
      · subst hc
        simp [h1, g1, g2, hasK]
      · have hc' : ¬ c = a := fun e => hc e.symm
        simp [h1, g1, g2, hasK, hc, hc', hw]
        simpa using ih'
theorem newR_loop (l : List ByteArray) (hl : l.length ≤ 1000) : ∀ (n i : Nat) (r : List ByteArray), l.drop i = r → r.length < n →
    L_ref51_New 4 n ⟨[(0, .sl (l.map eNm)), (2, .ptr 2 0), (3, .any), (4, I i), (5, .any)], [(2, .box 31 [.emp, .emp])]⟩ =
      if newP (l.take i) r = 0 then some (.ex 0, ⟨[(0, .sl (l.map eNm)), (2, .ptr 2 0), (3, .any), (4, .any), (5, .any)], [(2, .box 31 [.emp, .emp])]⟩)
      else some (.ret, ⟨[(0, .any), (2, .ptr 2 0), (3, I (newP (l.take i) r)), (4, .any), (5, .any)], [(2, .box 31 [.emp, .emp])]⟩) := by
  intro n
  induction n with
  | zero => intro i r hr hn; omega
  | succ n ih =>
    intro i r hr hn
    rw [L_ref51_New_succ, R_ref51_New_eq]
    cases r with
    | nil =>
      have h2 := dnG hr
      simp [h2, newP]
    | cons a r =>
      obtain ⟨h1, h3, hr', hi⟩ := dcG hr
      have hw := wrapN (n := i) (by omega)
      simp only [List.length_cons] at hn
      have ih' := ih (i + 1) r hr' (by omega)
      have ht : l.take (i + 1) = l.take i ++ [a] := by rw [List.take_add_one, h1]; rfl
      rw [ht] at ih'
      simp only [Int.natCast_add, Int.cast_ofNat_Int] at ih'
      have hin := newRI_loop l hl i hi bigL 0 (by omega) (by have := bigL_ge; omega)
      have ha : l[i] = a := by
        have := List.getElem?_eq_getElem hi
        rw [h1] at this
        exact (Option.some.inj this).symm
      rw [ha] at hin
      simp at hin
      have hnm := rname_run a
      cases c1 : isNm a
      · rw [c1] at hnm
        simp [h1, h3, hnm, newP, c1]
      · rw [c1] at hnm
        cases c2 : hasK a (l.take i)
        · rw [c2] at hin
          simp at hin
          simp [h1, h3, hnm, newP, c1, c2, hin, hw]
          simpa using ih'
        · rw [c2] at hin
          simp at hin
          simp [h1, h3, hnm, newP, c1, c2, hin]
theorem newR_run (l : List ByteArray) : F_ref51_New [.sl (l.map eNm)] = some (if 64 < (l.length : Int) then .tup [.agg [.own true [], .own true []], I 4] else if newP [] l = 0 then .tup [.agg [.own true (l.map eNm), .own true []], I 0] else .tup [.agg [.own true [], .own true []], I (newP [] l)]) := by
  rw [F_ref51_New_eq]
  by_cases h : 64 < (l.length : Int)
  · simp [h]
  · have ih := newR_loop l (by omega) bigL 0 l rfl (by have := bigL_ge; omega)
    simp at ih
    by_cases h0 : newP [] l = 0
    · simp [h0] at ih
      have hsz : l.length * 17 ≤ 140737488355328 := by omega
      simp [h, ih, h0, hsz]
    · simp [h0] at ih
      simp [h, ih, h0]
theorem has_loop (l : List ByteArray) (en : List (List D)) (hl : l.length ≤ 1000) (a : ByteArray) : ∀ (n i : Nat) (r : List ByteArray), l.drop i = r → r.length < n →
    L_ref51_L_has 2 n ⟨[(0, .any), (1, S a), (2, .ptr 2 0), (4, .any), (5, I i)], [(2, .box 31 [.sl (l.map eNm), .sl en])]⟩ =
      if hasK a r = true then some (.ret, ⟨[(0, .any), (1, .any), (2, .any), (4, B true), (5, .any)], []⟩) else some (.ex 0, ⟨[(0, .any), (1, .any), (2, .any), (4, .any), (5, .any)], []⟩) := by
  intro n
  induction n with
  | zero => intro i r hr hn; omega
  | succ n ih =>
    intro i r hr hn
    rw [L_ref51_L_has_succ, R_ref51_L_has_eq]
    cases r with
    | nil =>
      have h2 := dnG hr
      simp [h2, hasK]
    | cons x r =>
      obtain ⟨h1, h3, hr', hi⟩ := dcG hr
      have hw := wrapN (n := i) (by omega)
      simp only [List.length_cons] at hn
      have ih' := ih (i + 1) r hr' (by omega)
      simp only [Int.natCast_add, Int.cast_ofNat_Int] at ih'
      by_cases hc : a = x
      · subst hc
        simp [h1, h3, hasK]
      · have hc' : ¬ x = a := fun e => hc e.symm
        simp [h1, h3, hasK, hc, hc', hw]
        simpa using ih'
theorem has_run (l : List ByteArray) (en : List (List D)) (hl : l.length ≤ 1000) (a : ByteArray) : F_ref51_L_has [.agg [.sl (l.map eNm), .sl en], S a] = some (B (hasK a l)) := by
  rw [F_ref51_L_has_eq]
  have ih := has_loop l en hl a bigL 0 l rfl (by have := bigL_ge; omega)
  cases c : hasK a l <;> simp [c] at ih <;> simp [ih]
theorem great_run (n : Int) : F_ref51_great [I n] = some (B (outB n)) := by
  rw [F_ref51_great_eq]; simp [outB]
/-- The sum of an account's amounts, as the machine adds. -/
def sumW (a : ByteArray) (s : Int) : List Pst → Int
  | [] => s
  | p :: r => sumW a (if p.acc = a then IntKind.i64.wrap (s + p.amt) else s) r
theorem sum_loop (l : List Pst) (hl : l.length ≤ 1000000) (a : ByteArray) : ∀ (n i : Nat) (r : List Pst) (s : Int), l.drop i = r → r.length < n →
    L_ref51_sum 3 n ⟨[(0, .sl (l.map ePs)), (1, S a), (4, .any), (5, I s), (6, I i)], []⟩ = some (.ex 0, ⟨[(0, .any), (1, .any), (4, .any), (5, I (sumW a s r)), (6, .any)], []⟩) := by
  intro n
  induction n with
  | zero => intro i r s hr hn; omega
  | succ n ih =>
    intro i r s hr hn
    rw [L_ref51_sum_succ, R_ref51_sum_eq]
    cases r with
    | nil =>
      have h2 := dnG hr
      simp [h2, sumW]
    | cons p r =>
      obtain ⟨h1, h3, hr', hi⟩ := dcG hr
      have hw := wrapN (n := i) (by omega)
      simp only [List.length_cons] at hn
      have ih' := ih (i + 1) r (if p.acc = a then IntKind.i64.wrap (s + p.amt) else s) hr' (by omega)
      simp only [Int.natCast_add, Int.cast_ofNat_Int] at ih'
      by_cases hc : p.acc = a
      · rw [if_pos hc] at ih'
        simp [h1, h3, sumW, hc, hw]
        simpa using ih'
      · rw [if_neg hc] at ih'
        simp [h1, h3, sumW, hc, hw]
        simpa using ih'
theorem sum_run (l : List Pst) (hl : l.length ≤ 1000000) (a : ByteArray) : F_ref51_sum [.sl (l.map ePs), S a] = some (I (sumW a 0 l)) := by
  rw [F_ref51_sum_eq]
  have ih := sum_loop l hl a bigL 0 l 0 rfl (by have := bigL_ge; omega)
  simp at ih
  simp [ih]
def balW (a : ByteArray) (s : Int) : List Ent → Int
  | [] => s
  | x :: r => balW a (IntKind.i64.wrap (s + sumW a 0 x.ps)) r
theorem balR_loop (l : List ByteArray) (en : List Ent) (hl : en.length ≤ 1000000) (hp : ∀ x ∈ en, x.ps.length ≤ 1000000) (a : ByteArray) : ∀ (n i : Nat) (r : List Ent) (s : Int), en.drop i = r → r.length < n →
    L_ref51_L_Balance 3 n ⟨[(0, .any), (1, S a), (2, .ptr 2 0), (4, .any), (5, I s), (6, I i)], [(2, .box 31 [.sl (l.map eNm), .sl (en.map eEn)])]⟩ = some (.ex 0, ⟨[(0, .any), (1, .any), (2, .any), (4, .any), (5, I (balW a s r)), (6, .any)], []⟩) := by
  intro n
  induction n with
  | zero => intro i r s hr hn; omega
  | succ n ih =>
    intro i r s hr hn
    rw [L_ref51_L_Balance_succ, R_ref51_L_Balance_eq]
    cases r with
    | nil =>
      have h2 := dnG hr
      simp [h2, balW]
    | cons x r =>
      obtain ⟨h1, h3, hr', hi⟩ := dcG hr
      have hw := wrapN (n := i) (by omega)
      simp only [List.length_cons] at hn
      have ih' := ih (i + 1) r (IntKind.i64.wrap (s + sumW a 0 x.ps)) hr' (by omega)
      simp only [Int.natCast_add, Int.cast_ofNat_Int] at ih'
      have hs := sum_run x.ps (hp x (List.mem_of_getElem? h1)) a
      simp [h1, h3, balW, hs, hw]
      simpa using ih'
theorem balR_run (l : List ByteArray) (en : List Ent) (hl : en.length ≤ 1000000) (hp : ∀ x ∈ en, x.ps.length ≤ 1000000) (a : ByteArray) : F_ref51_L_Balance [.agg [.sl (l.map eNm), .sl (en.map eEn)], S a] = some (I (balW a 0 en)) := by
  rw [F_ref51_L_Balance_eq]
  have ih := balR_loop l en hl hp a bigL 0 en 0 rfl (by have := bigL_ge; omega)
  simp at ih
  simp [ih]

theorem sumW_eq {a : ByteArray} : ∀ {ps : List Pst} {s : Int} {k : Nat}, (∀ p ∈ ps, outB p.amt = false) → -(72057594037927936 * (k : Int)) ≤ s → s ≤ 72057594037927936 * (k : Int) → k + ps.length ≤ 120 → sumW a s ps = s + sumP a ps
  | [], s, k, _, _, _, _ => by simp [sumW, sumP]
  | p :: r, s, k, h, h1, h2, hk => by
    have hp := outB_iff.1 (h p (by simp))
    have ht : ∀ q ∈ r, outB q.amt = false := fun q hq => h q (by simp [hq])
    simp only [List.length_cons] at hk
    simp only [sumW, sumP]
    by_cases hc : p.acc = a
    · rw [if_pos hc, if_pos hc, wrap64 (by omega) (by omega), sumW_eq (k := k + 1) ht (by omega) (by omega) (by omega)]
      omega
    · rw [if_neg hc, if_neg hc, sumW_eq (k := k) ht h1 h2 (by omega)]
      omega
theorem balW_app (a : ByteArray) : ∀ (p q : List Ent) (s : Int), balW a s (p ++ q) = balW a (balW a s p) q
  | [], q, s => rfl
  | x :: r, q, s => by simp only [List.cons_append, balW, balW_app a r q]
theorem Lg.balW {accs : List ByteArray} {en : List Ent} (h : Lg accs en) (a : ByteArray) : balW a 0 en = balE a en := by
  induction h with
  | nil => rfl
  | @snoc en x h hx ih =>
    rw [balW_app, balE_snoc, ih]
    have hb := h.bound a
    have hb2 := (Lg.snoc h hx).bound a
    rw [balE_snoc] at hb2
    obtain ⟨_, _, _, _, _, _, _, h8, h9, _⟩ := errP_0 hx
    simp only [Proofs.YtgngoijehjphoaaDoor.balW]
    rw [sumW_eq (k := 0) (fun p hp => (pstP_0.1 h9 p hp).2) (by omega) (by omega) (by omega), Int.zero_add]
    exact wrap64 (by omega) (by omega)
end Go.Proofs.YtgngoijehjphoaaDoor
