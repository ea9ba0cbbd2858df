/-
  The reference's answer whether a ledger is open, run abstractly.
-/
import Derived.Test.YtgngoijehjphoaaBoD
namespace Go.Proofs.Ytgngoijehjphoaa
set_option linter.unusedSimpArgs false
set_option linter.unusedVariables false
open Go Go.Abs
set_option maxHeartbeats 8000000
set_option maxRecDepth 100000
theorem amount_loop (l : List Pst) (hl : l.length ≤ 1000) (a : ByteArray) : ∀ (n i : Nat) (r : List Pst) (s v : Int), v = IntKind.i64.wrap s → l.drop i = r → r.length < n →
    L_ref52_Amount 3 n ⟨[(0, .sl (l.map ePs)), (1, S a), (4, .any), (5, I v), (6, I i)], []⟩ = some (.ex 0, ⟨[(0, .any), (1, .any), (4, .any), (5, I (IntKind.i64.wrap (s + sumP a r))), (6, .any)], []⟩) := by
  intro n
  induction n with
  | zero => intro i r s v _ hr hn; omega
  | succ n ih =>
    intro i r s v hv hr hn
    rw [L_ref52_Amount_succ, R_ref52_Amount_eq]
    cases r with
    | nil =>
      have h2 := dnG hr
      simp only [sumP, Int.add_zero, ← hv]
      simp [h2]
    | cons p r =>
      obtain ⟨h1, h3, hr', hi⟩ := dcG hr
      have hw := wrapN (n := i) (by omega)
      simp only [List.length_cons] at hn
      by_cases hc : p.acc = a
      · have ih' := ih (i + 1) r (s + p.amt) (IntKind.i64.wrap (v + p.amt)) (by rw [hv, wrap_add]) hr' (by omega)
        have e : s + sumP a (p :: r) = s + p.amt + sumP a r := by simp only [sumP, if_pos hc]; omega
        rw [e]
        simp only [Int.natCast_add, Int.cast_ofNat_Int] at ih'
        simp [h1, h3, hc, hw]
        simpa using ih'
      · have ih' := ih (i + 1) r s v hv hr' (by omega)
        have e : s + sumP a (p :: r) = s + sumP a r := by simp only [sumP, if_neg hc]; omega
        rw [e]
        simp only [Int.natCast_add, Int.cast_ofNat_Int] at ih'
        simp [h1, h3, hc, hw]
        simpa using ih'
theorem amount_run52 (l : List Pst) (hl : l.length ≤ 1000) (a : ByteArray) : F_ref52_Amount [.sl (l.map ePs), S a] = some (I (IntKind.i64.wrap (sumP a l))) := by
  rw [F_ref52_Amount_eq]
  have ih := amount_loop l hl a bigL 0 l 0 0 rfl rfl (by have := bigL_ge; omega)
  simp at ih
  simp [ih]
theorem notForest {a : ByteArray} (h : ¬ a = sForest) : ¬ a.toList = [102, 111, 114, 101, 115, 116] := by
  intro h2
  have hs := str_eq a sForest
  rw [h2, show sForest.toList = [102, 111, 114, 101, 115, 116] by simp] at hs
  simp [h] at hs
/-- Whether an account but the forest has less than nothing. -/
def negR (en : List Ent) : List ByteArray → Bool
  | [] => false
  | a :: r => if balE a en < 0 ∧ a ≠ sForest then true else negR en r
theorem negR_L (en : List Ent) : negL en 0 acc8 = negR en acc8 := by
  simp only [acc8, negL, negR]
  have h1 : sLogs ≠ sForest := by decide
  have h2 : sGreen ≠ sForest := by decide
  have h3 : sDry ≠ sForest := by decide
  have h4 : sChips ≠ sForest := by decide
  have h5 : sDust ≠ sForest := by decide
  have h6 : sShipped ≠ sForest := by decide
  have h7 : sSold ≠ sForest := by decide
  simp [h1, h2, h3, h4, h5, h6, h7]
theorem r8_loop {en : List Ent} (hl : en.length ≤ 2000) (hps : ∀ y ∈ en, y.ps.length ≤ 1000) (i : Nat) (a : ByteArray) (hi : i < 8) (ha : acc8[i]? = some a) (t : Int) : ∀ (n k : Nat) (r : List Ent) (s v : Int), v = IntKind.i64.wrap s → en.drop k = r → r.length < n →
    L_ref52_Open 8 n ⟨[(0, .sl (en.map eEn)), (2, .any), (3, .own true (acc8.map eNm)), (4, I t), (5, I i), (6, I v), (7, I k), (8, .any), (9, .any), (10, .any), (11, .any)], []⟩ =
      some (.ex 2, ⟨[(0, .sl (en.map eEn)), (2, .any), (3, .own true (acc8.map eNm)), (4, I t), (5, I i), (6, I (IntKind.i64.wrap (s + balE a r))), (7, .any), (8, .any), (9, .any), (10, .any), (11, .any)], []⟩) := by
  intro n
  induction n with
  | zero => intro k r s v _ hr hn; omega
  | succ n ih =>
    intro k r s v hv hr hn
    rw [L_ref52_Open_succ, R_ref52_Open_eq]
    have hlen : ((en.map eEn).length : Int) = en.length := by simp
    cases r with
    | nil =>
      have h2 := dnG hr
      simp only [balE, Int.add_zero, ← hv]
      generalize acc8.map eNm = A at *
      generalize en.map eEn = L at *
      rw [← hlen] at h2
      simp [h2]
    | cons y r =>
      obtain ⟨h1, h3, hr', hk⟩ := dcG hr
      have hw := wrapN (n := k) (by omega)
      simp only [List.length_cons] at hn
      have hgy : (en.map eEn)[k]? = some [S y.id, I y.t, .sl (y.ps.map ePs)] := by rw [List.getElem?_map, h1]; rfl
      have hA : (acc8.map eNm)[i]? = some [S a] := by rw [List.getElem?_map, ha]; rfl
      have hal : (acc8.map eNm).length = 8 := rfl
      have hm := amount_run52 y.ps (hps y (List.mem_of_getElem? h1)) a
      have ih' := ih (k + 1) r (s + sumP a y.ps) (IntKind.i64.wrap (v + IntKind.i64.wrap (sumP a y.ps))) (by rw [wrap_add2, hv, wrap_add]) hr' (by omega)
      have e : s + balE a (y :: r) = s + sumP a y.ps + balE a r := by simp only [balE]; omega
      rw [e]
      simp only [Int.natCast_add, Int.cast_ofNat_Int] at ih'
      generalize acc8.map eNm = A at *
      generalize en.map eEn = L at *
      rw [← hlen] at h3
      have hi' : (i : Int) < 8 := by omega
      simp [hgy, h3, hA, hal, hi', hm, hw]
      simpa using ih'
theorem r4_loop {en : List Ent} (hL : Lg nm9 en) : ∀ (n i : Nat) (r : List ByteArray) (s v : Int), v = IntKind.i64.wrap s → acc8.drop i = r → r.length < n →
    L_ref52_Open 4 n ⟨[(0, .sl (en.map eEn)), (2, .any), (3, .own true (acc8.map eNm)), (4, I v), (5, I i), (6, .any), (7, .any), (8, .any), (9, .any), (10, .any), (11, .any)], []⟩ =
      if negR en r = true then some (.ret, ⟨[(0, .any), (2, B false), (3, .any), (4, .any), (5, .any), (6, .any), (7, .any), (8, .any), (9, .any), (10, .any), (11, .any)], []⟩)
      else some (.ex 0, ⟨[(0, .sl (en.map eEn)), (2, .any), (3, .own true (acc8.map eNm)), (4, I (IntKind.i64.wrap (s + accS (fun a => balE a en) r))), (5, .any), (6, .any), (7, .any), (8, .any), (9, .any), (10, .any), (11, .any)], []⟩) := by
  intro n
  induction n with
  | zero => intro i r s v _ hr hn; omega
  | succ n ih =>
    intro i r s v hv hr hn
    rw [L_ref52_Open_succ, R_ref52_Open_eq]
    have hal : (acc8.map eNm).length = 8 := rfl
    cases r with
    | nil =>
      have h2 := dnG hr
      rw [acc8_len] at h2
      have h2' : ¬ (i : Int) < 8 := by omega
      simp only [accS, Int.add_zero, ← hv, negR]
      generalize acc8.map eNm = A at *
      generalize en.map eEn = L at *
      simp [h2', hal]
    | cons a r =>
      obtain ⟨h1, h3, hr', hi⟩ := dcG hr
      rw [acc8_len] at hi
      have hi' : (i : Int) < 8 := by omega
      have hw := wrapN (n := i) (by omega)
      simp only [List.length_cons] at hn
      have hA : (acc8.map eNm)[i]? = some [S a] := by rw [List.getElem?_map, h1]; rfl
      have hbd := hL.bound a
      have h8 := r8_loop (en := en) (by have := hL.len; omega) (fun y hy => by have := hL.psl y hy; omega) i a hi h1 v bigL 0 en 0 0 rfl rfl (by have := bigL_ge; have := hL.len; omega)
      rw [Int.zero_add, wrap64 (by omega) (by omega)] at h8
      have ih' := ih (i + 1) r (s + balE a en) (IntKind.i64.wrap (v + balE a en)) (by rw [hv, wrap_add]) hr' (by omega)
      have e : s + accS (fun a => balE a en) (a :: r) = s + balE a en + accS (fun a => balE a en) r := by simp only [accS]; omega
      rw [e]
      clear hbd
      by_cases c1 : balE a en < 0
      · by_cases c2 : a = sForest
        · have c3 : negR en (a :: r) = negR en r := by simp [negR, c2]
          rw [c3]
          simp only [Int.natCast_add, Int.cast_ofNat_Int] at ih'
          have c2' : a = ⟨#[102, 111, 114, 101, 115, 116]⟩ := c2
          clear hw h3 hr hr'
          have hw := wrapN (n := i) (by omega)
          generalize acc8.map eNm = A at *
          generalize en.map eEn = L at *
          generalize accS (fun a => balE a en) r = S1 at *
          generalize balE a en = b at *
          subst c2'
          simp at h8
          simp [hA, hal, hi', h8, c1, hw]
          simpa using ih'
        · have c3 : negR en (a :: r) = true := by simp [negR, c1, c2]
          rw [c3]
          have c2' := notForest c2
          generalize acc8.map eNm = A at *
          generalize en.map eEn = L at *
          generalize balE a en = b at *
          simp at h8
          simp [hA, hal, hi', h8, c1, c2']
      · have c3 : negR en (a :: r) = negR en r := by simp [negR, c1]
        rw [c3]
        simp only [Int.natCast_add, Int.cast_ofNat_Int] at ih'
        generalize acc8.map eNm = A at *
        generalize en.map eEn = L at *
        generalize accS (fun a => balE a en) r = S1 at *
        generalize balE a en = b at *
        simp at h8
        simp [hA, hal, hi', h8, c1, hw]
        simpa using ih'
end Go.Proofs.Ytgngoijehjphoaa
