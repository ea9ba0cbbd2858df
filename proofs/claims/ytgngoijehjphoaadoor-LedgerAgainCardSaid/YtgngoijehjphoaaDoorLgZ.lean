/-
  LedgerZero, run abstractly.
-/
import Derived.Test.YtgngoijehjphoaaDoorLgY
namespace Go.Proofs.YtgngoijehjphoaaDoor
set_option linter.unusedSimpArgs false
set_option linter.unusedVariables false
open Go Go.Abs
set_option maxHeartbeats 16000000
set_option maxRecDepth 100000
theorem wrap_add (a b : Int) : IntKind.i64.wrap (IntKind.i64.wrap a + b) = IntKind.i64.wrap (a + b) := by
  rw [IntKind.wrap_i64, IntKind.wrap_i64, IntKind.wrap_i64]
  omega
theorem zpost_loop {accs : List ByteArray} (hA : Accs accs) (ens : List Ent) (hl : ens.length ≤ 1000000) : ∀ (n i : Nat) (r en : List Ent) (fl : Bool), Lg accs en → ens.drop i = r → r.length < n →
    ∃ fl', L_law51_LedgerZero 7 n ⟨[(0, .sl (accs.map eNm)), (1, .sl (ens.map eEn)), (4, .any), (5, .ptr 28 0), (6, .any), (7, I i), (8, .any), (9, .any), (10, .any), (11, .any), (12, .any), (13, .any), (14, .any), (15, .any), (16, .any)],
      [(28, .box 56 [.mp 12800, .mp 12801, .row 12802]), (12800, .mp ((balL accs en).map encB)), (12801, .mp ((en.map (·.id)).map encK)), (12802, .row 41 3 fl (en.map eEn))]⟩ =
      some (.ex 0, ⟨[(0, .sl (accs.map eNm)), (1, .any), (4, .any), (5, .ptr 28 0), (6, .any), (7, .any), (8, .any), (9, .any), (10, .any), (11, .any), (12, .any), (13, .any), (14, .any), (15, .any), (16, .any)],
      [(28, .box 56 [.mp 12800, .mp 12801, .row 12802]), (12800, .mp ((balL accs (postAll accs en r)).map encB)), (12801, .mp (((postAll accs en r).map (·.id)).map encK)), (12802, .row 41 3 fl' ((postAll accs en r).map eEn))]⟩) := by
  intro n
  induction n with
  | zero => intro i r en fl _ _ hn; omega
  | succ n ih =>
    intro i r en fl hL hr hn
    rw [L_law51_LedgerZero_succ, R_law51_LedgerZero_eq]
    cases r with
    | nil =>
      have h2 := dnG hr
      refine ⟨fl, ?_⟩
      simp only [postAll]
      generalize (balL accs en).map encB = M1 at *
      generalize (en.map (·.id)).map encK = M2 at *
      generalize en.map eEn = L at *
      simp [h2]
    | cons x r =>
      obtain ⟨h1, h3, hr', hi⟩ := dcG hr
      have hw := wrapN (n := i) (by omega)
      simp only [List.length_cons] at hn
      have hp := post_L hA hL fl x
      have ih' := fun fl => ih (i + 1) r (stepL accs en x) fl (hL.step x) hr' (by omega)
      simp only [postAll]
      generalize hR : postAll accs (stepL accs en x) r = R at *
      clear hR
      unfold stepL at ih'
      by_cases he : errP accs en x = 0
      · rw [he] at hp
        rw [if_pos he] at ih'
        obtain ⟨fl', ih'⟩ := ih' false
        refine ⟨fl', ?_⟩
        simp only [ledP, ledH] at hp
        generalize (balL accs en).map encB = M1 at *
        generalize (en.map (·.id)).map encK = M2 at *
        generalize en.map eEn = L at *
        generalize (balL accs (en ++ [x])).map encB = N1 at *
        generalize ((en ++ [x]).map (·.id)).map encK = N2 at *
        generalize (en ++ [x]).map eEn = L' at *
        generalize (balL accs R).map encB = R1 at *
        generalize (R.map (·.id)).map encK = R2 at *
        generalize R.map eEn = R3 at *
        simp only [Int.natCast_add, Int.cast_ofNat_Int] at ih'
        simp at hp
        simp [h1, h3, hp, hw]
        simpa using ih'
      · rw [if_neg he] at hp
        rw [if_neg he] at ih'
        obtain ⟨fl', ih'⟩ := ih' fl
        refine ⟨fl', ?_⟩
        simp only [ledP, ledH] at hp
        generalize (balL accs en).map encB = M1 at *
        generalize (en.map (·.id)).map encK = M2 at *
        generalize en.map eEn = L at *
        generalize (balL accs R).map encB = R1 at *
        generalize (R.map (·.id)).map encK = R2 at *
        generalize R.map eEn = R3 at *
        simp only [Int.natCast_add, Int.cast_ofNat_Int] at ih'
        simp at hp
        simp [h1, h3, hp, hw]
        simpa using ih'
/-- The state in which accounts and entries are summed up. -/
def zS (accs : List ByteArray) (M1 M2 : List (Value × Value)) (L : List (List D)) (fl g : Bool) (T : List (List D)) (d10 d11 d12 d13 d14 d15 : D) : St :=
  ⟨[(0, .sl (accs.map eNm)), (1, .any), (4, .any), (5, .ptr 28 0), (6, .any), (7, .any), (8, .own g L), (9, .own true T), (10, d10), (11, d11), (12, d12), (13, d13), (14, d14), (15, d15), (16, .any)],
    [(28, .box 56 [.mp 12800, .mp 12801, .row 12802]), (12800, .mp M1), (12801, .mp M2), (12802, .row 41 3 fl L)]⟩
theorem z20_loop (accs : List ByteArray) (M1 M2 : List (Value × Value)) (en : List Ent) (fl g : Bool) (T : List (List D)) (d10 d11 : D) (hx10 : ∃ k, d10 = I k) (hx11 : ∃ k, d11 = I k) (j : Nat) (a : ByteArray) (hj : (j : Int) < accs.length) (ha : accs[j]? = some a) (k : Nat) (x : Ent) (hk : (k : Int) < en.length) (hx : en[k]? = some x) (hp : x.ps.length ≤ 1000) :
    ∀ (n m : Nat) (r : List Pst) (s v : Int), v = IntKind.i64.wrap s → x.ps.drop m = r → r.length < n →
    L_law51_LedgerZero 20 n (zS accs M1 M2 (en.map eEn) fl g T d10 d11 (I j) (I v) (I k) (I m)) = some (.ex 6, zS accs M1 M2 (en.map eEn) fl g T d10 d11 (I j) (I (IntKind.i64.wrap (s + sumP a r))) (I k) .any) := by
  obtain ⟨k10, rfl⟩ := hx10
  obtain ⟨k11, rfl⟩ := hx11
  intro n
  induction n with
  | zero => intro m r s v _ hr hn; omega
  | succ n ih =>
    intro m r s v hv hr hn
    rw [L_law51_LedgerZero_succ, R_law51_LedgerZero_eq]
    cases r with
    | nil =>
      have h2 := dnG hr
      simp only [zS, sumP, Int.add_zero, ← hv]
      have hgx : (en.map eEn)[k]? = some (eEn x) := by rw [List.getElem?_map, hx]; rfl
      have hlen : ((en.map eEn).length : Int) = en.length := by simp
      generalize en.map eEn = L at *
      rw [← hlen] at hk
      simp [hgx, hk, h2]
    | cons p r =>
      obtain ⟨h1, h3, hr', hi⟩ := dcG hr
      have hw := wrapN (n := m) (by omega)
      simp only [List.length_cons] at hn
      have hgx : (en.map eEn)[k]? = some (eEn x) := by rw [List.getElem?_map, hx]; rfl
      have hlen : ((en.map eEn).length : Int) = en.length := by simp
      by_cases hc : p.acc = a
      · have ih' := ih (m + 1) r (s + p.amt) (IntKind.i64.wrap (v + p.amt)) (by rw [hv, wrap_add]) hr' (by omega)
        have e : s + sumP a (p :: r) = s + p.amt + sumP a r := by simp only [sumP, if_pos hc]; omega
        rw [e]
        simp only [zS, Int.natCast_add, Int.cast_ofNat_Int] at ih' ⊢
        generalize en.map eEn = L at *
        rw [← hlen] at hk
        simp [hgx, hk, hj, ha, h1, h3, hc, hw]
        simpa using ih'
      · have ih' := ih (m + 1) r s v hv hr' (by omega)
        have e : s + sumP a (p :: r) = s + sumP a r := by simp only [sumP, if_neg hc]; omega
        rw [e]
        simp only [zS, Int.natCast_add, Int.cast_ofNat_Int] at ih' ⊢
        generalize en.map eEn = L at *
        rw [← hlen] at hk
        simp [hgx, hk, hj, ha, h1, h3, hc, hw]
        simpa using ih'
theorem z17_loop (accs : List ByteArray) (M1 M2 : List (Value × Value)) (en : List Ent) (hl : en.length ≤ 1000000) (hp : ∀ x ∈ en, x.ps.length ≤ 1000) (fl g : Bool) (T : List (List D)) (d10 d11 : D) (hx10 : ∃ k, d10 = I k) (hx11 : ∃ k, d11 = I k) (j : Nat) (a : ByteArray) (hj : (j : Int) < accs.length) (ha : accs[j]? = some a) :
    ∀ (n k : Nat) (r : List Ent) (s v : Int), v = IntKind.i64.wrap s → en.drop k = r → r.length < n →
    L_law51_LedgerZero 17 n (zS accs M1 M2 (en.map eEn) fl g T d10 d11 (I j) (I v) (I k) .any) = some (.ex 4, zS accs M1 M2 (en.map eEn) fl g T d10 d11 (I j) (I (IntKind.i64.wrap (s + balE a r))) .any .any) := by
  intro n
  induction n with
  | zero => intro k r s v _ hr hn; omega
  | succ n ih =>
    intro k r s v hv hr hn
    rw [L_law51_LedgerZero_succ, R_law51_LedgerZero_eq]
    cases r with
    | nil =>
      obtain ⟨k10, rfl⟩ := hx10
      obtain ⟨k11, rfl⟩ := hx11
      have h2 := dnG hr
      simp only [zS, balE, Int.add_zero, ← hv]
      have hlen : ((en.map eEn).length : Int) = en.length := by simp
      generalize en.map eEn = L at *
      rw [← hlen] at h2
      simp [h2]
    | cons x r =>
      obtain ⟨h1, h3, hr', hi⟩ := dcG hr
      have hw := wrapN (n := k) (by omega)
      simp only [List.length_cons] at hn
      have hxp := hp x (List.mem_of_getElem? h1)
      have h20 := z20_loop accs M1 M2 en fl g T d10 d11 hx10 hx11 j a hj ha k x h3 h1 hxp bigL 0 x.ps s v hv rfl (by have := bigL_ge; omega)
      have ih' := ih (k + 1) r (s + sumP a x.ps) (IntKind.i64.wrap (s + sumP a x.ps)) rfl hr' (by omega)
      obtain ⟨k10, rfl⟩ := hx10
      obtain ⟨k11, rfl⟩ := hx11
      have e : s + balE a (x :: r) = s + sumP a x.ps + balE a r := by simp only [balE]; omega
      rw [e]
      have hlen : ((en.map eEn).length : Int) = en.length := by simp
      simp only [zS, Int.natCast_add, Int.cast_ofNat_Int] at ih' h20 ⊢
      generalize en.map eEn = L at *
      rw [← hlen] at h3
      simp [h3, hw, h20]
      simpa using ih'
end Go.Proofs.YtgngoijehjphoaaDoor
