/-
  The reference's posting of an entry, run abstractly: it computes what the ledger's errors are.
-/
import Derived.Test.YtgngoijehjphoaaDoorLgK
namespace Go.Proofs.YtgngoijehjphoaaDoor
set_option linter.unusedSimpArgs false
set_option linter.unusedVariables false
open Go Go.Abs
set_option maxHeartbeats 8000000
set_option maxRecDepth 100000
/-- The state behind a return with an error. -/
def rRet (accs : List ByteArray) (en : List Ent) (e : Int) : St :=
  ⟨[(0, .any), (1, .any), (2, .any), (3, .any), (4, .ptr 4 0), (5, I e), (6, .any), (7, .any), (8, .any), (9, .any), (10, .any)], [(4, .box 31 [.sl (accs.map eNm), .sl (en.map eEn)])]⟩
theorem r4_loop (accs : List ByteArray) (en : List Ent) (hl : en.length ≤ 1000000) (x : Ent) : ∀ (n i : Nat) (r : List Ent), en.drop i = r → r.length < n →
    L_ref51_L_Post 4 n (rS accs en x (I i) .any .any .any) = if hasK x.id (r.map (·.id)) = true then some (.ret, rRet accs en 7) else some (.ex 0, rS accs en x .any .any .any .any) := by
  intro n
  induction n with
  | zero => intro i r hr hn; omega
  | succ n ih =>
    intro i r hr hn
    rw [L_ref51_L_Post_succ, R_ref51_L_Post_eq]
    cases r with
    | nil =>
      have h2 := dnG hr
      simp [rS, h2, hasK]
    | cons y r =>
      obtain ⟨h1, h3, hr', hi⟩ := dcG hr
      have hw := wrapN (n := i) (by omega)
      simp only [List.length_cons] at hn
      have ih' := ih (i + 1) r hr' (by omega)
      simp only [rS, rRet, Int.natCast_add, Int.cast_ofNat_Int] at ih'
      by_cases hc : x.id = y.id
      · have hc' : y.id = x.id := hc.symm
        simp [rS, rRet, h1, h3, hc', hasK]
      · have hc' : ¬ y.id = x.id := fun e => hc e.symm
        simp [rS, rRet, h1, h3, hc, hc', hasK, hw]
        simpa using ih'
theorem r16_loop (accs : List ByteArray) (ha : accs.length ≤ 1000) (en : List Ent) (x : Ent) (hl : x.ps.length ≤ 1000) : ∀ (n i : Nat) (r : List Pst) (s : Int), x.ps.drop i = r → r.length < n →
    L_ref51_L_Post 16 n (rS accs en x .any (I s) (I i) .any) = if pstP accs r = 0 then some (.ex 2, rS accs en x .any (I (totP s r)) .any .any) else some (.ret, rRet accs en (pstP accs r)) := by
  intro n
  induction n with
  | zero => intro i r s hr hn; omega
  | succ n ih =>
    intro i r s hr hn
    rw [L_ref51_L_Post_succ, R_ref51_L_Post_eq]
    cases r with
    | nil =>
      have h2 := dnG hr
      simp [rS, h2, pstP, totP]
    | cons p r =>
      obtain ⟨h1, h3, hr', hi⟩ := dcG hr
      have hw := wrapN (n := i) (by omega)
      simp only [List.length_cons] at hn
      have ih' := ih (i + 1) r (IntKind.i64.wrap (s + p.amt)) hr' (by omega)
      simp only [rS, rRet, Int.natCast_add, Int.cast_ofNat_Int] at ih'
      have hh := has_run accs (en.map eEn) ha p.acc
      have hg := great_run p.amt
      cases c1 : hasK p.acc accs
      · rw [c1] at hh
        simp [rS, rRet, h1, h3, hh, hg, c1, pstP]
      · rw [c1] at hh
        cases c2 : outB p.amt
        · rw [c2] at hg
          simp [rS, rRet, h1, h3, hh, hg, c1, c2, pstP, hw, totP]
          simpa using ih'
        · rw [c2] at hg
          simp [rS, rRet, h1, h3, hh, hg, c1, c2, pstP]
theorem r26_loop (accs : List ByteArray) {en : List Ent} (hL : Lg accs en) (x : Ent) (hl : x.ps.length ≤ 16) (ho : ∀ p ∈ x.ps, outB p.amt = false) (hp : ∀ y ∈ en, y.ps.length ≤ 1000000) : ∀ (n i : Nat) (r : List Pst), x.ps.drop i = r → r.length < n →
    L_ref51_L_Post 26 n (rS accs en x .any .any .any (I i)) = if anyP en x.ps r = true then some (.ret, rRet accs en 9) else some (.ex 4, rS accs en x .any .any .any .any) := by
  intro n
  induction n with
  | zero => intro i r hr hn; omega
  | succ n ih =>
    intro i r hr hn
    rw [L_ref51_L_Post_succ, R_ref51_L_Post_eq]
    cases r with
    | nil =>
      have h2 := dnG hr
      simp [rS, h2, anyP]
    | cons p r =>
      obtain ⟨h1, h3, hr', hi⟩ := dcG hr
      have hw := wrapN (n := i) (by omega)
      simp only [List.length_cons] at hn
      have ih' := ih (i + 1) r hr' (by omega)
      simp only [rS, rRet, Int.natCast_add, Int.cast_ofNat_Int] at ih'
      have hb := balR_run accs en (by have := hL.len; omega) hp p.acc
      rw [hL.balW] at hb
      have hs := sum_run x.ps (by omega) p.acc
      rw [sumW_eq (k := 0) ho (by omega) (by omega) (by omega), Int.zero_add] at hs
      have b1 := hL.bound p.acc
      have b2 := sumP_bound (a := p.acc) ho
      have hw2 : IntKind.i64.wrap (balE p.acc en + sumP p.acc x.ps) = balE p.acc en + sumP p.acc x.ps := wrap64 (by omega) (by omega)
      have hg := great_run (balE p.acc en + sumP p.acc x.ps)
      cases c : outB (balE p.acc en + sumP p.acc x.ps)
      · rw [c] at hg
        simp [rS, rRet, h1, h3, hw, hb, hs, hw2, hg, anyP, c]
        simpa using ih'
      · rw [c] at hg
        simp [rS, rRet, h1, h3, hw, hb, hs, hw2, hg, anyP, c]
end Go.Proofs.YtgngoijehjphoaaDoor
