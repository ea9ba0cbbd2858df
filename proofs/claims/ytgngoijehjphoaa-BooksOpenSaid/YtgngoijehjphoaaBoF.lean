/-
  The reference's answer whether a ledger is open, run abstractly: whole.
-/
import Derived.Test.YtgngoijehjphoaaBoE
namespace Go.Proofs.Ytgngoijehjphoaa
set_option linter.unusedSimpArgs false
set_option linter.unusedVariables false
open Go Go.Abs
set_option maxHeartbeats 8000000
set_option maxRecDepth 100000
theorem r22_loop (L : List (List D)) (k : Nat) (y : Ent) (hk : (k : Int) < L.length) (hgy : L[k]? = some [S y.id, I y.t, .sl (y.ps.map ePs)]) (i : Nat) (p : Pst) (hi : (i : Int) < y.ps.length) (hp : y.ps[i]? = some p) (t : Int) : ∀ (n j : Nat) (r : List ByteArray) (kn : Bool), acc8.drop j = r → r.length < n →
    L_ref52_Open 22 n ⟨[(0, .sl L), (2, .any), (3, .own true (acc8.map eNm)), (4, I t), (5, .any), (6, .any), (7, .any), (8, I k), (9, I i), (10, B kn), (11, I j)], []⟩ =
      some (.ex 8, ⟨[(0, .sl L), (2, .any), (3, .own true (acc8.map eNm)), (4, I t), (5, .any), (6, .any), (7, .any), (8, I k), (9, I i), (10, B (kn || hasK p.acc r)), (11, .any)], []⟩) := by
  intro n
  induction n with
  | zero => intro j r kn hr hn; omega
  | succ n ih =>
    intro j r kn hr hn
    rw [L_ref52_Open_succ, R_ref52_Open_eq]
    have hal : (acc8.map eNm).length = 8 := rfl
    cases r with
    | nil =>
      have h2 := dnG hr
      rw [acc8_len] at h2
      have h2' : ¬ (j : Int) < 8 := h2
      simp only [hasK, Bool.or_false]
      generalize acc8.map eNm = A at *
      simp [h2', hal]
    | cons a r =>
      obtain ⟨h1, _, hr', hj⟩ := dcG hr
      rw [acc8_len] at hj
      have h3 : (j : Int) < 8 := by omega
      have hw := wrapN (n := j) (by omega)
      simp only [List.length_cons] at hn
      have hA : (acc8.map eNm)[j]? = some [S a] := by rw [List.getElem?_map, h1]; rfl
      have ih' := fun kn => ih (j + 1) r kn hr' (by omega)
      simp only [Int.natCast_add, Int.cast_ofNat_Int] at ih'
      generalize acc8.map eNm = A at *
      cases kn
      · by_cases hc : a = p.acc
        · have ih' := ih' true
          have e : hasK p.acc (a :: r) = true := by simp [hasK, hc]
          rw [e]
          simp [hA, h3, hal, hk, hgy, hi, hp, hc, hw]
          simpa using ih'
        · have ih' := ih' false
          have hc' : ¬ p.acc = a := fun e => hc e.symm
          have e : hasK p.acc (a :: r) = hasK p.acc r := by simp [hasK, hc']
          rw [e]
          simp [hA, h3, hal, hk, hgy, hi, hp, hc, hw]
          simpa using ih'
      · have ih' := ih' true
        simp [hA, h3, hal, hk, hgy, hi, hp, hw]
        simpa using ih'
theorem r18_loop (L : List (List D)) (k : Nat) (y : Ent) (hk : (k : Int) < L.length) (hgy : L[k]? = some [S y.id, I y.t, .sl (y.ps.map ePs)]) (hl : y.ps.length ≤ 1000) (hp : ∀ p ∈ y.ps, p.acc ∈ acc8) (t : Int) : ∀ (n i : Nat) (r : List Pst), y.ps.drop i = r → r.length < n →
    L_ref52_Open 18 n ⟨[(0, .sl L), (2, .any), (3, .own true (acc8.map eNm)), (4, I t), (5, .any), (6, .any), (7, .any), (8, I k), (9, I i), (10, .any), (11, .any)], []⟩ =
      some (.ex 6, ⟨[(0, .sl L), (2, .any), (3, .own true (acc8.map eNm)), (4, I t), (5, .any), (6, .any), (7, .any), (8, I k), (9, .any), (10, .any), (11, .any)], []⟩) := by
  intro n
  induction n with
  | zero => intro i r hr hn; omega
  | succ n ih =>
    intro i r hr hn
    rw [L_ref52_Open_succ, R_ref52_Open_eq]
    cases r with
    | nil =>
      have h2 := dnG hr
      generalize acc8.map eNm = A at *
      simp [hk, hgy, h2]
    | cons p r =>
      obtain ⟨h1, h3, hr', hi⟩ := dcG hr
      have hw := wrapN (n := i) (by omega)
      simp only [List.length_cons] at hn
      have h22 := r22_loop L k y hk hgy i p h3 h1 t bigL 0 acc8 false rfl (by have := bigL_ge; rw [acc8_len]; omega)
      rw [hasK_mem.2 (hp p (List.mem_of_getElem? h1))] at h22
      have ih' := ih (i + 1) r hr' (by omega)
      simp only [Int.natCast_add, Int.cast_ofNat_Int] at ih'
      generalize acc8.map eNm = A at *
      simp at h22
      simp [hk, hgy, h3, h22, hw]
      simpa using ih'
theorem r15_loop {en : List Ent} (hl : en.length ≤ 2000) (hps : ∀ y ∈ en, y.ps.length ≤ 1000) (hp : ∀ y ∈ en, ∀ p ∈ y.ps, p.acc ∈ acc8) (t : Int) : ∀ (n k : Nat) (r : List Ent), en.drop k = r → r.length < n →
    L_ref52_Open 15 n ⟨[(0, .sl (en.map eEn)), (2, .any), (3, .own true (acc8.map eNm)), (4, I t), (5, .any), (6, .any), (7, .any), (8, I k), (9, .any), (10, .any), (11, .any)], []⟩ =
      some (.ex 4, ⟨[(0, .any), (2, .any), (3, .any), (4, I t), (5, .any), (6, .any), (7, .any), (8, .any), (9, .any), (10, .any), (11, .any)], []⟩) := by
  intro n
  induction n with
  | zero => intro k r hr hn; omega
  | succ n ih =>
    intro k r hr hn
    rw [L_ref52_Open_succ, R_ref52_Open_eq]
    have hlen : ((en.map eEn).length : Int) = en.length := by simp
    cases r with
    | nil =>
      have h2 := dnG hr
      rw [← hlen] at h2
      generalize acc8.map eNm = A at *
      generalize en.map eEn = L at *
      simp [h2]
    | cons y r =>
      obtain ⟨h1, h3, hr', hi⟩ := dcG hr
      have hw := wrapN (n := k) (by omega)
      simp only [List.length_cons] at hn
      have hy := List.mem_of_getElem? h1
      have hgy : (en.map eEn)[k]? = some [S y.id, I y.t, .sl (y.ps.map ePs)] := by rw [List.getElem?_map, h1]; rfl
      rw [← hlen] at h3
      have h18 := r18_loop (en.map eEn) k y h3 hgy (hps y hy) (hp y hy) t bigL 0 y.ps rfl (by have := bigL_ge; have := hps y hy; omega)
      have ih' := ih (k + 1) r hr' (by omega)
      simp only [Int.natCast_add, Int.cast_ofNat_Int] at ih'
      generalize acc8.map eNm = A at *
      generalize en.map eEn = L at *
      simp at h18
      simp [h3, h18, hw]
      simpa using ih'
theorem ropen_run {en : List Ent} (hL : Lg nm9 en) (hp : ∀ y ∈ en, ∀ p ∈ y.ps, p.acc ∈ acc8) (hb : accS (fun a => balE a en) acc8 = 0) :
    F_ref52_Open [.sl (en.map eEn)] = some (B (!negR en acc8)) := by
  rw [F_ref52_Open_eq]
  have hen := hL.len
  have h4 := r4_loop hL bigL 0 acc8 0 0 rfl rfl (by have := bigL_ge; rw [acc8_len]; omega)
  rw [hb] at h4
  have h15 := r15_loop (en := en) (by omega) (fun y hy => by have := hL.psl y hy; omega) hp 0 bigL 0 en rfl (by have := bigL_ge; omega)
  have ha := raccounts_run
  cases hn : negR en acc8
  · rw [hn] at h4
    generalize acc8.map eNm = A at *
    generalize en.map eEn = L at *
    simp at h4 h15
    simp [ha, h4, h15]
  · rw [hn] at h4
    generalize acc8.map eNm = A at *
    generalize en.map eEn = L at *
    simp at h4
    simp [ha, h4]
end Go.Proofs.Ytgngoijehjphoaa
