/-
  LedgerAgain, run abstractly: its loops.
-/
import Derived.Test.YtgngoijehjphoaaDoorLgY
namespace Go.Proofs.YtgngoijehjphoaaDoor
set_option linter.unusedSimpArgs false
set_option linter.unusedVariables false
open Go Go.Abs
set_option maxHeartbeats 16000000
set_option maxRecDepth 100000
/-- A ledger's cells under a name. -/
abbrev ledN (n : Nat) (M1 M2 : List (Value × Value)) (L : List (List D)) (fl : Bool) : List (Nat × O) :=
  [(n, .box 56 [.mp (10000 + 100 * n), .mp (10000 + 100 * n + 1), .row (10000 + 100 * n + 2)]), (10000 + 100 * n, .mp M1), (10000 + 100 * n + 1, .mp M2), (10000 + 100 * n + 2, .row 41 3 fl L)]
theorem ag8_loop {accs : List ByteArray} (hA : Accs accs) (M1' M2' : List (Value × Value)) (L2 : List (List D)) (ens : List Ent) (hl : ens.length ≤ 1000000) : ∀ (n i : Nat) (r en : List Ent) (fl : Bool), Lg accs en → ens.drop i = r → r.length < n →
    ∃ fl', L_law51_LedgerAgain 8 n ⟨[(0, .sl (accs.map eNm)), (1, .sl (ens.map eEn)), (4, .any), (5, .ptr 28 0), (6, .any), (7, .ptr 33 0), (8, .any), (9, I i), (10, .any), (11, .any), (12, .any), (13, .any), (14, .any), (15, .any), (16, .any)],
      [(28, .box 56 [.mp 12800, .mp 12801, .row 12802]), (12800, .mp ((balL accs en).map encB)), (12801, .mp ((en.map (·.id)).map encK)), (12802, .row 41 3 fl (en.map eEn)), (33, .box 56 [.mp 13300, .mp 13301, .row 13302]), (13300, .mp M1'), (13301, .mp M2'), (13302, .row 41 3 true L2)]⟩ =
      some (.ex 0, ⟨[(0, .sl (accs.map eNm)), (1, .any), (4, .any), (5, .ptr 28 0), (6, .any), (7, .ptr 33 0), (8, .any), (9, .any), (10, .any), (11, .any), (12, .any), (13, .any), (14, .any), (15, .any), (16, .any)],
      [(28, .box 56 [.mp 12800, .mp 12801, .row 12802]), (12800, .mp ((balL accs (postAll accs en r)).map encB)), (12801, .mp (((postAll accs en r).map (·.id)).map encK)), (12802, .row 41 3 fl' ((postAll accs en r).map eEn)), (33, .box 56 [.mp 13300, .mp 13301, .row 13302]), (13300, .mp M1'), (13301, .mp M2'), (13302, .row 41 3 true L2)]⟩) := by
  intro n
  induction n with
  | zero => intro i r en fl _ _ hn; omega
  | succ n ih =>
    intro i r en fl hL hr hn
    rw [L_law51_LedgerAgain_succ, R_law51_LedgerAgain_eq]
    cases r with
    | nil =>
      have h2 := dnG hr
      refine ⟨fl, ?_⟩
      simp only [postAll]
      generalize (balL accs en).map encB = M1 at *
      generalize (en.map (·.id)).map encK = M2 at *
      generalize en.map eEn = L at *
      simp [h2]
    | cons x r =>
      obtain ⟨h1, h3, hr', hi⟩ := dcG hr
      have hw := wrapN (n := i) (by omega)
      simp only [List.length_cons] at hn
      have hp := post_L hA hL fl x
      have ih' := fun fl => ih (i + 1) r (stepL accs en x) fl (hL.step x) hr' (by omega)
      simp only [postAll]
      generalize hR : postAll accs (stepL accs en x) r = R at *
      clear hR
      unfold stepL at ih'
      by_cases he : errP accs en x = 0
      · rw [he] at hp
        rw [if_pos he] at ih'
        obtain ⟨fl', ih'⟩ := ih' false
        refine ⟨fl', ?_⟩
        simp only [ledP, ledH] at hp
        generalize (balL accs en).map encB = M1 at *
        generalize (en.map (·.id)).map encK = M2 at *
        generalize en.map eEn = L at *
        generalize (balL accs (en ++ [x])).map encB = N1 at *
        generalize ((en ++ [x]).map (·.id)).map encK = N2 at *
        generalize (en ++ [x]).map eEn = L' at *
        generalize (balL accs R).map encB = R1 at *
        generalize (R.map (·.id)).map encK = R2 at *
        generalize R.map eEn = R3 at *
        simp only [Int.natCast_add, Int.cast_ofNat_Int] at ih'
        simp at hp
        simp [h1, h3, hp, hw]
        simpa using ih'
      · rw [if_neg he] at hp
        rw [if_neg he] at ih'
        obtain ⟨fl', ih'⟩ := ih' fl
        refine ⟨fl', ?_⟩
        simp only [ledP, ledH] at hp
        generalize (balL accs en).map encB = M1 at *
        generalize (en.map (·.id)).map encK = M2 at *
        generalize en.map eEn = L at *
        generalize (balL accs R).map encB = R1 at *
        generalize (R.map (·.id)).map encK = R2 at *
        generalize R.map eEn = R3 at *
        simp only [Int.natCast_add, Int.cast_ofNat_Int] at ih'
        simp at hp
        simp [h1, h3, hp, hw]
        simpa using ih'
theorem ag13_loop {accs : List ByteArray} (hA : Accs accs) {en : List Ent} (hL : Lg accs en) (M1' M2' : List (Value × Value)) (f0 g : Bool) : ∀ (n i : Nat) (r p : List Ent) (fl : Bool), en = p ++ r → p.length = i → r.length < n →
    ∃ fl', L_law51_LedgerAgain 13 n ⟨[(0, .sl (accs.map eNm)), (1, .any), (4, .any), (5, .ptr 28 0), (6, .any), (7, .ptr 33 0), (8, .any), (9, .any), (10, .own g (en.map eEn)), (11, I i), (12, .any), (13, .any), (14, .any), (15, .any), (16, .any)],
      [(28, .box 56 [.mp 12800, .mp 12801, .row 12802]), (12800, .mp M1'), (12801, .mp M2'), (12802, .row 41 3 f0 (en.map eEn)), (33, .box 56 [.mp 13300, .mp 13301, .row 13302]), (13300, .mp ((balL accs p).map encB)), (13301, .mp ((p.map (·.id)).map encK)), (13302, .row 41 3 fl (p.map eEn))]⟩ =
      some (.ex 2, ⟨[(0, .sl (accs.map eNm)), (1, .any), (4, .any), (5, .ptr 28 0), (6, .any), (7, .ptr 33 0), (8, .any), (9, .any), (10, .own g (en.map eEn)), (11, .any), (12, .any), (13, .any), (14, .any), (15, .any), (16, .any)],
      [(28, .box 56 [.mp 12800, .mp 12801, .row 12802]), (12800, .mp M1'), (12801, .mp M2'), (12802, .row 41 3 f0 (en.map eEn)), (33, .box 56 [.mp 13300, .mp 13301, .row 13302]), (13300, .mp ((balL accs en).map encB)), (13301, .mp ((en.map (·.id)).map encK)), (13302, .row 41 3 fl' (en.map eEn))]⟩) := by
  intro n
  induction n with
  | zero => intro i r p fl _ _ hn; omega
  | succ n ih =>
    intro i r p fl he hpl hn
    rw [L_law51_LedgerAgain_succ, R_law51_LedgerAgain_eq]
    cases r with
    | nil =>
      have hpe : p = en := by simp [he]
      subst hpe
      refine ⟨fl, ?_⟩
      have hlen : ((p.map eEn).length : Int) = p.length := by simp
      generalize (balL accs p).map encB = M1 at *
      generalize (p.map (·.id)).map encK = M2 at *
      generalize p.map eEn = L at *
      have h2 : ¬ (i : Int) < L.length := by omega
      simp [h2]
    | cons x r =>
      simp only [List.length_cons] at hn
      obtain ⟨hLp, hx⟩ := hL.at he
      have hlen : ((en.map eEn).length : Int) = en.length := by simp
      have h1 : (en.map eEn)[i]? = some (eEn x) := by rw [List.getElem?_map, he, ← hpl]; simp
      have h3 : (i : Int) < (en.map eEn).length := by rw [hlen, he]; simp; omega
      have hw := wrapN (n := i) (by have := hL.len; omega)
      have hp := post_L hA hLp fl x
      rw [hx] at hp
      obtain ⟨fl', ih'⟩ := ih (i + 1) r (p ++ [x]) false (by simp [he]) (by simp [hpl]) (by omega)
      refine ⟨fl', ?_⟩
      simp only [ledP, ledH, if_true] at hp
      simp only [Int.natCast_add, Int.cast_ofNat_Int] at ih'
      clear ih he
      generalize (balL accs en).map encB = R1 at *
      generalize (en.map (·.id)).map encK = R2 at *
      generalize en.map eEn = R3 at *
      generalize (balL accs p).map encB = M1 at *
      generalize (p.map (·.id)).map encK = M2 at *
      generalize p.map eEn = L at *
      generalize (balL accs (p ++ [x])).map encB = N1 at *
      generalize ((p ++ [x]).map (·.id)).map encK = N2 at *
      generalize (p ++ [x]).map eEn = L' at *
      simp at hp h1
      simp [h1, h3, hp, hw]
      simpa using ih'
end Go.Proofs.YtgngoijehjphoaaDoor
