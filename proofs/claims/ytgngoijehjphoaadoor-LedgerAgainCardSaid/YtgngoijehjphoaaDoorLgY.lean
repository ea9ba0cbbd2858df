/-
  LedgerPosts, run abstractly.
-/
import Derived.Test.YtgngoijehjphoaaDoorLgX
namespace Go.Proofs.YtgngoijehjphoaaDoor
set_option linter.unusedSimpArgs false
set_option linter.unusedVariables false
open Go Go.Abs
set_option maxHeartbeats 16000000
set_option maxRecDepth 100000
/-- A list of one's own, or one that came back. -/
def SlA (d : D) (l : List (List D)) : Prop := d = .own true l ∨ d = .sl l
def SlE (d : D) (l : List (List D)) : Prop := (d = .own true l) ∨ d = .own false l ∨ d = .sl l
theorem posts_loop {accs : List ByteArray} (hA : Accs accs) (ens : List Ent) (hl : ens.length ≤ 1000000) : ∀ (n i : Nat) (r en : List Ent) (fl : Bool) (dA dE : D), Lg accs en → SlA dA (accs.map eNm) → SlE dE (en.map eEn) → ens.drop i = r → r.length < n →
    L_law51_LedgerPosts 10 n ⟨[(0, .sl (accs.map eNm)), (1, .sl (ens.map eEn)), (4, .any), (5, .ptr 23 0), (6, .any), (7, .ptr 7 0), (8, .any), (9, I i), (10, .any), (11, .any)],
      [(23, .box 56 [.mp 12300, .mp 12301, .row 12302]), (12300, .mp ((balL accs en).map encB)), (12301, .mp ((en.map (·.id)).map encK)), (12302, .row 41 3 fl (en.map eEn)), (7, .box 31 [dA, dE])]⟩ =
      some (.ex 0, ⟨[(0, .any), (1, .any), (4, .any), (5, .any), (6, .any), (7, .any), (8, .any), (9, .any), (10, .any), (11, .any)], []⟩) := by
  intro n
  induction n with
  | zero => intro i r en fl dA dE _ _ _ _ hn; omega
  | succ n ih =>
    intro i r en fl dA dE hL hdA hdE hr hn
    rw [L_law51_LedgerPosts_succ, R_law51_LedgerPosts_eq]
    cases r with
    | nil =>
      have h2 := dnG hr
      rcases hdA with rfl | rfl <;> rcases hdE with rfl | rfl | rfl <;> simp [h2]
    | cons x r =>
      obtain ⟨h1, h3, hr', hi⟩ := dcG hr
      have hw := wrapN (n := i) (by omega)
      simp only [List.length_cons] at hn
      have hq := rpost_run hA.len hL x
      have hp := post_L hA hL fl x
      have hs := is_run hA (hL.step x)
      have hL2 := hL.step x
      have ih' := fun fl dE (h : SlE dE _) => ih (i + 1) r (stepL accs en x) fl (.sl (accs.map eNm)) dE hL2 (.inr rfl) h hr' (by omega)
      unfold stepL at hs ih'
      clear ih hL2
      by_cases he : errP accs en x = 0
      · rw [if_pos he, he] at hq hp
        rw [if_pos he] at hs ih'
        replace ih' := ih' false _ (.inr (.inl rfl))
        simp only [ledP, ledH] at hp
        simp only [ledE, ledR] at hs
        generalize (balL accs en).map encB = M1 at *
        generalize (en.map (·.id)).map encK = M2 at *
        generalize en.map eEn = L at *
        generalize (balL accs (en ++ [x])).map encB = N1 at *
        generalize ((en ++ [x]).map (·.id)).map encK = N2 at *
        generalize (en ++ [x]).map eEn = L' at *
        simp only [Int.natCast_add, Int.cast_ofNat_Int] at ih'
        simp at hq hp hs
        rcases hdA with rfl | rfl <;> rcases hdE with rfl | rfl | rfl <;> simp [h1, h3, hq, hp, hs, hw] <;> simpa using ih'
      · rw [if_neg he] at hq hp
        rw [if_neg he] at hs ih'
        replace ih' := ih' fl _ (.inr (.inr rfl))
        simp only [ledP, ledH] at hp
        simp only [ledE, ledR] at hs
        generalize (balL accs en).map encB = M1 at *
        generalize (en.map (·.id)).map encK = M2 at *
        generalize en.map eEn = L at *
        simp only [Int.natCast_add, Int.cast_ofNat_Int] at ih'
        simp at hq hp
        rcases hdA with rfl | rfl <;> rcases hdE with rfl | rfl | rfl <;> simp [h1, h3, hq, hp, hs, hw] <;> simpa using ih'
theorem posts_law (l : List ByteArray) (en : List Ent) (hl : l.length ≤ 9223372036854775807) (hen : en.length ≤ 9223372036854775807) : F_law51_LedgerPosts [.sl (l.map eNm), .sl (en.map eEn)] = some (B true) := by
  rw [F_law51_LedgerPosts_eq]
  have hf := few_run l hl
  have hs := short_run en hen
  have hr := rnew_run l
  cases h0 : fewM l
  · simp [h0] at hf
    simp [hf, awake51_run]
  simp [h0] at hf
  cases h1 : shortM en
  · simp [h1] at hs
    simp [hf, hs, awake51_run]
  simp [h1] at hs
  by_cases hm : mkE l = 0
  · have hn := newGood_run l hm
    rw [if_pos hm] at hr
    have hA := accs_of hm (fun a ha => by simp [fewM] at h0; have := few100_mem h0.1 a ha; omega)
    have ih := posts_loop hA en (by simp [shortM] at h1; omega) bigL 0 en [] true _ _ .nil (.inl rfl) (.inl rfl) rfl (by have := bigL_ge; simp [shortM] at h1; omega)
    simp at ih
    generalize (balL l []).map encB = M at *
    simp [hf, hs, hn, hr, ih, awake51_run]
  · have hn := newBad_run l hm
    rw [if_neg hm] at hr
    simp [hf, hs, hn, hr, hm, awake51_run]
end Go.Proofs.YtgngoijehjphoaaDoor
