/-
  LedgerRefuses, run abstractly.
-/
import Derived.Test.YtgngoijehjphoaaDoorLgY
namespace Go.Proofs.YtgngoijehjphoaaDoor
set_option linter.unusedSimpArgs false
set_option linter.unusedVariables false
open Go Go.Abs
set_option maxHeartbeats 16000000
set_option maxRecDepth 100000
theorem ref_loop {accs : List ByteArray} (hA : Accs accs) (ens : List Ent) (hl : ens.length ≤ 1000000) : ∀ (n i : Nat) (r en : List Ent) (fl : Bool), Lg accs en → ens.drop i = r → r.length < n →
    L_law51_LedgerRefuses 7 n ⟨[(0, .any), (1, .sl (ens.map eEn)), (4, .any), (5, .ptr 24 0), (6, .any), (7, I i), (8, .any), (9, .any), (10, .any), (11, .any), (12, .any)],
      [(24, .box 56 [.mp 12400, .mp 12401, .row 12402]), (12400, .mp ((balL accs en).map encB)), (12401, .mp ((en.map (·.id)).map encK)), (12402, .row 41 3 fl (en.map eEn))]⟩ =
      some (.ex 0, ⟨[(0, .any), (1, .any), (4, .any), (5, .any), (6, .any), (7, .any), (8, .any), (9, .any), (10, .any), (11, .any), (12, .any)], []⟩) := by
  intro n
  induction n with
  | zero => intro i r en fl _ _ hn; omega
  | succ n ih =>
    intro i r en fl hL hr hn
    rw [L_law51_LedgerRefuses_succ, R_law51_LedgerRefuses_eq]
    cases r with
    | nil =>
      have h2 := dnG hr
      generalize (balL accs en).map encB = M1 at *
      generalize (en.map (·.id)).map encK = M2 at *
      generalize en.map eEn = L at *
      simp [h2]
    | cons x r =>
      obtain ⟨h1, h3, hr', hi⟩ := dcG hr
      have hw := wrapN (n := i) (by omega)
      simp only [List.length_cons] at hn
      have hp := post_L hA hL fl x
      have ih' := fun fl => ih (i + 1) r (stepL accs en x) fl (hL.step x) hr' (by omega)
      have ht := ltrial_run hA en
      have hd := ldig_run hA hL
      have hE := entsO_run (balL accs en) (en.map (·.id)) en fl (by have := hL.len; omega) (fun x hx => by have := hL.psl x hx; omega)
      have hlen := hL.len
      unfold stepL at ih'
      clear ih
      by_cases he : errP accs en x = 0
      · rw [he] at hp
        simp only [if_true] at hp
        rw [if_pos he] at ih'
        replace ih' := ih' false
        have hL2 : Lg accs (en ++ [x]) := .snoc hL he
        have hE2 := entsO_run (balL accs (en ++ [x])) ((en ++ [x]).map (·.id)) (en ++ [x]) false (by have := hL2.len; omega) (fun x hx => by have := hL2.psl x hx; omega)
        rw [show (en ++ [x]).isEmpty = false by simp] at hE2
        have hS := sameE_run (en ++ [x]) (by have := hL2.len; omega) (fun x hx => by have := hL2.psl x hx; omega)
        have hm : en.map eEn ++ [[S x.id, I x.t, .sl (x.ps.map ePs)]] = (en ++ [x]).map eEn := by simp
        have hall : (∀ z ∈ en.map eEn, z.length = 3) = True := eq_true (fun z hz => by obtain ⟨y, _, rfl⟩ := List.mem_map.1 hz; rfl)
        have hll : (en.map eEn).length = en.length := by simp
        have s2 : (en.map eEn).length * 49 ≤ 140737488355328 := by omega
        have s3 : ((en.map eEn).length + 1) * 49 ≤ 140737488355328 := by omega
        simp only [ledP, ledH, ledE] at hp ht hd hE hE2
        simp only [Int.natCast_add, Int.cast_ofNat_Int] at ih'
        generalize (balL accs en).map encB = M1 at *
        generalize (en.map (·.id)).map encK = M2 at *
        generalize en.map eEn = L at *
        generalize (balL accs (en ++ [x])).map encB = N1 at *
        generalize ((en ++ [x]).map (·.id)).map encK = N2 at *
        generalize (en ++ [x]).map eEn = L' at *
        generalize (trL accs en).map ePs = T at *
        simp at hp
        simp [h1, h3, hp, ht, hd, hE, hE2, hS, hm, hall, s2, s3, hw]
        simpa using ih'
      · rw [if_neg he] at hp
        rw [if_neg he] at ih'
        replace ih' := ih' fl
        have hS := sameE_run en (by omega) (fun x hx => by have := hL.psl x hx; omega)
        have hT := sameP_run (trL accs en) (by have := trL_len (accs := accs) (en := en); have := hA.len; omega)
        simp only [ledP, ledH, ledE] at hp ht hd hE
        simp only [Int.natCast_add, Int.cast_ofNat_Int] at ih'
        generalize (balL accs en).map encB = M1 at *
        generalize (en.map (·.id)).map encK = M2 at *
        generalize en.map eEn = L at *
        generalize (trL accs en).map ePs = T at *
        simp at hp
        simp [h1, h3, hp, ht, hd, hE, hS, hT, he, hw]
        simpa using ih'
theorem refuses_law (l : List ByteArray) (ens : List Ent) (hl : l.length ≤ 9223372036854775807) (hens : ens.length ≤ 9223372036854775807) : F_law51_LedgerRefuses [.sl (l.map eNm), .sl (ens.map eEn)] = some (B true) := by
  rw [F_law51_LedgerRefuses_eq]
  have hf := few_run l hl
  have hs := short_run ens hens
  cases h0 : fewM l
  · simp [h0] at hf
    simp [hf, awake51_run]
  simp [h0] at hf
  cases h1 : shortM ens
  · simp [h1] at hs
    simp [hf, hs, awake51_run]
  simp [h1] at hs
  by_cases hm : mkE l = 0
  · have hn := newGood_run l hm
    have hA := accs_of hm (fun a ha => by simp [fewM] at h0; have := few100_mem h0.1 a ha; omega)
    have hl20 : ens.length ≤ 20 := by simp [shortM] at h1; omega
    have ih := ref_loop hA ens (by omega) bigL 0 ens [] true .nil rfl (by have := bigL_ge; omega)
    simp at ih
    generalize (balL l []).map encB = M at *
    simp [hf, hs, hn, ih, awake51_run]
  · have hn := newBad_run l hm
    simp [hf, hs, hn, hm, awake51_run]
end Go.Proofs.YtgngoijehjphoaaDoor
