/-
  The chapter's example, run abstractly.
-/
import Derived.Test.YtjhlidaikegelaaGreatFtU
namespace Go.Proofs.YtjhlidaikegelaaGreat
set_option linter.unusedSimpArgs false
set_option linter.unusedVariables false
open Go Go.Abs
set_option maxHeartbeats 8000000
set_option maxRecDepth 100000
def lgS : ByteArray := ⟨#[76, 48, 48, 48, 48, 48, 49, 87]⟩
def lg7 : ByteArray := ⟨#[76, 48, 48, 48, 48, 48, 49]⟩
theorem letter7_run : F_law42_letter [S lg7] = some (Y 87) := by
  rw [F_law42_letter_eq]
  obtain ⟨m, hm⟩ := bigL_succ 8 (by omega)
  rw [hm]
  have hs : lg7.size = 7 := rfl
  have g0 : ∀ h, lg7[0]'h = 76 := fun _ => rfl
  have g1 : ∀ h, lg7[1]'h = 48 := fun _ => rfl
  have g2 : ∀ h, lg7[2]'h = 48 := fun _ => rfl
  have g3 : ∀ h, lg7[3]'h = 48 := fun _ => rfl
  have g4 : ∀ h, lg7[4]'h = 48 := fun _ => rfl
  have g5 : ∀ h, lg7[5]'h = 48 := fun _ => rfl
  have g6 : ∀ h, lg7[6]'h = 49 := fun _ => rfl
  simp [hs]
  iterate 8 (rw [L_law42_letter_succ, R_law42_letter_eq]; simp [hs, g0, g1, g2, g3, g4, g5, g6])
  decide
theorem log_run : F_law42_log [] = some (S lgS) := by
  rw [F_law42_log_eq]
  have h := letter7_run
  unfold lg7 at h
  simp [h]
  rfl
def sampG (lg : ByteArray) : Gd := ⟨⟨⟨#[66, 48, 48, 48, 48, 52, 50, 85]⟩, lg, ⟨#[112, 105, 110, 101]⟩, 0, 0, 105, 0, 42, 0, 2000, 0, [⟨1, 0, 10, 0, 20, 0, 5⟩, ⟨4, 50, 60, 0, 20, 0, 5⟩, ⟨1, 0, 10, 0, 20, 500, 505⟩], 0, ⟨1200, 1200, 0⟩, false, 0⟩,
  [⟨⟨#[112, 108, 97, 110, 107]⟩, 40, 100, 50, 0, [2000], [70]⟩], ⟨⟨#[112, 105, 110, 101]⟩, 9000, 500, 80, 600, 2500, 20000, 800, 250, 480, 11000, 400, 60⟩⟩
theorem sample_run : ∃ d1 d2, WF_law42_sample [] = some (.agg [S ⟨#[66, 48, 48, 48, 48, 52, 50, 85]⟩, S ByteArray.empty, S ⟨#[112, 105, 110, 101]⟩, I 0, I 0, I 105, I 0, I 42, I 0, I 2000, I 0, d1, I 0, I 1200, I 1200, I 0, B false, I 0, d2,
    S ⟨#[112, 105, 110, 101]⟩, I 9000, I 500, I 80, I 600, I 2500, I 20000, I 800, I 250, I 480, I 11000, I 400, I 60]) ∧ d1 = .own true ((sampG lgS).b.dfs.map eDf) ∧ d2 = .own false ((sampG lgS).ps.map ePd) := by
  refine ⟨_, _, ?_, rfl, rfl⟩
  rw [WF_law42_sample_eq, F_law42_sample_eq]
  have b1 := lbox_run 0 0 (by simp [i64]) (by simp [i64])
  have b2 := lbox_run 50 0 (by simp [i64]) (by simp [i64])
  have b3 := lbox_run 0 500 (by simp [i64]) (by simp [i64])
  simp at b1 b2 b3
  simp [b1, b2, b3, weakD, weak1, weakC, sampG]
def awF : List (ByteArray × Int) := [(nThick, 40), (nWidth, 100), (nLength, 2000), (nKnots, 2), (nDead, 0), (nRot, 0), (nCracks, 1), (nResin, 0), (nInsects, 0), (nMaxknot, 20), (nMaxdead, 0), (nWorst, 20), (nWane, 0), (nChecks, 0), (nMoist, 1200), (nGradient, 0), (nUnder, 0), (nStiff, 10164)]
theorem aw_none : featsG (sampG ByteArray.empty) = [] := by decide +kernel
theorem aw_feats : featsG (sampG lgS) = awF := by decide +kernel
def nSize : ByteArray := ⟨#[115, 105, 122, 101]⟩
theorem awake_run : F_law42_awake [] = some (B true) := by
  obtain ⟨d1, d2, hs, e1, e2⟩ := sample_run
  subst e1 e2
  have o1 := lof_run (sampG ByteArray.empty)
  have o2 := lof_run (sampG lgS)
  rw [aw_none] at o1
  rw [aw_feats] at o2
  have hl : awF.length ≤ 1000 := by decide
  have q1 := get_run awF nSize hl
  have q2 := get_run awF nKnots hl
  have q3 := lget_run awF nDead hl
  have q4 := lget_run awF nCracks hl
  have q5 := lget_run awF nMaxknot hl
  have q6 := lget_run awF nWorst hl
  have q7 := lget_run awF nLength hl
  have q8 := lget_run awF nMoist hl
  rw [show getF nSize awF = (0, false) from rfl] at q1
  rw [show getF nKnots awF = (2, true) from rfl] at q2
  rw [show getF nDead awF = (0, true) from rfl] at q3
  rw [show getF nCracks awF = (1, true) from rfl] at q4
  rw [show getF nMaxknot awF = (20, true) from rfl] at q5
  rw [show getF nWorst awF = (20, true) from rfl] at q6
  rw [show getF nLength awF = (2000, true) from rfl] at q7
  rw [show getF nMoist awF = (1200, true) from rfl] at q8
  unfold nSize nKnots nDead nCracks nMaxknot nWorst nLength nMoist at *
  have hn := names_run
  have hn17 : (nmsF.map eNm)[17]? = some (eNm nStiff) := rfl
  have hnl : nmsF.length = 18 := rfl
  have hal : awF.length = 18 := rfl
  unfold nStiff at hn17
  have hn18 : ∀ h, (nmsF[17]'h).toList = [115, 116, 105, 102, 102] := fun _ => by
    rw [Go.ByteArray.toList_eq]
    rfl
  rw [F_law42_awake_eq]
  generalize awF = l at *
  generalize nmsF = nm at *
  simp [sampG] at hs o1 o2
  simp at hn17
  have hlg := log_run
  unfold lgS at hlg o2
  simp [hs, o1, o2, hlg, q1, q2, q3, q4, q5, q6, q7, q8, hn, hn17, hn18, hnl, hal]
end Go.Proofs.YtjhlidaikegelaaGreat
