/-
  The examples of the chapter, run abstractly.
-/
import Derived.Test.YtdefohgkniglpaaGreatDoorChC
import Derived.Test.YtdefohgkniglpaaGreatDoorChE
import Derived.Test.YtdefohgkniglpaaGreatDoorChS
import Derived.Test.YtdefohgkniglpaaGreatDoorChD
namespace Go.Proofs.YtdefohgkniglpaaGreatDoor
set_option linter.unusedSimpArgs false
set_option linter.unusedVariables false
open Go Go.Abs
set_option maxHeartbeats 16000000
set_option maxRecDepth 100000
theorem ldryGood_run (g : Gv) (ok : okGv g) (fw : Few g) (h : errD g = 0) : F_law40_dry [.agg (eGv g)] = some (.tup [.own false ((outB g).map eBd), .agg (eRn (rnM g)), I 0]) := by
  rw [F_law40_dry_eq]
  have d := dryGood_run g (by have := fw.l; omega) ok.b (fun b hb => by have := fw.d b hb; omega) (by have := fw.fs; omega) h
  simp at d
  simp [d]
theorem ldryBad_run (g : Gv) (ok : okGv g) (fw : Few g) (h : ¬ errD g = 0) : F_law40_dry [.agg (eGv g)] = some (.tup [.own true [], .agg [I 0, I 0, I 0, I 0, I 0, I 0], I (errD g)]) := by
  rw [F_law40_dry_eq]
  have d := dryBad_run g (by have := fw.l; omega) ok.b (by have := fw.fs; omega) h
  simp at d
  simp [d]
def sampB : Bd := ⟨ByteArray.empty, ByteArray.empty, ⟨#[116, 101, 115, 116]⟩, 0, 0, 105, 0, 25, 0, 2000, 0, [], 0, ⟨2000, 2000, 0⟩, false, 0⟩
def sampW : Spc := ⟨⟨#[116, 101, 115, 116]⟩, 6000, 100, 50, 300, 800, 100, 700, 250, 500, 10000, 0, 0⟩
def sampC (t : Int) : Gv := ⟨[sampB], sampW, ⟨#[116, 119, 111]⟩, 50, [⟨0, 2, 400, 60⟩, ⟨0, 1, 600, 100⟩], [], t⟩
theorem sample_run (t : Int) : ∃ d1 d2 d3, WF_law40_sample [I t] = some (.agg [d1, S ⟨#[116, 101, 115, 116]⟩, I 6000, I 100, I 50, I 300, I 800, I 100, I 700, I 250, I 500, I 10000, I 0, I 0, S ⟨#[116, 119, 111]⟩, I 50, d2, d3, I t]) ∧ d1 = .own false [eBd sampB] ∧ d2 = .own true ([(⟨0, 2, 400, 60⟩ : Stg), ⟨0, 1, 600, 100⟩].map eSg) ∧ d3 = .own true [] := by
  refine ⟨_, _, _, ?_, rfl, rfl, rfl⟩
  rw [WF_law40_sample_eq, F_law40_sample_eq]
  simp [weakD, weak1, weakC, sampB]
def aw0 : Kl := newK ⟨#[116, 119, 111]⟩ 50 [⟨0, 2, 400, 60⟩, ⟨0, 1, 600, 100⟩] sampW [⟨25, ⟨2000, 2000, 0⟩⟩]
def aw1 : Kl := ⟨⟨#[116, 119, 111]⟩, 50, [⟨0, 2, 400, 60⟩, ⟨0, 1, 600, 100⟩], sampW, [⟨25, ⟨1996, 1999, 0⟩⟩], 250, 60, 0, 1, 1, 0⟩
def aw2 : Kl := ⟨⟨#[116, 119, 111]⟩, 50, [⟨0, 2, 400, 60⟩, ⟨0, 1, 600, 100⟩], sampW, [⟨25, ⟨1991, 1998, 0⟩⟩], 300, 60, 1, 0, 2, 0⟩
def aw3 : Kl := ⟨⟨#[116, 119, 111]⟩, 50, [⟨0, 2, 400, 60⟩, ⟨0, 1, 600, 100⟩], sampW, [⟨25, ⟨1977, 1997, 0⟩⟩], 350, 100, 2, 0, 3, 0⟩
theorem aw_1 : tickK aw0 [] = aw1 := rfl
theorem aw_2 : tickK aw1 [] = aw2 := rfl
theorem aw_3 : tickK aw2 [] = aw3 := rfl
theorem atM_nil (t : Int) : atM [] t = [] := by
  have := atM_len [] t
  simpa using this
theorem aw_g1 (t : Nat) : goR [] t (firstR aw0) = ⟨aw1, 250, 100, 3⟩ := by
  have e : (firstR aw0).k = aw0 := rfl
  unfold goR
  rw [atM_nil, e, aw_1]
  rfl
theorem aw_g2 (t : Nat) : goR [] t ⟨aw1, 250, 100, 3⟩ = ⟨aw2, 300, 100, 7⟩ := by
  unfold goR
  rw [atM_nil, aw_2]
  rfl
theorem aw_g3 (t : Nat) : goR [] t ⟨aw2, 300, 100, 7⟩ = ⟨aw3, 350, 100, 20⟩ := by
  unfold goR
  rw [atM_nil, aw_3]
  rfl
theorem aw_k (t : Int) : kil (sampC t) = aw0 := rfl
theorem aw_r100 : rnM (sampC 100) = ⟨aw3, 350, 100, 20⟩ := by
  unfold rnM
  rw [aw_k]
  show runM [] (97 + 1 + 1 + 1) 0 (firstR aw0) = _
  rw [runM_succ, if_neg (by decide), aw_g1, runM_succ, if_neg (by decide), aw_g2, runM_succ, if_neg (by decide), aw_g3, run_done _ _ _ _ (by decide)]
theorem aw_r1 : rnM (sampC 1) = ⟨aw1, 250, 100, 3⟩ := by
  unfold rnM
  rw [aw_k]
  show runM [] (0 + 1) 0 (firstR aw0) = _
  rw [runM_succ, if_neg (by decide), aw_g1]
  rfl
theorem aw_e100 : errD (sampC 100) = 0 := by decide +kernel
theorem aw_e1 : errD (sampC 1) = 0 := by decide +kernel
theorem aw_ok (t : Int) (h : i64 t) : okGv (sampC t) := ⟨by simp [sampC], by simp [sampC, sampB, okBd, i64], by simp [sampC], by simp [sampC], h⟩
theorem aw_few (t : Int) : Few (sampC t) := ⟨by simp [sampC], by simp [sampC], by simp [sampC, sampB]⟩
theorem aw_at : atM [⟨3, 0, 5⟩, ⟨1, 2, 4⟩, ⟨3, 3, 9⟩] 3 = [1, 3] := by
  rw [← rAt_eq]
  decide
theorem awake_run : F_law40_awake [] = some (B true) := by
  obtain ⟨a1, a2, a3, s1, e1, e2, e3⟩ := sample_run 100
  obtain ⟨b1, b2, b3, s2, f1, f2, f3⟩ := sample_run 1
  subst e1 e2 e3 f1 f2 f3
  have d1 := ldryGood_run (sampC 100) (aw_ok 100 (by simp [i64])) (aw_few 100) aw_e100
  have d2 := ldryGood_run (sampC 1) (aw_ok 1 (by simp [i64])) (aw_few 1) aw_e1
  unfold outB at d1 d2
  rw [aw_r100] at d1
  rw [aw_r1] at d2
  have c1 := cat_run [⟨3, 0, 5⟩, ⟨1, 2, 4⟩, ⟨3, 3, 9⟩] 3 (by simp)
  rw [aw_at] at c1
  have sf := safe_run ⟨aw3, 350, 100, 20⟩ sampW
  have si := sameI_run [1, 3] (by simp)
  rw [F_law40_awake_eq]
  simp [sampC, sampB, sampW, aw1, aw3, driedM] at s1 s2 d1 d2 c1 sf si
  simp [s1, s2, d1, d2, c1, sf, si, eqD, eqFs]
end Go.Proofs.YtdefohgkniglpaaGreatDoor
