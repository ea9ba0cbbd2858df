/-
  The statements' own helpers, run abstractly: few, light.
-/
import Derived.Test.YtdefohgkniglpaaGreatDoorChA
namespace Go.Proofs.YtdefohgkniglpaaGreatDoor
set_option linter.unusedSimpArgs false
set_option linter.unusedVariables false
open Go Go.Abs
set_option maxHeartbeats 16000000
set_option maxRecDepth 100000
/-! ### few, light -/
def fewB : List Bd → Bool
  | [] => true
  | b :: r => if (100 : Int) < b.sp.size then false else if (100 : Int) < b.id.size then false else if (100 : Int) < b.log.size then false else if (2000 : Int) < b.dfs.length then false else fewB r
def sumD (n : Int) : List Bd → Int
  | [] => n
  | b :: r => sumD (n + b.dfs.length) r
def fewM (g : Gv) : Bool :=
  if (1100 : Int) < g.l.length then false else if (40 : Int) < g.sg.length then false else if (100 : Int) < g.nm.size then false else if (100 : Int) < g.w.name.size then false else if (60 : Int) < g.fs.length then false else
  fewB g.l && decide (sumD 0 g.l ≤ 2000)
def lightM (g : Gv) : Bool := fewM g && (decide ((g.l.length : Int) ≤ 8) && (decide (g.ticks ≤ 150) || decide (20000 < g.ticks)))
theorem fewB_mem : ∀ {l : List Bd}, fewB l = true → ∀ b ∈ l, b.dfs.length ≤ 2000
  | [], _, b, hb => by simp at hb
  | x :: r, h, b, hb => by
    unfold fewB at h
    repeat' split at h
    all_goals first | (simp at h; done) | skip
    rcases List.mem_cons.1 hb with rfl | hb
    · omega
    · exact fewB_mem h b hb
structure Few (g : Gv) : Prop where
  l : g.l.length ≤ 1100
  fs : g.fs.length ≤ 60
  d : ∀ b ∈ g.l, b.dfs.length ≤ 2000
theorem few_of {g : Gv} (h : fewM g = true) : Few g := by
  unfold fewM at h
  repeat' split at h
  all_goals first | (simp at h; done) | skip
  simp only [Bool.and_eq_true] at h
  exact ⟨by omega, by omega, fewB_mem h.1⟩
theorem light_of {g : Gv} (h : lightM g = true) : Few g ∧ g.l.length ≤ 8 ∧ (g.ticks ≤ 150 ∨ 20000 < g.ticks) := by
  unfold lightM at h
  simp only [Bool.and_eq_true, Bool.or_eq_true, decide_eq_true_eq] at h
  exact ⟨few_of h.1, by omega, h.2.2⟩
theorem few_loop (g : Gv) (hl : g.l.length ≤ 1100) : ∀ (n i : Nat) (r : List Bd) (s : Int), g.l.drop i = r → r.length < n → 0 ≤ s → s ≤ i * 2000 →
    L_law40_few 5 n ⟨[(0, .any), (1, .ptr 1 0), (2, .any), (3, I s), (4, I i)], [(1, .box 30 (eGv g))]⟩ =
      if fewB r = true then some (.ex 0, ⟨[(0, .any), (1, .any), (2, .any), (3, I (sumD s r)), (4, .any)], []⟩) else some (.ret, ⟨[(0, .any), (1, .any), (2, B false), (3, .any), (4, .any)], []⟩)
  | 0, _, _, _, _, hn, _, _ => by omega
  | n + 1, i, [], s, hr, hn, _, _ => by
    rw [L_law40_few_succ, R_law40_few_eq]
    simp [dn hr, fewB, sumD]
  | n + 1, i, x :: r, s, hr, hn, h0, hs => by
    rw [L_law40_few_succ, R_law40_few_eq]
    obtain ⟨h1, h3, hr', hi⟩ := dc (enc := eBd) hr
    have hw := wrapN (n := i) (by omega)
    by_cases a1 : (100 : Int) < x.sp.size
    · simp [h1, h3, fewB, a1]
    by_cases a2 : (100 : Int) < x.id.size
    · simp [h1, h3, fewB, a1, a2]
    by_cases a3 : (100 : Int) < x.log.size
    · simp [h1, h3, fewB, a1, a2, a3]
    by_cases a4 : (2000 : Int) < x.dfs.length
    · simp [h1, h3, fewB, a1, a2, a3, a4]
    have ih := few_loop g hl n (i + 1) r (s + x.dfs.length) hr' (by simp at hn; omega) (by omega) (by omega)
    have hw2 : IntKind.i64.wrap (s + x.dfs.length) = s + x.dfs.length := wrap64 (by omega) (by omega)
    simp at ih
    simp [h1, h3, fewB, a1, a2, a3, a4, sumD, hw, hw2, ih]
theorem few_run (g : Gv) : F_law40_few [.agg (eGv g)] = some (B (fewM g)) := by
  rw [F_law40_few_eq]
  unfold fewM
  by_cases a1 : (1100 : Int) < g.l.length
  · simp [a1]
  by_cases a2 : (40 : Int) < g.sg.length
  · simp [a1, a2]
  by_cases a3 : (100 : Int) < g.nm.size
  · simp [a1, a2, a3]
  by_cases a4 : (100 : Int) < g.w.name.size
  · simp [a1, a2, a3, a4]
  by_cases a5 : (60 : Int) < g.fs.length
  · simp [a1, a2, a3, a4, a5]
  have ih := few_loop g (by omega) bigL 0 g.l 0 rfl (by have := bigL_ge; omega) (by omega) (by omega)
  simp at ih
  cases h : fewB g.l <;> simp [a1, a2, a3, a4, a5, ih, h]
theorem light_run (g : Gv) : F_law40_light [.agg (eGv g)] = some (B (lightM g)) := by
  rw [F_law40_light_eq]
  have h := few_run g
  unfold lightM
  simp at h
  cases hf : fewM g
  · simp [h, hf]
  · by_cases a1 : (g.l.length : Int) ≤ 8
    · by_cases a2 : g.ticks ≤ 150
      · simp [h, hf, a1, a2]
      · simp [h, hf, a1, a2]
    · simp [h, hf, a1]
end Go.Proofs.YtdefohgkniglpaaGreatDoor
