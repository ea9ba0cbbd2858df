/-
  The statement CurveTables, run abstractly: a grid has its values at its numbers, and nowhere a value outside of their range.
-/
import Derived.Test.YtcgghmmljpikdaaCvH
namespace Go.Proofs.Ytcgghmmljpikdaa
set_option linter.unusedSimpArgs false
set_option linter.unusedVariables false
open Go Go.Abs
set_option maxHeartbeats 2000000
set_option maxRecDepth 100000

theorem chkA_chk : ∀ (l : List Int) (p : Option Int), chkA p l = chk p (l.map fun n => (n, 0))
  | [], _ => rfl
  | n :: r, p => by
    rw [chkA, List.map_cons, chk, chkA_chk r]
    have : inR 0 = true := rfl
    simp [this]
theorem axis_zero {l : List Int} (h : axis l = 0) : (∀ n ∈ l, inR n = true) ∧ l.Pairwise (· < ·) := by
  rw [axis, chkA_chk] at h
  obtain ⟨a, b, _⟩ := chk_zero _ _ h
  refine ⟨fun n hn => (a (n, 0) (List.mem_map_of_mem hn)).1, ?_⟩
  have e : (l.map fun n => (n, (0 : Int))).map (·.1) = l := by
    rw [List.map_map]
    exact List.map_id' l
  rw [e] at b
  exact b
theorem zip_fst {l r : List Int} (h : l.length ≤ r.length) : (l.zip r).map (·.1) = l := by
  apply List.ext_getElem
  · simp; omega
  · intro i h1 h2; simp
/-- A curve out of an axis and values. -/
theorem good_zip {l r : List Int} (hn : l ≠ []) (hl : l.length ≤ 16) (ha : axis l = 0) (hr : l.length ≤ r.length) (hv : ∀ n ∈ r, inR n = true) : Good (l.zip r) := by
  obtain ⟨a, b⟩ := axis_zero ha
  have hpos := List.length_pos_iff.2 hn
  refine ⟨?_, by simp; omega, ?_, by rw [zip_fst hr]; exact b⟩
  · intro h
    have h0 := congrArg List.length h
    rw [List.length_zip, List.length_nil] at h0
    omega
  · intro q hq
    have := a _ (List.of_mem_zip hq).1
    have := hv _ (List.of_mem_zip hq).2
    rw [inR_iff] at *
    exact ⟨by assumption, by assumption⟩
/-- A curve has no value outside of the range of its points. -/
theorem at_range {l : List (Int × Int)} (hg : Good l) {lo hi : Int} (h : ∀ q ∈ l, lo ≤ q.2 ∧ q.2 ≤ hi) (x : Int) : lo ≤ at' l x ∧ at' l x ≤ hi := by
  rcases place hg x with h1 | ⟨i, hi', h1, h2⟩ | h1
  · rw [at_low hg hg.pos h1]; exact h _ (List.getElem_mem _)
  · have a := at_between hg hi' (by omega) h2
    have b := h _ (List.getElem_mem (l := l) (n := i) (by omega))
    have c := h _ (List.getElem_mem (l := l) (n := i + 1) (by omega))
    omega
  · rw [at_high hg (by omega)]; exact h _ (List.getElem_mem _)
theorem GoodG.rowGood {g : G} (hg : GoodG g) {r : List Int} (hr : r ∈ g.vs) : Good (g.ys.zip r) :=
  good_zip hg.ny hg.ly hg.ay (by have := (hg.row r hr).1; omega) (hg.row r hr).2
theorem rowAt_range {g : G} (hg : GoodG g) {r : List Int} (hr : r ∈ g.vs) {lo hi : Int} (h : ∀ n ∈ r, lo ≤ n ∧ n ≤ hi) (y : Int) : lo ≤ rowAt g y r ∧ rowAt g y r ≤ hi :=
  at_range (hg.rowGood hr) (fun q hq => h _ (List.of_mem_zip hq).2) y
theorem GoodG.good {g : G} (hg : GoodG g) (y : Int) : Good (g.xs.zip (g.vs.map (rowAt g y))) := by
  refine good_zip hg.nx hg.lx hg.ax (by have := hg.lv; simp; omega) ?_
  intro n hn
  obtain ⟨r, hr, rfl⟩ := List.mem_map.1 hn
  rw [inR_iff]
  exact rowAt_range hg hr (fun n hn => inR_iff.1 ((hg.row r hr).2 n hn)) y
theorem value_range {g : G} (hg : GoodG g) {lo hi : Int} (h : ∀ r ∈ g.vs, ∀ n ∈ r, lo ≤ n ∧ n ≤ hi) (x y : Int) : lo ≤ value g x y ∧ value g x y ≤ hi := by
  rw [value, if_pos ((goodG_iff g).2 hg)]
  refine at_range (hg.good y) ?_ x
  intro q hq
  obtain ⟨r, hr, e⟩ := List.mem_map.1 (List.of_mem_zip hq).2
  rw [← e]
  exact rowAt_range hg hr (h r hr) y
theorem value_point {g : G} (hg : GoodG g) {i k : Nat} (hi : i < g.xs.length) (hk : k < g.ys.length) : value g g.xs[i] g.ys[k] = ((g.vs[i]'(by have := hg.lv; omega))[k]'(by have := (hg.row (g.vs[i]'(by have := hg.lv; omega)) (List.getElem_mem _)).1; omega)) := by
  have hlv := hg.lv
  have hrow := (hg.row (g.vs[i]'(by omega)) (List.getElem_mem _)).1
  rw [value, if_pos ((goodG_iff g).2 hg)]
  have h1 := at_point (hg.good g.ys[k]) (i := i) (by simp; omega)
  simp only [List.getElem_zip, List.getElem_map] at h1
  rw [h1]
  have h2 := at_point (hg.rowGood (List.getElem_mem (l := g.vs) (n := i) (by omega))) (i := k) (by simp; omega)
  simp only [List.getElem_zip] at h2
  rw [rowAt, h2]
def lows (a : Int) : List Int → Int
  | [] => a
  | n :: r => lows (if n < a then n else a) r
def highs (a : Int) : List Int → Int
  | [] => a
  | n :: r => highs (if a < n then n else a) r
theorem lows_le : ∀ (l : List Int) (a : Int), lows a l ≤ a ∧ ∀ n ∈ l, lows a l ≤ n
  | [], a => by simp [lows]
  | m :: r, a => by
    rw [lows]
    obtain ⟨h1, h2⟩ := lows_le r (if m < a then m else a)
    refine ⟨by split at h1 <;> split <;> omega, ?_⟩
    intro n hn
    rcases List.mem_cons.1 hn with rfl | hn
    · split at h1 <;> split <;> omega
    · exact h2 n hn
theorem le_highs : ∀ (l : List Int) (a : Int), a ≤ highs a l ∧ ∀ n ∈ l, n ≤ highs a l
  | [], a => by simp [highs]
  | m :: r, a => by
    rw [highs]
    obtain ⟨h1, h2⟩ := le_highs r (if a < m then m else a)
    refine ⟨by split at h1 <;> split <;> omega, ?_⟩
    intro n hn
    rcases List.mem_cons.1 hn with rfl | hn
    · split at h1 <;> split <;> omega
    · exact h2 n hn
def lowsR (a : Int) : List (List Int) → Int
  | [] => a
  | r :: rs => lowsR (lows a r) rs
def highsR (a : Int) : List (List Int) → Int
  | [] => a
  | r :: rs => highsR (highs a r) rs
theorem lowsR_le : ∀ (l : List (List Int)) (a : Int), lowsR a l ≤ a ∧ ∀ r ∈ l, ∀ n ∈ r, lowsR a l ≤ n
  | [], a => by simp [lowsR]
  | m :: rs, a => by
    rw [lowsR]
    obtain ⟨h1, h2⟩ := lowsR_le rs (lows a m)
    obtain ⟨h3, h4⟩ := lows_le m a
    refine ⟨by omega, ?_⟩
    intro r hr n hn
    rcases List.mem_cons.1 hr with rfl | hr
    · have := h4 n hn; omega
    · exact h2 r hr n hn
theorem le_highsR : ∀ (l : List (List Int)) (a : Int), a ≤ highsR a l ∧ ∀ r ∈ l, ∀ n ∈ r, n ≤ highsR a l
  | [], a => by simp [highsR]
  | m :: rs, a => by
    rw [highsR]
    obtain ⟨h1, h2⟩ := le_highsR rs (highs a m)
    obtain ⟨h3, h4⟩ := le_highs m a
    refine ⟨by omega, ?_⟩
    intro r hr n hn
    rcases List.mem_cons.1 hr with rfl | hr
    · have := h4 n hn; omega
    · exact h2 r hr n hn
theorem cells_loop (g : G) (hf : g.Fits) (hg : GoodG g) (x y : Int) (j : Nat) (hj : j < g.xs.length) (r : List Int) (hr : g.vs[j]? = some r) : ∀ (n i : Nat) (lo hi : Int), i ≤ g.ys.length → g.ys.length - i < n →
    L_law08_CurveTables 8 n ⟨[(0, .any), (1, I x), (2, I y), (3, .ptr 3 0), (6, .any), (7, I lo), (8, I hi), (9, I j), (10, I i), (11, .any), (12, .any)], [(3, .box 34 (eG g))]⟩ =
      some (.ex 2, ⟨[(0, .any), (1, I x), (2, I y), (3, .ptr 3 0), (6, .any), (7, I (lows lo (r.drop i))), (8, I (highs hi (r.drop i))), (9, I j), (10, .any), (11, .any), (12, .any)], [(3, .box 34 (eG g))]⟩)
  | 0, i, _, _, _, hn => by omega
  | n + 1, i, lo, hi, hle, hn => by
    rw [L_law08_CurveTables_succ, R_law08_CurveTables_eq]
    have hly := hg.ly
    have hrl : r.length = g.ys.length := (hg.row r (List.mem_of_getElem? hr)).1
    have hjx := List.getElem?_eq_getElem hj
    by_cases h : i < g.ys.length
    · have h1 := List.getElem?_eq_getElem h
      have h2 := List.getElem?_eq_getElem (l := r) (i := i) (by omega)
      have h3 : (i : Int) < g.ys.length := by omega
      have hw := wrapN (n := i) (by omega)
      have ih := fun lo hi => cells_loop g hf hg x y j hj r hr n (i + 1) lo hi (by omega) (by omega)
      simp only [Int.natCast_add, Int.natCast_one] at ih
      have hv := value_run g g.xs[j] g.ys[i] hf
      rw [value_point hg hj h] at hv
      have hr' : g.vs[j]'(by have := hg.lv; omega) = r := by
        have := List.getElem?_eq_getElem (l := g.vs) (i := j) (by have := hg.lv; omega)
        rw [hr] at this
        exact (Option.some.inj this).symm
      simp only [hr'] at hv
      simp at hv ih
      rw [List.drop_eq_getElem_cons (show i < r.length by omega), lows, highs]
      simp [hr, hjx, h1, h2, h3, hw, hv, ih]
    · have h3 : ¬ (i : Int) < g.ys.length := by omega
      have h4 : r.drop i = [] := List.drop_of_length_le (by omega)
      simp [h3, h4, lows, highs]
theorem tables_loop (g : G) (hf : g.Fits) (hg : GoodG g) (x y : Int) : ∀ (n i : Nat) (lo hi : Int), i ≤ g.xs.length → g.xs.length - i < n →
    L_law08_CurveTables 5 n ⟨[(0, .any), (1, I x), (2, I y), (3, .ptr 3 0), (6, .any), (7, I lo), (8, I hi), (9, I i), (10, .any), (11, .any), (12, .any)], [(3, .box 34 (eG g))]⟩ =
      some (.ex 0, ⟨[(0, .any), (1, I x), (2, I y), (3, .ptr 3 0), (6, .any), (7, I (lowsR lo (g.vs.drop i))), (8, I (highsR hi (g.vs.drop i))), (9, .any), (10, .any), (11, .any), (12, .any)], [(3, .box 34 (eG g))]⟩)
  | 0, i, _, _, _, hn => by omega
  | n + 1, i, lo, hi, hle, hn => by
    rw [L_law08_CurveTables_succ, R_law08_CurveTables_eq]
    have hlx := hg.lx
    have hlv := hg.lv
    by_cases h : i < g.xs.length
    · have h2 := List.getElem?_eq_getElem (l := g.vs) (i := i) (by omega)
      have h3 : (i : Int) < g.xs.length := by omega
      have hw := wrapN (n := i) (by omega)
      have ih := fun lo hi => tables_loop g hf hg x y n (i + 1) lo hi (by omega) (by omega)
      have hc := cells_loop g hf hg x y i h _ h2 bigL 0 lo hi (by omega) (by have := bigL_ge; have := hg.ly; omega)
      simp only [Int.natCast_add, Int.natCast_one] at ih
      simp at hc ih
      rw [List.drop_eq_getElem_cons (show i < g.vs.length by omega), lowsR, highsR]
      simp [h3, hw, hc, ih]
    · have h3 : ¬ (i : Int) < g.xs.length := by omega
      have h4 : g.vs.drop i = [] := List.drop_of_length_le (by omega)
      simp [h3, h4, lowsR, highsR]
theorem tables_law (g : G) (x y : Int) (hf : g.Fits) : F_law08_CurveTables [.agg (eG g), I x, I y] = some (B true) := by
  rw [F_law08_CurveTables_eq]
  have hfew := few_run g
  have hcg := rcheckG_run g hf
  simp at hfew hcg
  cases hw : few g
  · simp [hw] at hfew; simp [hfew, awake_run]
  · rw [hw] at hfew
    by_cases hc : checkG g = 0
    · have hg := (goodG_iff g).1 hc
      have hpx := List.length_pos_iff.2 hg.nx
      have hpy := List.length_pos_iff.2 hg.ny
      have hlv := hg.lv
      have h1 := List.getElem?_eq_getElem (l := g.vs) (i := 0) (by omega)
      have hrl := (hg.row _ (List.getElem_mem (l := g.vs) (n := 0) (by omega))).1
      have h2 := List.getElem?_eq_getElem (l := g.vs[0]'(by omega)) (i := 0) (by omega)
      have ih := fun lo hi => tables_loop g hf hg x y bigL 0 lo hi (by omega) (by have := bigL_ge; have := hg.lx; omega)
      have hv := value_run g x y hf
      simp at ih hv
      rw [hc] at hcg
      have e1 := value_range hg (lo := lowsR ((g.vs[0]'(by omega))[0]'(by omega)) g.vs) (hi := highsR ((g.vs[0]'(by omega))[0]'(by omega)) g.vs) (fun r hr n hn => ⟨(lowsR_le _ _).2 r hr n hn, (le_highsR _ _).2 r hr n hn⟩) x y
      simp [hfew, hcg, h1, h2, ih, hv, awake_run, e1]
    · simp [hfew, hcg, hc, awake_run]
end Go.Proofs.Ytcgghmmljpikdaa
