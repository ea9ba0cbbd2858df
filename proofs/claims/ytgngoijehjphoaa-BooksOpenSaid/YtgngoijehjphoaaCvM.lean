/-
  Plain laws of grids: a grid has its values at its numbers, and nowhere a value outside of their range.
-/
import Derived.Test.YtgngoijehjphoaaCvH
namespace Go.Proofs.Ytgngoijehjphoaa
set_option linter.unusedSimpArgs false
set_option linter.unusedVariables false
open Go Go.Abs
set_option maxHeartbeats 2000000
set_option maxRecDepth 100000

theorem chkA_chk : ∀ (l : List Int) (p : Option Int), chkA p l = chk p (l.map fun n => (n, 0))
  | [], _ => rfl
  | n :: r, p => by
    rw [chkA, List.map_cons, chk, chkA_chk r]
    have : inR 0 = true := rfl
    simp [this]
theorem axis_zero {l : List Int} (h : axis l = 0) : (∀ n ∈ l, inR n = true) ∧ l.Pairwise (· < ·) := by
  rw [axis, chkA_chk] at h
  obtain ⟨a, b, _⟩ := chk_zero _ _ h
  refine ⟨fun n hn => (a (n, 0) (List.mem_map_of_mem hn)).1, ?_⟩
  have e : (l.map fun n => (n, (0 : Int))).map (·.1) = l := by
    rw [List.map_map]
    exact List.map_id' l
  rw [e] at b
  exact b
theorem zip_fst {l r : List Int} (h : l.length ≤ r.length) : (l.zip r).map (·.1) = l := by
  apply List.ext_getElem
  · simp; omega
  · intro i h1 h2; simp
/-- A curve out of an axis and values. -/
theorem good_zip {l r : List Int} (hn : l ≠ []) (hl : l.length ≤ 16) (ha : axis l = 0) (hr : l.length ≤ r.length) (hv : ∀ n ∈ r, inR n = true) : Good (l.zip r) := by
  obtain ⟨a, b⟩ := axis_zero ha
  have hpos := List.length_pos_iff.2 hn
  refine ⟨?_, by simp; omega, ?_, by rw [zip_fst hr]; exact b⟩
  · intro h
    have h0 := congrArg List.length h
    rw [List.length_zip, List.length_nil] at h0
    omega
  · intro q hq
    have := a _ (List.of_mem_zip hq).1
    have := hv _ (List.of_mem_zip hq).2
    rw [inR_iff] at *
    exact ⟨by assumption, by assumption⟩
/-- A curve has no value outside of the range of its points. -/
theorem at_range {l : List (Int × Int)} (hg : Good l) {lo hi : Int} (h : ∀ q ∈ l, lo ≤ q.2 ∧ q.2 ≤ hi) (x : Int) : lo ≤ at' l x ∧ at' l x ≤ hi := by
  rcases place hg x with h1 | ⟨i, hi', h1, h2⟩ | h1
  · rw [at_low hg hg.pos h1]; exact h _ (List.getElem_mem _)
  · have a := at_between hg hi' (by omega) h2
    have b := h _ (List.getElem_mem (l := l) (n := i) (by omega))
    have c := h _ (List.getElem_mem (l := l) (n := i + 1) (by omega))
    omega
  · rw [at_high hg (by omega)]; exact h _ (List.getElem_mem _)
theorem GoodG.rowGood {g : G} (hg : GoodG g) {r : List Int} (hr : r ∈ g.vs) : Good (g.ys.zip r) :=
  good_zip hg.ny hg.ly hg.ay (by have := (hg.row r hr).1; omega) (hg.row r hr).2
theorem rowAt_range {g : G} (hg : GoodG g) {r : List Int} (hr : r ∈ g.vs) {lo hi : Int} (h : ∀ n ∈ r, lo ≤ n ∧ n ≤ hi) (y : Int) : lo ≤ rowAt g y r ∧ rowAt g y r ≤ hi :=
  at_range (hg.rowGood hr) (fun q hq => h _ (List.of_mem_zip hq).2) y
theorem GoodG.good {g : G} (hg : GoodG g) (y : Int) : Good (g.xs.zip (g.vs.map (rowAt g y))) := by
  refine good_zip hg.nx hg.lx hg.ax (by have := hg.lv; simp; omega) ?_
  intro n hn
  obtain ⟨r, hr, rfl⟩ := List.mem_map.1 hn
  rw [inR_iff]
  exact rowAt_range hg hr (fun n hn => inR_iff.1 ((hg.row r hr).2 n hn)) y
theorem value_range {g : G} (hg : GoodG g) {lo hi : Int} (h : ∀ r ∈ g.vs, ∀ n ∈ r, lo ≤ n ∧ n ≤ hi) (x y : Int) : lo ≤ value g x y ∧ value g x y ≤ hi := by
  rw [value, if_pos ((goodG_iff g).2 hg)]
  refine at_range (hg.good y) ?_ x
  intro q hq
  obtain ⟨r, hr, e⟩ := List.mem_map.1 (List.of_mem_zip hq).2
  rw [← e]
  exact rowAt_range hg hr (h r hr) y
theorem value_point {g : G} (hg : GoodG g) {i k : Nat} (hi : i < g.xs.length) (hk : k < g.ys.length) : value g g.xs[i] g.ys[k] = ((g.vs[i]'(by have := hg.lv; omega))[k]'(by have := (hg.row (g.vs[i]'(by have := hg.lv; omega)) (List.getElem_mem _)).1; omega)) := by
  have hlv := hg.lv
  have hrow := (hg.row (g.vs[i]'(by omega)) (List.getElem_mem _)).1
  rw [value, if_pos ((goodG_iff g).2 hg)]
  have h1 := at_point (hg.good g.ys[k]) (i := i) (by simp; omega)
  simp only [List.getElem_zip, List.getElem_map] at h1
  rw [h1]
  have h2 := at_point (hg.rowGood (List.getElem_mem (l := g.vs) (n := i) (by omega))) (i := k) (by simp; omega)
  simp only [List.getElem_zip] at h2
  rw [rowAt, h2]
end Go.Proofs.Ytgngoijehjphoaa
