/-
  CurveRow: a grid with one row, or one column, is a curve.
-/
import Derived.Test.YtiklahkoaikjeaaCvG
import Derived.Test.YtiklahkoaikjeaaCvM
import Derived.Test.YtiklahkoaikjeaaCvV
namespace Go.Proofs.Ytiklahkoaikjeaa
set_option linter.unusedSimpArgs false
set_option linter.unusedVariables false
open Go Go.Abs
set_option maxHeartbeats 8000000
set_option maxRecDepth 100000
/-! ### Plain laws -/
theorem axis_of {l : List Int} (h1 : ∀ n ∈ l, inR n = true) (h2 : l.Pairwise (· < ·)) : axis l = 0 := by
  rw [axis, chkA_chk]
  refine zero_chk _ _ (fun q hq => ?_) ?_ (fun y hy => by cases hy)
  · obtain ⟨n, hn, rfl⟩ := List.mem_map.1 hq
    exact ⟨h1 n hn, (rfl : inR 0 = true)⟩
  · have e : (l.map fun n => (n, (0 : Int))).map (·.1) = l := by
      rw [List.map_map]
      exact List.map_id' l
    rw [e]
    exact h2
theorem zip_parts (l : List (Int × Int)) : (l.map (·.1)).zip (l.map (·.2)) = l := by
  induction l with
  | nil => rfl
  | cons x r ih => simp only [List.map_cons, List.zip_cons_cons, ih]
theorem good_one {n w : Int} (hn : inR n = true) (hw : inR w = true) : Good [(n, w)] := by
  rw [← good_iff]
  unfold check
  rw [if_neg (by simp), if_neg (by simp)]
  exact zero_chk _ _ (fun q hq => by simp at hq; subst hq; exact ⟨hn, hw⟩) (by simp) (fun y hy => by cases hy)
theorem at_one {n w : Int} (hn : inR n = true) (hw : inR w = true) : at' [(n, w)] n = w := at_low (good_one hn hw) (by simp) (by simp)
theorem Good.ax {l : List (Int × Int)} (h : Good l) : axis (l.map (·.1)) = 0 ∧ ∀ v ∈ l.map (·.2), inR v = true := by
  have hc := (good_iff l).2 h
  unfold check at hc
  split at hc
  · omega
  split at hc
  · omega
  obtain ⟨a, b, _⟩ := chk_zero _ _ hc
  refine ⟨axis_of (fun n hn => ?_) b, fun v hv => ?_⟩
  · obtain ⟨q, hq, rfl⟩ := List.mem_map.1 hn
    exact (a q hq).1
  · obtain ⟨q, hq, rfl⟩ := List.mem_map.1 hv
    exact (a q hq).2
theorem at_inR {l : List (Int × Int)} (h : Good l) (x : Int) : inR (at' l x) = true := by
  rw [inR_iff]
  exact at_range h (fun q hq => inR_iff.1 (h.ax.2 _ (List.mem_map_of_mem hq))) x
theorem axis_one {n : Int} (hn : inR n = true) : axis [n] = 0 := axis_of (by simpa using hn) (by simp)
theorem row_good {l : List (Int × Int)} (h : Good l) {n : Int} (hn : inR n = true) : GoodG ⟨[n], l.map (·.1), [l.map (·.2)]⟩ :=
  ⟨by simp, by simpa using h.ne, by simp, by simpa using h.len, axis_one hn, h.ax.1, rfl, fun r hr => by simp at hr; subst hr; exact ⟨by simp, h.ax.2⟩⟩
theorem row_value {l : List (Int × Int)} (h : Good l) {n : Int} (hn : inR n = true) (x : Int) : value ⟨[n], l.map (·.1), [l.map (·.2)]⟩ n x = at' l x := by
  unfold value
  rw [if_pos ((goodG_iff _).2 (row_good h hn))]
  simp only [List.map_cons, List.map_nil, List.zip_cons_cons, List.zip_nil_right, rowAt, zip_parts]
  exact at_one hn (at_inR h x)
theorem col_good {l : List (Int × Int)} (h : Good l) {n : Int} (hn : inR n = true) : GoodG ⟨l.map (·.1), [n], l.map fun p => [p.2]⟩ :=
  ⟨by simpa using h.ne, by simp, by simpa using h.len, by simp, h.ax.1, axis_one hn, by simp, fun r hr => by
    obtain ⟨p, hp, rfl⟩ := List.mem_map.1 hr
    exact ⟨rfl, fun v hv => by simp at hv; subst hv; exact h.ax.2 _ (List.mem_map_of_mem hp)⟩⟩
theorem col_value {l : List (Int × Int)} (h : Good l) {n : Int} (hn : inR n = true) (x : Int) : value ⟨l.map (·.1), [n], l.map fun p => [p.2]⟩ x n = at' l x := by
  unfold value
  rw [if_pos ((goodG_iff _).2 (col_good h hn))]
  have e : (l.map fun p => [p.2]).map (rowAt ⟨l.map (·.1), [n], l.map fun p => [p.2]⟩ n) = l.map (·.2) := by
    rw [List.map_map]
    refine List.map_congr_left fun p hp => ?_
    exact at_one hn (h.ax.2 _ (List.mem_map_of_mem hp))
  rw [e, zip_parts]
/-! ### The run -/
/-- The state behind some points. -/
def rwS (l : List (Int × Int)) (n x : Int) (d9 : D) (q : List (Int × Int)) : St :=
  ⟨[(0, .sl (l.map eP)), (1, I n), (2, I x), (6, .any), (7, .ptr 7 0), (8, .ptr 8 0), (9, d9), (10, .any)],
    [(7, .box 30 [.own true [[I n]], .row 10701, .bsl 30 0 1 1]), (8, .box 30 [.row 10800, .own true [[I n]], .row 10802]), (30, .box 27 [.row 13000]),
      (10701, .row 3 1 true ((q.map (·.1)).map eI)), (10800, .row 3 1 true ((q.map (·.1)).map eI)), (10802, .row 27 1 false ((q.map fun p => [p.2]).map eR)), (13000, .row 3 1 true ((q.map (·.2)).map eI))]⟩
theorem rw_loop (l : List (Int × Int)) (hl : l.length ≤ 100) (n x : Int) : ∀ (m i : Nat) (r q : List (Int × Int)), l.drop i = r → r.length < m → q.length = i →
    L_law08_CurveRow 6 m (rwS l n x (I i) q) = some (.ex 0, rwS l n x .any (q ++ r)) := by
  intro m
  induction m with
  | zero => intro i r q hr hm; omega
  | succ m ih =>
    intro i r q hr hm hq
    rw [L_law08_CurveRow_succ, R_law08_CurveRow_eq]
    cases r with
    | nil =>
      have h2 : ¬ (i : Int) < l.length := by
        have := List.drop_eq_nil_iff.1 hr
        omega
      simp [rwS, h2]
    | cons p r =>
      have h1 : l[i]? = some p := by
        have := congrArg (fun t => t[0]?) hr
        simpa using this
      have hi := (List.getElem?_eq_some_iff.1 h1).1
      have h3 : (i : Int) < l.length := by omega
      have hr' : l.drop (i + 1) = r := by rw [← List.tail_drop, hr]; rfl
      have hw := wrapN (n := i) (by omega)
      simp only [List.length_cons] at hm
      have ih' := ih (i + 1) r (q ++ [p]) hr' (by omega) (by simp [hq])
      have s1 : (q.length + 1) * 9 ≤ 140737488355328 := by omega
      have s2 : (q.length + 1) * 25 ≤ 140737488355328 := by omega
      simp only [rwS, Int.natCast_add, Int.cast_ofNat_Int] at ih'
      simp [rwS, h1, h3, hw, s1, s2]
      simpa [eR] using ih'
theorem rw_first (p : Int × Int) (r : List (Int × Int)) (n x : Int) (m : Nat) :
    L_law08_CurveRow 6 (m + 1) ⟨[(0, .sl ((p :: r).map eP)), (1, I n), (2, I x), (6, .any), (7, .ptr 7 0), (8, .ptr 8 0), (9, I 0), (10, .any)],
      [(30, .box 27 [.emp]), (7, .box 30 [.own true [[I n]], .row 10701, .bsl 30 0 1 1]), (10701, .row 3 1 true []), (8, .box 30 [.row 10800, .own true [[I n]], .row 10802]), (10800, .row 3 1 true []), (10802, .row 27 1 true [])]⟩ =
      L_law08_CurveRow 6 m (rwS (p :: r) n x (I 1) [p]) := by
  rw [L_law08_CurveRow_succ, R_law08_CurveRow_eq]
  have h1 : ((p :: r).map eP)[0]? = some (eP p) := rfl
  have h3 : ¬ (p :: r).map eP = [] := by simp
  simp only [rwS]
  generalize (p :: r).map eP = L at *
  simp [h1, h3, eR]
theorem row_law (l : List (Int × Int)) (n x : Int) (hl : l.length ≤ 9223372036854775807) : F_law08_CurveRow [.sl (l.map eP), I n, I x] = some (B true) := by
  rw [F_law08_CurveRow_eq]
  have hc := check_run l hl
  by_cases h1 : (l.length : Int) ≤ 100
  case neg => simp [lsmall_run, h1, awake_run]
  by_cases h2 : check l = 0
  case neg => simp [lsmall_run, h1, hc, h2, awake_run]
  by_cases h3 : n < -1000000
  · simp [lsmall_run, h1, hc, h2, h3, awake_run]
  by_cases h4 : 1000000 < n
  · simp [lsmall_run, h1, hc, h2, h3, h4, awake_run]
  rw [h2] at hc
  have hg := (good_iff l).1 h2
  have hn : inR n = true := by rw [inR_iff]; omega
  have ha := at_run l x hl
  have f1 : G.Fits ⟨[n], l.map (·.1), [l.map (·.2)]⟩ := ⟨by simp, by simpa using hl, by simp, by simpa using hl⟩
  have f2 : G.Fits ⟨l.map (·.1), [n], l.map fun p => [p.2]⟩ := ⟨by simpa using hl, by simp, by simpa using hl, fun r hr => by
    obtain ⟨p, _, rfl⟩ := List.mem_map.1 hr
    simp⟩
  have c1 := checkG_run _ f1
  rw [(goodG_iff _).2 (row_good hg hn)] at c1
  have c2 := checkG_run _ f2
  rw [(goodG_iff _).2 (col_good hg hn)] at c2
  have v1 := value_run ⟨[n], l.map (·.1), [l.map (·.2)]⟩ n x f1
  rw [row_value hg hn] at v1
  have v2 := value_run ⟨l.map (·.1), [n], l.map fun p => [p.2]⟩ x n f2
  rw [col_value hg hn] at v2
  obtain ⟨p, r, hpr⟩ : ∃ p r, l = p :: r := by
    cases l with
    | nil => exact absurd rfl hg.ne
    | cons p r => exact ⟨p, r, rfl⟩
  have hlp := rw_loop l (by omega) n x (bigL - 1) 1 r [p] (by rw [hpr]; rfl) (by have := bigL_ge; rw [hpr] at h1; simp at h1; omega) rfl
  obtain ⟨b, hb⟩ := bigL_succ 1 (by omega)
  have hfi := rw_first p r n x b
  rw [← hb, ← hpr] at hfi
  rw [show bigL - 1 = b by omega] at hlp
  rw [show ((1 : Nat) : Int) = 1 from rfl] at hlp
  rw [hlp, show [p] ++ r = l by rw [hpr]; rfl] at hfi
  have hsm := lsmall_run l
  simp [h1] at hsm
  simp only [eG, rwS, List.map_cons, List.map_nil, eR] at c1 c2 v1 v2 hfi
  generalize l.map eP = L at *
  generalize (l.map (·.1)).map eI = Xs at *
  generalize (l.map (·.2)).map eI = Vs at *
  generalize (l.map fun p => [p.2]).map eR = Ws at *
  simp at c1 c2 v1 v2
  simp [hsm, hc, h2, h3, h4, hfi, ha, c1, c2, v1, v2, awake_run]
theorem tyPt {n : Nat} {cs : List D} (h : TyC Try.prog n 32 cs) : ∃ x : Int × Int, cs = eP x ∧ True := by
  obtain ⟨hl, m, h⟩ := TyC.struct Try.underlying32 h
  rw [co32] at hl
  match cs, hl with
  | [x0, x1], _ =>
    simp at h
    obtain ⟨h0, h1⟩ := h
    obtain ⟨a0, e0, _⟩ := tyInt h0
    obtain ⟨a1, e1, _⟩ := tyInt h1
    injection e0 with e0; injection e1 with e1
    exact ⟨(a0, a1), by rw [e0, e1]; rfl, trivial⟩
theorem tyPts {d : D} (h : TyV Try.prog 22 d) : ∃ l : List (Int × Int), d = .sl (l.map eP) ∧ l.length ≤ 9223372036854775807 := by
  obtain ⟨n, h⟩ := TyV.cell ag22 h
  obtain ⟨es, m, e, hl, hx⟩ := TyC.slice Try.underlying22 h
  obtain ⟨l, rfl, _⟩ := rows_of es (fun x hx' => tyPt (hx x hx'))
  injection e with e
  exact ⟨l, e, by simpa using hl⟩
theorem curveRow_abs (xs : List D) (h : TyArgs Try.prog Try.f3.params.toList xs) : Contract Try.prog gl 3 xs (.x (.bool true)) := by
  simp [TyArgs] at h
  obtain ⟨d, r, rfl, h1, d2, r2, rfl, h2, d3, rfl, h3⟩ := h
  obtain ⟨l, rfl, hl⟩ := tyPts h1
  obtain ⟨n, rfl, _⟩ := tyI h2
  obtain ⟨x, rfl, _⟩ := tyI h3
  exact C_law08_CurveRow _ _ (row_law l n x hl)
end Go.Proofs.Ytiklahkoaikjeaa
