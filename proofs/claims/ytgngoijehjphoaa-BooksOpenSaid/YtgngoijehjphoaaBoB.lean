/-
  The books' tests and movements, run abstractly; the chapter's examples.
-/
import Derived.Test.YtgngoijehjphoaaBoA
namespace Go.Proofs.Ytgngoijehjphoaa
set_option linter.unusedSimpArgs false
set_option linter.unusedVariables false
open Go Go.Abs
set_option maxHeartbeats 8000000
set_option maxRecDepth 100000
def okV : List Int → Bool
  | [] => true
  | n :: r => decide (0 ≤ n) && decide (n ≤ 72057594037927936) && okV r
def sumV : Int → List Int → Int
  | s, [] => s
  | s, n :: r => sumV (IntKind.i64.wrap (s + n)) r
theorem vols_loop (l : List Int) (hl : l.length ≤ 1000000) : ∀ (n i : Nat) (r : List Int) (s : Int), l.drop i = r → r.length < n →
    L_books_areVolumes_int 3 n ⟨[(0, .any), (2, .any), (3, I s), (5, .any), (6, .sl (l.map fun n => [I n])), (7, I l.length), (8, I i)], []⟩ =
      if okV r = true then some (.ex 0, ⟨[(0, .any), (2, .any), (3, I (sumV s r)), (5, .any), (6, .any), (7, .any), (8, .any)], []⟩)
        else some (.ret, ⟨[(0, .any), (2, B false), (3, .any), (5, .any), (6, .any), (7, .any), (8, .any)], []⟩) := by
  intro n
  induction n with
  | zero => intro i r s hr hn; omega
  | succ n ih =>
    intro i r s hr hn
    rw [L_books_areVolumes_int_succ, R_books_areVolumes_int_eq]
    cases r with
    | nil =>
      have h2 := dnG hr
      simp [h2, okV, sumV]
    | cons x r =>
      obtain ⟨h1, h3, hr', hi⟩ := dcG hr
      have hw := wrapN (n := i) (by omega)
      simp only [List.length_cons] at hn
      have ih' := ih (i + 1) r (IntKind.i64.wrap (s + x)) hr' (by omega)
      simp only [Int.natCast_add, Int.cast_ofNat_Int] at ih'
      by_cases q1 : x < 0
      · have q2 : ¬ 0 ≤ x := by omega
        simp [h1, h3, q1, q2, okV]
      · have q2 : 0 ≤ x := by omega
        by_cases q3 : 72057594037927936 < x
        · have q4 : ¬ x ≤ 72057594037927936 := by omega
          simp [h1, h3, q1, q2, q3, q4, okV]
        · have q4 : x ≤ 72057594037927936 := by omega
          simp [h1, h3, q1, q2, q3, q4, okV, sumV, hw]
          simpa using ih'
theorem vols_run (l : List Int) (hl : l.length ≤ 1000000) : F_books_areVolumes_int [.sl (l.map fun n => [I n])] = some (B (okV l && decide (sumV 0 l ≤ 72057594037927936))) := by
  rw [F_books_areVolumes_int_eq]
  have ih := vols_loop l hl bigL 0 l 0 rfl (by have := bigL_ge; omega)
  cases ho : okV l
  · simp [ho] at ih
    simp [ih]
  · simp [ho] at ih
    simp [ih]
theorem vols1 {a : Int} (h0 : 0 ≤ a) (h1 : a ≤ 17179869184) : F_books_areVolumes_int [.sl [[I a]]] = some (B true) := by
  have h := vols_run [a] (by simp)
  have w1 : IntKind.i64.wrap a = a := wrap64 (by omega) (by omega)
  have e : (okV [a] && decide (sumV 0 [a] ≤ 72057594037927936)) = true := by
    simp [okV, sumV, w1]; omega
  rw [e] at h
  simpa using h
theorem vols2 {a b : Int} (h0 : 0 ≤ a) (h1 : a ≤ 17179869184) (h2 : 0 ≤ b) (h3 : b ≤ 17179869184) : F_books_areVolumes_int [.sl [[I a], [I b]]] = some (B true) := by
  have h := vols_run [a, b] (by simp)
  have w1 : IntKind.i64.wrap a = a := wrap64 (by omega) (by omega)
  have w2 : IntKind.i64.wrap (a + b) = a + b := wrap64 (by omega) (by omega)
  have e : (okV [a, b] && decide (sumV 0 [a, b] ≤ 72057594037927936)) = true := by
    simp [okV, sumV, w1, w2]; omega
  rw [e] at h
  simpa using h
theorem vols3 {a b c : Int} (h0 : 0 ≤ a) (h1 : a ≤ 17179869184) (h2 : 0 ≤ b) (h3 : b ≤ 17179869184) (h4 : 0 ≤ c) (h5 : c ≤ 17179869184) : F_books_areVolumes_int [.sl [[I a], [I b], [I c]]] = some (B true) := by
  have h := vols_run [a, b, c] (by simp)
  have w1 : IntKind.i64.wrap a = a := wrap64 (by omega) (by omega)
  have w2 : IntKind.i64.wrap (a + b) = a + b := wrap64 (by omega) (by omega)
  have w3 : IntKind.i64.wrap (a + b + c) = a + b + c := wrap64 (by omega) (by omega)
  have e : (okV [a, b, c] && decide (sumV 0 [a, b, c] ≤ 72057594037927936)) = true := by
    simp [okV, sumV, w1, w2, w3]; omega
  rw [e] at h
  simpa using h
/-! ### Movements of volumes that are not great -/
theorem scanned_run {a : Int} (h0 : 0 ≤ a) (h1 : a ≤ 17179869184) : F_books_Scanned [I a] = some (.own true ((mv [-a, a, 0, 0, 0, 0, 0, 0]).map ePs)) := by
  rw [F_books_Scanned_eq]
  have w := wrap64 (n := -a) (by omega) (by omega)
  simp [vols1 h0 h1, w, postings_run]
theorem dried_run {a : Int} (h0 : 0 ≤ a) (h1 : a ≤ 17179869184) : F_books_Dried [I a] = some (.own true ((mv [0, 0, -a, a, 0, 0, 0, 0]).map ePs)) := by
  rw [F_books_Dried_eq]
  have w := wrap64 (n := -a) (by omega) (by omega)
  simp [vols1 h0 h1, w, postings_run]
theorem shipped_run {a : Int} (h0 : 0 ≤ a) (h1 : a ≤ 17179869184) : F_books_Shipped [I a] = some (.own true ((mv [0, 0, 0, -a, 0, 0, a, 0]).map ePs)) := by
  rw [F_books_Shipped_eq]
  have w := wrap64 (n := -a) (by omega) (by omega)
  simp [vols1 h0 h1, w, postings_run]
theorem sold_run {a b : Int} (h0 : 0 ≤ a) (h1 : a ≤ 17179869184) (h2 : 0 ≤ b) (h3 : b ≤ 17179869184) : F_books_Sold [I a, I b] = some (.own true ((mv [0, 0, 0, 0, -a, -b, 0, a + b]).map ePs)) := by
  rw [F_books_Sold_eq]
  have w := wrap64 (n := -a) (by omega) (by omega)
  have w2 := wrap64 (n := -b) (by omega) (by omega)
  have w3 := wrap64 (n := a + b) (by omega) (by omega)
  simp [vols2 h0 h1 h2 h3, w, w2, w3, postings_run]
def cutV (dry : Bool) (b c : Int) : List Int := if dry = true then [0, 0, 0, -(b + c), b, c, 0, 0] else [0, 0, -(b + c), 0, b, c, 0, 0]
theorem recut_run (dry : Bool) {a b c : Int} (h0 : 0 ≤ a) (h1 : a ≤ 17179869184) (h2 : 0 ≤ b) (h3 : b ≤ 17179869184) (h4 : 0 ≤ c) (h5 : c ≤ 17179869184) : F_books_Recut [B dry, I a, I b, I c] = some (.own true ((mv (cutV dry b c)).map ePs)) := by
  rw [F_books_Recut_eq]
  have w := wrap64 (n := b + c) (by omega) (by omega)
  have w2 := wrap64 (n := -(b + c)) (by omega) (by omega)
  cases dry <;> simp [vols3 h0 h1 h2 h3 h4 h5, w, w2, postings_run, cutV]
/-! ### A yield -/
def okF : List Int → Bool
  | [] => true
  | n :: r => decide (0 ≤ n) && decide (n ≤ 2305843009213693952) && okF r
theorem bal_loop (l : List Int) (hl : l.length = 4) (q0 q1' q2' q3' q4' : Int) : ∀ (n i : Nat) (r : List Int), l.drop i = r → r.length < n →
    L_yield_Balanced 2 n ⟨[(0, .any), (1, .ptr 1 0), (2, .any), (4, .any), (13, .agg (l.map fun n => I n)), (14, I i)], [(1, .box 49 [I q0, I q1', I q2', I q3', I q4'])]⟩ =
      if okF r = true then some (.ex 0, ⟨[(0, .any), (1, .ptr 1 0), (2, .any), (4, .any), (13, .any), (14, .any)], [(1, .box 49 [I q0, I q1', I q2', I q3', I q4'])]⟩)
        else some (.ret, ⟨[(0, .any), (1, .any), (2, B false), (4, .any), (13, .any), (14, .any)], []⟩) := by
  intro n
  induction n with
  | zero => intro i r hr hn; omega
  | succ n ih =>
    intro i r hr hn
    rw [L_yield_Balanced_succ, R_yield_Balanced_eq]
    cases r with
    | nil =>
      have h2 : ¬ (i : Int) < 4 := by
        have := List.drop_eq_nil_iff.1 hr
        omega
      simp [h2, okF]
    | cons x r =>
      obtain ⟨h1, _, hr', hi⟩ := dcG hr
      rw [hl] at hi
      have h3 : (i : Int) < 4 := by omega
      have hx : l[i]'(by omega) = x := by
        obtain ⟨hlt, e⟩ := List.getElem?_eq_some_iff.1 h1
        exact e
      have hw := wrapN (n := i) (by omega)
      simp only [List.length_cons] at hn
      have ih' := ih (i + 1) r hr' (by omega)
      simp only [Int.natCast_add, Int.cast_ofNat_Int] at ih'
      have hi4 : i < 4 := hi
      by_cases q1 : x < 0
      · have q2 : ¬ 0 ≤ x := by omega
        simp [h1, hx, h3, hl, hi4, q1, q2, okF]
      · have q2 : 0 ≤ x := by omega
        by_cases q3 : 2305843009213693952 < x
        · have q4 : ¬ x ≤ 2305843009213693952 := by omega
          simp [h1, hx, h3, hl, hi4, q1, q2, q3, q4, okF]
        · have q4 : x ≤ 2305843009213693952 := by omega
          simp [h1, hx, h3, hl, hi4, q1, q2, q3, q4, okF, hw]
          simpa using ih'
theorem balanced_run (l b c d v : Int) (h : okF [l, b, c, d] = true) : F_yield_Balanced [.agg [I l, I b, I c, I d, I v]] = some (B (decide (l = b + c + d))) := by
  rw [F_yield_Balanced_eq]
  have ih := bal_loop [l, b, c, d] rfl l b c d v bigL 0 [l, b, c, d] rfl (by have := bigL_ge; simp; omega)
  rw [if_pos h] at ih
  simp [okF] at h
  have w1 := wrap64 (n := b + c) (by omega) (by omega)
  have w2 := wrap64 (n := b + c + d) (by omega) (by omega)
  simp at ih
  simp [ih, w1, w2]
theorem sawn_run {l b c d v : Int} (h0 : 0 ≤ l) (h1 : l ≤ 17179869184) (h2 : 0 ≤ b) (h3 : b ≤ 17179869184) (h4 : 0 ≤ c) (h5 : c ≤ 17179869184) (h6 : 0 ≤ d) (h7 : d ≤ 17179869184) :
    F_books_Sawn [.agg [I l, I b, I c, I d, I v]] = some (if l = b + c + d then .tup [.own true ((mv [0, -l, b, 0, c, d, 0, 0]).map ePs), I 0] else .tup [.own true [], I 22]) := by
  rw [F_books_Sawn_eq]
  have hb := balanced_run l b c d v (by simp [okF]; omega)
  have w := wrap64 (n := -l) (by omega) (by omega)
  have q : ¬ 72057594037927936 < l := by omega
  by_cases h : l = b + c + d
  · rw [decide_eq_true h] at hb
    simp [hb, q, w, postings_run, if_pos h]
  · rw [decide_eq_false h] at hb
    simp [hb, if_neg h]
theorem same_loop (l : List Pst) (hl : l.length ≤ 1000000) : ∀ (n i : Nat) (r : List Pst), l.drop i = r → r.length < n →
    L_ref52_Same 4 n ⟨[(0, .sl (l.map ePs)), (1, .sl (l.map ePs)), (4, .any), (5, I i)], []⟩ = some (.ex 0, ⟨[(0, .any), (1, .any), (4, .any), (5, .any)], []⟩) := by
  intro n
  induction n with
  | zero => intro i r hr hn; omega
  | succ n ih =>
    intro i r hr hn
    rw [L_ref52_Same_succ, R_ref52_Same_eq]
    cases r with
    | nil =>
      have h2 := dnG hr
      simp [h2]
    | cons x r =>
      obtain ⟨h1, h3, hr', hi⟩ := dcG hr
      have hw := wrapN (n := i) (by omega)
      simp only [List.length_cons] at hn
      have ih' := ih (i + 1) r hr' (by omega)
      simp only [Int.natCast_add, Int.cast_ofNat_Int] at ih'
      simp [h1, h3, hw]
      simpa using ih'
theorem same_run (l : List Pst) (hl : l.length ≤ 1000000) : F_ref52_Same [.sl (l.map ePs), .sl (l.map ePs)] = some (B true) := by
  rw [F_ref52_Same_eq]
  have ih := same_loop l hl bigL 0 l rfl (by have := bigL_ge; omega)
  simp at ih
  simp [ih]
theorem awake52_run : F_law52_awake [] = some (B true) := by
  rw [F_law52_awake_eq]
  have h1 := sawn_run (l := 100) (b := 60) (c := 40) (d := 0) (v := 0) (by omega) (by omega) (by omega) (by omega) (by omega) (by omega) (by omega) (by omega)
  have h2 := sawn_run (l := 100) (b := 60) (c := 41) (d := 0) (v := 0) (by omega) (by omega) (by omega) (by omega) (by omega) (by omega) (by omega) (by omega)
  have h3 := recut_run true (a := 50) (b := 7) (c := 3) (by omega) (by omega) (by omega) (by omega) (by omega) (by omega)
  have h4 := sold_run (a := 0) (b := 0) (by omega) (by omega) (by omega) (by omega)
  have h5 := sold_run (a := 5) (b := 2) (by omega) (by omega) (by omega) (by omega)
  have h6 := scanned_run (a := 120000000) (by omega) (by omega)
  have q1 := same_run [⟨sLogs, -100⟩, ⟨sGreen, 60⟩, ⟨sChips, 40⟩] (by simp)
  have q2 := same_run [⟨sDry, -10⟩, ⟨sChips, 7⟩, ⟨sDust, 3⟩] (by simp)
  have q3 := same_run [⟨sForest, -120000000⟩, ⟨sLogs, 120000000⟩] (by simp)
  have ha := accounts_run
  simp [mv, nzP, acc8, cutV] at h1 h2 h3 h4 h5 h6 q1 q2 q3 ha
  simp [h1, h2, h3, h4, h5, h6, q1, q2, q3, ha]
end Go.Proofs.Ytgngoijehjphoaa
