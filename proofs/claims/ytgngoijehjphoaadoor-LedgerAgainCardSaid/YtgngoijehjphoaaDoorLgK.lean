/-
  The reference's trial balance and its posting of an entry, run abstractly.
-/
import Derived.Test.YtgngoijehjphoaaDoorLgJ
namespace Go.Proofs.YtgngoijehjphoaaDoor
set_option linter.unusedSimpArgs false
set_option linter.unusedVariables false
open Go Go.Abs
set_option maxHeartbeats 8000000
set_option maxRecDepth 100000
/-- A list under way: nil, or postings. -/
def vP : List Pst → D
  | [] => .emp
  | x :: r => .own true ((x :: r).map ePs)
theorem vP_ne {l : List Pst} (h : l ≠ []) : vP l = .own true (l.map ePs) := by
  cases l with
  | nil => exact absurd rfl h
  | cons x r => rfl
def foldP (f : ByteArray → Int) (out : List Pst) : List ByteArray → List Pst
  | [] => out
  | a :: r => foldP f (if f a = 0 then out else insP ⟨a, f a⟩ out) r
theorem insP_ne {x : Pst} : ∀ {l : List Pst}, insP x l ≠ []
  | [] => by simp [insP]
  | p :: r => by simp only [insP]; split <;> simp
theorem insP_len (x : Pst) : ∀ l : List Pst, (insP x l).length = l.length + 1
  | [] => rfl
  | p :: r => by simp only [insP]; split <;> simp [insP_len x r]
theorem rtrial_loop (accs : List ByteArray) (en : List Ent) (f : ByteArray → Int) (hf : ∀ a, F_ref51_L_Balance [.agg [.sl (accs.map eNm), .sl (en.map eEn)], S a] = some (I (f a))) (hl : accs.length ≤ 1000) : ∀ (n i : Nat) (r : List ByteArray) (es : List Pst), accs.drop i = r → r.length < n → es.length + r.length ≤ 2000 →
    L_ref51_L_Trial 3 n ⟨[(0, .any), (1, .ptr 1 0), (2, .any), (3, vP es), (4, I i), (5, .any), (6, .any), (7, .any)], [(1, .box 31 [.sl (accs.map eNm), .sl (en.map eEn)])]⟩ =
      some (.ex 0, ⟨[(0, .any), (1, .any), (2, .any), (3, vP (foldP f es r)), (4, .any), (5, .any), (6, .any), (7, .any)], []⟩) := by
  intro n
  induction n with
  | zero => intro i r es hr hn; omega
  | succ n ih =>
    intro i r es hr hn hes
    rw [L_ref51_L_Trial_succ, R_ref51_L_Trial_eq]
    cases r with
    | nil =>
      have h2 := dnG hr
      cases es <;> simp [h2, vP, foldP]
    | cons a r =>
      obtain ⟨h1, h3, hr', hi⟩ := dcG hr
      have hw := wrapN (n := i) (by omega)
      simp only [List.length_cons] at hn hes
      have hb := hf a
      by_cases h0 : f a = 0
      · have ih' := ih (i + 1) r es hr' (by omega) (by omega)
        simp only [Int.natCast_add, Int.cast_ofNat_Int] at ih'
        cases es with
        | nil =>
          simp only [vP] at ih' ⊢
          simp [h1, h3, hw, hb, h0, foldP]
          simpa using ih'
        | cons x es =>
          simp only [vP] at ih' ⊢
          generalize (x :: es).map ePs = L at *
          simp [h1, h3, hw, hb, h0, foldP]
          simpa using ih'
      · have ih' := ih (i + 1) r (insP ⟨a, f a⟩ es) hr' (by omega) (by rw [insP_len]; omega)
        rw [vP_ne insP_ne] at ih'
        simp only [Int.natCast_add, Int.cast_ofNat_Int] at ih'
        by_cases hne : es = []
        · subst hne
          obtain ⟨m, hm⟩ := bigL_succ 1 (by omega)
          have h0' := pos_loop0 (accs.map eNm) (en.map eEn) i a (f a) m
          rw [← show bigL = m + 1 from hm] at h0'
          rw [show vP [] = .emp from rfl]
          simp [h1, h3, hw, hb, h0, h0', foldP]
          simpa [insP] using ih'
        · rw [vP_ne hne]
          have hl0 := pos_loop (accs.map eNm) (en.map eEn) es (by omega) i a (f a) bigL 0 es rfl (by have := bigL_ge; omega)
          have hp := posP_le a es
          have hins := insP_pos ⟨a, f a⟩ es
          simp only at hins
          have hmap : (es.map ePs).take (posP a es) ++ [S a, I (f a)] :: (es.map ePs).drop (posP a es) = (insP ⟨a, f a⟩ es).map ePs := by
            rw [hins, List.map_append, List.map_cons, List.map_take, List.map_drop]
            rfl
          have ht1 : ∀ x ∈ (es.map ePs).take (posP a es), x.length = 2 := by
            intro x hx
            obtain ⟨y, _, rfl⟩ := List.mem_map.1 (List.mem_of_mem_take hx)
            rfl
          have ht2 : ∀ x ∈ (es.map ePs).drop (posP a es), x.length = 2 := by
            intro x hx
            obtain ⟨y, _, rfl⟩ := List.mem_map.1 (List.mem_of_mem_drop hx)
            rfl
          have ht : (es.map ePs).take es.length = es.map ePs := List.take_of_length_le (by simp)
          have hlen : (es.map ePs).length = es.length := by simp
          have s1 : posP a es * 25 ≤ 140737488355328 := by omega
          have s2 : (posP a es + 1) * 25 ≤ 140737488355328 := by omega
          have s3 : (posP a es + 1 + (es.length - posP a es)) * 25 ≤ 140737488355328 := by omega
          simp only [Nat.zero_add] at hl0
          have hall : ∀ x ∈ es.map ePs, x.length = 2 := by
            intro x hx
            obtain ⟨y, _, rfl⟩ := List.mem_map.1 hx
            rfl
          generalize es.map ePs = L at *
          have hp' : posP a es ≤ L.length := by omega
          rw [← hlen] at s3 ht
          clear hins
          generalize posP a es = k at *
          have hall' : (∀ x ∈ L, x.length = 2) = True := eq_true hall
          have ht1' : (∀ x ∈ L.take k, x.length = 2) = True := eq_true ht1
          have ht2' : (∀ x ∈ L.drop k, x.length = 2) = True := eq_true ht2
          simp at hl0
          simp [h1, h3, hw, hb, h0, hl0, foldP, hall', ht1', ht2', ht, s1, s2, s3, hp', hmap]
          simpa using ih'
theorem rtrial_run (accs : List ByteArray) (en : List Ent) (f : ByteArray → Int) (hf : ∀ a, F_ref51_L_Balance [.agg [.sl (accs.map eNm), .sl (en.map eEn)], S a] = some (I (f a))) (hl : accs.length ≤ 1000) :
    F_ref51_L_Trial [.agg [.sl (accs.map eNm), .sl (en.map eEn)]] = some (.own true ((foldP f [] accs).map ePs)) := by
  rw [F_ref51_L_Trial_eq]
  have ih := rtrial_loop accs en f hf hl bigL 0 accs [] rfl (by have := bigL_ge; omega) (by simp; omega)
  rw [show vP [] = .emp from rfl] at ih
  simp at ih
  cases h : foldP f [] accs
  · rw [h, show vP [] = .emp from rfl] at ih
    simp [ih]
  · rw [h, vP_ne (by simp)] at ih
    simp [ih]
/-- The state of the reference's posting. -/
def rS (accs : List ByteArray) (en : List Ent) (x : Ent) (d6 d7 d8 d9 : D) : St :=
  ⟨[(0, .any), (1, .any), (2, .ptr 2 0), (3, .ptr 3 0), (4, .ptr 4 0), (5, .any), (6, d6), (7, d7), (8, d8), (9, d9), (10, .any)],
    [(2, .box 31 [.sl (accs.map eNm), .sl (en.map eEn)]), (3, .box 41 [S x.id, I x.t, .sl (x.ps.map ePs)]), (4, .box 31 [.emp, .emp])]⟩
end Go.Proofs.YtgngoijehjphoaaDoor
