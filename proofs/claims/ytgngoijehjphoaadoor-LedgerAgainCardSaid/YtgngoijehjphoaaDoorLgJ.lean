/-
  The reference's entries and trial balance, comparisons of lists, and a new ledger, run abstractly.
-/
import Derived.Test.YtgngoijehjphoaaDoorLgI
import Derived.Test.YtgngoijehjphoaaDoorLgQ
import Derived.Test.YtgngoijehjphoaaDoorLgP
namespace Go.Proofs.YtgngoijehjphoaaDoor
set_option linter.unusedSimpArgs false
set_option linter.unusedVariables false
open Go Go.Abs
set_option maxHeartbeats 8000000
set_option maxRecDepth 100000
/-- The error of new accounts. -/
def mkE (l : List ByteArray) : Int := if 64 < (l.length : Int) then 4 else newP [] l
theorem newL_0 (l : List ByteArray) : newL [] l = balL l [] := by
  have := newL_P l []
  simpa [balL, balE] using this
theorem newE_0 (l : List ByteArray) : newE [] l = newP [] l := by
  have := newE_P l []
  simpa using this
theorem newBad_run (l : List ByteArray) (h : mkE l ≠ 0) : E_ledger_New [] [.sl (l.map eNm)] = some (.tup [.x (.pointer none), I (mkE l)], []) := by
  rw [E_ledger_New_eq]
  unfold mkE at h ⊢
  by_cases h1 : 64 < (l.length : Int)
  · simp [h1]
  · rw [if_neg h1] at h ⊢
    have ih := new_loop l (by omega) bigL 0 l [] rfl (by have := bigL_ge; omega)
    rw [newE_0, if_neg h] at ih
    simp at ih
    simp [h1, ih]
theorem newGood_run (l : List ByteArray) (h : mkE l = 0) : E_ledger_New [] [.sl (l.map eNm)] = some (.tup [.ptr 15 0, I 0], [(15, .box 56 [.mp 11500, .mp 11501, .row 11502]), (11500, .mp ((balL l []).map encB)), (11501, .mp []), (11502, .row 41 3 true [])]) := by
  rw [E_ledger_New_eq]
  unfold mkE at h
  by_cases h1 : 64 < (l.length : Int)
  · rw [if_pos h1] at h; omega
  · rw [if_neg h1] at h
    have ih := new_loop l (by omega) bigL 0 l [] rfl (by have := bigL_ge; omega)
    rw [newE_0, if_pos h, newL_0] at ih
    simp at ih
    simp [h1, ih]
theorem newP_nd : ∀ {l p : List ByteArray}, newP p l = 0 → p.Nodup → (p ++ l).Nodup ∧ ∀ a ∈ l, isNm a = true
  | [], p, _, hp => by simpa using hp
  | a :: r, p, h, hp => by
    simp only [newP] at h
    split at h
    · rename_i hn
      split at h
      · omega
      · rename_i hk
        rw [Bool.not_eq_true, hasK_not] at hk
        obtain ⟨h1, h2⟩ := newP_nd h (by
          rw [List.nodup_append]
          exact ⟨hp, by simp, fun x hx y hy => by simp at hy; subst hy; rintro rfl; exact hk hx⟩)
        refine ⟨by simpa using h1, fun x hx => ?_⟩
        rcases List.mem_cons.1 hx with rfl | hx
        · exact hn
        · exact h2 x hx
    · omega
theorem accs_of {l : List ByteArray} (h : mkE l = 0) (hs : ∀ a ∈ l, a.size ≤ 1000) : Accs l := by
  unfold mkE at h
  by_cases h1 : 64 < (l.length : Int)
  · rw [if_pos h1] at h; omega
  · rw [if_neg h1] at h
    exact ⟨by simpa using (newP_nd h .nil).1, hs, by omega⟩
/-! ### The reference's entries -/
theorem rents_loop (accs : List (List D)) (en : List Ent) (hl : en.length ≤ 1000000) (hp : ∀ x ∈ en, x.ps.length ≤ 1000000) : ∀ (n i : Nat) (r : List Ent) (fl : Bool) (es : List Ent), en.drop i = r → r.length < n → es.length + r.length ≤ 1000000 →
    L_ref51_L_Entries 3 n ⟨[(0, .any), (1, .ptr 1 0), (2, .any), (3, .row 3), (4, I i), (5, .any)], [(1, .box 31 [.sl accs, .sl (en.map eEn)]), (3, .row 41 3 fl (es.map eEn))]⟩ =
      some (.ex 0, ⟨[(0, .any), (1, .any), (2, .any), (3, .row 3), (4, .any), (5, .any)], [(3, .row 41 3 (fl && r.isEmpty) ((es ++ r).map eEn))]⟩) := by
  intro n
  induction n with
  | zero => intro i r fl es hr hn; omega
  | succ n ih =>
    intro i r fl es hr hn hes
    rw [L_ref51_L_Entries_succ, R_ref51_L_Entries_eq]
    cases r with
    | nil =>
      have h2 := dnG hr
      simp [h2]
    | cons x r =>
      obtain ⟨h1, h3, hr', hi⟩ := dcG hr
      have hw := wrapN (n := i) (by omega)
      simp only [List.length_cons] at hn hes
      have ih' := ih (i + 1) r false (es ++ [x]) hr' (by omega) (by simp; omega)
      simp only [Int.natCast_add, Int.cast_ofNat_Int] at ih'
      have hx := hp x (List.mem_of_getElem? h1)
      have hsz : (es.length + 1) * 49 ≤ 140737488355328 := by omega
      have hsz2 : x.ps.length * 25 ≤ 140737488355328 := by omega
      simp [h1, h3, hw, hsz, hsz2]
      simpa using ih'
theorem rents_run (accs : List (List D)) (en : List Ent) (hl : en.length ≤ 1000000) (hp : ∀ x ∈ en, x.ps.length ≤ 1000000) : F_ref51_L_Entries [.agg [.sl accs, .sl (en.map eEn)]] = some (.own en.isEmpty (en.map eEn)) := by
  rw [F_ref51_L_Entries_eq]
  have ih := rents_loop accs en hl hp bigL 0 en true [] rfl (by have := bigL_ge; omega) (by simpa using hl)
  simp at ih
  simp [ih]
/-! ### Lists that are equal -/
theorem sameP_loop (l : List Pst) (hl : l.length ≤ 1000000) : ∀ (n i : Nat) (r : List Pst), l.drop i = r → r.length < n →
    L_ref51_SamePostings 4 n ⟨[(0, .sl (l.map ePs)), (1, .sl (l.map ePs)), (4, .any), (5, I i)], []⟩ = some (.ex 0, ⟨[(0, .any), (1, .any), (4, .any), (5, .any)], []⟩) := by
  intro n
  induction n with
  | zero => intro i r hr hn; omega
  | succ n ih =>
    intro i r hr hn
    rw [L_ref51_SamePostings_succ, R_ref51_SamePostings_eq]
    cases r with
    | nil =>
      have h2 := dnG hr
      simp [h2]
    | cons x r =>
      obtain ⟨h1, h3, hr', hi⟩ := dcG hr
      have hw := wrapN (n := i) (by omega)
      simp only [List.length_cons] at hn
      have ih' := ih (i + 1) r hr' (by omega)
      simp only [Int.natCast_add, Int.cast_ofNat_Int] at ih'
      simp [h1, h3, hw]
      simpa using ih'
theorem sameP_run (l : List Pst) (hl : l.length ≤ 1000000) : F_ref51_SamePostings [.sl (l.map ePs), .sl (l.map ePs)] = some (B true) := by
  rw [F_ref51_SamePostings_eq]
  have ih := sameP_loop l hl bigL 0 l rfl (by have := bigL_ge; omega)
  simp at ih
  simp [ih]
theorem sameE_loop (l : List Ent) (hl : l.length ≤ 1000000) (hp : ∀ x ∈ l, x.ps.length ≤ 1000000) : ∀ (n i : Nat) (r : List Ent), l.drop i = r → r.length < n →
    L_ref51_Same 4 n ⟨[(0, .sl (l.map eEn)), (1, .sl (l.map eEn)), (4, .any), (5, I i)], []⟩ = some (.ex 0, ⟨[(0, .any), (1, .any), (4, .any), (5, .any)], []⟩) := by
  intro n
  induction n with
  | zero => intro i r hr hn; omega
  | succ n ih =>
    intro i r hr hn
    rw [L_ref51_Same_succ, R_ref51_Same_eq]
    cases r with
    | nil =>
      have h2 := dnG hr
      simp [h2]
    | cons x r =>
      obtain ⟨h1, h3, hr', hi⟩ := dcG hr
      have hw := wrapN (n := i) (by omega)
      simp only [List.length_cons] at hn
      have ih' := ih (i + 1) r hr' (by omega)
      simp only [Int.natCast_add, Int.cast_ofNat_Int] at ih'
      have hs := sameP_run x.ps (hp x (List.mem_of_getElem? h1))
      simp [h1, h3, hw, hs]
      simpa using ih'
theorem sameE_run (l : List Ent) (hl : l.length ≤ 1000000) (hp : ∀ x ∈ l, x.ps.length ≤ 1000000) : F_ref51_Same [.sl (l.map eEn), .sl (l.map eEn)] = some (B true) := by
  rw [F_ref51_Same_eq]
  have ih := sameE_loop l hl hp bigL 0 l rfl (by have := bigL_ge; omega)
  simp at ih
  simp [ih]
/-! ### The reference's trial balance -/
def posP (a : ByteArray) : List Pst → Nat
  | [] => 0
  | p :: r => if ltS p.acc a = true then posP a r + 1 else 0
def insP (x : Pst) : List Pst → List Pst
  | [] => [x]
  | p :: r => if ltS p.acc x.acc = true then p :: insP x r else x :: p :: r
theorem insP_pos (x : Pst) : ∀ l : List Pst, insP x l = l.take (posP x.acc l) ++ x :: l.drop (posP x.acc l)
  | [] => rfl
  | p :: r => by
    simp only [insP, posP]
    split
    · simp [insP_pos x r]
    · rfl
theorem posP_le (a : ByteArray) : ∀ l : List Pst, posP a l ≤ l.length
  | [] => Nat.le_refl _
  | p :: r => by
    simp only [posP, List.length_cons]
    have := posP_le a r
    split <;> omega
theorem pos_loop (A E : List (List D)) (es : List Pst) (hl : es.length ≤ 1000000) (i : Nat) (a : ByteArray) (b : Int) : ∀ (n k : Nat) (r : List Pst), es.drop k = r → r.length < n →
    L_ref51_L_Trial 8 n ⟨[(0, .any), (1, .ptr 1 0), (2, .any), (3, .own true (es.map ePs)), (4, I i), (5, .ptr 5 0), (6, I k), (7, .any)], [(1, .box 31 [.sl A, .sl E]), (5, .box 47 [S a, I b])]⟩ =
      some (.ex 2, ⟨[(0, .any), (1, .ptr 1 0), (2, .any), (3, .own true (es.map ePs)), (4, I i), (5, .ptr 5 0), (6, I ((k + posP a r : Nat) : Int)), (7, .any)], [(1, .box 31 [.sl A, .sl E]), (5, .box 47 [S a, I b])]⟩) := by
  intro n
  induction n with
  | zero => intro k r hr hn; omega
  | succ n ih =>
    intro k r hr hn
    rw [L_ref51_L_Trial_succ, R_ref51_L_Trial_eq]
    cases r with
    | nil =>
      have h2 := dnG hr
      simp [h2, posP]
    | cons x r =>
      obtain ⟨h1, h3, hr', hi⟩ := dcG hr
      have hw := wrapN (n := k) (by omega)
      simp only [List.length_cons] at hn
      have ih' := ih (k + 1) r hr' (by omega)
      simp only [Int.natCast_add, Int.cast_ofNat_Int] at ih'
      cases hc : ltS x.acc a
      · have hc' : Op.bytesLess x.acc.toList a.toList = false := hc
        simp [h1, h3, hw, hc', posP, hc]
      · have hc' : Op.bytesLess x.acc.toList a.toList = true := hc
        simp [h1, h3, hw, hc', posP, hc]
        rw [show (k : Int) + ((posP a r : Int) + 1) = (k : Int) + 1 + (posP a r : Int) by omega]
        simpa using ih'
theorem pos_loop0 (A E : List (List D)) (i : Nat) (a : ByteArray) (b : Int) (n : Nat) :
    L_ref51_L_Trial 8 (n + 1) ⟨[(0, .any), (1, .ptr 1 0), (2, .any), (3, .emp), (4, I i), (5, .ptr 5 0), (6, I 0), (7, .any)], [(1, .box 31 [.sl A, .sl E]), (5, .box 47 [S a, I b])]⟩ =
      some (.ex 2, ⟨[(0, .any), (1, .ptr 1 0), (2, .any), (3, .emp), (4, I i), (5, .ptr 5 0), (6, I 0), (7, .any)], [(1, .box 31 [.sl A, .sl E]), (5, .box 47 [S a, I b])]⟩) := by
  rw [L_ref51_L_Trial_succ, R_ref51_L_Trial_eq]
  simp
end Go.Proofs.YtgngoijehjphoaaDoor
