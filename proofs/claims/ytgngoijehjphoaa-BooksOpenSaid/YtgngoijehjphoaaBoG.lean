/-
  BooksOpen, run abstractly: the sums of a movement's postings.
-/
import Derived.Test.YtgngoijehjphoaaBoF
namespace Go.Proofs.Ytgngoijehjphoaa
set_option linter.unusedSimpArgs false
set_option linter.unusedVariables false
open Go Go.Abs
set_option maxHeartbeats 8000000
set_option maxRecDepth 100000
/-- Sums, one of which grows. -/
def updL (a : ByteArray) (x : Int) : List ByteArray → List Int → List Int
  | n :: ns, v :: vs => (if n = a then IntKind.i64.wrap (v + x) else v) :: updL a x ns vs
  | _, _ => []
theorem updL_map (a : ByteArray) (x : Int) (g : ByteArray → Int) : ∀ l : List ByteArray, updL a x l (l.map fun n => IntKind.i64.wrap (g n)) = l.map fun n => IntKind.i64.wrap (if a = n then g n + x else g n)
  | [] => rfl
  | n :: r => by
    simp only [List.map_cons, updL, updL_map a x g r]
    by_cases h : n = a
    · rw [if_pos h, if_pos h.symm, wrap_add]
    · rw [if_neg h, if_neg (fun e => h e.symm)]
theorem updL_len (a : ByteArray) (x : Int) : ∀ (ns : List ByteArray) (vs : List Int), ns.length = vs.length → (updL a x ns vs).length = ns.length
  | [], [], _ => rfl
  | [], _ :: _, h => by simp at h
  | _ :: _, [], h => by simp at h
  | n :: ns, v :: vs, h => by simp only [updL, List.length_cons, updL_len a x ns vs (by simpa using h)]
/-- The state in which movements are posted. -/
def bS (ms : List Mov) (o : Bool) (M1 M2 : List (Value × Value)) (L E : List (List D)) (fl f2 : Bool) (l : List Int) (d11 d12 d13 d14 d15 : D) : St :=
  ⟨[(0, .sl (ms.map eMv)), (1, B o), (4, .any), (5, .own true (acc8.map eNm)), (6, .any), (7, .ptr 31 0), (8, .any), (9, .row 9), (10, .row 10), (11, d11), (12, d12), (13, d13), (14, d14), (15, d15), (16, .any), (17, .any), (18, .any), (19, .any)],
    [(31, .box 57 [.mp 13100, .mp 13101, .row 13102]), (13100, .mp M1), (13101, .mp M2), (13102, .row 41 3 fl L), (9, .row 3 1 true (l.map eI)), (10, .row 41 3 f2 E)]⟩
theorem b21_loop (ms : List Mov) (o : Bool) (M1 M2 : List (Value × Value)) (L E : List (List D)) (fl f2 : Bool) (i k : Nat) (ps : List Pst) (p : Pst) (hk : (k : Int) < ps.length) (hp : ps[k]? = some p) (s : Int) : ∀ (n j : Nat) (r : List ByteArray) (l : List Int), acc8.drop j = r → r.length < n → l.length = 8 →
    L_law52_BooksOpen 21 n (bS ms o M1 M2 L E fl f2 l (I i) (.own true (ps.map ePs)) (I s) (I k) (I j)) =
      some (.ex 4, bS ms o M1 M2 L E fl f2 (l.take j ++ updL p.acc p.amt r (l.drop j)) (I i) (.own true (ps.map ePs)) (I s) (I k) .any) := by
  intro n
  induction n with
  | zero => intro j r l hr hn; omega
  | succ n ih =>
    intro j r l hr hn hl
    rw [L_law52_BooksOpen_succ, R_law52_BooksOpen_eq]
    have hal : (acc8.map eNm).length = 8 := rfl
    cases r with
    | nil =>
      have h2 := dnG hr
      rw [acc8_len] at h2
      have h2' : ¬ (j : Int) < 8 := h2
      have e : l.take j ++ updL p.acc p.amt [] (l.drop j) = l := by
        have : updL p.acc p.amt [] (l.drop j) = [] := by unfold updL; rfl
        rw [this, List.append_nil, List.take_of_length_le (by omega)]
      rw [e]
      simp only [bS]
      generalize acc8.map eNm = A at *
      simp [h2', hal]
    | cons a r =>
      obtain ⟨h1, _, hr', hj⟩ := dcG hr
      rw [acc8_len] at hj
      have h3 : (j : Int) < 8 := by omega
      have hw := wrapN (n := j) (by omega)
      simp only [List.length_cons] at hn
      have hA : (acc8.map eNm)[j]? = some [S a] := by rw [List.getElem?_map, h1]; rfl
      obtain ⟨v, hv⟩ : ∃ v, l[j]? = some v := ⟨_, List.getElem?_eq_getElem (by omega)⟩
      have hvj : l[j]'(by omega) = v := by
        obtain ⟨_, e⟩ := List.getElem?_eq_some_iff.1 hv
        exact e
      have hd : l.drop j = v :: l.drop (j + 1) := by rw [List.drop_eq_getElem_cons (by omega), hvj]
      have hkl : (k : Int) < (ps.map ePs).length := by simpa using hk
      have hpk : (ps.map ePs)[k]? = some [S p.acc, I p.amt] := by rw [List.getElem?_map, hp]; rfl
      by_cases hc : a = p.acc
      · have ih' := ih (j + 1) r (l.set j (IntKind.i64.wrap (v + p.amt))) hr' (by omega) (by simpa using hl)
        have e : l.take j ++ updL p.acc p.amt (a :: r) (l.drop j) = (l.set j (IntKind.i64.wrap (v + p.amt))).take (j + 1) ++ updL p.acc p.amt r ((l.set j (IntKind.i64.wrap (v + p.amt))).drop (j + 1)) := by
          rw [hd]
          simp only [updL, if_pos hc]
          rw [List.drop_set, if_pos (by omega), List.take_succ_eq_append_getElem (by simp; omega), List.getElem_set_self, List.take_set_of_le (by omega)]
          simp
        rw [e]
        simp only [bS, Int.natCast_add, Int.cast_ofNat_Int] at ih' ⊢
        generalize acc8.map eNm = A at *
        generalize ps.map ePs = P at *
        simp [hA, hal, h3, hkl, hpk, hc, hv, hl, hw]
        simpa using ih'
      · have ih' := ih (j + 1) r l hr' (by omega) hl
        have e : l.take j ++ updL p.acc p.amt (a :: r) (l.drop j) = l.take (j + 1) ++ updL p.acc p.amt r (l.drop (j + 1)) := by
          rw [hd]
          simp only [updL, if_neg hc]
          rw [List.take_succ_eq_append_getElem (by omega), hvj]
          simp
        rw [e]
        simp only [bS, Int.natCast_add, Int.cast_ofNat_Int] at ih' ⊢
        generalize acc8.map eNm = A at *
        generalize ps.map ePs = P at *
        simp [hA, hal, h3, hkl, hpk, hc, hw]
        simpa using ih'
theorem b17_loop (ms : List Mov) (o : Bool) (M1 M2 : List (Value × Value)) (L E : List (List D)) (fl f2 : Bool) (i : Nat) (ps : List Pst) (hl : ps.length ≤ 100) : ∀ (n k : Nat) (r : List Pst) (g : ByteArray → Int) (s v : Int), v = IntKind.i64.wrap s → ps.drop k = r → r.length < n →
    L_law52_BooksOpen 17 n (bS ms o M1 M2 L E fl f2 (acc8.map fun a => IntKind.i64.wrap (g a)) (I i) (.own true (ps.map ePs)) (I v) (I k) .any) =
      some (.ex 2, bS ms o M1 M2 L E fl f2 (acc8.map fun a => IntKind.i64.wrap (g a + sumP a r)) (I i) (.own true (ps.map ePs)) (I (IntKind.i64.wrap (s + totS r))) .any .any) := by
  intro n
  induction n with
  | zero => intro k r g s v _ hr hn; omega
  | succ n ih =>
    intro k r g s v hv hr hn
    rw [L_law52_BooksOpen_succ, R_law52_BooksOpen_eq]
    cases r with
    | nil =>
      have h2 := dnG hr
      simp only [sumP, totS, Int.add_zero, ← hv, bS]
      have hlen : ((ps.map ePs).length : Int) = ps.length := by simp
      rw [← hlen] at h2
      generalize acc8.map eNm = A at *
      generalize ps.map ePs = P at *
      generalize acc8.map (fun a => IntKind.i64.wrap (g a)) = l at *
      simp [h2]
    | cons p r =>
      obtain ⟨h1, h3, hr', hk⟩ := dcG hr
      have hw := wrapN (n := k) (by omega)
      simp only [List.length_cons] at hn
      have h21 := b21_loop ms o M1 M2 L E fl f2 i k ps p h3 h1 (IntKind.i64.wrap (v + p.amt)) bigL 0 acc8 (acc8.map fun a => IntKind.i64.wrap (g a)) rfl (by have := bigL_ge; rw [acc8_len]; omega) (by simp [acc8_len])
      rw [List.take_zero, List.nil_append, List.drop_zero, updL_map] at h21
      have ih' := ih (k + 1) r (fun a => if p.acc = a then g a + p.amt else g a) (s + p.amt) (IntKind.i64.wrap (v + p.amt)) (by rw [hv, wrap_add]) hr' (by omega)
      have e1 : (acc8.map fun a => IntKind.i64.wrap (g a + sumP a (p :: r))) = acc8.map fun a => IntKind.i64.wrap ((if p.acc = a then g a + p.amt else g a) + sumP a r) := by
        refine List.map_congr_left fun a _ => ?_
        congr 1
        simp only [sumP]
        split <;> omega
      have e2 : s + totS (p :: r) = s + p.amt + totS r := by simp only [totS]; omega
      rw [e1, e2]
      have hlen : ((ps.map ePs).length : Int) = ps.length := by simp
      rw [← hlen] at h3
      have hpk : (ps.map ePs)[k]? = some [S p.acc, I p.amt] := by rw [List.getElem?_map, h1]; rfl
      simp only [bS, Int.natCast_add, Int.cast_ofNat_Int] at ih' h21 ⊢
      generalize acc8.map eNm = A at *
      generalize ps.map ePs = P at *
      generalize acc8.map (fun a => IntKind.i64.wrap (g a)) = l at *
      generalize acc8.map (fun a => IntKind.i64.wrap (if p.acc = a then g a + p.amt else g a)) = l' at *
      generalize acc8.map (fun a => IntKind.i64.wrap ((if p.acc = a then g a + p.amt else g a) + sumP a r)) = l'' at *
      simp [h3, hpk, h21, hw]
      simpa using ih'
end Go.Proofs.Ytgngoijehjphoaa
