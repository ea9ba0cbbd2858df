/-
  The reference's faults, run abstractly; and that both ways give one list.
-/
import Derived.Test.YtdefohgkniglpaaGreatDoorChA
namespace Go.Proofs.YtdefohgkniglpaaGreatDoor
set_option linter.unusedSimpArgs false
set_option linter.unusedVariables false
open Go Go.Abs
set_option maxHeartbeats 8000000
set_option maxRecDepth 100000
theorem dcut {α : Type} {enc : α → List D} {l : List α} {i : Nat} {x : α} {r : List α} (h : l.drop i = x :: r) : ((l.map enc).take (i + 1)).drop i = [enc x] := by
  rw [← List.map_take, ← List.map_drop, List.drop_take, h]
  simp
/-- A number put into its place. -/
def addO (n : Int) : Bool → List Int → List Int
  | _, [] => []
  | true, x :: r => x :: addO n true r
  | false, x :: r => if n ≤ x then if n < x then n :: x :: addO n true r else x :: addO n true r else x :: addO n false r
def addE (n : Int) : Bool → List Int → Bool
  | d, [] => d
  | true, _ :: r => addE n true r
  | false, x :: r => if n ≤ x then addE n true r else addE n false r
def addI (n : Int) (l : List Int) : List Int := if addE n false l = true then addO n false l else addO n false l ++ [n]
theorem addO_true (n : Int) : ∀ l : List Int, addO n true l = l
  | [] => rfl
  | x :: r => by simp [addO, addO_true n r]
theorem addE_true (n : Int) : ∀ l : List Int, addE n true l = true
  | [] => rfl
  | x :: r => by simp [addE, addE_true n r]
theorem addI_nil (n : Int) : addI n [] = [n] := rfl
theorem addI_cons (n x : Int) (r : List Int) : addI n (x :: r) = if n ≤ x then (if n < x then n :: x :: r else x :: r) else x :: addI n r := by
  unfold addI
  simp only [addE, addO, addO_true, addE_true]
  by_cases h : n ≤ x
  · simp [h]
  · simp only [h, if_false]
    split <;> rfl
theorem addI_asc (n : Int) : ∀ l : List Int, l.Pairwise (· < ·) → (addI n l).Pairwise (· < ·) ∧ ∀ z, z ∈ addI n l ↔ z = n ∨ z ∈ l
  | [], _ => by simp [addI_nil]
  | x :: r, h => by
    obtain ⟨h1, h2⟩ := List.pairwise_cons.1 h
    obtain ⟨i1, i2⟩ := addI_asc n r h2
    rw [addI_cons]
    split
    · split
      · refine ⟨List.pairwise_cons.2 ⟨fun z hz => ?_, h⟩, fun z => by simp⟩
        rcases List.mem_cons.1 hz with rfl | hz
        · assumption
        · have := h1 z hz; omega
      · have e : n = x := by omega
        subst e
        exact ⟨h, fun z => by simp⟩
    · refine ⟨List.pairwise_cons.2 ⟨fun z hz => ?_, i1⟩, fun z => ?_⟩
      · rcases (i2 z).1 hz with rfl | hz
        · omega
        · exact h1 z hz
      · simp only [List.mem_cons, i2]
        constructor
        · rintro (h | h | h)
          · exact .inr (.inl h)
          · exact .inl h
          · exact .inr (.inr h)
        · rintro (h | h | h)
          · exact .inr (.inl h)
          · exact .inl h
          · exact .inr (.inr h)
theorem addI_len (n : Int) : ∀ l : List Int, (addI n l).length ≤ l.length + 1
  | [] => by simp [addI_nil]
  | x :: r => by
    have := addI_len n r
    rw [addI_cons]
    split
    · split <;> simp
    · simp; omega
/-- The reference's kinds. -/
def rAt (t : Int) : List Int → List Flt → List Int
  | a, [] => a
  | a, f :: r => if f.a ≤ t then if t < f.b then rAt t (addI f.kind a) r else rAt t a r else rAt t a r
theorem rAt_asc (t : Int) : ∀ (l : List Flt) (a : List Int), a.Pairwise (· < ·) → (rAt t a l).Pairwise (· < ·) ∧ ∀ z, z ∈ rAt t a l ↔ z ∈ a ∨ z ∈ kinds t l
  | [], a, h => ⟨h, fun z => by simp [rAt, kinds]⟩
  | f :: r, a, h => by
    unfold rAt kinds
    split
    · split
      · obtain ⟨i1, i2⟩ := addI_asc f.kind a h
        obtain ⟨j1, j2⟩ := rAt_asc t r (addI f.kind a) i1
        refine ⟨j1, fun z => ?_⟩
        rw [j2, i2, List.mem_cons]
        constructor
        · rintro ((h | h) | h)
          · exact .inr (.inl h)
          · exact .inl h
          · exact .inr (.inr h)
        · rintro (h | h | h)
          · exact .inl (.inr h)
          · exact .inl (.inl h)
          · exact .inr h
      · exact rAt_asc t r a h
    · exact rAt_asc t r a h
theorem rAt_eq (l : List Flt) (t : Int) : rAt t [] l = atM l t := by
  obtain ⟨h1, h2⟩ := rAt_asc t l [] List.Pairwise.nil
  exact asc_eqI h1 (atM_asc l t) (fun z => by rw [h2, atM, (setI _).2]; simp)
theorem fhas_loop (l : List Flt) (k t : Int) (hl : l.length ≤ 1000000) : ∀ (n i : Nat) (r : List Flt), l.drop i = r → r.length < n → (∀ f ∈ l, f.kind = k) →
    L_ref40_has 2 n ⟨[(0, .sl (l.map eFl)), (1, I k), (2, I t), (6, .any), (7, I i)], []⟩ =
      if kinds t r = [] then some (.ex 0, ⟨[(0, .any), (1, .any), (2, .any), (6, .any), (7, .any)], []⟩) else some (.ret, ⟨[(0, .any), (1, .any), (2, .any), (6, B true), (7, .any)], []⟩)
  | 0, _, _, _, hn, _ => by omega
  | n + 1, i, [], hr, hn, hk => by
    rw [L_ref40_has_succ, R_ref40_has_eq]
    simp [dn hr, kinds]
  | n + 1, i, x :: r, hr, hn, hk => by
    rw [L_ref40_has_succ, R_ref40_has_eq]
    obtain ⟨h1, h3, hr', hi⟩ := dc (enc := eFl) hr
    have hw := wrapN (n := i) (by omega)
    have ih := fhas_loop l k t hl n (i + 1) r hr' (by simp at hn; omega) hk
    have hx := hk x (List.mem_of_mem_drop (hr ▸ List.mem_cons_self : x ∈ l.drop i))
    simp at ih
    by_cases a1 : x.a ≤ t
    · by_cases a2 : t < x.b
      · simp [h1, h3, hw, hx, kinds, a1, a2]
      · simp [h1, h3, hw, hx, ih, kinds, a1, a2]
    · simp [h1, h3, hw, hx, ih, kinds, a1]
theorem fhas_run (x : Flt) (t : Int) : F_ref40_has [.sl [[I x.kind, I x.a, I x.b]], I x.kind, I t] = some (B (decide (x.a ≤ t) && decide (t < x.b))) := by
  rw [F_ref40_has_eq]
  have ih := fhas_loop [x] x.kind t (by simp) bigL 0 [x] rfl (by have := bigL_ge; simp; omega) (by simp)
  simp [kinds] at ih
  by_cases a1 : x.a ≤ t
  · by_cases a2 : t < x.b
    · simp [a1, a2] at ih
      simp [ih, a1, a2]
    · have a2' : x.b ≤ t := by omega
      simp [a1, a2, a2'] at ih
      simp [ih, a1, a2, a2']
  · simp [a1] at ih
    simp [ih, a1]
theorem add_loop (l : List Int) (k : Int) (hl : l.length ≤ 1000000) : ∀ (n i : Nat) (r a : List Int) (d : Bool), l.drop i = r → r.length < n → a.length ≤ i + (if d = true then 1 else 0) →
    L_ref40_add 4 n ⟨[(0, .sl (l.map eI)), (1, I k), (4, .any), (5, .row 5), (6, B d), (7, I i)], [(5, .row 3 1 true (a.map eI))]⟩ =
      some (.ex 0, ⟨[(0, .any), (1, I k), (4, .any), (5, .row 5), (6, B (addE k d r)), (7, .any)], [(5, .row 3 1 true ((a ++ addO k d r).map eI))]⟩)
  | 0, _, _, _, _, _, hn, _ => by omega
  | n + 1, i, [], a, d, hr, hn, ha => by
    rw [L_ref40_add_succ, R_ref40_add_eq]
    cases d <;> simp [dn hr, addO, addE]
  | n + 1, i, x :: r, a, d, hr, hn, ha => by
    rw [L_ref40_add_succ, R_ref40_add_eq]
    obtain ⟨h1, h3, hr', hi⟩ := dc (enc := eI) hr
    have hw := wrapN (n := i) (by omega)
    have h2 : (a.length + 1) * 9 ≤ 140737488355328 := by split at ha <;> omega
    have h4 : (a.length + 1 + 1) * 9 ≤ 140737488355328 := by split at ha <;> omega
    cases d with
    | true =>
      have ih := add_loop l k hl n (i + 1) r (a ++ [x]) true hr' (by simp at hn; omega) (by simp at ha ⊢; omega)
      simp at ih
      simp [h1, h3, hw, h2, ih, addO, addE]
    | false =>
      by_cases a1 : k ≤ x
      · by_cases a2 : k < x
        · have ih := add_loop l k hl n (i + 1) r (a ++ [k, x]) true hr' (by simp at hn; omega) (by simp at ha ⊢; omega)
          simp at ih
          simp [h1, h3, hw, h2, h4, ih, addO, addE, a1, a2]
        · have ih := add_loop l k hl n (i + 1) r (a ++ [x]) true hr' (by simp at hn; omega) (by simp at ha ⊢; omega)
          simp at ih
          simp [h1, h3, hw, h2, ih, addO, addE, a1, a2]
      · have ih := add_loop l k hl n (i + 1) r (a ++ [x]) false hr' (by simp at hn; omega) (by simp at ha ⊢; omega)
        simp at ih
        simp [h1, h3, hw, h2, ih, addO, addE, a1]
theorem addO_len (k : Int) : ∀ (l : List Int) (d : Bool), (addO k d l).length ≤ l.length + 1
  | [], _ => by simp [addO]
  | x :: r, true => by rw [addO_true]; simp
  | x :: r, false => by
    have := addO_len k r false
    unfold addO
    split
    · split <;> simp [addO_true]
    · simp; omega
theorem add_run (l : List Int) (k : Int) (hl : l.length ≤ 1000000) : F_ref40_add [.sl (l.map eI), I k] = some (.own true ((addI k l).map eI)) := by
  rw [F_ref40_add_eq]
  have ih := add_loop l k hl bigL 0 l [] false rfl (by have := bigL_ge; omega) (by simp)
  have hlen := addO_len k l false
  have h2 : ((addO k false l).length + 1) * 9 ≤ 140737488355328 := by omega
  unfold addI
  simp at ih
  cases h : addE k false l
  · rw [h] at ih
    simp [ih, h2]
  · rw [h] at ih
    simp [ih]
theorem frat_loop (l : List Flt) (t : Int) (hl : l.length ≤ 1000) : ∀ (n i : Nat) (r : List Flt) (a : List Int) (d : D), l.drop i = r → r.length < n → a.length ≤ i → (d = .emp ∧ a = [] ∨ d = .own true (a.map eI)) →
    ∃ d', L_ref40_At 3 n ⟨[(0, .sl (l.map eFl)), (1, I t), (4, .any), (5, d), (6, I i)], []⟩ = some (.ex 0, ⟨[(0, .any), (1, .any), (4, .any), (5, d'), (6, .any)], []⟩) ∧ (d' = .emp ∧ rAt t a r = [] ∨ d' = .own true ((rAt t a r).map eI))
  | 0, _, _, _, _, _, hn, _, _ => by omega
  | n + 1, i, [], a, d, hr, hn, ha, hd => by
    refine ⟨d, ?_, by unfold rAt; exact hd⟩
    rw [L_ref40_At_succ, R_ref40_At_eq]
    rcases hd with ⟨rfl, _⟩ | rfl <;> simp [dn hr]
  | n + 1, i, x :: r, a, d, hr, hn, ha, hd => by
    obtain ⟨h1, h3, hr', hi⟩ := dc (enc := eFl) hr
    have hw := wrapN (n := i) (by omega)
    have hh := fhas_run x t
    have hcut := dcut (enc := eFl) hr
    have h5 : (i : Int) ≤ (i : Int) + 1 := by omega
    have h6 : (i : Int) + 1 ≤ l.length := by omega
    have hlen := addI_len x.kind a
    simp at hcut
    by_cases a1 : x.a ≤ t ∧ t < x.b
    · obtain ⟨d', ih, hd'⟩ := frat_loop l t hl n (i + 1) r (addI x.kind a) _ hr' (by simp at hn; omega) (by omega) (.inr rfl)
      refine ⟨d', ?_, by unfold rAt; rw [if_pos a1.1, if_pos a1.2]; exact hd'⟩
      rw [L_ref40_At_succ, R_ref40_At_eq]
      have ad := add_run a x.kind (by omega)
      simp at ih
      rcases hd with ⟨rfl, rfl⟩ | rfl
      · simp [addI_nil] at ih ad
        simp [h1, h3, h5, h6, hcut, hw, hh, a1, ih, ad]
      · simp [h1, h3, h5, h6, hcut, hw, hh, a1, ih, ad]
    · obtain ⟨d', ih, hd'⟩ := frat_loop l t hl n (i + 1) r a d hr' (by simp at hn; omega) (by omega) hd
      refine ⟨d', ?_, ?_⟩
      · rw [L_ref40_At_succ, R_ref40_At_eq]
        simp at ih
        have a2 : (decide (x.a ≤ t) && decide (t < x.b)) = false := by
          simp
          omega
        rw [a2] at hh
        rcases hd with ⟨rfl, rfl⟩ | rfl <;> simp [h1, h3, h5, h6, hcut, hw, hh, ih]
      · unfold rAt
        by_cases b1 : x.a ≤ t
        · rw [if_pos b1, if_neg (by omega)]; exact hd'
        · rw [if_neg b1]; exact hd'
theorem frat_run (l : List Flt) (t : Int) (hl : l.length ≤ 1000) : F_ref40_At [.sl (l.map eFl), I t] = some (.own true ((atM l t).map eI)) := by
  rw [F_ref40_At_eq]
  obtain ⟨d', ih, hd'⟩ := frat_loop l t hl bigL 0 l [] .emp rfl (by have := bigL_ge; omega) (by simp) (.inl ⟨rfl, rfl⟩)
  rw [rAt_eq] at hd'
  simp at ih
  rcases hd' with ⟨rfl, e⟩ | rfl
  · simp [ih, e]
  · simp [ih]
end Go.Proofs.YtdefohgkniglpaaGreatDoor
