/-
  What is the same, run abstractly.
-/
import Derived.Test.YtdefohgkniglpaaGreatDoorChA
namespace Go.Proofs.YtdefohgkniglpaaGreatDoor
set_option linter.unusedSimpArgs false
set_option linter.unusedVariables false
open Go Go.Abs
set_option maxHeartbeats 16000000
set_option maxRecDepth 100000
theorem sameDf_loop (l : List Dfc) (hl : l.length ≤ 1000000) : ∀ (n i : Nat) (r : List Dfc), l.drop i = r → r.length < n →
    L_ref40_sameDefects 4 n ⟨[(0, .sl (l.map eDf)), (1, .sl (l.map eDf)), (4, .any), (5, I i)], []⟩ = some (.ex 0, ⟨[(0, .any), (1, .any), (4, .any), (5, .any)], []⟩)
  | 0, _, _, _, hn => by omega
  | n + 1, i, [], hr, hn => by
    rw [L_ref40_sameDefects_succ, R_ref40_sameDefects_eq]
    simp [dn hr]
  | n + 1, i, x :: r, hr, hn => by
    rw [L_ref40_sameDefects_succ, R_ref40_sameDefects_eq]
    obtain ⟨h1, h3, hr', hi⟩ := dc (enc := eDf) hr
    have hw := wrapN (n := i) (by omega)
    have ih := sameDf_loop l hl n (i + 1) r hr' (by simp at hn; omega)
    simp at ih
    simp [h1, h3, hw, ih, eqD, eqFs]
theorem sameDf_run (l : List Dfc) (hl : l.length ≤ 1000000) : F_ref40_sameDefects [.sl (l.map eDf), .sl (l.map eDf)] = some (B true) := by
  rw [F_ref40_sameDefects_eq]
  have ih := sameDf_loop l hl bigL 0 l rfl (by have := bigL_ge; omega)
  simp at ih
  simp [ih]
theorem sameB_loop (l : List Bd) (hl : l.length ≤ 1000000) (hd : ∀ b ∈ l, b.dfs.length ≤ 1000000) : ∀ (n i : Nat) (r : List Bd), l.drop i = r → r.length < n →
    L_ref40_SameBoards 4 n ⟨[(0, .sl (l.map eBd)), (1, .sl (l.map eBd)), (4, .any), (5, I i), (6, .any), (7, .any)], []⟩ = some (.ex 0, ⟨[(0, .any), (1, .any), (4, .any), (5, .any), (6, .any), (7, .any)], []⟩)
  | 0, _, _, _, hn => by omega
  | n + 1, i, [], hr, hn => by
    rw [L_ref40_SameBoards_succ, R_ref40_SameBoards_eq]
    simp [dn hr]
  | n + 1, i, x :: r, hr, hn => by
    rw [L_ref40_SameBoards_succ, R_ref40_SameBoards_eq]
    obtain ⟨h1, h3, hr', hi⟩ := dc (enc := eBd) hr
    have hw := wrapN (n := i) (by omega)
    have hs := sameDf_run x.dfs (hd x (List.mem_of_mem_drop (hr ▸ List.mem_cons_self : x ∈ l.drop i)))
    have ih := sameB_loop l hl hd n (i + 1) r hr' (by simp at hn; omega)
    simp at ih
    simp [h1, h3, hw, hs, ih, eqD, eqFs]
theorem sameB_run (l : List Bd) (hl : l.length ≤ 1000000) (hd : ∀ b ∈ l, b.dfs.length ≤ 1000000) : F_ref40_SameBoards [.sl (l.map eBd), .sl (l.map eBd)] = some (B true) := by
  rw [F_ref40_SameBoards_eq]
  have ih := sameB_loop l hl hd bigL 0 l rfl (by have := bigL_ge; omega)
  simp at ih
  simp [ih]
theorem sameI_loop (l : List Int) (hl : l.length ≤ 1000000) : ∀ (n i : Nat) (r : List Int), l.drop i = r → r.length < n →
    L_ref40_SameInts 4 n ⟨[(0, .sl (l.map eI)), (1, .sl (l.map eI)), (4, .any), (5, I i)], []⟩ = some (.ex 0, ⟨[(0, .any), (1, .any), (4, .any), (5, .any)], []⟩)
  | 0, _, _, _, hn => by omega
  | n + 1, i, [], hr, hn => by
    rw [L_ref40_SameInts_succ, R_ref40_SameInts_eq]
    simp [dn hr]
  | n + 1, i, x :: r, hr, hn => by
    rw [L_ref40_SameInts_succ, R_ref40_SameInts_eq]
    obtain ⟨h1, h3, hr', hi⟩ := dc (enc := eI) hr
    have hw := wrapN (n := i) (by omega)
    have ih := sameI_loop l hl n (i + 1) r hr' (by simp at hn; omega)
    simp at ih
    simp [h1, h3, hw, ih]
theorem sameI_run (l : List Int) (hl : l.length ≤ 1000000) : F_ref40_SameInts [.sl (l.map eI), .sl (l.map eI)] = some (B true) := by
  rw [F_ref40_SameInts_eq]
  have ih := sameI_loop l hl bigL 0 l rfl (by have := bigL_ge; omega)
  simp at ih
  simp [ih]
end Go.Proofs.YtdefohgkniglpaaGreatDoor
