/-
  The statements Faults and Limits, run abstractly.
-/
import Derived.Test.YtdefohgkniglpaaDoorChF
namespace Go.Proofs.YtdefohgkniglpaaDoor
set_option linter.unusedSimpArgs false
set_option linter.unusedVariables false
open Go Go.Abs
set_option maxHeartbeats 16000000
set_option maxRecDepth 100000
theorem faults_law (l : List Flt) (t : Int) : F_law40_ChargeFaults [.sl (l.map eFl), I t] = some (B true) := by
  rw [F_law40_ChargeFaults_eq]
  by_cases h : (60 : Int) < l.length
  · simp [h, awake_run]
  · have h1 := cat_run l t (by omega)
    have h2 := rat_run l t (by omega)
    have hl := atM_len l t
    have h3 := sameI_run (atM l t) (by omega)
    simp [h, h1, h2, h3, awake_run]
/-! ### Limits -/
def fstM (s : Int) : List Bd → Int
  | [] => s
  | b :: r => fstM (if s < grad b.cel then grad b.cel else s) r
theorem fstM_le : ∀ (l : List Bd) (s : Int), s ≤ fstM s l ∧ ∀ b ∈ l, grad b.cel ≤ fstM s l
  | [], s => by simp [fstM]
  | x :: r, s => by
    unfold fstM
    by_cases hs : s < grad x.cel
    · rw [if_pos hs]
      obtain ⟨h1, h2⟩ := fstM_le r (grad x.cel)
      refine ⟨by omega, fun b hb => ?_⟩
      rcases List.mem_cons.1 hb with rfl | hb
      · exact h1
      · exact h2 b hb
    · rw [if_neg hs]
      obtain ⟨h1, h2⟩ := fstM_le r s
      refine ⟨h1, fun b hb => ?_⟩
      rcases List.mem_cons.1 hb with rfl | hb
      · omega
      · exact h2 b hb
theorem driedM_mem : ∀ {l : List Bd} {r : List Itm} {b : Bd}, b ∈ driedM l r → ∃ x ∈ r, b.cel = x.cel
  | b0 :: l, x :: r, b, h => by
    simp only [driedM, List.mem_cons] at h
    rcases h with rfl | h
    · exact ⟨x, by simp, rfl⟩
    · obtain ⟨y, hy, e⟩ := driedM_mem h
      exact ⟨y, by simp [hy], e⟩
  | [], _, b, h => by simp [driedM] at h
  | _ :: _, [], b, h => by simp [driedM] at h
theorem limits_first (g : Gv) (out : List Bd) (R : Rn) (hl : g.l.length ≤ 1000000) : ∀ (n i : Nat) (r : List Bd) (s : Int), g.l.drop i = r → r.length < n →
    L_law40_ChargeLimits 8 n ⟨[(0, .any), (1, .ptr 1 0), (2, .any), (3, .own false (out.map eBd)), (4, .ptr 4 0), (5, .any), (6, I s), (7, I i), (8, .any)], [(1, .box 35 (eGv g)), (4, .box 40 (eRn R))]⟩ =
      some (.ex 0, ⟨[(0, .any), (1, .ptr 1 0), (2, .any), (3, .own false (out.map eBd)), (4, .ptr 4 0), (5, .any), (6, I (fstM s r)), (7, .any), (8, .any)], [(1, .box 35 (eGv g)), (4, .box 40 (eRn R))]⟩)
  | 0, _, _, _, _, hn => by omega
  | n + 1, i, [], s, hr, hn => by
    rw [L_law40_ChargeLimits_succ, R_law40_ChargeLimits_eq]
    simp [dn hr, fstM]
  | n + 1, i, x :: r, s, hr, hn => by
    rw [L_law40_ChargeLimits_succ, R_law40_ChargeLimits_eq]
    obtain ⟨h1, h3, hr', hi⟩ := dc (enc := eBd) hr
    have hw := wrapN (n := i) (by omega)
    have hg := grad_run x.cel
    have ih := limits_first g out R hl n (i + 1) r (if s < grad x.cel then grad x.cel else s) hr' (by simp at hn; omega)
    simp at ih hg
    simp [h1, h3, hw, hg, ih, fstM]
theorem limits_all (g : Gv) (out : List Bd) (R : Rn) (hl : out.length ≤ 1000000) (hall : ∀ b ∈ out, grad b.cel ≤ R.g ∧ checkM b.cel = 0) : ∀ (n i : Nat) (r : List Bd), out.drop i = r → r.length < n →
    L_law40_ChargeLimits 14 n ⟨[(0, .any), (1, .ptr 1 0), (2, .any), (3, .own false (out.map eBd)), (4, .ptr 4 0), (5, .any), (6, .any), (7, .any), (8, I i)], [(1, .box 35 (eGv g)), (4, .box 40 (eRn R))]⟩ =
      some (.ex 2, ⟨[(0, .any), (1, .ptr 1 0), (2, .any), (3, .any), (4, .ptr 4 0), (5, .any), (6, .any), (7, .any), (8, .any)], [(1, .box 35 (eGv g)), (4, .box 40 (eRn R))]⟩)
  | 0, _, _, _, hn => by omega
  | n + 1, i, [], hr, hn => by
    rw [L_law40_ChargeLimits_succ, R_law40_ChargeLimits_eq]
    simp [dn hr]
  | n + 1, i, x :: r, hr, hn => by
    rw [L_law40_ChargeLimits_succ, R_law40_ChargeLimits_eq]
    obtain ⟨h1, h3, hr', hi⟩ := dc (enc := eBd) hr
    have hw := wrapN (n := i) (by omega)
    have hg := grad_run x.cel
    have hc := checkM_run x.cel
    obtain ⟨a1, a2⟩ := hall x (List.mem_of_mem_drop (hr ▸ List.mem_cons_self : x ∈ out.drop i))
    rw [a2] at hc
    have a3 : ¬ R.g < grad x.cel := by omega
    have ih := limits_all g out R hl hall n (i + 1) r hr' (by simp at hn; omega)
    simp at ih hg hc
    simp [h1, h3, hw, hg, hc, a3, ih]
theorem limits_law (g : Gv) (ok : okGv g) : F_law40_ChargeLimits [.agg (eGv g)] = some (B true) := by
  rw [F_law40_ChargeLimits_eq]
  have hl := light_run g
  simp at hl
  cases hL : lightM g
  · rw [hL] at hl
    simp [hl, awake_run]
  · rw [hL] at hl
    obtain ⟨fw, h8, _⟩ := light_of hL
    by_cases he : errD g = 0
    · have hd := ldryGood_run g ok fw he
      obtain ⟨f1, f2⟩ := fstM_le g.l g.w.grad
      have lim := lim_rn he f1 f2
      have hlen := rnM_len he
      have olen := driedM_len g.l (rnM g).k.items hlen.symm
      have iv := rnM_inv he
      have i8 := limits_first g (outB g) (rnM g) (by omega) bigL 0 g.l g.w.grad rfl (by have := bigL_ge; omega)
      have i14 := limits_all g (outB g) (rnM g) (by unfold outB; omega) (fun b hb => by
        obtain ⟨x, hx, e⟩ := driedM_mem hb
        rw [e]
        exact ⟨lim.all x hx, iv.cells x hx⟩) bigL 0 (outB g) rfl (by have := bigL_ge; unfold outB; omega)
      have sf := safe_run (rnM g) g.w
      have b1 := lim.a
      have b2 := lim.b
      have b3 := lim.g
      have c1 : ¬ g.w.temp < (rnM g).a := by omega
      have c2 : ¬ g.w.dep < (rnM g).b := by omega
      have c3 : ¬ fstM g.w.grad g.l < (rnM g).g := by omega
      clear lim iv f1 f2 b3
      generalize outB g = out at *
      generalize rnM g = R at *
      generalize fstM g.w.grad g.l = fm at *
      simp [b1, b2] at hd i8 i14 sf
      simp [hl, hd, i8, i14, c1, c2, c3, sf, awake_run]
    · have hd := ldryBad_run g ok fw he
      simp at hd
      simp [hl, hd, he, awake_run, eqD, eqFs]
theorem chargeFaults_abs (xs : List D) (h : TyArgs Tryd.prog Tryd.f3.params.toList xs) : Contract Tryd.prog gl 3 xs (.x (.bool true)) := by
  simp [TyArgs] at h
  obtain ⟨d, r, rfl, h1, d', rfl, h2⟩ := h
  obtain ⟨l, rfl, hl⟩ := tyFlts h1
  obtain ⟨t, rfl, ht⟩ := tyI h2
  exact C_law40_ChargeFaults _ _ (faults_law l t)
theorem chargeLimits_abs (xs : List D) (h : TyArgs Tryd.prog Tryd.f4.params.toList xs) : Contract Tryd.prog gl 4 xs (.x (.bool true)) := by
  simp [TyArgs] at h
  obtain ⟨d, rfl, h1⟩ := h
  obtain ⟨g, rfl, ok⟩ := tyGv h1
  exact C_law40_ChargeLimits _ _ (limits_law g ok)
end Go.Proofs.YtdefohgkniglpaaDoor
