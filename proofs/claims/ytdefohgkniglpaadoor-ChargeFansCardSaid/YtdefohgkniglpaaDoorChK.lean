/-
  The statement Keeps, run abstractly.
-/
import Derived.Test.YtdefohgkniglpaaDoorChF
namespace Go.Proofs.YtdefohgkniglpaaDoor
set_option linter.unusedSimpArgs false
set_option linter.unusedVariables false
open Go Go.Abs
set_option maxHeartbeats 16000000
set_option maxRecDepth 100000
/-! ### Keeps -/
def dryB (b : Bd) (x : Itm) : Bd := ⟨b.id, b.log, b.sp, b.prod, b.xa, b.xb, b.ya, b.yb, b.za, b.zb, b.vol, b.dfs, b.wane, x.cel, true, b.grade⟩
theorem driedM_get : ∀ {l : List Bd} {r : List Itm} {i : Nat} {b : Bd} {x : Itm}, l[i]? = some b → r[i]? = some x → (driedM l r)[i]? = some (dryB b x)
  | b0 :: l, x0 :: r, 0, b, x, h1, h2 => by
    simp at h1 h2
    subst h1 h2
    rfl
  | b0 :: l, x0 :: r, i + 1, b, x, h1, h2 => by
    simp at h1 h2
    simp only [driedM, List.getElem?_cons_succ]
    exact driedM_get h1 h2
  | [], _, i, b, x, h1, _ => by simp at h1
  | _ :: _, [], i, b, x, _, h2 => by simp at h2
theorem keeps_loop (g : Gv) (its : List Itm) (hl : g.l.length ≤ 1000000) (hlen : g.l.length = its.length) (hd : ∀ b ∈ g.l, b.dfs.length ≤ 1000000) (hn' : ∀ b ∈ g.l, b.dried = false) : ∀ (n i : Nat) (r : List Bd), g.l.drop i = r → r.length < n →
    L_law40_ChargeKeeps 9 n ⟨[(0, .any), (1, .ptr 1 0), (2, .any), (3, .own false ((driedM g.l its).map eBd)), (5, .any), (6, I i), (7, .any), (8, .any), (11, .any)], [(1, .box 35 (eGv g))]⟩ =
      some (.ex 0, ⟨[(0, .any), (1, .ptr 1 0), (2, .any), (3, .own false ((driedM g.l its).map eBd)), (5, .any), (6, .any), (7, .any), (8, .any), (11, .any)], [(1, .box 35 (eGv g))]⟩)
  | 0, _, _, _, hn => by omega
  | n + 1, i, [], hr, hn => by
    rw [L_law40_ChargeKeeps_succ, R_law40_ChargeKeeps_eq]
    have h3 : ¬ (i : Int) < (driedM g.l its).length := by rw [driedM_len _ _ hlen]; exact dn hr
    simp [h3]
  | n + 1, i, x :: r, hr, hn => by
    rw [L_law40_ChargeKeeps_succ, R_law40_ChargeKeeps_eq]
    obtain ⟨h1, h3, hr', hi⟩ := dc (enc := eBd) hr
    have hw := wrapN (n := i) (by omega)
    have hx : x ∈ g.l := List.mem_of_mem_drop (hr ▸ List.mem_cons_self : x ∈ g.l.drop i)
    have hs := sameB_run [x] (by simp) (by simpa using hd x hx)
    have hxd := hn' x hx
    have ih := keeps_loop g its hl hlen hd hn' n (i + 1) r hr' (by simp at hn; omega)
    have gx : g.l[i]? = some x := by
      have := congrArg List.head? hr
      simpa [List.head?_drop] using this
    have gy : its[i]? = some its[i] := List.getElem?_eq_getElem (by omega)
    have gd := driedM_get gx gy
    have ol := driedM_len g.l its hlen
    have k1 : ((driedM g.l its).map eBd)[i]? = some (eBd (dryB x its[i])) := by rw [List.getElem?_map, gd]; rfl
    have k3 : (i : Int) < (driedM g.l its).length := by omega
    have hcut := dcut (enc := eBd) hr
    have h5 : (i : Int) ≤ (i : Int) + 1 := by omega
    have h6 : (i : Int) + 1 ≤ g.l.length := by omega
    generalize its[i] = y at *
    generalize driedM g.l its = out at *
    simp [hxd] at ih hs hcut
    simp [h1, h3, h5, h6, hcut, k1, k3, hw, ih, hs, hxd, dryB]
theorem keeps_err {g : Gv} (he : errD g = 0) (its : List Itm) (hlen : g.l.length = its.length) : errD ⟨driedM g.l its, g.w, g.nm, g.ramp, g.sg, g.fs, g.ticks⟩ = 14 := by
  obtain ⟨e1, e2, e3⟩ := errD_ok he
  obtain ⟨_, k2, k3⟩ := checkCh_new e1
  have ol := driedM_len g.l its hlen
  have hb : checkB g.w.name (driedM g.l its) = 14 := by
    cases hl : g.l with
    | nil => rw [hl] at k2; simp at k2
    | cons b r =>
      cases hi : its with
      | nil => rw [hl, hi] at hlen; simp at hlen
      | cons x q =>
        have := (k3 b (by simp [hl])).1
        simp [driedM, checkB, this]
  have hc : checkCh (driedM g.l its) g.w g.nm g.ramp g.sg = 14 := by
    unfold checkCh
    rw [ol, if_neg (by omega), if_neg (by omega), hb]
    simp
  unfold errD
  simp only [hc]
  simp
theorem keeps_law (g : Gv) (ok : okGv g) : F_law40_ChargeKeeps [.agg (eGv g)] = some (B true) := by
  rw [F_law40_ChargeKeeps_eq]
  have hl := light_run g
  simp at hl
  cases hL : lightM g
  · rw [hL] at hl
    simp [hl, awake_run]
  · rw [hL] at hl
    obtain ⟨fw, h8, _⟩ := light_of hL
    by_cases he : errD g = 0
    · have hd := ldryGood_run g ok fw he
      have hlen := rnM_len he
      have olen := driedM_len g.l (rnM g).k.items hlen.symm
      obtain ⟨_, k2, k3⟩ := checkCh_new (errD_ok he).1
      have i9 := keeps_loop g (rnM g).k.items (by omega) hlen.symm (fun b hb => by have := fw.d b hb; omega) (fun b hb => (k3 b hb).2.1) bigL 0 g.l rfl (by have := bigL_ge; omega)
      have err := keeps_err he (rnM g).k.items hlen.symm
      have memd : ∀ {l : List Bd} {r : List Itm} {b : Bd}, b ∈ driedM l r → ∃ c ∈ l, ∃ x ∈ r, b = dryB c x := by
        intro l
        induction l with
        | nil => intro r b hb; simp [driedM] at hb
        | cons c l ih =>
          intro r b hb
          cases r with
          | nil => simp [driedM] at hb
          | cons x r =>
            simp only [driedM, List.mem_cons] at hb
            rcases hb with rfl | hb
            · exact ⟨c, by simp, x, by simp, rfl⟩
            · obtain ⟨c', h1, x', h2, e⟩ := ih hb
              exact ⟨c', by simp [h1], x', by simp [h2], e⟩
      have hd2 := ldryBad_run ⟨driedM g.l (rnM g).k.items, g.w, g.nm, g.ramp, g.sg, g.fs, g.ticks⟩
        ⟨by show (driedM g.l (rnM g).k.items).length ≤ _; have := ok.l; omega, fun b hb => by
          obtain ⟨c, hc, x, _, rfl⟩ := memd hb
          exact ok.b c hc, ok.sg, ok.fs, ok.ticks⟩
        ⟨by show (driedM g.l (rnM g).k.items).length ≤ _; have := fw.l; omega, fw.fs, fun b hb => by
          obtain ⟨c, hc, x, _, rfl⟩ := memd hb
          exact fw.d c hc⟩ (by rw [err]; decide)
      rw [err] at hd2
      have o1 : ((driedM g.l (rnM g).k.items).length : Int) = g.l.length := by omega
      have o2 : ¬ (driedM g.l (rnM g).k.items).length = 0 := by omega
      have o3 : ¬ driedM g.l (rnM g).k.items = [] := fun e => o2 (by rw [e]; rfl)
      have o4 : ¬ g.l.length = 0 := by omega
      have o5 : ¬ g.l = [] := fun e => o4 (by rw [e]; rfl)
      unfold outB at hd
      generalize driedM g.l (rnM g).k.items = out at *
      generalize rnM g = R at *
      simp at hd i9 hd2
      simp [hl, hd, o1, o2, o3, o4, o5, i9, hd2, awake_run]
    · have hd := ldryBad_run g ok fw he
      simp at hd
      simp [hl, hd, he, awake_run]
theorem chargeKeeps_abs (xs : List D) (h : TyArgs Tryd.prog Tryd.f5.params.toList xs) : Contract Tryd.prog gl 5 xs (.x (.bool true)) := by
  simp [TyArgs] at h
  obtain ⟨d, rfl, h1⟩ := h
  obtain ⟨g, rfl, ok⟩ := tyGv h1
  exact C_law40_ChargeKeeps _ _ (keeps_law g ok)
end Go.Proofs.YtdefohgkniglpaaDoor
