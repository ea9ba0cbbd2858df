/-
  The statement Order, run abstractly.
-/
import Derived.Test.YtdefohgkniglpaaDoorChF
import Derived.Test.YtdefohgkniglpaaDoorGenX
namespace Go.Proofs.YtdefohgkniglpaaDoor
set_option linter.unusedSimpArgs false
set_option linter.unusedVariables false
open Go Go.Abs
set_option maxHeartbeats 16000000
set_option maxRecDepth 100000
/-! ### Order -/
def spl (t : Int) (x : Flt) : List Flt := if x.a < t then if t < x.b then [⟨x.kind, t, x.b⟩, ⟨x.kind, x.a, t⟩] else [x] else [x]
/-- The first k faults, from the last to the first, divided. -/
def splR (t : Int) (l : List Flt) : Nat → List Flt
  | 0 => []
  | k + 1 => match l[k]? with
    | some x => spl t x ++ splR t l k
    | none => splR t l k
theorem mem_splR {t : Int} {l : List Flt} {f : Flt} : ∀ {k : Nat}, f ∈ splR t l k ↔ ∃ (j : Nat) (x : Flt), j < k ∧ l[j]? = some x ∧ f ∈ spl t x
  | 0 => by simp [splR]
  | k + 1 => by
    have ih := mem_splR (t := t) (l := l) (f := f) (k := k)
    unfold splR
    cases h : l[k]? with
    | none =>
      rw [ih]
      constructor
      · rintro ⟨j, x, h1, h2, h3⟩; exact ⟨j, x, by omega, h2, h3⟩
      · rintro ⟨j, x, h1, h2, h3⟩
        by_cases e : j = k
        · subst e; rw [h] at h2; cases h2
        · exact ⟨j, x, by omega, h2, h3⟩
    | some y =>
      rw [List.mem_append, ih]
      constructor
      · rintro (h' | ⟨j, x, h1, h2, h3⟩)
        · exact ⟨k, y, by omega, h, h'⟩
        · exact ⟨j, x, by omega, h2, h3⟩
      · rintro ⟨j, x, h1, h2, h3⟩
        by_cases e : j = k
        · subst e; rw [h] at h2; cases h2; exact .inl h3
        · exact .inr ⟨j, x, by omega, h2, h3⟩
theorem splR_len (t : Int) (l : List Flt) : ∀ k, (splR t l k).length ≤ 2 * k
  | 0 => by simp [splR]
  | k + 1 => by
    have ih := splR_len t l k
    have hs : ∀ x, (spl t x).length ≤ 2 := by intro x; unfold spl; split <;> (try split) <;> simp
    unfold splR
    cases h : l[k]? with
    | none =>
      show (splR t l k).length ≤ _
      omega
    | some x =>
      have := hs x
      show (spl t x ++ splR t l k).length ≤ _
      rw [List.length_append]
      omega
theorem checkF_iff : ∀ l : List Flt, checkF l = 0 ↔ ∀ f ∈ l, (1 ≤ f.kind ∧ f.kind ≤ 3) ∧ 0 ≤ f.a ∧ f.a < f.b ∧ f.b ≤ 20000
  | [] => by simp [checkF]
  | x :: r => by
    have ih := checkF_iff r
    simp only [checkF, List.mem_cons, forall_eq_or_imp]
    constructor
    · intro h
      repeat' split at h
      all_goals first | (simp at h; done) | skip
      exact ⟨by omega, ih.1 h⟩
    · rintro ⟨h1, h2⟩
      rw [if_neg (by omega), if_neg (by omega), if_neg (by omega), if_neg (by omega), if_neg (by omega)]
      exact ih.2 h2
theorem spl_ok {t : Int} {l : List Flt} (h : checkF l = 0) : checkF (splR t l l.length) = 0 := by
  rw [checkF_iff] at h ⊢
  intro f hf
  obtain ⟨j, x, _, hj, hf⟩ := mem_splR.1 hf
  have hx := h x (List.mem_of_getElem? hj)
  unfold spl at hf
  split at hf
  · split at hf
    · simp at hf
      rcases hf with rfl | rfl
      · exact ⟨hx.1, by dsimp only; omega, by dsimp only; omega, hx.2.2.2⟩
      · exact ⟨hx.1, hx.2.1, by dsimp only; omega, by dsimp only; omega⟩
    · simp at hf; subst hf; exact hx
  · simp at hf; subst hf; exact hx
theorem spl_at (t : Int) (l : List Flt) (u : Int) : atM (splR t l l.length) u = atM l u := by
  apply atM_eq
  intro z
  constructor
  · rintro ⟨f, hf, h1, h2, h3⟩
    obtain ⟨j, x, _, hj, hf⟩ := mem_splR.1 hf
    refine ⟨x, List.mem_of_getElem? hj, ?_⟩
    unfold spl at hf
    split at hf
    · split at hf
      · simp at hf
        rcases hf with rfl | rfl <;> (dsimp only at h1 h2 h3; exact ⟨by omega, by omega, h3⟩)
      · simp at hf; subst hf; exact ⟨h1, h2, h3⟩
    · simp at hf; subst hf; exact ⟨h1, h2, h3⟩
  · rintro ⟨x, hx, h1, h2, h3⟩
    obtain ⟨j, hj, e⟩ := List.mem_iff_getElem.1 hx
    have hj' : l[j]? = some x := by rw [List.getElem?_eq_getElem hj, e]
    by_cases a1 : x.a < t
    · by_cases a2 : t < x.b
      · by_cases a3 : u < t
        · exact ⟨⟨x.kind, x.a, t⟩, mem_splR.2 ⟨j, x, hj, hj', by simp [spl, a1, a2]⟩, h1, a3, h3⟩
        · exact ⟨⟨x.kind, t, x.b⟩, mem_splR.2 ⟨j, x, hj, hj', by simp [spl, a1, a2]⟩, by dsimp only; omega, h2, h3⟩
      · exact ⟨x, mem_splR.2 ⟨j, x, hj, hj', by simp [spl, a1, a2]⟩, h1, h2, h3⟩
    · exact ⟨x, mem_splR.2 ⟨j, x, hj, hj', by simp [spl, a1]⟩, h1, h2, h3⟩
def hcell (a : List Flt) : D := match a with
  | [] => .emp
  | _ => .row 10817
def hobj (a : List Flt) : List (Nat × O) := match a with
  | [] => []
  | x :: r => [(10817, .row 59 3 true ((x :: r).map eFl))]
@[simp] theorem hcell_nil : hcell [] = .emp := rfl
@[simp] theorem hcell_cons (x : Flt) (r : List Flt) : hcell (x :: r) = .row 10817 := rfl
@[simp] theorem hobj_nil : hobj [] = [] := rfl
@[simp] theorem hobj_cons (x : Flt) (r : List Flt) : hobj (x :: r) = [(10817, .row 59 3 true ((x :: r).map eFl))] := rfl
theorem bnd25 {n m k : Nat} (hf : m ≤ 30) (ha : n ≤ 2 * (m - k)) : (n + 1) * 25 ≤ 140737488355328 ∧ (n + 1 + 1) * 25 ≤ 140737488355328 := by
  constructor <;> omega
theorem order_loop (g : Gv) (t : Int) (out : List Bd) (R : Rn) (hf : g.fs.length ≤ 30) : ∀ (n k : Nat) (a : List Flt), k < n → k ≤ g.fs.length → a.length ≤ 2 * (g.fs.length - k) →
    L_law40_ChargeOrderX 9 n ⟨[(0, .any), (1, I t), (2, .ptr 2 0), (4, .any), (5, .own false (out.map eBd)), (6, .ptr 6 0), (7, .any), (8, .ptr 8 0), (9, I ((k : Int) - 1)), (10, .any), (11, .any), (12, .any), (13, .any)], [(2, .box 35 (eGv g)), (6, .box 40 (eRn R)), (8, .box 35 [.sl (g.l.map eBd), S g.w.name, I g.w.green, I g.w.fast, I g.w.slow, I g.w.safe, I g.w.grad, I g.w.crack, I g.w.temp, I g.w.dep, I g.w.dens, I g.w.stiff, I g.w.loss, I g.w.shrink, S g.nm, I g.ramp, .sl (g.sg.map eSg), hcell a, I g.ticks])] ++ hobj a⟩ =
      some (.ex 0, ⟨[(0, .any), (1, .any), (2, .any), (4, .any), (5, .own false (out.map eBd)), (6, .ptr 6 0), (7, .any), (8, .ptr 8 0), (9, .any), (10, .any), (11, .any), (12, .any), (13, .any)], [(6, .box 40 (eRn R)), (8, .box 35 [.sl (g.l.map eBd), S g.w.name, I g.w.green, I g.w.fast, I g.w.slow, I g.w.safe, I g.w.grad, I g.w.crack, I g.w.temp, I g.w.dep, I g.w.dens, I g.w.stiff, I g.w.loss, I g.w.shrink, S g.nm, I g.ramp, .sl (g.sg.map eSg), hcell (a ++ splR t g.fs k), I g.ticks])] ++ hobj (a ++ splR t g.fs k)⟩)
  | 0, _, _, hn, _, _ => by omega
  | n + 1, 0, a, hn, hk, ha => by
    rw [L_law40_ChargeOrderX_succ, R_law40_ChargeOrderX_eq]
    cases a <;> simp [splR]
  | n + 1, k + 1, a, hn, hk, ha => by
    rw [L_law40_ChargeOrderX_succ, R_law40_ChargeOrderX_eq]
    obtain ⟨x, hx⟩ : ∃ x, g.fs[k]? = some x := ⟨_, List.getElem?_eq_getElem (by omega)⟩
    have h1 : (g.fs.map eFl)[k]? = some (eFl x) := by rw [List.getElem?_map, hx]; rfl
    have h3 : (k : Int) < g.fs.length := by omega
    have hw : IntKind.i64.wrap ((k : Int) - 1) = (k : Int) - 1 := wrap64 (by omega) (by omega)
    have e : ((k + 1 : Nat) : Int) - 1 = k := by omega
    have hs : a ++ splR t g.fs (k + 1) = (a ++ spl t x) ++ splR t g.fs k := by
      simp only [splR, hx, List.append_assoc]
    have hl : (spl t x).length ≤ 2 := by unfold spl; split <;> (try split) <;> simp
    have ih := order_loop g t out R hf n k (a ++ spl t x) (by omega) (by omega) (by rw [List.length_append]; omega)
    rw [hs, e]
    generalize splR t g.fs k = rest at ih ⊢
    obtain ⟨b1, b2⟩ := bnd25 hf ha
    by_cases a1 : x.a < t
    · by_cases a2 : t < x.b
      · have e2 : spl t x = [⟨x.kind, t, x.b⟩, ⟨x.kind, x.a, t⟩] := by simp [spl, a1, a2]
        rw [e2] at ih ⊢
        cases a with
        | nil =>
          simp at ih
          simp [h1, h3, hw, a1, a2, ih]
        | cons y r =>
          simp at ih b1 b2
          simp [h1, h3, hw, a1, a2, b1, b2, ih]
      · have e2 : spl t x = [x] := by simp [spl, a1, a2]
        rw [e2] at ih ⊢
        cases a with
        | nil =>
          simp at ih
          simp [h1, h3, hw, a1, a2, ih]
        | cons y r =>
          simp at ih b1 b2
          simp [h1, h3, hw, a1, a2, b1, b2, ih]
    · have e2 : spl t x = [x] := by simp [spl, a1]
      rw [e2] at ih ⊢
      cases a with
      | nil =>
        simp at ih
        simp [h1, h3, hw, a1, ih]
      | cons y r =>
        simp at ih b1 b2
        simp [h1, h3, hw, a1, b1, b2, ih]
def ordG (g : Gv) (t : Int) : Gv := ⟨g.l, g.w, g.nm, g.ramp, g.sg, splR t g.fs g.fs.length, g.ticks⟩
theorem ord_err {g : Gv} (t : Int) (he : errD g = 0) : errD (ordG g t) = 0 := by
  obtain ⟨e1, e2, e3⟩ := errD_ok he
  unfold errD ordG
  dsimp only
  rw [if_pos e1, if_neg (by omega), if_neg (by omega)]
  exact spl_ok e3
theorem ord_rn (g : Gv) (t : Int) : rnM (ordG g t) = rnM g := run_congr (fun u => spl_at t g.fs u) _ _ _
theorem edryGood_run (g : Gv) (ok : okGv g) (fw : Few g) (h : errD g = 0) : ∃ hs, E_law40_dry_obj [] [.agg (eGv g)] = some (.tup [.own false ((outB g).map eBd), .agg (eRn (rnM g)), I 0], hs) ∧ hs = [(3, .box 40 (eRn (rnM g)))] := by
  refine ⟨_, ?_, rfl⟩
  rw [E_law40_dry_obj_eq]
  have d := dryGood_run g (by have := fw.l; omega) ok.b (fun b hb => by have := fw.d b hb; omega) (by have := fw.fs; omega) h
  simp at d
  simp [d]
theorem edryBad_run (g : Gv) (ok : okGv g) (fw : Few g) (h : ¬ errD g = 0) : ∃ hs, E_law40_dry_obj [] [.agg (eGv g)] = some (.tup [.own true [], .agg [I 0, I 0, I 0, I 0, I 0, I 0], I (errD g)], hs) ∧ hs = [(3, .box 40 [I 0, I 0, I 0, I 0, I 0, I 0])] := by
  refine ⟨_, ?_, rfl⟩
  rw [E_law40_dry_obj_eq]
  have d := dryBad_run g (by have := fw.l; omega) ok.b (by have := fw.fs; omega) h
  simp at d
  simp [d]
theorem order_law (g : Gv) (t : Int) (ok : okGv g) : F_law40_ChargeOrderX [.agg (eGv g), I t] = some (B true) := by
  rw [F_law40_ChargeOrderX_eq]
  have hl := light_run g
  simp at hl
  cases hL : lightM g
  · rw [hL] at hl
    simp [hl, awake_run]
  · rw [hL] at hl
    obtain ⟨fw, h8, _⟩ := light_of hL
    by_cases a1 : (30 : Int) < g.fs.length
    · simp [hl, a1, awake_run]
    by_cases he : errD g = 0
    · obtain ⟨_, hd, rfl⟩ := edryGood_run g ok fw he
      have sl := splR_len t g.fs g.fs.length
      have ok2 : okGv (ordG g t) := ⟨ok.l, ok.b, ok.sg, by simp [ordG]; omega, ok.ticks⟩
      have fw2 : Few (ordG g t) := ⟨fw.l, by simp [ordG]; omega, fw.d⟩
      obtain ⟨_, hd2, rfl⟩ := edryGood_run (ordG g t) ok2 fw2 (ord_err t he)
      have oe : outB (ordG g t) = outB g := by unfold outB; rw [ord_rn]; rfl
      rw [oe, ord_rn] at hd2
      have hlen := rnM_len he
      have olen := driedM_len g.l (rnM g).k.items hlen.symm
      have sb := sameB_run (outB g) (by unfold outB; omega) (fun b hb => by
        have memd : ∀ {l : List Bd} {r : List Itm} {b : Bd}, b ∈ driedM l r → ∃ c ∈ l, b.dfs = c.dfs := by
          intro l
          induction l with
          | nil => intro r b hb; simp [driedM] at hb
          | cons c l ih =>
            intro r b hb
            cases r with
            | nil => simp [driedM] at hb
            | cons x r =>
              simp only [driedM, List.mem_cons] at hb
              rcases hb with rfl | hb
              · exact ⟨c, by simp, rfl⟩
              · obtain ⟨c', h1, e⟩ := ih hb
                exact ⟨c', by simp [h1], e⟩
        obtain ⟨c, hc, e⟩ := memd hb
        rw [e]
        have := fw.d c hc
        omega)
      have i9 := order_loop g t (outB g) (rnM g) (by omega) bigL g.fs.length [] (by have := bigL_ge; omega) (Nat.le_refl _) (by simp)
      have hw : IntKind.i64.wrap ((g.fs.length : Int) - 1) = (g.fs.length : Int) - 1 := wrap64 (by omega) (by omega)
      unfold ordG at hd2
      generalize outB g = out at *
      generalize rnM g = R at *
      generalize splR t g.fs g.fs.length = fs' at *
      cases fs' with
      | nil =>
        simp at hd hd2 i9 sb
        simp [hl, a1, hd, hw, i9, hd2, sb, awake_run, eqD, eqFs]
      | cons y r =>
        simp at hd hd2 i9 sb
        simp [hl, a1, hd, hw, i9, hd2, sb, awake_run, eqD, eqFs]
    · obtain ⟨_, hd, rfl⟩ := edryBad_run g ok fw he
      simp at hd
      simp [hl, a1, hd, he, awake_run]
theorem chargeOrder_abs (xs : List D) (h : TyArgs Tryd.prog Tryd.f8.params.toList xs) : Contract Tryd.prog gl 8 xs (.x (.bool true)) := by
  simp [TyArgs] at h
  obtain ⟨d, r, rfl, h1, d', rfl, h2⟩ := h
  obtain ⟨g, rfl, ok⟩ := tyGv h1
  obtain ⟨t, rfl, ht⟩ := tyI h2
  exact C_law40_ChargeOrderX _ _ (order_law g t ok)
end Go.Proofs.YtdefohgkniglpaaDoor
