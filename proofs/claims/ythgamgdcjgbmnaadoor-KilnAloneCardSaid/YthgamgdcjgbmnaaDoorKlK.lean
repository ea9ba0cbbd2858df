/-
  KilnAlone, run abstractly.
-/
import Derived.Test.YthgamgdcjgbmnaaDoorKlU
import Derived.Test.YthgamgdcjgbmnaaDoorKlJ
namespace Go.Proofs.YthgamgdcjgbmnaaDoor
set_option linter.unusedSimpArgs false
set_option linter.unusedVariables false
open Go Go.Abs
set_option maxHeartbeats 16000000
set_option maxRecDepth 100000
theorem step_run' (k : Kl) (f : List Int) (hfl : f.length ≤ 1000) (iv : InvK k) :
    E_kiln_Kiln_Tick [(1000, .box 74 (eK k))] [.ptr 1000 0, .sl (f.map eI)] =
      some (B (!doneK (stepK k f)), [(1000, .box 74 (cK (stepK k f) (.sl (k.stages.map eSg)) (slQ (!doneK k) ((stepK k f).items.map eT))))]) := by
  have h1 := iv.stage
  by_cases hd : k.stage = k.stages.length
  · have e1 : doneK k = true := by simp [doneK, hd]
    have e2 : stepK k f = k := by simp [stepK, hd]
    rw [tickDone_run k f (by omega), e2, e1]
    rfl
  · have e1 : doneK k = false := by simp [doneK]; omega
    have e2 : stepK k f = tickK k f := by simp [stepK, hd]
    rw [tick'_run k f (by omega) (by omega) (by have := iv.stages; omega) iv.some (by have := iv.many; omega), e2, e1]
    rfl
theorem backL_len (f : List Int) : (backL f).length = 2 * f.length := by
  unfold backL
  have : ∀ l : List Int, (l.flatMap fun x => [x, x]).length = 2 * l.length := by
    intro l
    induction l with
    | nil => rfl
    | cons x r ih => simp only [List.flatMap_cons, List.length_append, List.length_cons, List.length_nil, ih]; omega
  rw [this, List.length_reverse]
theorem stepK_items (k : Kl) (f : List Int) : (stepK k f).items.length = k.items.length := by
  unfold stepK
  split
  · rfl
  · simp [tickK, tickC, itsK]
theorem back_loop (nm : ByteArray) (ramp : Int) (g : List Stg) (w : Spc) (l : List Itm) (fs : List (List Int)) (k o : Kl) (p q : Bool) (i : Nat) (at' : Nat) (f : List Int) (hi : fs[i]? = some f) (hi2 : (i : Int) < fs.length) (hf : f.length ≤ 10) : ∀ (j n : Nat) (b : List Int), j ≤ f.length → j < n → b.length + 2 * j ≤ 100 →
    L_law38_KilnAlone 16 n ⟨[(0, .any), (1, .any), (2, .sl (fs.map eF)), (3, .ptr 3 0), (6, .any), (7, .ptr 35 0), (8, .any), (9, I at'), (10, .ptr 69 0), (11, .any), (12, I i), (13, .row 13), (14, I ((j : Int) - 1)), (16, .any), (17, .any), (18, .any)],
      [(3, .box 29 (eCase nm ramp g w l)), (35, .box 74 (cK k (slQ p (k.stages.map eSg)) (slQ q (k.items.map eT)))), (69, .box 74 (cK o (slQ p (o.stages.map eSg)) (slQ q (o.items.map eT)))), (13, .row 3 1 true (b.map eI))]⟩ =
    some (.ex 2, ⟨[(0, .any), (1, .any), (2, .sl (fs.map eF)), (3, .ptr 3 0), (6, .any), (7, .ptr 35 0), (8, .any), (9, I at'), (10, .ptr 69 0), (11, .any), (12, I i), (13, .row 13), (14, .any), (16, .any), (17, .any), (18, .any)],
      [(3, .box 29 (eCase nm ramp g w l)), (35, .box 74 (cK k (slQ p (k.stages.map eSg)) (slQ q (k.items.map eT)))), (69, .box 74 (cK o (slQ p (o.stages.map eSg)) (slQ q (o.items.map eT)))), (13, .row 3 1 true ((b ++ (f.take j).reverse.flatMap fun x => [x, x]).map eI))]⟩) := by
  intro j
  induction j with
  | zero =>
    intro n b _ hn _
    match n, hn with
    | n + 1, _ =>
      rw [L_law38_KilnAlone_succ, R_law38_KilnAlone_eq]
      cases p <;> cases q <;> simp [hi, hi2]
  | succ j ih =>
    intro n b hj hn hb
    match n, hn with
    | n + 1, hn =>
      have e : ((j + 1 : Nat) : Int) - 1 = (j : Int) := by omega
      have hy : f[j]? = some (f[j]'(by omega)) := List.getElem?_eq_getElem (by omega)
      have hj2 : (j : Int) < f.length := by omega
      have hw : IntKind.i64.wrap ((j : Int) - 1) = (j : Int) - 1 := wrap64 (by omega) (by omega)
      have h9 : (b.length + 2) * 9 ≤ 140737488355328 := by omega
      have := ih n (b ++ [f[j]'(by omega), f[j]'(by omega)]) (by omega) (by omega) (by simp; omega)
      have ht : (f.take (j + 1)).reverse.flatMap (fun x => [x, x]) = [f[j]'(by omega), f[j]'(by omega)] ++ (f.take j).reverse.flatMap (fun x => [x, x]) := by
        rw [List.take_add_one, hy, Option.toList_some, List.reverse_append, List.flatMap_append]
        rfl
      rw [e, L_law38_KilnAlone_succ, R_law38_KilnAlone_eq, ht, ← List.append_assoc]
      generalize (f.take j).reverse.flatMap (fun x => [x, x]) = t at *
      simp at this
      cases p <;> cases q <;> simp at this <;> simp [hi, hi2, hy, hj2, hw, h9, this]
theorem alone_loop (nm : ByteArray) (ramp : Int) (g : List Stg) (w : Spc) (l : List Itm) (hll : l.length ≤ 1024) (fs : List (List Int)) (hf : few10 fs = true) (hfl : fs.length ≤ 60) (at' : Nat) (hat : at' < l.length) : ∀ (n i : Nat) (r : List (List Int)) (k o : Kl) (p q : Bool), fs.drop i = r → r.length < n → InvK k → InvK o → Al k o at' → k.items.length = l.length →
    L_law38_KilnAlone 11 n ⟨[(0, .any), (1, .any), (2, .sl (fs.map eF)), (3, .ptr 3 0), (6, .any), (7, .ptr 35 0), (8, .any), (9, I at'), (10, .ptr 69 0), (11, .any), (12, I i), (13, .any), (14, .any), (16, .any), (17, .any), (18, .any)],
      [(3, .box 29 (eCase nm ramp g w l)), (35, .box 74 (cK k (slQ p (k.stages.map eSg)) (slQ q (k.items.map eT)))), (69, .box 74 (cK o (slQ p (o.stages.map eSg)) (slQ q (o.items.map eT))))]⟩ =
    some (.ex 0, ⟨[(0, .any), (1, .any), (2, .any), (3, .any), (6, .any), (7, .any), (8, .any), (9, .any), (10, .any), (11, .any), (12, .any), (13, .any), (14, .any), (16, .any), (17, .any), (18, .any)], []⟩) := by
  intro n
  induction n with
  | zero => intro i r k o p q hr hn; omega
  | succ n ih =>
    intro i r k o p q hr hn iv io ha hlen
    rw [L_law38_KilnAlone_succ, R_law38_KilnAlone_eq]
    have a1 := stage_run k
    have a2 := stage_run o
    cases r with
    | nil => cases p <;> cases q <;> simp [dn hr]
    | cons f r =>
      obtain ⟨h1, h3, hr', hi⟩ := dc (enc := eF) hr
      have hw := wrapN (n := i) (by omega)
      have hx : f.length ≤ 10 := few10_mem hf f (by have := List.mem_of_mem_drop (hr ▸ List.mem_cons_self : f ∈ fs.drop i); exact this)
      have hwf : IntKind.i64.wrap ((f.length : Int) - 1) = (f.length : Int) - 1 := wrap64 (by omega) (by omega)
      have hfi : fs[i]? = some f := by
        have := congrArg (fun t => t[0]?) hr
        simpa using this
      have hB := back_loop nm ramp g w l fs k o p q i at' f hfi h3 hx f.length bigL [] (Nat.le_refl _) (by have := bigL_ge; omega) (by simp; omega)
      rw [List.take_length, List.nil_append] at hB
      by_cases hs : o.stage = k.stage
      · have t1 := step_run k f hx iv
        have hbl : (backL f).length ≤ 20 := by
          rw [backL_len]
          omega
        have t2 := step_run' o (backL f) (by omega) io
        have iv2 := inv_step iv f
        have io2 := inv_step io (backL f)
        have e1 := stepK_stages k f
        have e2 := stepK_stages o (backL f)
        have dd : doneK o = doneK k := by unfold doneK; rw [ha.stages, hs]
        have i1 : (stepK k f).items.length = l.length := by rw [← hlen]; exact stepK_items k f
        have m1 := iv2.many
        have m2 := io2.many
        have a3 := ticksK_run (stepK k f)
        have a4 := litems_run (stepK k f) (by omega)
        have a5 := litems_run (stepK o (backL f)) (by omega)
        have a6 := climate_run (stepK k f)
        have a7 := climate_run (stepK o (backL f))
        rw [dd] at t2
        by_cases hh : 0 < (stepK k f).held
        · generalize stepK k f = k2 at *
          generalize stepK o (backL f) = o2 at *
          unfold backL at t2
          generalize f.reverse.flatMap (fun x => [x, x]) = bk at *
          generalize (!doneK k) = q2 at *
          cases p <;> cases q <;> cases q2 <;> simp [e1, e2, hs] at a1 a2 a3 t1 t2 hB <;> simp (config := { maxSteps := 2000000 }) [h1, h3, hwf, a1, a2, hs, hB, t1, t2, a3, hh]
        · have al := alone_step ha hs f hh
          have ihh := ih (i + 1) r (stepK k f) (stepK o (backL f)) false (!doneK k) hr' (by simp at hn; omega) iv2 io2 al i1
          obtain ⟨x, hx1, hx2⟩ := al.items
          have ht := al.t
          have hd := al.d
          generalize stepK k f = k2 at *
          generalize stepK o (backL f) = o2 at *
          unfold backL at t2
          generalize f.reverse.flatMap (fun x => [x, x]) = bk at *
          generalize (!doneK k) = q2 at *
          have hat' : (at' : Int) < l.length := by omega
          have hx3 : (k2.items.map eT)[at']? = some (eT x) := by rw [List.getElem?_map, hx1]; rfl
          clear iv2 io2 al m1 m2
          cases p <;> cases q <;> cases q2 <;> simp [e1, e2, hs, hx2, ht, hd] at a1 a2 a3 a4 a5 a6 a7 t1 t2 hB ihh <;> simp (config := { maxSteps := 4000000 }) [h1, h3, hwf, hw, a1, a2, hs, hB, t1, t2, a3, a4, a5, a6, a7, hh, hx1, hx3, i1, hat', ihh, eqD, eqFs]
      · have hs' : ¬ (k.stage : Int) = o.stage := by omega
        cases p <;> cases q <;> simp at a1 a2 <;> simp [h1, h3, a1, a2, hs']
theorem alone_law (nm : ByteArray) (ramp : Int) (g : List Stg) (w : Spc) (l : List Itm) (wh : Int) (hwh : 0 ≤ wh ∧ wh ≤ 255) (fs : List (List Int)) (hfs : fs.length ≤ 9223372036854775807) : F_law38_KilnAlone [.agg (eCase nm ramp g w l), .x (.int .u8 wh), .sl (fs.map eF)] = some (B true) := by
  rw [F_law38_KilnAlone_eq]
  have hl := light_run nm ramp g w l
  have hf := few_run fs hfs
  simp at hl
  cases hL : lightM nm g w l
  · rw [hL] at hl
    simp [hl, awakeK_run]
  · rw [hL] at hl
    cases hF : fewM fs
    · rw [hF] at hf
      simp [hl, hf, awakeK_run]
    · rw [hF] at hf
      by_cases h30 : 30 < (fs.length : Int)
      · simp [hl, hf, h30, awakeK_run]
      by_cases hc : checkK nm ramp g w l = 0
      · have h1 := begunGood_run nm ramp g w l hc
        have iv := inv_new hc
        have hpos : 0 < l.length := iv.some
        have hmany : l.length ≤ 1024 := iv.many
        simp only [fewM, Bool.and_eq_true, decide_eq_true_eq] at hF
        have hlt : wh.toNat % l.length < l.length := Nat.mod_lt _ hpos
        have hmod : wh.tmod l.length = ((wh.toNat % l.length : Nat) : Int) := by
          rw [Int.tmod_eq_emod_of_nonneg hwh.1]
          obtain ⟨m, rfl⟩ := Int.eq_ofNat_of_zero_le hwh.1
          rw [Int.toNat_natCast, Int.natCast_emod]
        obtain ⟨at', hat⟩ : ∃ a, a = wh.toNat % l.length := ⟨_, rfl⟩
        rw [← hat] at hlt hmod
        have hx : l[at']? = some (l[at']'hlt) := List.getElem?_eq_getElem hlt
        generalize l[at']'hlt = x at hx
        have hc2 := checkK_one hc (List.mem_of_getElem? hx)
        have h2 := begunGood_run nm ramp g w [x] hc2
        have ih := alone_loop nm ramp g w l hmany fs hF.1 (by omega) at' hlt bigL 0 fs (newK nm ramp g w l) (newK nm ramp g w [x]) true true rfl (by have := bigL_ge; omega) iv (inv_new hc2) (alone_new hx) rfl
        have w1 : IntKind.i64.wrap wh = wh := wrap64 (by omega) (by omega)
        have w2 : IntKind.i64.wrap (at' : Int) = at' := wrap64 (by omega) (by omega)
        have w3 := wrapN (n := at') (by omega)
        have b0 : ¬ (l.length : Int) = 0 := by omega
        have b1 : ¬ l = [] := by rintro rfl; simp at hpos
        have b2 : (at' : Int) + 1 ≤ l.length := by omega
        have b3 : (at' : Int) ≤ (at' : Int) + 1 := by omega
        have b4 : List.drop at' (List.take (at' + 1) (l.map eT)) = [eT x] := by
          rw [← List.map_take, ← List.map_drop, List.take_add_one, hx, List.drop_append, List.drop_of_length_le (by simp; omega)]
          have : at' - (l.take at').length = 0 := by simp; omega
          rw [this]
          simp
        simp [newK] at hf h1 h2 ih
        simp [hl, hf, h30, h1, b0, b1, hmod, w1, w2, w3, hx, b2, b3, b4, h2, ih, awakeK_run]
      · have hb : l.length ≤ 1000000 := by
          simp [lightM] at hL
          omega
        have h1 := begunBad_run nm ramp g w l hb hc
        simp at h1
        simp [hl, hf, h30, h1, hc, awakeK_run]
theorem tyByte {d : D} (h : TyV Tryd.prog 5 d) : ∃ n : Int, d = .x (.int .u8 n) ∧ 0 ≤ n ∧ n ≤ 255 := by
  obtain ⟨n, h⟩ := TyV.cell ag5 h
  obtain ⟨a, e, b⟩ := TyC.int Tryd.underlying5 h
  injection e with e
  refine ⟨a, e, ?_⟩
  simp [Lit.wf, IntKind.min, IntKind.max, IntKind.bits, IntKind.signed] at b
  omega
theorem kilnAlone_abs (xs : List D) (h : TyArgs Tryd.prog Tryd.f6.params.toList xs) : Contract Tryd.prog gl 6 xs (.x (.bool true)) := by
  simp [TyArgs] at h
  obtain ⟨d, r, rfl, h1, d', r', rfl, h2, d'', rfl, h3⟩ := h
  obtain ⟨nm, ramp, g, w, l, rfl⟩ := tyCase h1
  obtain ⟨wh, rfl, hwh⟩ := tyByte h2
  obtain ⟨fs, rfl, hfs, _⟩ := tyFaults h3
  exact C_law38_KilnAlone _ _ (alone_law nm ramp g w l wh hwh fs hfs)
end Go.Proofs.YthgamgdcjgbmnaaDoor
