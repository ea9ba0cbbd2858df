/-
  BooksOpen, run abstractly: movements are posted.
-/
import Derived.Test.YtgngoijehjphoaaBoH
namespace Go.Proofs.Ytgngoijehjphoaa
set_option linter.unusedSimpArgs false
set_option linter.unusedVariables false
open Go Go.Abs
set_option maxHeartbeats 16000000
set_option maxRecDepth 100000
theorem b12_loop (ms : List Mov) (hms : ms.length ≤ 60) (hok : ∀ x ∈ ms, x.Ok) (o : Bool) : ∀ (n i : Nat) (r : List Mov) (en : List Ent) (fl f2 : Bool), BkInv i en → ms.drop i = r → r.length < n →
    ∃ fl' f2', L_law52_BooksOpen 12 n (bS ms o ((balL nm9 en).map encB) ((en.map (·.id)).map encK) (en.map eEn) (en.map eEn) fl f2 (acc8.map fun a => IntKind.i64.wrap (balE a en)) (I i) .any .any .any .any) =
      some (.ex 0, ⟨[(0, .any), (1, B o), (4, .any), (5, .own true (acc8.map eNm)), (6, .any), (7, .ptr 31 0), (8, .any), (9, .row 9), (10, .row 10), (11, .any), (12, .any), (13, .any), (14, .any), (15, .any), (16, .any), (17, .any), (18, .any), (19, .any)],
        [(31, .box 57 [.mp 13100, .mp 13101, .row 13102]), (13100, .mp ((balL nm9 (allB i en r)).map encB)), (13101, .mp (((allB i en r).map (·.id)).map encK)), (13102, .row 41 3 fl' ((allB i en r).map eEn)), (9, .row 3 1 true ((acc8.map fun a => IntKind.i64.wrap (balE a (allB i en r))).map eI)), (10, .row 41 3 f2' ((allB i en r).map eEn))]⟩) := by
  intro n
  induction n with
  | zero => intro i r en fl f2 _ _ hn; omega
  | succ n ih =>
    intro i r en fl f2 hb hr hn
    rw [L_law52_BooksOpen_succ, R_law52_BooksOpen_eq]
    cases r with
    | nil =>
      have h2 := dnG hr
      refine ⟨fl, f2, ?_⟩
      simp only [bS, allB]
      generalize acc8.map (fun a => IntKind.i64.wrap (balE a en)) = l at *
      generalize acc8.map eNm = A at *
      generalize (balL nm9 en).map encB = M1 at *
      generalize (en.map (·.id)).map encK = M2 at *
      generalize en.map eEn = L at *
      simp [h2]
    | cons x r =>
      obtain ⟨h1, h3, hr', hi⟩ := dcG hr
      have hi60 : i < 60 := by omega
      have hw := wrapN (n := i) (by omega)
      simp only [List.length_cons] at hn
      have hx := hok x (List.mem_of_getElem? h1)
      have hm := movP_run x hx
      have hmv := mv_ok x hx
      have hid := id_run i hi60
      have hst := hb.step hi60 hx
      have ih' := fun fl f2 => ih (i + 1) r (stepB i en x) fl f2 hst hr' (by omega)
      have hl' : (acc8.map fun a => IntKind.i64.wrap (balE a (stepB i en x))) = acc8.map fun a => IntKind.i64.wrap (balE a en + sumP a (mv (mvV x))) := List.map_congr_left fun a _ => by rw [stepB_bal]
      rw [hl'] at ih'
      have h17 := b17_loop ms o ((balL nm9 en).map encB) ((en.map (·.id)).map encK) (en.map eEn) (en.map eEn) fl f2 i (mv (mvV x)) (by have := hmv.len; omega) bigL 0 (mv (mvV x)) (fun a => balE a en) 0 0 rfl rfl (by have := bigL_ge; have := hmv.len; omega)
      rw [hmv.tot, Int.add_zero] at h17
      simp only [allB]
      generalize hR : allB (i + 1) (stepB i en x) r = R at *
      clear hR hl' ih hst
      have hen := hb.len
      have hsz : (en.length + 1) * 49 ≤ 140737488355328 := by omega
      have hlen : (en.map eEn).length = en.length := by simp
      rw [← hlen] at hsz
      by_cases hne : mv (mvV x) = []
      · have hs : stepB i en x = en := by simp [stepB, hne]
        rw [hs] at ih'
        obtain ⟨fl', f2', ih'⟩ := ih' fl f2
        refine ⟨fl', f2', ?_⟩
        rw [hne] at h17 hm ih'
        simp only [bS, Int.natCast_add, Int.cast_ofNat_Int] at ih' h17 ⊢
        generalize acc8.map (fun a => IntKind.i64.wrap (balE a en)) = l at *
        generalize acc8.map (fun a => IntKind.i64.wrap (balE a en + sumP a [])) = l' at *
        generalize acc8.map (fun a => IntKind.i64.wrap (balE a R)) = lR at *
        generalize acc8.map eNm = A at *
        generalize (balL nm9 en).map encB = M1 at *
        generalize (en.map (·.id)).map encK = M2 at *
        generalize en.map eEn = L at *
        generalize (balL nm9 R).map encB = R1 at *
        generalize (R.map (·.id)).map encK = R2 at *
        generalize R.map eEn = R3 at *
        simp at hm h17
        simp [h1, h3, hm, h17, hw]
        simpa using ih'
      · obtain ⟨y, hy⟩ : ∃ y : Ent, y = ⟨idB i, i, mv (mvV x)⟩ := ⟨_, rfl⟩
        have hs : stepB i en x = en ++ [y] := by simp [stepB, hne, hy]
        have hp := post_L nm9_acc hb.L fl y
        have herr := hmv.err hb hi60 hne
        rw [← hy] at herr
        rw [herr] at hp
        have y1 : y.id = idB i := by rw [hy]
        have y2 : y.t = i := by rw [hy]
        have y3 : y.ps = mv (mvV x) := by rw [hy]
        clear hy herr
        simp only [if_true, ledP, ledH] at hp
        rw [hs] at ih'
        obtain ⟨fl', f2', ih'⟩ := ih' false false
        refine ⟨fl', f2', ?_⟩
        have hpl : 0 < ((mv (mvV x)).map ePs).length := by simpa using List.length_pos_iff.2 hne
        have hm2 : en.map eEn ++ [[S (idB i), I i, .sl ((mv (mvV x)).map ePs)]] = (en ++ [y]).map eEn := by simp [y1, y2, y3]
        simp only [bS, Int.natCast_add, Int.cast_ofNat_Int] at ih' h17 ⊢
        generalize acc8.map (fun a => IntKind.i64.wrap (balE a en)) = l at *
        generalize acc8.map (fun a => IntKind.i64.wrap (balE a en + sumP a (mv (mvV x)))) = l' at *
        generalize acc8.map (fun a => IntKind.i64.wrap (balE a R)) = lR at *
        generalize acc8.map eNm = A at *
        generalize (balL nm9 en).map encB = M1 at *
        generalize (en.map (·.id)).map encK = M2 at *
        generalize en.map eEn = L at *
        generalize (balL nm9 R).map encB = R1 at *
        generalize (R.map (·.id)).map encK = R2 at *
        generalize R.map eEn = R3 at *
        generalize hN1 : (balL nm9 (en ++ [y])).map encB = N1 at *
        generalize hN2 : ((en ++ [y]).map (·.id)).map encK = N2 at *
        generalize hN3 : (en ++ [y]).map eEn = N3 at *
        rw [← y3] at hpl hm h17 hm2
        generalize hP : y.ps.map ePs = P at *
        clear hN1 hN2 hN3
        simp [y1, y2, hP] at hp
        simp at hm h17
        simp [h1, h3, hm, h17, hid, hpl, hsz, hp, hm2, hw]
        simpa using ih'
end Go.Proofs.Ytgngoijehjphoaa
