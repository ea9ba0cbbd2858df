/-
  RuleLogic, put together, and its contract.
-/
import Derived.Test.YtkdmoefacgbgkaaRlM
import Derived.Test.YtkdmoefacgbgkaaRlT
namespace Go.Proofs.Ytkdmoefacgbgkaa
set_option linter.unusedSimpArgs false
set_option linter.unusedVariables false
open Go Go.Abs
set_option maxHeartbeats 4000000
set_option maxRecDepth 100000
theorem val_comb {l : List (ByteArray × Int)} {k : Nat} {op x y : Int} {a b : Ex} (hx : val l k a = (x, 0)) (hy : val l k b = (y, 0)) (ho : 3 ≤ op ∧ op ≤ 8) : val l (k + 1) (xTwo op a b) = comb op x y := by
  rw [val]
  simp only [mk_op, mk_args, hx, hy]
  rw [if_neg (by omega), if_neg (by omega), if_neg (by omega), if_neg (by omega), if_neg (by omega), if_neg (by omega), if_neg (by omega)]
theorem val_not {l : List (ByteArray × Int)} {k : Nat} {x : Int} {a : Ex} (hx : val l k a = (x, 0)) : val l (k + 1) (xNot a) = (1 - x, 0) := by
  rw [val]
  simp only [mk_op, mk_args, hx]
  simp
theorem val_and {l : List (ByteArray × Int)} {k : Nat} {x y : Int} {a b : Ex} (hx : val l k a = (x, 0)) (hy : val l k b = (y, 0)) : val l (k + 1) (xTwo 10 a b) = if x = 0 then (x, 0) else (y, 0) := by
  rw [val]
  simp only [mk_op, mk_args, hx, hy]
  simp
theorem val_or {l : List (ByteArray × Int)} {k : Nat} {x y : Int} {a b : Ex} (hx : val l k a = (x, 0)) (hy : val l k b = (y, 0)) : val l (k + 1) (xTwo 11 a b) = if x = 1 then (x, 0) else (y, 0) := by
  rw [val]
  simp only [mk_op, mk_args, hx, hy]
  simp
theorem evalM_ok {l : List (ByteArray × Int)} {e : Ex} (h : vis (nms l) 8 e = 0) : evalM l e = val l 8 e := by
  unfold evalM
  rw [if_pos h]
theorem evalM_err {l : List (ByteArray × Int)} {e : Ex} (h : vis (nms l) 8 e = 27) : evalM l e = (0, 27) := by
  unfold evalM
  rw [if_neg (by rw [h]; decide), h]
theorem logic_run (a b : Ex) (hfa : Fits a) (hfb : Fits b) (l : List (ByteArray × Int)) : F_law43_RuleLogic [.agg (eX a), .agg (eX b), .sl (l.map eF)] = some (B true) := by
  have c1 : F_law43_count [.agg (eX a), I 6, I 100] = some (I (cnt 6 a 100)) := count_run 6 1000 a 6 100 hfa (by omega) (by omega) (by omega) (by omega) (by omega)
  have c2 : F_law43_count [.agg (eX b), I 6, I 100] = some (I (cnt 6 b 100)) := count_run 6 1000 b 6 100 hfb (by omega) (by omega) (by omega) (by omega) (by omega)
  by_cases ha : 100 < cnt 6 a 100
  · exact logic_out c1 c2 (.inl ha)
  by_cases hb : 100 < cnt 6 b 100
  · exact logic_out c1 c2 (.inr (.inl hb))
  by_cases hs' : (if l.length ≤ 60 then shortM l else false) = false
  · exact logic_out c1 c2 (.inr (.inr hs'))
  have h2 : l.length ≤ 60 := by
    by_cases h : l.length ≤ 60
    · exact h
    · simp [h] at hs'
  have h3 : shortM l = true := by simpa [h2] using hs'
  have hs := short_run l
  rw [if_pos h2, h3] at hs
  have ea := Eval_run l (by omega) a hfa
  have eb := Eval_run l (by omega) b hfb
  by_cases h4 : (evalM l a).2 = 0
  case neg => exact logic_err c1 c2 ha hb hs ea eb (.inl h4)
  by_cases h5 : (evalM l b).2 = 0
  case neg => exact logic_err c1 c2 ha hb hs ea eb (.inr h5)
  have va : vis (nms l) 8 a = 0 := by
    by_cases h : vis (nms l) 8 a = 0
    · exact h
    · unfold evalM at h4; rw [if_neg h] at h4; exact h4
  have vb : vis (nms l) 8 b = 0 := by
    by_cases h : vis (nms l) 8 b = 0
    · exact h
    · unfold evalM at h5; rw [if_neg h] at h5; exact h5
  have da := cnt_dep 6 a 100 (by omega) (by omega)
  have db := cnt_dep 6 b 100 (by omega) (by omega)
  have va7 : vis (nms l) 7 a = 0 := by rw [← vis_dep (nms l) 7 a (dep_succ 6 a da)]; exact va
  have vb7 : vis (nms l) 7 b = 0 := by rw [← vis_dep (nms l) 7 b (dep_succ 6 b db)]; exact vb
  have va6 : vis (nms l) 6 a = 0 := by rw [← vis_dep (nms l) 6 a da]; exact va7
  have vb6 : vis (nms l) 6 b = 0 := by rw [← vis_dep (nms l) 6 b db]; exact vb7
  have xa8 : val l 8 a = val l 7 a := val_dep l 7 a (dep_succ 6 a da)
  have xb8 : val l 8 b = val l 7 b := val_dep l 7 b (dep_succ 6 b db)
  have xa7 : val l 7 a = val l 6 a := val_dep l 6 a da
  have xb7 : val l 7 b = val l 6 b := val_dep l 6 b db
  have ma : evalM l a = val l 8 a := evalM_ok va
  have mb : evalM l b = val l 8 b := evalM_ok vb
  obtain ⟨a1, a2, a3⟩ := val_ok l (nms l) 8 a va
  obtain ⟨b1, b2, b3⟩ := val_ok l (nms l) 8 b vb
  rw [ma] at h4 ea
  rw [mb] at h5 eb
  obtain ⟨x, hx⟩ : ∃ x, x = (val l 8 a).1 := ⟨_, rfl⟩
  obtain ⟨y, hy⟩ : ∃ y, y = (val l 8 b).1 := ⟨_, rfl⟩
  have ex : val l 8 a = (x, 0) := Prod.ext hx.symm h4
  have ey : val l 8 b = (y, 0) := Prod.ext hy.symm h5
  have ex7 : val l 7 a = (x, 0) := by rw [← xa8]; exact ex
  have ey7 : val l 7 b = (y, 0) := by rw [← xb8]; exact ey
  have ex6 : val l 6 a = (x, 0) := by rw [← xa7]; exact ex7
  have ey6 : val l 6 b = (y, 0) := by rw [← xb7]; exact ey7
  rw [ex] at ea a1 a3
  rw [ey] at eb b1 b3
  have ka := Check_run (nms l) (by rw [nms_length]; omega) a hfa
  have kb := Check_run (nms l) (by rw [nms_length]; omega) b hfb
  have n1 := Eval_run l (by omega) (xNot a) (fits_not hfa)
  have n2 := Eval_run l (by omega) (xTwo 10 a b) (fits_two (by omega) hfa hfb)
  have n3 := Eval_run l (by omega) (xTwo 11 a b) (fits_two (by omega) hfa hfb)
  have n4 := Eval_run l (by omega) (xTwo 7 a b) (fits_two (by omega) hfa hfb)
  have n5 := Eval_run l (by omega) (xNot (xTwo 8 b a)) (fits_not (fits_two (by omega) hfb hfa))
  have n6 := Eval_run l (by omega) (xTwo 6 a b) (fits_two (by omega) hfa hfb)
  have w1 := vis_not (ns := nms l) va7
  have w2 := vis_two (ns := nms l) (op := 10) va7 vb7 (by omega)
  have w3 := vis_two (ns := nms l) (op := 11) va7 vb7 (by omega)
  have w4 := vis_two (ns := nms l) (op := 7) va7 vb7 (by omega)
  have w5 := vis_two (ns := nms l) (op := 8) vb6 va6 (by omega)
  have w6 := vis_two (ns := nms l) (op := 6) va7 vb7 (by omega)
  have k1 : checkM (nms l) a = if isC a.op = true then 0 else 27 := by unfold checkM; rw [if_pos va]
  have k2 : checkM (nms l) b = if isC b.op = true then 0 else 27 := by unfold checkM; rw [if_pos vb]
  rw [k1] at ka
  rw [k2] at kb
  cases ca : isC a.op <;> cases cb : isC b.op
  · simp [ca, cb, takesC] at w4 w5 w6 ka kb
    have r4 : evalM l (xTwo 7 a b) = (tr (decide (x < y)), 0) := by rw [evalM_ok w4, val_comb ex7 ey7 (by omega)]; rfl
    have r6 : evalM l (xTwo 6 a b) = (tr (decide (x = y)), 0) := by rw [evalM_ok w6, val_comb ex7 ey7 (by omega)]; rfl
    have w7 : vis (nms l) 8 (xNot (xTwo 8 b a)) = 0 := by rw [vis_not w5]; rfl
    have r5 : evalM l (xNot (xTwo 8 b a)) = (1 - tr (decide (y ≤ x)), 0) := by rw [evalM_ok w7, val_not (x := tr (decide (y ≤ x))) (by rw [val_comb ey6 ex6 (by omega)]; rfl)]
    rw [r4] at n4
    rw [r5] at n5
    rw [r6] at n6
    refine logic_numbers ⟨c1, c2, ha, hb, h2, h3, ea, eb, ka, kb⟩ n4 n5 n6 ?_ ?_ ?_
    · unfold tr; by_cases g : x < y <;> simp [g] <;> omega
    · unfold tr; by_cases g : x < y <;> simp [g]
    · unfold tr; by_cases g : x = y <;> simp [g]
  · simp [ca, cb, takesC] at w2 w4 ka kb
    have r2 : evalM l (xTwo 10 a b) = (0, 27) := evalM_err w2
    have r4 : evalM l (xTwo 7 a b) = (0, 27) := evalM_err w4
    rw [r2] at n2
    rw [r4] at n4
    exact logic_mixed ⟨c1, c2, ha, hb, h2, h3, ea, eb, ka, kb⟩ (.inr ⟨rfl, rfl⟩) n2 n4
  · simp [ca, cb, takesC] at w2 w4 ka kb
    have r2 : evalM l (xTwo 10 a b) = (0, 27) := evalM_err w2
    have r4 : evalM l (xTwo 7 a b) = (0, 27) := evalM_err w4
    rw [r2] at n2
    rw [r4] at n4
    exact logic_mixed ⟨c1, c2, ha, hb, h2, h3, ea, eb, ka, kb⟩ (.inl ⟨rfl, rfl⟩) n2 n4
  · simp [ca, cb, takesC] at w1 w2 w3 ka kb
    have hx01 : x = 0 ∨ x = 1 := a3 ca
    have hy01 : y = 0 ∨ y = 1 := b3 cb
    have r1 : evalM l (xNot a) = (1 - x, 0) := by rw [evalM_ok w1, val_not ex7]
    have r2 : evalM l (xTwo 10 a b) = (if y < x then y else x, 0) := by
      rw [evalM_ok w2, val_and ex7 ey7]
      rcases hx01 with rfl | rfl <;> rcases hy01 with rfl | rfl <;> rfl
    have r3 : evalM l (xTwo 11 a b) = (if x < y then y else x, 0) := by
      rw [evalM_ok w3, val_or ex7 ey7]
      rcases hx01 with rfl | rfl <;> rcases hy01 with rfl | rfl <;> rfl
    rw [r1] at n1
    rw [r2] at n2
    rw [r3] at n3
    exact logic_conds ⟨c1, c2, ha, hb, h2, h3, ea, eb, ka, kb⟩ n1 n2 n3 (wrap64 (by omega) (by omega)) rfl rfl
theorem ruleLogic_abs (xs : List D) (h : TyArgs Try.prog Try.f9.params.toList xs) : Contract Try.prog gl 9 xs (.x (.bool true)) := by
  simp [TyArgs] at h
  obtain ⟨d, r, rfl, h1, d', r', rfl, h2, d'', rfl, h3⟩ := h
  obtain ⟨a, rfl, hfa⟩ := tyExV h1
  obtain ⟨b, rfl, hfb⟩ := tyExV h2
  obtain ⟨l, rfl, _, _⟩ := tyFeatures h3
  exact C_law43_RuleLogic _ _ (logic_run a b hfa hfb l)
end Go.Proofs.Ytkdmoefacgbgkaa
