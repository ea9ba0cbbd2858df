/-
  An entry is posted, run abstractly: whole.
-/
import Derived.Test.YtgngoijehjphoaaLgD
namespace Go.Proofs.Ytgngoijehjphoaa
set_option linter.unusedSimpArgs false
set_option linter.unusedVariables false
open Go Go.Abs
set_option maxHeartbeats 8000000
set_option maxRecDepth 100000
theorem post_run (b : Bal) (ids : List ByteArray) (en : List Ent) (fl : Bool) (hen : en.length ≤ 1000000) (hb : ∀ x ∈ b, x.1.size ≤ 1000) (hbl : b.length ≤ 1000000) (x : Ent) : E_ledger_Ledger_Post (ledH 1000 b ids en fl) [.ptr 1000 0, .agg (eEn x)] =
    some (I (errA b ids en x), if errA b ids en x = 0 then ledH 1000 (mergeB b (aftB b [] x.ps)) (addK x.id ids) (en ++ [x]) false else ledH 1000 b ids en fl) := by
  rw [E_ledger_Ledger_Post_eq]
  have hc := check_run b ids en hen x
  unfold errA
  by_cases h : ¬ chkE b ids (lastT en) x.id x.t x.ps = 0
  · simp at hc
    simp [ledH, hc, h]
  replace h := Classical.not_not.1 h
  obtain ⟨g1, g2, g3⟩ := chkE_0 h
  have hlp := post_loop b ids en fl x (by omega) bigL 0 x.ps [] rfl (by have := bigL_ge; omega)
  have hsc := scan_loop b ids en fl x (aftB b [] x.ps) bigL
  obtain ⟨k1, k2⟩ := aftB_keys (l := []) g3 (fun x hx => by cases hx)
  have hcp := E_copy_eq (b.map encB) ((aftB b [] x.ps).map encB)
  have hmx : maxLen = 2 ^ 63 - 1 := rfl
  rw [if_pos ⟨allK_B hb, allK_B (fun y hy => by obtain ⟨z, hz, e⟩ := List.mem_map.1 (k1 y hy); rw [← e]; exact hb z hz), by simp only [List.length_map, List.length_nil] at k2 ⊢; omega⟩, mergeM_B] at hcp
  have hcy := copyOf_run x (by omega)
  have hpk := putM_K x.id ids
  simp at hc hcy
  simp [pstS] at hlp
  simp [scnS, retS] at hsc
  generalize aftB b [] x.ps = l at *
  cases ha : anyOut l
  · rw [ha] at hsc
    simp at hsc
    by_cases hf : 1024 ≤ (en.length : Int)
    · simp [ledH, hc, h, hlp, hsc, hf]
    · have hsz : (en.length + 1) * 49 ≤ 140737488355328 := by omega
      simp (maxSteps := 10000000) [ledH, hc, h, hlp, hsc, hf, hcp, hcy, hpk, allS_K, hsz]
  · rw [ha] at hsc
    simp at hsc
    simp [ledH, hc, h, hlp, hsc]
theorem Lg.len {accs : List ByteArray} {en : List Ent} (h : Lg accs en) : en.length ≤ 1024 := by
  cases h with
  | nil => simp
  | snoc h hx => have := (errP_0 hx).2.2.2.2.2.2.2.2.2.2.2; simp; omega
/-- A ledger of accounts and entries, as an object. -/
def ledP (n : Nat) (accs : List ByteArray) (en : List Ent) (fl : Bool) : List (Nat × O) := ledH n (balL accs en) (en.map (·.id)) en fl
/-- Accounts that a ledger has. -/
structure Accs (accs : List ByteArray) : Prop where
  nd : accs.Nodup
  sz : ∀ a ∈ accs, a.size ≤ 1000
  len : accs.length ≤ 1000
theorem post_L {accs : List ByteArray} (hA : Accs accs) {en : List Ent} (hL : Lg accs en) (fl : Bool) (x : Ent) : E_ledger_Ledger_Post (ledP 1000 accs en fl) [.ptr 1000 0, .agg (eEn x)] =
    some (I (errP accs en x), if errP accs en x = 0 then ledP 1000 accs (en ++ [x]) false else ledP 1000 accs en fl) := by
  have h := post_run (balL accs en) (en.map (·.id)) en fl (by have := hL.len; omega) (fun x hx => by
    obtain ⟨a, ha, rfl⟩ := List.mem_map.1 hx
    exact hA.sz a ha) (by simp only [balL, List.length_map]; have := hA.len; omega) x
  rw [errA_P hL] at h
  unfold ledP
  rw [h]
  by_cases hx : errP accs en x = 0
  · obtain ⟨e1, e2⟩ := merge_P hA.nd hL hx
    rw [e1, e2]
  · rw [if_neg hx, if_neg hx]
end Go.Proofs.Ytgngoijehjphoaa
