/-
  LedgerNone and LedgerMakes, run abstractly.
-/
import Derived.Test.YtgngoijehjphoaaDoorLgW
namespace Go.Proofs.YtgngoijehjphoaaDoor
set_option linter.unusedSimpArgs false
set_option linter.unusedVariables false
open Go Go.Abs
set_option maxHeartbeats 8000000
set_option maxRecDepth 100000
theorem nilDig_run : F_ledger_Ledger_Digest [.x (.pointer none)] = some (.x (.int .u64 0)) := by
  rw [F_ledger_Ledger_Digest_eq]; simp
theorem nilTrial_run : F_ledger_Ledger_Trial [.x (.pointer none)] = some (.own true []) := by
  rw [F_ledger_Ledger_Trial_eq]; simp
theorem nilEnts_run : F_ledger_Ledger_Entries [.x (.pointer none)] = some (.own true []) := by
  rw [F_ledger_Ledger_Entries_eq]; simp
theorem nilPost_run (x : Ent) : E_ledger_Ledger_Post [] [.x (.pointer none), .agg (eEn x)] = some (I 1, []) := by
  rw [E_ledger_Ledger_Post_eq]; simp
theorem none_law (x : Ent) : F_law51_LedgerNone [.agg (eEn x)] = some (B true) := by
  rw [F_law51_LedgerNone_eq]
  have p := nilPost_run x
  simp at p
  simp [p, nilDig_run, nilTrial_run, nilEnts_run, balanceNil_run, awake51_run]
theorem rnew_run (l : List ByteArray) : F_ref51_New [.sl (l.map eNm)] = some (if mkE l = 0 then .tup [.agg [.own true (l.map eNm), .own true []], I 0] else .tup [.agg [.own true [], .own true []], I (mkE l)]) := by
  rw [newR_run]
  unfold mkE
  by_cases h : 64 < (l.length : Int)
  · simp [h]
  · simp only [if_neg h]
theorem makes_law (l : List ByteArray) (o : ByteArray) (hl : l.length ≤ 9223372036854775807) : F_law51_LedgerMakes [.sl (l.map eNm), S o] = some (B true) := by
  rw [F_law51_LedgerMakes_eq]
  have hf := few_run l hl
  have hr := rnew_run l
  cases h0 : fewM l
  · simp [h0] at hf
    simp [hf, awake51_run]
  · simp [h0] at hf
    by_cases h1 : 100 < (o.size : Int)
    · simp [hf, h1, awake51_run]
    · by_cases hm : mkE l = 0
      · have hn := newGood_run l hm
        rw [if_pos hm] at hr
        have hA := accs_of hm (fun a ha => by simp [fewM] at h0; have := few100_mem h0.1 a ha; omega)
        have hi := is_run hA (Lg.nil (accs := l))
        have hb := lbal_run l [] o
        simp [ledE, ledR, balE] at hi hb
        generalize (balL l []).map encB = M at *
        simp [hf, h1, hn, hr, hi, hb, awake51_run]
      · have hn := newBad_run l hm
        rw [if_neg hm] at hr
        simp [hf, h1, hn, hr, hm, awake51_run]
end Go.Proofs.YtgngoijehjphoaaDoor
