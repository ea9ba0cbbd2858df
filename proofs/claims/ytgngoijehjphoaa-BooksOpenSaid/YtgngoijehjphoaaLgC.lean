/-
  The check of an entry, run abstractly: whole.
-/
import Derived.Test.YtgngoijehjphoaaLgB
namespace Go.Proofs.Ytgngoijehjphoaa
set_option linter.unusedSimpArgs false
set_option linter.unusedVariables false
open Go Go.Abs
set_option maxHeartbeats 8000000
set_option maxRecDepth 100000
@[simp] theorem eEn_eq (x : Ent) : eEn x = [S x.id, I x.t, .sl (x.ps.map ePs)] := rfl
theorem idNil (s : ByteArray) : s.toList = [] ↔ s = ByteArray.empty := by
  have e : ByteArray.empty.toList = [] := by simp
  constructor
  · intro h
    have := str_eq s ByteArray.empty
    rw [h, e] at this
    simpa using this.symm
  · rintro rfl; exact e
theorem check_run (b : Bal) (ids : List ByteArray) (en : List Ent) (hen : en.length ≤ 1000000) (x : Ent) : F_ledger_Ledger_checkEntry [.elt [.mpv (b.map encB), .mpv (ids.map encK), .sl (en.map eEn)], .agg (eEn x)] = some (I (chkE b ids (lastT en) x.id x.t x.ps)) := by
  rw [F_ledger_Ledger_checkEntry_eq]
  have hk := lookV_K x.id ids
  unfold chkE
  by_cases c1 : x.id = ByteArray.empty
  · simp [idNil, c1]
  by_cases c2 : 40 < (x.id.size : Int)
  · simp [idNil, c1, c2]
  by_cases c3 : hasK x.id ids = true
  · simp [idNil, c1, c2, hk, allS_K, c3]
  replace c3 : hasK x.id ids = false := by simpa using c3
  by_cases c4 : x.t < 0
  · simp [idNil, c1, c2, hk, allS_K, c3, c4]
  by_cases c5 : 10000000 < x.t
  · simp [idNil, c1, c2, hk, allS_K, c3, c4, c5]
  have hC : x.ps.length ≤ 16 → L_ledger_Ledger_checkEntry 15 bigL ⟨[(0, .elt [.mpv (b.map encB), .mpv (ids.map encK), .sl (en.map eEn)]), (1, .any), (3, .ptr 3 0), (4, .any), (5, .any), (7, .any), (9, .any), (64, .sl (x.ps.map ePs)), (65, I x.ps.length), (66, I 0)], [(3, .box 41 [S x.id, I x.t, .sl (x.ps.map ePs)])]⟩ = _ :=
    fun h => check_loop b ids (en.map eEn) x.id x.t x.ps (by omega) bigL 0 x.ps rfl (by have := bigL_ge; omega)
  have hT : x.ps.length ≤ 16 → _ := fun h => total_run x.ps (by omega)
  rcases List.eq_nil_or_concat en with rfl | ⟨en, y, rfl⟩
  · 
    by_cases c6 : x.ps = []
    · simp [idNil, c1, c2, hk, allS_K, c3, c4, c5, lastT, c6]
    by_cases c7 : 16 < (x.ps.length : Int)
    · simp [idNil, c1, c2, hk, allS_K, c3, c4, c5, lastT, c6, c7]
    have hC := hC (by omega)
    have hT := hT (by omega)
    by_cases c8 : pstE b x.ps = 0
    · by_cases c9 : totP 0 x.ps = 0 <;> simp [c8, c9] at hC hT <;> simp [idNil, c1, c2, hk, allS_K, c3, c4, c5, lastT, c6, c7, c8, c9, hC, hT]
    · simp [c8] at hC
      simp [idNil, c1, c2, hk, allS_K, c3, c4, c5, lastT, c6, c7, c8, hC]
  · rw [List.concat_eq_append] at *
    have hl : ((en ++ [y]).map eEn)[en.length]? = some [S y.id, I y.t, .sl (y.ps.map ePs)] := by simp
    have hlen : (((en ++ [y]).map eEn).length : Int) = (en.length : Int) + 1 := by simp
    have hw : IntKind.i64.wrap (en.length : Int) = (en.length : Int) := wrap64 (by omega) (by simp at hen; omega)
    have h0 : (0 : Int) < (en.length : Int) + 1 := by omega
    have h1 : (en.length : Int) < (en.length : Int) + 1 := by omega
    have hlt : lastT (en ++ [y]) = some y.t := by simp [lastT]
    generalize (en ++ [y]).map eEn = L at hl hlen hC ⊢
    by_cases cL : x.t < y.t
    · simp [idNil, c1, c2, hk, allS_K, c3, c4, c5, hlt, hl, hlen, hw, h0, h1, cL]
    by_cases c6 : x.ps = []
    · simp [idNil, c1, c2, hk, allS_K, c3, c4, c5, hlt, hl, hlen, hw, h0, h1, cL, c6]
    by_cases c7 : 16 < (x.ps.length : Int)
    · simp [idNil, c1, c2, hk, allS_K, c3, c4, c5, hlt, hl, hlen, hw, h0, h1, cL, c6, c7]
    have hC := hC (by omega)
    have hT := hT (by omega)
    by_cases c8 : pstE b x.ps = 0
    · by_cases c9 : totP 0 x.ps = 0 <;> simp [c8, c9] at hC hT <;> simp [idNil, c1, c2, hk, allS_K, c3, c4, c5, hlt, hl, hlen, hw, h0, h1, cL, c6, c7, c8, c9, hC, hT]
    · simp [c8] at hC
      simp [idNil, c1, c2, hk, allS_K, c3, c4, c5, hlt, hl, hlen, hw, h0, h1, cL, c6, c7, c8, hC]
end Go.Proofs.Ytgngoijehjphoaa
