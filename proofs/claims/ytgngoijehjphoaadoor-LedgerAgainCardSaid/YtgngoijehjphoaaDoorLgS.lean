/-
  The reference's posting of an entry, run abstractly: whole.
-/
import Derived.Test.YtgngoijehjphoaaDoorLgR
namespace Go.Proofs.YtgngoijehjphoaaDoor
set_option linter.unusedSimpArgs false
set_option linter.unusedVariables false
open Go Go.Abs
set_option maxHeartbeats 8000000
set_option maxRecDepth 100000
theorem Lg.psl {accs : List ByteArray} {en : List Ent} (h : Lg accs en) : ∀ y ∈ en, y.ps.length ≤ 16 := by
  intro y hy
  obtain ⟨p, _, h⟩ := h.prop hy
  exact (errP_0 h).2.2.2.2.2.2.2.1
theorem sizeNil {s : ByteArray} : (s.size : Int) = 0 ↔ s = ByteArray.empty := by
  constructor
  · intro h
    apply ByteArray.ext
    have : s.data.size = 0 := by have : s.size = 0 := by omega
                                 exact this
    exact Array.eq_empty_of_size_eq_zero this
  · rintro rfl; rfl
theorem rpost_run {accs : List ByteArray} (ha : accs.length ≤ 1000) {en : List Ent} (hL : Lg accs en) (x : Ent) : F_ref51_L_Post [.agg [.sl (accs.map eNm), .sl (en.map eEn)], .agg (eEn x)] =
    some (.tup [.agg [.sl (accs.map eNm), if errP accs en x = 0 then .own false ((en ++ [x]).map eEn) else .sl (en.map eEn)], I (errP accs en x)]) := by
  rw [F_ref51_L_Post_eq]
  have hen := hL.len
  have hpsl := hL.psl
  have h4 := r4_loop accs en (by omega) x bigL 0 en rfl (by have := bigL_ge; omega)
  have h16 := fun h : x.ps.length ≤ 1000 => r16_loop accs ha en x h bigL 0 x.ps 0 rfl (by have := bigL_ge; omega)
  have h26 := fun (h : x.ps.length ≤ 16) (c9 : pstP accs x.ps = 0) => r26_loop accs hL x h (fun p hp => (pstP_0.1 c9 p hp).2) (fun y hy => by have := hpsl y hy; omega) bigL 0 x.ps rfl (by have := bigL_ge; omega)
  have hm : en.map eEn ++ [[S x.id, I x.t, .sl (x.ps.map ePs)]] = (en ++ [x]).map eEn := by simp
  have hall : (∀ z ∈ en.map eEn, z.length = 3) = True := eq_true (fun z hz => by obtain ⟨y, _, rfl⟩ := List.mem_map.1 hz; rfl)
  have hlen : ((en.map eEn).length : Int) = en.length := by simp
  have hlast : (en.map eEn = [] ∧ lastT en = none) ∨ ∃ (n : Nat) (y : Ent), (((en.map eEn).length : Nat) : Int) = (n : Int) + 1 ∧ (en.map eEn)[n]? = some [S y.id, I y.t, .sl (y.ps.map ePs)] ∧ lastT en = some y.t := by
    rcases List.eq_nil_or_concat en with rfl | ⟨en, y, rfl⟩
    · exact .inl ⟨rfl, rfl⟩
    · exact .inr ⟨en.length, y, by simp, by simp, by simp [lastT]⟩
  simp only [rS, rRet] at h4 h16 h26
  unfold errP
  generalize en.map eEn = L at *
  generalize (en ++ [x]).map eEn = L' at *
  by_cases c1 : x.id = ByteArray.empty
  · have c1' := sizeNil.2 c1
    simp [c1, c1']
  have c1' : ¬ (x.id.size : Int) = 0 := fun h => c1 (sizeNil.1 h)
  by_cases c2 : 40 < (x.id.size : Int)
  · simp [c1, c1', c2]
  cases c3 : hasK x.id (en.map (·.id))
  case true =>
    rw [c3] at h4
    simp at h4
    simp [c1, c1', c2, h4]
  rw [c3] at h4
  simp at h4
  by_cases c4 : x.t < 0
  · simp [c1, c1', c2, h4, c4]
  by_cases c5 : 10000000 < x.t
  · simp [c1, c1', c2, h4, c4, c5]
  rcases hlast with ⟨rfl, hl0⟩ | ⟨n, y, hn, hl, hlt⟩
  · simp at hm
    subst hm
    by_cases c7 : x.ps = []
    · rw [c7] at h4
      simp at h4
      simp [c1, c1', c2, h4, c4, c5, hl0, c7]
    have c7' : ¬ (x.ps.length : Int) = 0 := by
      have := mt List.length_eq_zero_iff.1 c7
      omega
    have c7'' : ¬ x.ps.length = 0 := by omega
    by_cases c8 : 16 < (x.ps.length : Int)
    · simp [c1, c1', c2, h4, c4, c5, hl0, c7, c7', c7'', c8]
    have h16 := h16 (by omega)
    by_cases c9 : pstP accs x.ps = 0
    case neg =>
      rw [if_neg c9] at h16
      simp at h16
      simp [c1, c1', c2, h4, c4, c5, hl0, c7, c7', c7'', c8, h16, c9]
    rw [if_pos c9] at h16
    simp at h16
    by_cases c10 : totP 0 x.ps = 0
    case neg =>
      simp [c1, c1', c2, h4, c4, c5, hl0, c7, c7', c7'', c8, h16, c9, c10]
    have h26 := h26 (by omega) c9
    cases c11 : anyP en x.ps x.ps
    case true =>
      rw [c11] at h26
      simp at h26
      simp [c1, c1', c2, h4, c4, c5, hl0, c7, c7', c7'', c8, h16, c9, c10, h26]
    rw [c11] at h26
    simp at h26
    by_cases c12 : 1024 ≤ (en.length : Int)
    · have c12' : False := by simp at hlen; omega
      exact c12'.elim
    
    have s1 : x.ps.length * 25 ≤ 140737488355328 := by omega
    simp [c1, c1', c2, h4, c4, c5, hl0, c7, c7', c7'', c8, h16, c9, c10, h26, c12, s1]
  · subst hm
    have hw : IntKind.i64.wrap (n : Int) = (n : Int) := wrap64 (by omega) (by omega)
    have h0 : (0 : Int) < (n : Int) + 1 := by omega
    have h1 : (n : Int) < (n : Int) + 1 := by omega
    by_cases cL : x.t < y.t
    · simp [c1, c1', c2, h4, c4, c5, hlt, hl, hn, hw, h0, h1, cL]
    by_cases c7 : x.ps = []
    · rw [c7] at h4
      simp at h4
      simp [c1, c1', c2, h4, c4, c5, hlt, hl, hn, hw, h0, h1, cL, c7]
    have c7' : ¬ (x.ps.length : Int) = 0 := by
      have := mt List.length_eq_zero_iff.1 c7
      omega
    have c7'' : ¬ x.ps.length = 0 := by omega
    by_cases c8 : 16 < (x.ps.length : Int)
    · simp [c1, c1', c2, h4, c4, c5, hlt, hl, hn, hw, h0, h1, cL, c7, c7', c7'', c8]
    have h16 := h16 (by omega)
    by_cases c9 : pstP accs x.ps = 0
    case neg =>
      rw [if_neg c9] at h16
      simp at h16
      simp [c1, c1', c2, h4, c4, c5, hlt, hl, hn, hw, h0, h1, cL, c7, c7', c7'', c8, h16, c9]
    rw [if_pos c9] at h16
    simp at h16
    by_cases c10 : totP 0 x.ps = 0
    case neg =>
      simp [c1, c1', c2, h4, c4, c5, hlt, hl, hn, hw, h0, h1, cL, c7, c7', c7'', c8, h16, c9, c10]
    have h26 := h26 (by omega) c9
    cases c11 : anyP en x.ps x.ps
    case true =>
      rw [c11] at h26
      simp at h26
      simp [c1, c1', c2, h4, c4, c5, hlt, hl, hn, hw, h0, h1, cL, c7, c7', c7'', c8, h16, c9, c10, h26]
    rw [c11] at h26
    simp at h26
    by_cases c12 : 1024 ≤ (en.length : Int)
    · have c12' : 1024 ≤ (n : Int) + 1 := by omega
      simp [c1, c1', c2, h4, c4, c5, hlt, hl, hn, hw, h0, h1, cL, c7, c7', c7'', c8, h16, c9, c10, h26, c12, c12']
    have c12' : ¬ 1024 ≤ (n : Int) + 1 := by omega
    have s1 : x.ps.length * 25 ≤ 140737488355328 := by omega
    have s2 : L.length * 49 ≤ 140737488355328 := by omega
    have s3 : (L.length + 1) * 49 ≤ 140737488355328 := by omega
    simp [c1, c1', c2, h4, c4, c5, hlt, hl, hn, hw, h0, h1, cL, c7, c7', c7'', c8, h16, c9, c10, h26, c12, c12', s1, s2, s3, hall]
end Go.Proofs.YtgngoijehjphoaaDoor
