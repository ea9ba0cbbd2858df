/-
  Stores; the state as lists; every operation as one step of the state, and that it is sound.
-/
import Derived.Test.YthgamgdcjgbmnaaGreatDoorAbsH
namespace Go.Abs
set_option linter.unusedSimpArgs false
set_option linter.unusedVariables false
open Go Go.RowKit

section
variable {P : Program} {w : World} {B : Nat} {ι : Inj} {N : Nat} {w0 : Bs} {ρ : Nat → D} {η : Nat → Option O} {a : Act}

/-! ### Stores -/
theorem splice_at {α : Type} (l e : List α) (off k : Nat) (h : off + e.length ≤ l.length) :
    (l.take off ++ (e ++ l.drop (off + e.length)))[k]? = if off ≤ k ∧ k < off + e.length then e[k - off]? else l[k]? := by
  have hl : (l.take off).length = off := by simp; omega
  by_cases h1 : k < off
  · rw [List.getElem?_append_left (by omega), List.getElem?_take_of_lt h1, if_neg (by omega)]
  · rw [List.getElem?_append_right (by omega), hl]
    by_cases h2 : k < off + e.length
    · rw [List.getElem?_append_left (by omega), if_pos (by omega)]
    · rw [List.getElem?_append_right (by omega), List.getElem?_drop, if_neg (by omega)]
      congr 1
      omega

theorem grown_setRow (w : World) (g : Nat) (cs : Array Value) : w.grownBy (w.setRow g cs) (some g) :=
  ⟨rfl, rfl, rfl, by simp, fun k _ hne => setRow_other w g k cs (fun e => hne (by rw [e]))⟩

theorem store_run {t : TypeId} {g off : Nat} {ty : TypeId} {cur : Array Value} {v : Value} (hh : w.heap[g]? = some (.cells cur ty (0, 0))) (hs : szT P t = some v.cells.size) (hle : off + v.cells.size ≤ cur.size) (h1 : ∀ u ∈ v.cells.toList, u.oneCell' = true) :
    (Instr.storeAt t (.pointer (some ⟨g, off, none⟩)) v).run P w = .ok () (w.setRow g (cur.toList.take off ++ (v.cells.toList ++ cur.toList.drop (off + v.cells.size))).toArray) := by
  have hst := run_storeCells_at P g off ty v.cells.toList 0 cur w hh (by simpa using hle) h1
  simp only [Nat.add_zero, Array.length_toList, List.append_assoc] at hst
  simp [Instr.storeAt, Instr.sureAddr, storeVar, run_sizeOf hs, hst]

def spliceD (cs : List D) (off : Nat) (e : List D) : List D := cs.take off ++ (e ++ cs.drop (off + e.length))

def storeBox (P : Program) (t : TypeId) (cs : List D) (off : Nat) (d : D) : Option (List D) :=
  if shapeOk d = true ∧ (cellsD d).all one = true ∧ szT P t = some (cellsD d).length ∧ off + (cellsD d).length ≤ cs.length then some (spliceD cs off (cellsD d)) else none

theorem storeBox_sound (hrel : Rel N B w0 ι ρ η a w) {t ty : TypeId} {id off : Nat} {cs cs' : List D} {vx v : Value} {d : D} (hx : Rep w B ι vx (.ptr id off)) (hv : Rep w B ι v d) (hη : η id = some (.box ty cs)) (h : storeBox P t cs off d = some cs') :
    ∃ w', (Instr.storeAt t vx v).run P w = .ok () w' ∧ Rel N B w0 ι ρ (upd η id (some (.box ty cs'))) a w' := by
  unfold storeBox at h
  split at h
  · rename_i hb
    obtain ⟨h1, h2, h3, h4⟩ := hb
    cases h
    obtain ⟨b, hι, rfl⟩ := hx.ptr_inv
    obtain ⟨v0, hv0, hobj⟩ := hrel.obj id _ hη
    rw [hι] at hv0
    cases hv0
    obtain ⟨b', cur, e, hB, hh, hsz, hcells⟩ := hobj
    injection e with e; injection e with e; injection e with e
    subst e
    have hc := cells_rel hv h1
    have hone : ∀ u ∈ v.cells.toList, u.oneCell' = true := by
      intro u hu
      obtain ⟨k, hk⟩ := List.getElem?_of_mem hu
      rw [Array.getElem?_toList] at hk
      have hkl := (Array.getElem?_eq_some_iff.1 hk).1
      have hd : (cellsD d)[k]? = some _ := List.getElem?_eq_getElem (by rw [← hc.1]; exact hkl)
      exact (hc.2 k u _ hk hd).one (List.all_eq_true.1 h2 _ (List.mem_of_getElem? hd))
    refine ⟨_, store_run hh (by rw [hc.1]; exact h3) (by rw [hc.1]; omega) hone, ?_⟩
    have hg := grown_setRow w b (cur.toList.take off ++ (v.cells.toList ++ cur.toList.drop (off + v.cells.size))).toArray
    refine hrel.set hι hg ⟨b, _, rfl, hB, setRow_heap w b cur _ ty _ hh, ?_, fun j c e hj he => ?_⟩
    · have := hc.1
      simp [spliceD]
      omega
    · have hr : ∀ b', some b = some b' → ¬ okB ι b' := by rintro b' ⟨⟩; exact not_ok hι rfl
      have e1 : (cur.toList.take off ++ (v.cells.toList ++ cur.toList.drop (off + v.cells.size))).toArray[j]? = if off ≤ j ∧ j < off + v.cells.size then v.cells[j - off]? else cur[j]? := by
        have := splice_at cur.toList v.cells.toList off j (by rw [Array.length_toList, Array.length_toList, hc.1]; omega)
        simpa using this
      rw [e1] at hj
      unfold spliceD at he
      rw [splice_at cs (cellsD d) off j h4] at he
      rw [← hc.1] at he
      by_cases hin : off ≤ j ∧ j < off + v.cells.size
      · rw [if_pos hin] at hj he
        exact ⟨touch_Rep1 hr hg (hc.2 _ c e hj he), hone c (by rw [← Array.getElem?_toList] at hj; exact List.mem_of_getElem? hj)⟩
      · rw [if_neg hin] at hj he
        exact ⟨touch_Rep1 hr hg (hcells j c e hj he).1, (hcells j c e hj he).2⟩
  · cases h

def storeRow (P : Program) (t : TypeId) (sz : Nat) (es : List (List D)) (i off : Nat) (d : D) : Option (List (List D) × Bool) :=
  match es[i]?, cellsI (cellsD d) with
  | some e, some nn => if shapeOk d = true ∧ szT P t = some nn.length ∧ off + nn.length ≤ sz ∧ e.length = sz then some (es.set i (spliceD e off nn), nn.all isX) else none
  | _, _ => none

theorem storeRow_sound (hrel : Rel N B w0 ι ρ η a w) {t ety : TypeId} {id sz i off : Nat} {fl fl' : Bool} {es es' : List (List D)} {vx v : Value} {d : D} (hx : Rep w B ι vx (.rel id sz i off)) (hv : Rep w B ι v d) (hη : η id = some (.row ety sz fl es))
    (h : storeRow P t sz es i off d = some (es', fl')) :
    ∃ w', (Instr.storeAt t vx v).run P w = .ok () w' ∧ Rel N B w0 ι ρ (upd η id (some (.row ety sz (fl && fl') es'))) a w' := by
  unfold storeRow at h
  split at h
  · rename_i e nn he hnn
    split at h
    · rename_i hb
      obtain ⟨h1, h3, h4, h5⟩ := hb
      cases h
      obtain ⟨b, n, c, hι, rfl⟩ := rel_inv hx
      obtain ⟨v0, hv0, hobj⟩ := hrel.obj id _ hη
      rw [hι] at hv0
      cases hv0
      obtain ⟨xs, hsz, ⟨hown, hwr⟩, hlen, hrep, hone, hic, hfl⟩ := hobj
      rcases hown.2 with ⟨h, _⟩ | ⟨g, cap, cur, hvv, hB, hh, hle, hmx, hcs, hxs⟩
      · cases h
      · injection hvv with g1 g2 g3
        injection g1 with g1
        injection g1 with g1
        subst g1 g2 g3
        have hc := cells_rowCell (cells_rel hv h1) hnn
        have hi := (List.getElem?_eq_some_iff.1 he).1
        have hmul : (i + 1) * sz ≤ es.length * sz := Nat.mul_le_mul_right _ hi
        rw [Nat.add_mul, Nat.one_mul] at hmul
        have hmul2 : es.length * sz ≤ c * sz := Nat.mul_le_mul_right _ hle
        have hone' : ∀ u ∈ v.cells.toList, u.oneCell' = true := by
          intro u hu
          obtain ⟨k, hk⟩ := List.getElem?_of_mem hu
          rw [Array.getElem?_toList] at hk
          have hkl := (Array.getElem?_eq_some_iff.1 hk).1
          exact (hc.2 k u _ hk (List.getElem?_eq_getElem (by rw [← hc.1]; exact hkl))).2.1
        refine ⟨_, store_run hh (by rw [hc.1]; exact h3) (by rw [hc.1]; omega) hone', ?_⟩
        have hg := grown_setRow w b (cur.toList.take (i * sz + off) ++ (v.cells.toList ++ cur.toList.drop (i * sz + off + v.cells.size))).toArray
        have hr : ∀ b', some b = some b' → ¬ okB ι b' := by rintro b' ⟨⟩; exact not_ok hι rfl
        have hxl : xs.length = es.length * sz := hown.1
        let xs' := xs.take (i * sz + off) ++ (v.cells.toList ++ xs.drop (i * sz + off + v.cells.toList.length))
        have hx' : ∀ p, xs'[p]? = if i * sz + off ≤ p ∧ p < i * sz + off + v.cells.toList.length then v.cells.toList[p - (i * sz + off)]? else xs[p]? := fun p => splice_at xs v.cells.toList (i * sz + off) p (by rw [Array.length_toList, hc.1]; omega)
        have hx'l : xs'.length = es.length * sz := by
          have := hc.1
          simp [xs']
          omega
        refine hrel.set hι hg ⟨xs', hsz, ⟨⟨by simpa using hx'l, .inr ⟨b, c, _, by simp, hB, setRow_heap w b cur _ ety _ hh, by simpa using hle, hmx, ?_, ?_⟩⟩, hwr⟩, ?_, ?_, ?_, ?_, ?_⟩
        · have := hc.1
          simp
          omega
        · apply List.ext_getElem?
          intro p
          rw [hx']
          have e1 := splice_at cur.toList v.cells.toList (i * sz + off) p (by rw [Array.length_toList, Array.length_toList, hc.1]; omega)
          simp only [List.length_set]
          by_cases hp : p < es.length * sz
          · rw [List.getElem?_take_of_lt hp]
            simp only [Array.length_toList] at e1
            rw [e1]
            rw [← hxs, List.getElem?_take_of_lt hp]
            simp
          · rw [List.getElem?_eq_none (by simp; omega)]
            have h6 := hc.1
            rw [if_neg (by rw [Array.length_toList]; omega), List.getElem?_eq_none (by omega)]
        · intro x hx
          rcases List.mem_or_eq_of_mem_set hx with hx | rfl
          · exact hlen x hx
          · simp [spliceD]
            omega
        · intro k x j d' u hk hd hu
          rw [hx'] at hu
          have hkl := (List.getElem?_eq_some_iff.1 hk).1
          simp only [List.length_set] at hkl
          by_cases hki : k = i
          · subst hki
            rw [List.getElem?_set_self hi] at hk
            cases hk
            unfold spliceD at hd
            rw [splice_at e nn off j (by omega)] at hd
            have hjl : j < sz := by
              by_cases hin : off ≤ j ∧ j < off + nn.length
              · omega
              · rw [if_neg hin] at hd
                have := (List.getElem?_eq_some_iff.1 hd).1
                omega
            by_cases hin : off ≤ j ∧ j < off + nn.length
            · rw [if_pos hin] at hd
              rw [if_pos (by rw [Array.length_toList, hc.1]; omega), show k * sz + j - (k * sz + off) = j - off by omega, Array.getElem?_toList] at hu
              exact touch_RepI hr hg (hc.2 _ u d' hu hd).1
            · rw [if_neg hin] at hd
              rw [if_neg (by rw [Array.length_toList, hc.1]; omega)] at hu
              exact touch_RepI hr hg (hrep k e j d' u he hd hu)
          · rw [List.getElem?_set_ne (Ne.symm hki)] at hk
            have hxl2 := hlen x (List.mem_of_getElem? hk)
            have hj := (List.getElem?_eq_some_iff.1 hd).1
            have hne : ¬ (i * sz + off ≤ k * sz + j ∧ k * sz + j < i * sz + off + v.cells.toList.length) := by
              rw [Array.length_toList, hc.1]
              rcases Nat.lt_or_gt_of_ne hki with hlt | hgt
              · have : (k + 1) * sz ≤ i * sz := Nat.mul_le_mul_right _ hlt
                rw [Nat.add_mul, Nat.one_mul] at this
                omega
              · have : (i + 1) * sz ≤ k * sz := Nat.mul_le_mul_right _ hgt
                rw [Nat.add_mul, Nat.one_mul] at this
                omega
            rw [if_neg hne] at hu
            exact touch_RepI hr hg (hrep k x j d' u hk hd hu)
        · intro u hu
          obtain ⟨p, hp⟩ := List.getElem?_of_mem hu
          rw [hx'] at hp
          split at hp
          · exact hone' u (List.mem_of_getElem? hp)
          · exact hone u (List.mem_of_getElem? hp)
        · intro x hx d' hd
          rcases List.mem_or_eq_of_mem_set hx with hx | rfl
          · exact hic x hx d' hd
          · unfold spliceD at hd
            rcases List.mem_append.1 hd with hd | hd
            · exact hic e (List.mem_of_getElem? he) d' (List.mem_of_mem_take hd)
            · rcases List.mem_append.1 hd with hd | hd
              · obtain ⟨k, hk⟩ := List.getElem?_of_mem hd
                have hkl := (List.getElem?_eq_some_iff.1 hk).1
                exact (hc.2 k _ d' (Array.getElem?_eq_getElem (by rw [hc.1]; exact hkl)) hk).2.2
              · exact hic e (List.mem_of_getElem? he) d' (List.mem_of_mem_drop hd)
        · intro hf x hx d' hd
          simp only [Bool.and_eq_true] at hf
          rcases List.mem_or_eq_of_mem_set hx with hx | rfl
          · exact hfl hf.1 x hx d' hd
          · unfold spliceD at hd
            rcases List.mem_append.1 hd with hd | hd
            · exact hfl hf.1 e (List.mem_of_getElem? he) d' (List.mem_of_mem_take hd)
            · rcases List.mem_append.1 hd with hd | hd
              · have := List.all_eq_true.1 hf.2 d' hd
                cases d' <;> first | exact ⟨_, rfl⟩ | cases this
              · exact hfl hf.1 e (List.mem_of_getElem? he) d' (List.mem_of_mem_drop hd)
    · cases h
  · cases h

end
end Go.Abs
