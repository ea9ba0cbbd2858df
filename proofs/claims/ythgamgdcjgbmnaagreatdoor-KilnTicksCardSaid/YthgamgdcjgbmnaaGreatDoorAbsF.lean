/-
  New rows, calls by contract, the free operations as one function, and that it is sound.
-/
import Derived.Test.YthgamgdcjgbmnaaGreatDoorAbsE
namespace Go.Abs
set_option linter.unusedSimpArgs false
set_option linter.unusedVariables false
open Go Go.RowKit

section
variable {P : Program} {w : World} {B : Nat} {ι : Inj}

/-! ### New rows -/
def cellI : D → Option D
  | .x v => if v.oneCell' then some (.x v) else none
  | .emp => some .emp
  | .sl es => some (.sl es)
  | .own _ es => some (.sl es)
  | _ => none
def cellsI : List D → Option (List D)
  | [] => some []
  | d :: r => match cellI d, cellsI r with
    | some d', some r' => some (d' :: r')
    | _, _ => none
def rowsI : List (List D) → Option (List (List D))
  | [] => some []
  | d :: r => match cellsI d, rowsI r with
    | some d', some r' => some (d' :: r')
    | _, _ => none
def isX : D → Bool
  | .x _ => true
  | _ => false
def flat (es : List (List D)) : Bool := es.all fun e => e.all isX

/-- A cell of a row. -/
def RowCell (w : World) (B : Nat) (ι : Inj) (c : Value) (d : D) : Prop := RepI w (okB ι) (frB B ι) c d ∧ c.oneCell' = true ∧ isCell d = true

theorem cellI_sound {c : Value} {d d' : D} (h : Rep1 w B ι c d) (hd : cellI d = some d') : RowCell w B ι c d' := by
  unfold cellI at hd
  split at hd
  · split at hd
    · rename_i h1
      cases hd
      rw [h.x_inv]
      exact ⟨.x _, h1, rfl⟩
    · cases hd
  · cases hd
    exact ⟨h.resolve_right (fun h => h.elim), h.one rfl, rfl⟩
  · cases hd
    exact ⟨h.resolve_right (fun h => h.elim), h.one rfl, rfl⟩
  · cases hd
    refine ⟨?_, h.one rfl, rfl⟩
    have := ((h.resolve_right (fun h => h.elim)).cell (frB B ι)).2.2 _ _ rfl
    exact this.mono (Nat.le_refl _) (fun b _ ho => ⟨ho.elim id (·.2), rfl⟩) (fun b _ ho => ⟨ho, rfl⟩)
  · cases hd
theorem cellsI_get : ∀ (ds ds' : List D), cellsI ds = some ds' → ds'.length = ds.length ∧ ∀ (i : Nat) (d' : D), ds'[i]? = some d' → ∃ d, ds[i]? = some d ∧ cellI d = some d'
  | [], ds', h => by cases h; exact ⟨rfl, fun i d' h => by simp at h⟩
  | d :: r, ds', h => by
    unfold cellsI at h
    split at h
    · rename_i x y hx hy
      cases h
      obtain ⟨h1, h2⟩ := cellsI_get r y hy
      refine ⟨by simp [h1], fun i d' hi => ?_⟩
      cases i with
      | zero => simp at hi; subst hi; exact ⟨d, rfl, hx⟩
      | succ i => simpa using h2 i d' (by simpa using hi)
    · cases h
theorem cells_rowCell {cs : Array Value} {ds ds' : List D} (h : CellsRel (Rep1 w B ι) cs ds) (hd : cellsI ds = some ds') : CellsRel (RowCell w B ι) cs ds' := by
  obtain ⟨h1, h2⟩ := cellsI_get ds ds' hd
  refine ⟨by rw [h.1, h1], fun i c d hc hdi => ?_⟩
  obtain ⟨d0, hd0, hci⟩ := h2 i d hdi
  exact cellI_sound (h.2 i c d0 hc hd0) hci

def zeroI (P : Program) (e : TypeId) : Option (List D) := match zeroD P e with
  | some zs => cellsI zs
  | none => none
def partsI (ρ : Nat → D) : List (Nat × Operand) → Option (List (Nat × List D))
  | [] => some []
  | (i, x) :: r => if shapeOk (ev ρ x) then match cellsI (cellsD (ev ρ x)), partsI ρ r with
      | some cs, some ps => some ((i, cs) :: ps)
      | _, _ => none
    else none
def zrep (n : Nat) (zs : List D) : List D := (List.range n).map fun k => (zs[k % zs.length]?).getD .any
/-- What the table says of a slice's type: its element's type, cells and bytes, and the element's zero. -/
def mkT (P : Program) (t : TypeId) : Option (TypeId × Nat × Nat × List D) :=
  match P.underlying t with
  | some (.slice e) => match P.info? e, zeroI P e with
    | some i, some zs => if 0 < i.size ∧ zs.length = i.size then some (e, i.size, i.bytes, zs) else none
    | _, _ => none
  | _ => none
theorem mkT_some {t e : TypeId} {sz by_ : Nat} {zs : List D} (h : mkT P t = some (e, sz, by_, zs)) : P.underlying t = some (.slice e) ∧ zeroI P e = some zs ∧ 0 < sz ∧ zs.length = sz ∧ szT P e = some sz ∧ ∃ i, P.info? e = some i ∧ i.size = sz ∧ i.bytes = by_ := by
  unfold mkT at h
  split at h
  · rename_i e' hu
    split at h
    · rename_i i zs' hi hz
      split at h
      · rename_i hb
        cases h
        exact ⟨hu, hz, hb.1, hb.2, by simp [szT, hi], i, hi, rfl, rfl⟩
      · cases h
    · cases h
  · cases h
def buildSliceD (P : Program) (ρ : Nat → D) (t : TypeId) (len : Nat) (parts : Array (Nat × Operand)) : Option (TypeId × Nat × List (List D)) :=
  match mkT P t, partsI ρ parts.toList with
  | some (e, sz, _, zs), some ps => if len * sz ≤ 16777216 then
      match fillD (fun i => some (i * sz, sz)) (zrep (len * sz) zs) ps with
      | some cs => some (e, sz, chunk sz len cs)
      | none => none
    else none
  | _, _ => none

theorem partsI_rel {N : Nat} {w0 : Bs} {ρ : Nat → D} {η : Nat → Option O} {a : Act} (hrel : Rel N B w0 ι ρ η a w) : ∀ (ps : List (Nat × Operand)) (qs : List (Nat × List D)), partsI ρ ps = some qs →
    (ps.map fun p => (p.1, a.eval p.2)).length = qs.length ∧ ∀ (k : Nat) (p : Nat × Value) (q : Nat × List D), (ps.map fun p => (p.1, a.eval p.2))[k]? = some p → qs[k]? = some q → p.1 = q.1 ∧ CellsRel (RowCell w B ι) p.2.cells q.2
  | [], qs, h => by cases h; exact ⟨rfl, fun k p q h1 _ => by simp at h1⟩
  | (i, x) :: r, qs, h => by
    unfold partsI at h
    split at h
    · rename_i hs
      split at h
      · rename_i cs ps hc hp
        cases h
        obtain ⟨h1, h2⟩ := partsI_rel hrel r ps hp
        refine ⟨by simpa using h1, fun k p q hk hq => ?_⟩
        cases k with
        | zero =>
          simp at hk hq
          subst hk hq
          exact ⟨rfl, cells_rowCell (cells_rel (hrel.ev x) hs) hc⟩
        | succ k => exact h2 k p q (by simpa using hk) (by simpa using hq)
      · cases h
    · cases h

theorem chunk_get {sz n : Nat} {cs : List D} {i : Nat} {e : List D} (h : (chunk sz n cs)[i]? = some e) : i < n ∧ e = (cs.drop (i * sz)).take sz := by
  unfold chunk at h
  rw [List.getElem?_map] at h
  simp only [Option.map_eq_some_iff] at h
  obtain ⟨k, hk, rfl⟩ := h
  obtain ⟨hlt, hk2⟩ := List.getElem?_eq_some_iff.1 hk
  simp at hk2 hlt
  subst hk2
  exact ⟨hlt, rfl⟩
theorem chunk_length (sz n : Nat) (cs : List D) : (chunk sz n cs).length = n := by simp [chunk]
theorem flat_x {es : List (List D)} (h : flat es = true) : ∀ e ∈ es, ∀ d ∈ e, ∃ v, d = .x v := by
  intro e he d hd
  have := List.all_eq_true.1 (List.all_eq_true.1 h e he) d hd
  cases d <;> first | exact ⟨_, rfl⟩ | cases this

/-- A new row out of cells. -/
theorem row_good {N : Nat} {w0 : Bs} {ρ : Nat → D} {η : Nat → Option O} {a : Act} (hrel : Rel N B w0 ι ρ η a w) {t : Nat} {cells : Array Value} {es : List (List D)} (e : TypeId) {sz n c : Nat} (hsz : 0 < sz)
    (hes : es.length = n) (hel : ∀ x ∈ es, x.length = sz) (hcell : ∀ (i : Nat) (x : List D) (j : Nat) (d : D) (u : Value), es[i]? = some x → x[j]? = some d → cells[i * sz + j]? = some u → RowCell w B ι u d)
    (h1 : ∀ u ∈ cells.toList.take (n * sz), u.oneCell' = true) (hcs : cells.size = c * sz) (hnc : n ≤ c) (hc : c ≤ maxLen) (hic : ∀ x ∈ es, ∀ d ∈ x, isCell d = true) :
    Good B ι t w (w.alloc (.cells cells e)) (.slice (some ⟨w.heap.size, 0, none⟩) n c) (.row t) (some (.row e sz (flat es) es)) := by
  have hx := ext_alloc w (.cells cells e)
  have hf : ∀ b, blk (.slice (some ⟨w.heap.size, 0, none⟩) n c) = some b → w.heap.size ≤ b := by intro b hb; simp [blk] at hb; omega
  have hle : n * sz ≤ c * sz := Nat.mul_le_mul_right _ hnc
  refine ⟨.slice (some ⟨w.heap.size, 0, none⟩) n c, hx, hf, ⟨cells.toList.take (n * sz), hsz, ⟨⟨by rw [hes]; simp; omega, .inr ⟨w.heap.size, c, cells, by rw [hes], Nat.zero_le _, heap_alloc_new w _, by omega, hc, hcs, by rw [hes]⟩⟩, fun b hb => .inl (Nat.le_trans hrel.base (hf b hb))⟩, hel, ?_, h1, hic, fun h => flat_x h⟩, .inl (.inr ⟨by simp, _, _, _, rfl⟩)⟩
  intro i x j d u hi hd hu
  have hlt : i * sz + j < n * sz := by
    have h1 := (List.getElem?_eq_some_iff.1 hi).1
    have h2 := (List.getElem?_eq_some_iff.1 hd).1
    rw [hel x (List.mem_of_getElem? hi)] at h2
    have : (i + 1) * sz ≤ n * sz := Nat.mul_le_mul_right _ (by omega)
    rw [Nat.add_mul, Nat.one_mul] at this
    omega
  rw [List.getElem?_take_of_lt hlt, Array.getElem?_toList] at hu
  exact (hcell i x j d u hi hd hu).1.grow hx hf

theorem buildSlice_sound {N : Nat} {w0 : Bs} {ρ : Nat → D} {η : Nat → Option O} {a : Act} (hrel : Rel N B w0 ι ρ η a w) {t len : Nat} {parts : Array (Nat × Operand)} {s : Nat} {e : TypeId} {sz : Nat} {es : List (List D)} (h : buildSliceD P ρ t len parts = some (e, sz, es)) :
    ∃ v w', (Instr.buildSlice t len (parts.map fun (i, x) => (i, a.eval x))).run P w = .ok v w' ∧ Good B ι s w w' v (.row s) (some (.row e sz (flat es) es)) := by
  unfold buildSliceD at h
  split at h
  · rename_i e' sz0 by0 zs ps hmk hp
    obtain ⟨hu, hz, hb0, hb1, hs, _⟩ := mkT_some hmk
    · split at h
      · rename_i hb2
        have hb := And.intro hb0 (And.intro hb1 hb2)
        split at h
        · rename_i cs hfill
          cases h
          obtain ⟨hl, hpr⟩ := partsI_rel hrel parts.toList ps hp
          unfold zeroI at hz
          split at hz
          · rename_i zs0 hz0
            obtain ⟨z, hzr, rfl⟩ := zero_run (w := w) hz0
            have hzc := cells_rowCell (zero_cells (w := w) (B := B) (ι := ι) z) hz
            have hzsz : z.cells.size = sz := by rw [hzc.1]; exact hb.2.1
            have hinit : CellsRel (RowCell w B ι) ((Array.range (len * sz)).map (z.cells[· % z.cells.size]!)) (zrep (len * sz) zs) := by
              refine ⟨by simp [zrep], fun k c d h1 h2 => ?_⟩
              have hk : k < len * sz := by
                have := (Array.getElem?_eq_some_iff.1 h1).1
                simpa using this
              have hm : k % sz < sz := Nat.mod_lt _ hb.1
              unfold zrep at h2
              simp [hk] at h1 h2
              rw [hzsz] at h1
              rw [hb.2.1] at h2
              have e1 : z.cells[k % sz]? = some c := by
                rw [← h1]
                simp [hzsz, hm]
              have e2 : zs[k % sz]? = some d := by
                rw [← h2]
                simp [hb.2.1, hm]
              exact hzc.2 _ c d e1 e2
            obtain ⟨cs', hcs', hr⟩ := fill_sound _ ps _ _ cs hinit hl hpr hfill
            have hsz' : cs'.size = len * sz := by
              rw [hr.1]
              have hlen : ∀ (ps : List (Nat × List D)) (c c' : List D), fillD (fun i => some (i * sz, sz)) c ps = some c' → c'.length = c.length := by
                intro ps
                induction ps with
                | nil => intro c c' h; cases h; rfl
                | cons q r ih =>
                  intro c c' h
                  obtain ⟨i, e⟩ := q
                  simp only [fillD] at h
                  split at h
                  · rename_i hc
                    rw [ih _ _ h]
                    simp
                    omega
                  · cases h
              rw [hlen ps _ cs hfill]
              simp [zrep]
            have hcl : cs.length = len * sz := by rw [← hr.1]; exact hsz'
            refine ⟨_, _, ?_, row_good hrel (cells := cs') (es := chunk sz len cs) _ (sz := sz) (n := len) (c := len) hb.1 (chunk_length _ _ _) ?_ ?_ ?_ hsz' (Nat.le_refl _) ?_ ?_⟩
            · have hmap : (parts.map fun (p : Nat × Operand) => (p.1, a.eval p.2)).toList = parts.toList.map fun p => (p.1, a.eval p.2) := by simp
              by_cases hzero : len * sz = 0
              · have hempty : (Array.range (len * sz)).map (fun k => (#[] : Array Value)[k % (#[] : Array Value).size]!) = (Array.range (len * sz)).map (z.cells[· % z.cells.size]!) := by
                  rw [hzero, Array.range_zero']; simp
                simp only [Instr.buildSlice, Sem.run_bind, run_underlying hu, Result.andThen_ok, run_sizeOf hs]
                rw [if_neg (by omega), if_pos hzero]
                simp only [Sem.run_pure, Result.andThen_ok, Sem.run_bind]
                rw [hmap, hempty, hcs']
                simp [newRow]
              · simp only [Instr.buildSlice, Sem.run_bind, run_underlying hu, Result.andThen_ok, run_sizeOf hs]
                rw [if_neg (by omega), if_neg hzero]
                simp only [Sem.run_pure, Result.andThen_ok, Sem.run_bind, hzr]
                rw [hmap, hcs']
                simp [newRow]
            · intro x hx
              obtain ⟨i, hi⟩ := List.getElem?_of_mem hx
              obtain ⟨hlt, rfl⟩ := chunk_get hi
              have : (i + 1) * sz ≤ len * sz := Nat.mul_le_mul_right _ hlt
              rw [Nat.add_mul, Nat.one_mul] at this
              simp
              omega
            · intro i x j d u hi hd hu
              obtain ⟨hlt, rfl⟩ := chunk_get hi
              have hj := (List.getElem?_eq_some_iff.1 hd).1
              rw [List.getElem?_take_of_lt (by simp at hj; omega), List.getElem?_drop] at hd
              exact hr.2 _ u d hu hd
            · intro u hu
              have hu := List.mem_of_mem_take hu
              obtain ⟨k, hk⟩ := List.getElem?_of_mem hu
              rw [Array.getElem?_toList] at hk
              have hkl := (Array.getElem?_eq_some_iff.1 hk).1
              exact (hr.2 k u _ hk (List.getElem?_eq_getElem (by rw [← hr.1]; exact hkl))).2.1
            · have : len ≤ len * sz := Nat.le_mul_of_pos_right _ hb.1
              unfold maxLen
              omega
            · intro x hx d hd
              obtain ⟨i, hi⟩ := List.getElem?_of_mem hx
              obtain ⟨hlt, rfl⟩ := chunk_get hi
              have hd := List.mem_of_mem_drop (List.mem_of_mem_take hd)
              obtain ⟨k, hk⟩ := List.getElem?_of_mem hd
              have hkl := (List.getElem?_eq_some_iff.1 hk).1
              exact (hr.2 k _ d (Array.getElem?_eq_getElem (by rw [hr.1]; exact hkl)) hk).2.2
          · cases hz
        · cases h
      · cases h
  · cases h

def makeSliceD (P : Program) (t : TypeId) (l c : D) : Option (TypeId × Nat × List (List D)) :=
  match l, c with
  | .x (.int _ l), .x (.int _ c) => match mkT P t with
    | some (e, sz, by_, zs) => if 0 ≤ l ∧ l ≤ c ∧ (by_ : Int) * c ≤ 281474976710656 ∧ c ≤ 1000000000000000000 then some (e, sz, List.replicate l.toNat zs) else none
    | none => none
  | _, _ => none
theorem makeSlice_sound {N : Nat} {w0 : Bs} {ρ : Nat → D} {η : Nat → Option O} {a : Act} (hrel : Rel N B w0 ι ρ η a w) {t : TypeId} {s : Nat} {dl dc : D} {vl vc : Value} (hl : Rep w B ι vl dl) (hc : Rep w B ι vc dc) {e : TypeId} {sz : Nat} {es : List (List D)} (h : makeSliceD P t dl dc = some (e, sz, es)) :
    ∃ v w', (Instr.makeSlice t vl vc).run P w = .ok v w' ∧ Good B ι s w w' v (.row s) (some (.row e sz (flat es) es)) := by
  unfold makeSliceD at h
  split at h
  · rename_i kl l kc c
    rw [hl.x_inv, hc.x_inv]
    split at h
    · rename_i e' sz0 by0 zs hmk
      obtain ⟨hu, hz, hb0, hb1, _, i, hi, rfl, rfl⟩ := mkT_some hmk
      · split at h
        · rename_i hb
          obtain ⟨hb2, hb3, hb4, hb5⟩ := hb
          cases h
          unfold zeroI at hz
          split at hz
          · rename_i zs0 hz0
            have hz0' := hz0
            unfold zeroD at hz0'
            rw [hi] at hz0'
            simp only at hz0'
            split at hz0'
            · rename_i z hzz
              cases hz0'
              have hzc := cells_rowCell (zero_cells (w := w) (B := B) (ι := ι) z) hz
              have hzsz : z.cells.size = i.size := by rw [hzc.1]; exact hb1
              have hrun := run_make (P := P) w t _ i z hu hi hzz kl kc l c hb2 hb3 hb4 (by omega)
              have hget : ∀ k u, (madeCells z.cells (c.toNat * i.size))[k]? = some u → z.cells[k % i.size]? = some u := by
                intro k u hk
                have hk0 := (Array.getElem?_eq_some_iff.1 hk).1
                rw [size_madeCells] at hk0
                unfold madeCells at hk
                simp [hk0] at hk
                rw [hzsz] at hk
                have hm : k % i.size < i.size := Nat.mod_lt _ hb0
                rw [← hk]
                simp [hzsz, hm]
              refine ⟨_, _, hrun, row_good hrel (es := List.replicate l.toNat zs) _ (sz := i.size) (n := l.toNat) (c := c.toNat) hb0 (by simp) ?_ ?_ ?_ (size_madeCells _ _) (by omega) (by unfold maxLen; omega) ?_⟩
              · intro x hx
                rw [(List.mem_replicate.1 hx).2]
                exact hb1
              · intro k x j d u hk hd hu'
                have hx := List.mem_of_getElem? hk
                rw [(List.mem_replicate.1 hx).2] at hd
                have hj := (List.getElem?_eq_some_iff.1 hd).1
                have := hget _ u hu'
                rw [Nat.mul_add_mod_of_lt (by omega)] at this
                exact hzc.2 j u d this hd
              · intro u hu'
                have hu' := List.mem_of_mem_take hu'
                obtain ⟨k, hk⟩ := List.getElem?_of_mem hu'
                rw [Array.getElem?_toList] at hk
                have := hget k u hk
                have hkl := (Array.getElem?_eq_some_iff.1 this).1
                exact (hzc.2 _ u _ this (List.getElem?_eq_getElem (by rw [← hzc.1]; exact hkl))).2.1
              · intro x hx d hd
                rw [(List.mem_replicate.1 hx).2] at hd
                obtain ⟨k, hk⟩ := List.getElem?_of_mem hd
                have hkl := (List.getElem?_eq_some_iff.1 hk).1
                exact (hzc.2 k _ d (Array.getElem?_eq_getElem (by rw [hzc.1]; exact hkl)) hk).2.2
            · cases hz0'
          · cases hz
        · cases h
    · cases h
  · cases h

end
end Go.Abs
