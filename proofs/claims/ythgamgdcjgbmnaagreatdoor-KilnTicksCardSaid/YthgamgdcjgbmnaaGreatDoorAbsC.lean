/-
  The abstract operations on addresses, loads, slices and new objects, each shown to give what the model gives.
-/
import Derived.Test.YthgamgdcjgbmnaaGreatDoorAbsB
import Derived.Laws.Slices
import Derived.Laws.Strings2
import Derived.Laws.Strings3
import Derived.Laws.MakeOwn
import Derived.Laws.Cells
namespace Go.Abs
set_option linter.unusedSimpArgs false
set_option linter.unusedVariables false
open Go Go.RowKit

def chunk (sz n : Nat) (cs : List D) : List (List D) := (List.range n).map fun i => (cs.drop (i * sz)).take sz

section
variable {P : Program} {w : World} {B : Nat} {ι : Inj}

def loadD (P : Program) (η : Nat → Option O) (t : TypeId) : D → Option D
  | .ptr id off => match η id with
    | some (.box _ cs) => partD P t cs off
    | _ => none
  | .elt cs => partD P t cs 0
  | .rel id sz i off => match η id with
    | some (.row _ _ _ es) => match es[i]? with
      | some e => if e.length = sz then partD P t e off else none
      | none => none
    | _ => none
  | _ => none

theorem load_at {A : Addr} {t : TypeId} {ds : List D} {off : Nat} {d : D} (hc : ∀ j e, ds[off + j]? = some e → ∃ u, w.cell? (A.add j) = some u ∧ Rep1 w B ι u e)
    (h : partD P t ds off = some d) : ∃ v, (loadVar t A).run P w = .ok v w ∧ Rep w B ι v d := by
  unfold partD at h
  split at h
  · rename_i n ha hs
    split at h
    · rename_i hle
      cases h
      have hcell : ∀ j, j < n → w.cell? (A.add j) = some ((w.cell? (A.add j)).getD undef) := by
        intro j hj
        obtain ⟨u, hu, _⟩ := hc j _ (List.getElem?_eq_getElem (by omega : off + j < ds.length))
        simp [hu]
      refine ⟨.agg ((List.range n).map fun j => (w.cell? (A.add j)).getD undef).toArray, ?_, .inr (.inl ⟨_, rfl, _, rfl, ?_, fun i c d h1 h2 => ?_⟩)⟩
      · simp [loadVar, run_isAgg ha, run_sizeOf hs, run_loadCells w A n _ hcell]
      · simp; omega
      · have hi : i < n := by
          have := (List.getElem?_eq_some_iff.1 h2).1
          simp at this
          omega
        rw [List.getElem?_take_of_lt hi, List.getElem?_drop] at h2
        obtain ⟨u, hu, hr⟩ := hc i d h2
        simp [hi, hu] at h1
        subst h1
        exact hr
    · cases h
  · rename_i ha
    obtain ⟨u, hu, hr⟩ := hc 0 d (by simpa using h)
    rw [Addr.add_zero'] at hu
    exact ⟨u, by simp [loadVar, run_isAgg ha, run_load, hu], .inl hr⟩
  · cases h

theorem elt_cells {v : Value} {cs : List D} (h : Rep w B ι v (.elt cs)) : ∃ A : Addr, v = .pointer (some A) ∧ okB ι A.block ∧ A.block < w.heap.size ∧ (∀ d ∈ cs, isCell d = true) ∧
    (∀ j, j < cs.length → ∃ u, w.cell? (A.add j) = some u ∧ u.oneCell' = true) ∧ (∀ (j : Nat) (d : D) (u : Value), cs[j]? = some d → w.cell? (A.add j) = some u → RepI w (okB ι) (frB B ι) u d) := by
  rcases h with (h | h) | ⟨_, h, _⟩ | ⟨_, h, _⟩
  · cases h with
    | elt hb hlt hic hcell hrep => exact ⟨_, rfl, hb, hlt, hic, hcell, hrep⟩
  · exact h.elim
  · cases h
  · cases h
theorem rel_inv {v : Value} {id sz i off : Nat} (h : Rep w B ι v (.rel id sz i off)) : ∃ b n c, ι id = some (.slice (some ⟨b, 0, none⟩) n c) ∧ v = .pointer (some ⟨b, i * sz + off, none⟩) := by
  rcases h with (h | h) | ⟨_, h, _⟩ | ⟨_, h, _⟩
  · cases h
  · exact h
  · cases h
  · cases h
theorem row_inv {v : Value} {id : Nat} (h : Rep w B ι v (.row id)) : ι id = some v ∧ ∃ A n c, v = .slice A n c := by
  rcases h with (h | h) | ⟨_, h, _⟩ | ⟨_, h, _⟩
  · cases h
  · exact h
  · cases h
  · cases h
theorem bsl_inv {v : Value} {id off n sz : Nat} (h : Rep w B ι v (.bsl id off n sz)) : ∃ b c, ι id = some (.pointer (some ⟨b, 0, none⟩)) ∧ v = .slice (some ⟨b, off, none⟩) n c ∧ n ≤ c := by
  rcases h with (h | h) | ⟨_, h, _⟩ | ⟨_, h, _⟩
  · cases h
  · exact h
  · cases h
  · cases h

theorem row_cells {b n c : Nat} {ety : TypeId} {sz : Nat} {fl : Bool} {es : List (List D)} (h : ObjRel w B ι (.slice (some ⟨b, 0, none⟩) n c) (.row ety sz fl es)) :
    n = es.length ∧ n ≤ c ∧ b < w.heap.size ∧ ∀ (i : Nat) (e : List D) (j : Nat) (d : D), es[i]? = some e → e[j]? = some d → ∃ u, w.cell? ⟨b, i * e.length + j, none⟩ = some u ∧ RepI w (okB ι) (frB B ι) u d ∧ u.oneCell' = true := by
  obtain ⟨xs, hsz, ⟨hown, hwr⟩, hlen, hrep, hone, _⟩ := h
  rcases hown.2 with ⟨h, _⟩ | ⟨g, cap, cur, hv, hB, hh, hle, _, hcs, hxs⟩
  · cases h
  · injection hv with h1 h2 h3
    injection h1 with h1
    injection h1 with h1
    subst h1 h3
    refine ⟨h2, by omega, (Array.getElem?_eq_some_iff.1 hh).1, fun i e j d he hd => ?_⟩
    have hel := hlen e (List.mem_of_getElem? he)
    have hj := (List.getElem?_eq_some_iff.1 hd).1
    have hi := (List.getElem?_eq_some_iff.1 he).1
    have hx : i * sz + j < xs.length := by
      rw [hown.1]
      have : (i + 1) * sz ≤ es.length * sz := Nat.mul_le_mul_right _ hi
      rw [Nat.add_mul, Nat.one_mul] at this
      omega
    obtain ⟨u, hxj⟩ : ∃ u, xs[i * sz + j]? = some u := ⟨_, List.getElem?_eq_getElem hx⟩
    refine ⟨u, ?_, hrep i e j d _ he hd hxj, hone _ (List.mem_of_getElem? hxj)⟩
    rw [hel]
    have hx' := hx
    rw [hown.1] at hx'
    rw [← hxs, List.getElem?_take_of_lt hx', Array.getElem?_toList] at hxj
    simp [World.cell?, hh, hxj]

theorem load_sound {N : Nat} {w0 : Bs} {ρ : Nat → D} {η : Nat → Option O} {a : Act} (hrel : Rel N B w0 ι ρ η a w) {t : TypeId} {dx d : D} {vx : Value} (hx : Rep w B ι vx dx)
    (h : loadD P η t dx = some d) : ∃ v, (Instr.loadAt t vx).run P w = .ok v w ∧ Rep w B ι v d := by
  unfold loadD at h
  split at h
  · rename_i id off
    split at h
    · rename_i ty cs hη
      obtain ⟨b, hι, rfl⟩ := hx.ptr_inv
      obtain ⟨v, hv, hobj⟩ := hrel.obj id _ hη
      rw [hι] at hv
      cases hv
      obtain ⟨b', cur, e, hB, hh, hsz, hcells⟩ := hobj
      injection e with e; injection e with e; injection e with e
      subst e
      have : ∃ v, (loadVar t ⟨b, off, none⟩).run P w = .ok v w ∧ Rep w B ι v d := by
        refine load_at (fun j e he => ?_) h
        have hlt := (List.getElem?_eq_some_iff.1 he).1
        have hcur : cur[off + j]? = some (cur[off + j]'(by omega)) := Array.getElem?_eq_getElem (by omega)
        refine ⟨_, ?_, (hcells (off + j) _ e hcur he).1⟩
        rw [Addr.add_lit]
        simp [World.cell?, hh, hcur]
      simpa [Instr.loadAt, Instr.sureAddr] using this
    · cases h
  · obtain ⟨A, rfl, _, _, _, hcell, hrep⟩ := elt_cells hx
    have : ∃ v, (loadVar t A).run P w = .ok v w ∧ Rep w B ι v d := by
      refine load_at (fun j e he => ?_) h
      simp only [Nat.zero_add] at he
      obtain ⟨u, hu, _⟩ := hcell j (List.getElem?_eq_some_iff.1 he).1
      exact ⟨u, hu, .inl (hrep j e u he hu)⟩
    simpa [Instr.loadAt, Instr.sureAddr] using this
  · rename_i id sz i off
    split at h
    · rename_i ety sz0 fl es hη
      split at h
      · rename_i e he
        split at h
        · rename_i hel
          obtain ⟨b, n, c, hι, rfl⟩ := rel_inv hx
          obtain ⟨v, hv, hobj⟩ := hrel.obj id _ hη
          rw [hι] at hv
          cases hv
          have hc := (row_cells hobj).2.2.2
          have : ∃ v, (loadVar t ⟨b, i * sz + off, none⟩).run P w = .ok v w ∧ Rep w B ι v d := by
            refine load_at (fun j e' he' => ?_) h
            obtain ⟨u, hu, hr, _⟩ := hc i e (off + j) e' he he'
            refine ⟨u, ?_, .inl hr⟩
            rw [Addr.add_lit]
            rw [hel] at hu
            rw [Nat.add_assoc]
            exact hu
          simpa [Instr.loadAt, Instr.sureAddr] using this
        · cases h
      · cases h
    · cases h
  · cases h

def fieldAddrD (P : Program) (s : TypeId) (f : Nat) (x : D) : Option D :=
  match P.underlying s with
  | some (.struct fs) => match fs[f]? with
    | some fld => match szT P fld.type with
      | some (_ + 1) => match x with
        | .ptr id off => some (.ptr id (off + fld.offset))
        | .elt cs => some (.elt (cs.drop fld.offset))
        | .rel id sz i off => some (.rel id sz i (off + fld.offset))
        | _ => none
      | _ => none
    | none => none
  | _ => none

theorem elt_drop {A : Addr} {cs : List D} {k : Nat} (hb : okB ι A.block) (hlt : A.block < w.heap.size) (hic : ∀ d ∈ cs, isCell d = true)
    (hcell : ∀ j, j < cs.length → ∃ u, w.cell? (A.add j) = some u ∧ u.oneCell' = true) (hrep : ∀ (j : Nat) (d : D) (u : Value), cs[j]? = some d → w.cell? (A.add j) = some u → RepI w (okB ι) (frB B ι) u d) :
    Rep w B ι (.pointer (some (A.add k))) (.elt (cs.drop k)) := by
  refine .inl (.inl (.elt (by rw [add_block]; exact hb) (by rw [add_block]; exact hlt) (fun d hd => hic d (List.mem_of_mem_drop hd)) (fun j hj => ?_) (fun j d u hd hu => ?_)))
  · rw [add_add']
    simp at hj
    exact hcell (k + j) (by omega)
  · rw [add_add'] at hu
    rw [List.getElem?_drop] at hd
    exact hrep (k + j) d u hd hu

theorem fieldAddr_sound {s : TypeId} {f : Nat} {dx d : D} {vx : Value} (hx : Rep w B ι vx dx) (h : fieldAddrD P s f dx = some d) : ∃ v, (Instr.fieldAt s vx f).run P w = .ok v w ∧ Rep w B ι v d := by
  unfold fieldAddrD at h
  split at h
  · rename_i fs hu
    split at h
    · rename_i fld hf
      split at h
      · rename_i n hs
        have place : ∀ A : Addr, (fieldPlace A fld).run P w = .ok (A.add fld.offset) w := fun A => by simp [fieldPlace, run_sizeOf hs]
        have run : ∀ A : Addr, (Instr.fieldAt s (.pointer (some A)) f).run P w = .ok (.pointer (some (A.add fld.offset))) w := fun A => by
          simp [Instr.fieldAt, run_underlying hu, hf, Instr.sureAddr, place]
        split at h
        · cases h
          obtain ⟨b, hι, rfl⟩ := hx.ptr_inv
          exact ⟨_, run _, .inl (.inr ⟨b, hι, by rw [Addr.add_lit]⟩)⟩
        · cases h
          obtain ⟨A, rfl, hb, hlt, hic, hcell, hrep⟩ := elt_cells hx
          exact ⟨_, run _, elt_drop hb hlt hic hcell hrep⟩
        · cases h
          obtain ⟨b, n, c, hι, rfl⟩ := rel_inv hx
          exact ⟨_, run _, .inl (.inr ⟨b, n, c, hι, by rw [Addr.add_lit, Nat.add_assoc]⟩)⟩
        · cases h
      · cases h
    · cases h
  · cases h

def fieldD (P : Program) (t : TypeId) (f : Nat) (x : D) : Option D :=
  match P.underlying t with
  | some (.struct fs) => match fs[f]?, x with
    | some fld, .agg cs => partD P fld.type cs fld.offset
    | _, _ => none
  | _ => none
theorem field_sound {t : TypeId} {f : Nat} {dx d : D} {vx : Value} (hx : Rep w B ι vx dx) (h : fieldD P t f dx = some d) : ∃ v, (Instr.field t vx f).run P w = .ok v w ∧ Rep w B ι v d := by
  unfold fieldD at h
  split at h
  · rename_i fs hu
    split at h
    · rename_i fld cs hf
      obtain ⟨cx, rfl, hc⟩ := hx.agg_inv
      obtain ⟨v, hv, hr⟩ := part_sound hc h
      exact ⟨v, by simp [Instr.field, run_underlying hu, hf, asAgg, hv], hr⟩
    · cases h
  · cases h

/-- A slice that nobody writes, its length and its cells. -/
theorem slice_cells {v : Value} {d : D} {es : List (List D)} (h : Rep w B ι v d) (hd : d = .sl es ∨ ∃ fl, d = .own fl es) :
    (es = [] ∧ ∃ A c, v = .slice A 0 c) ∨ ∃ (A : Addr) (c sz : Nat), v = .slice (some A) es.length c ∧ okB ι A.block ∧ A.block < w.heap.size ∧ es.length ≤ c ∧ (∀ e ∈ es, ∀ d ∈ e, isCell d = true) ∧ (∀ e ∈ es, e.length = sz) ∧
      (∀ i j, i < es.length → j < sz → ∃ u, w.cell? (A.add (i * sz + j)) = some u ∧ u.oneCell' = true) ∧
      (∀ (i : Nat) (e : List D) (j : Nat) (d : D) (u : Value), es[i]? = some e → e[j]? = some d → w.cell? (A.add (i * sz + j)) = some u → RepI w (okB ι) (frB B ι) u d) := by
  rcases h with (h | h) | ⟨_, h, _⟩ | ⟨_, h, _⟩
  · rcases hd with rfl | ⟨fl, rfl⟩
    · cases h with
      | sl0 A c => exact .inl ⟨rfl, A, c, rfl⟩
      | sl hb hlt hcap hic hsz hcell hrep => exact .inr ⟨_, _, _, rfl, hb, hlt, hcap, hic, hsz, hcell, hrep⟩
    · cases h with
      | own0 A c => exact .inl ⟨rfl, A, c, rfl⟩
      | own hb hlt hcap hic hsz hcell hrep hfl => exact .inr ⟨_, _, _, rfl, hb.2, hlt, hcap, hic, hsz, hcell, hrep⟩
  · rcases hd with rfl | ⟨fl, rfl⟩ <;> exact h.elim
  · rcases hd with rfl | ⟨fl, rfl⟩ <;> cases h
  · rcases hd with rfl | ⟨fl, rfl⟩ <;> cases h

def eltAt (es : List (List D)) (i : Int) (sz : Nat) : Option D :=
  match es[i.toNat]? with
  | some c => if c.length = sz then some (.elt c) else none
  | none => none
def indexAddrD (P : Program) (η : Nat → Option O) (t : TypeId) (x ix : D) : Option D :=
  match ix with
  | .x (.int _ i) =>
    if 0 ≤ i then
      match P.underlying t with
      | some (.slice e) => match szT P e with
        | some sz => match x with
          | .sl es => eltAt es i sz
          | .own _ es => eltAt es i sz
          | .row id => match η id with
            | some (.row _ _ _ es) => match es[i.toNat]? with
              | some c => if c.length = sz then some (.rel id sz i.toNat 0) else none
              | none => none
            | _ => none
          | .bsl id off n sz' => if sz' = sz ∧ i < (n : Int) then some (.ptr id (off + i.toNat * sz)) else none
          | _ => none
        | none => none
      | some (.array n e) => match szT P e with
        | some sz => if i < (n : Int) then
            match x with
            | .ptr id off => some (.ptr id (off + i.toNat * sz))
            | .elt cs => some (.elt (cs.drop (i.toNat * sz)))
            | _ => none
          else none
        | none => none
      | _ => none
    else none
  | _ => none

theorem run_indexAt_slice' {t e : TypeId} (hu : P.underlying t = some (.slice e)) {sz : Nat} (hs : szT P e = some sz) (A : Addr) (len cap : Nat) (k : IntKind) (i : Int) (h0 : 0 ≤ i) (h1 : i < len) :
    (Instr.indexAt t (.slice (some A) len cap) (.int k i)).run P w = .ok (.pointer (some (A.add (i.toNat * sz)))) w := by
  simp [Instr.indexAt, run_underlying hu, asIntOf, h0, h1, run_sizeOf hs]

theorem elt_at {v : Value} {dx : D} {es : List (List D)} (hx : Rep w B ι v dx) (hd : dx = .sl es ∨ ∃ fl, dx = .own fl es) {t e : TypeId} (hu : P.underlying t = some (.slice e)) {sz : Nat} (hs : szT P e = some sz)
    {k : IntKind} {i : Int} (h0 : 0 ≤ i) {d : D} (h : eltAt es i sz = some d) : ∃ u, (Instr.indexAt t v (.int k i)).run P w = .ok u w ∧ Rep w B ι u d := by
  unfold eltAt at h
  split at h
  · rename_i c hc
    split at h
    · rename_i hl
      cases h
      have hlt := (List.getElem?_eq_some_iff.1 hc).1
      rcases slice_cells hx hd with ⟨rfl, _⟩ | ⟨A, cp, sz', rfl, hb, hAlt, hcap, hic, hsz, hcell, hrep⟩
      · simp at hlt
      · have hsz' : sz' = sz := by rw [← hsz c (List.mem_of_getElem? hc), hl]
        subst hsz'
        refine ⟨_, run_indexAt_slice' hu hs A _ _ k i h0 (by omega), .inl (.inl (.elt (by rw [add_block]; exact hb) (by rw [add_block]; exact hAlt) (hic c (List.mem_of_getElem? hc)) (fun j hj => ?_) (fun j d u hd hu => ?_)))⟩
        · rw [add_add']
          exact hcell _ j hlt (by omega)
        · rw [add_add'] at hu
          exact hrep _ c j d u hc hd hu
    · cases h
  · cases h

theorem indexAddr_sound {N : Nat} {w0 : Bs} {ρ : Nat → D} {η : Nat → Option O} {a : Act} (hrel : Rel N B w0 ι ρ η a w) {t : TypeId} {dx dy d : D} {vx vy : Value} (hx : Rep w B ι vx dx) (hy : Rep w B ι vy dy)
    (h : indexAddrD P η t dx dy = some d) : ∃ v, (Instr.indexAt t vx vy).run P w = .ok v w ∧ Rep w B ι v d := by
  unfold indexAddrD at h
  split at h
  · rename_i k i
    rw [hy.x_inv]
    split at h
    · rename_i h0
      split at h
      · rename_i e hu
        split at h
        · rename_i sz hs
          split at h
          · exact elt_at hx (.inl rfl) hu hs h0 h
          · exact elt_at hx (.inr ⟨_, rfl⟩) hu hs h0 h
          · rename_i id
            split at h
            · rename_i ety sz0 fl es hη
              split at h
              · rename_i c hc
                split at h
                · rename_i hl
                  cases h
                  obtain ⟨hι, A, n, cp, rfl⟩ := row_inv hx
                  obtain ⟨v, hv, hobj⟩ := hrel.obj id _ hη
                  rw [hι] at hv
                  cases hv
                  have hlt := (List.getElem?_eq_some_iff.1 hc).1
                  obtain ⟨b, rfl⟩ : ∃ b, A = some ⟨b, 0, none⟩ := by
                    obtain ⟨xs, _, ⟨hown, hwr⟩, _⟩ := hobj
                    rcases hown.2 with ⟨h, h'⟩ | ⟨g, cap, cur, hv, _⟩
                    · omega
                    · injection hv with h1; exact ⟨g, h1⟩
                  have hn := (row_cells hobj).1
                  refine ⟨_, run_indexAt_slice' hu hs _ n cp k i h0 (by omega), .inl (.inr ⟨b, n, cp, hι, ?_⟩)⟩
                  rw [Addr.add_lit]
                  simp
                · cases h
              · cases h
            · cases h
          · rename_i id off n sz'
            split at h
            · rename_i hc
              obtain ⟨rfl, hin⟩ := hc
              cases h
              obtain ⟨b, c, hι, rfl, _⟩ := bsl_inv hx
              refine ⟨_, run_indexAt_slice' hu hs _ n c k i h0 hin, .inl (.inr ⟨b, hι, ?_⟩)⟩
              rw [Addr.add_lit]
            · cases h
          · cases h
        · cases h
      · rename_i n e hu
        split at h
        · rename_i sz hs
          split at h
          · rename_i hin
            have run : ∀ A : Addr, (Instr.indexAt t (.pointer (some A)) (.int k i)).run P w = .ok (.pointer (some (A.add (i.toNat * sz)))) w := fun A => by
              simp [Instr.indexAt, run_underlying hu, asIntOf, Instr.sureAddr, h0, hin, run_sizeOf hs]
            split at h
            · cases h
              obtain ⟨b, hι, rfl⟩ := hx.ptr_inv
              exact ⟨_, run _, .inl (.inr ⟨b, hι, by rw [Addr.add_lit]⟩)⟩
            · cases h
              obtain ⟨A, rfl, hb, hlt, hic, hcell, hrep⟩ := elt_cells hx
              exact ⟨_, run _, elt_drop hb hlt hic hcell hrep⟩
            · cases h
          · cases h
        · cases h
      · cases h
    · cases h
  · cases h

def indexD (P : Program) (t : TypeId) (x ix : D) : Option D :=
  match ix with
  | .x (.int _ i) =>
    if 0 ≤ i then
      match P.underlying t, x with
      | some (.array n e), .agg cs => match szT P e with
        | some sz => if i < (n : Int) then partD P e cs (i.toNat * sz) else none
        | none => none
      | some .string, .x (.string s) => match s[i.toNat]? with
        | some b => some (.x (.int .u8 b.toNat))
        | none => none
      | _, _ => none
    else none
  | _ => none
theorem index_sound {t : TypeId} {dx dy d : D} {vx vy : Value} (hx : Rep w B ι vx dx) (hy : Rep w B ι vy dy) (h : indexD P t dx dy = some d) : ∃ v, (Instr.index t vx vy).run P w = .ok v w ∧ Rep w B ι v d := by
  unfold indexD at h
  split at h
  · rename_i k i
    rw [hy.x_inv]
    split at h
    · rename_i h0
      split at h
      · rename_i n e cs hu
        split at h
        · rename_i sz hs
          split at h
          · rename_i hin
            obtain ⟨cx, rfl, hc⟩ := hx.agg_inv
            obtain ⟨v, hv, hr⟩ := part_sound hc h
            exact ⟨v, by simp [Instr.index, asIntOf, run_underlying hu, h0, hin, run_sizeOf hs, hv], hr⟩
          · cases h
        · cases h
      · rename_i s hu
        rw [hx.x_inv]
        split at h
        · rename_i b hb
          cases h
          exact ⟨_, by simp [Instr.index, asIntOf, run_underlying hu, h0, hb], .inl (.inl (.x _))⟩
        · cases h
      · cases h
    · cases h
  · cases h

/-! ### Length, least and greatest -/
def lenD (η : Nat → Option O) : D → Option Nat
  | .emp => some 0
  | .sl es => some es.length
  | .own _ es => some es.length
  | .row id => match η id with
    | some (.row _ _ _ es) => some es.length
    | _ => none
  | .bsl _ _ n _ => some n
  | _ => none
theorem len_inv {N : Nat} {w0 : Bs} {ρ : Nat → D} {η : Nat → Option O} {a : Act} (hrel : Rel N B w0 ι ρ η a w) {dx : D} {vx : Value} (hx : Rep w B ι vx dx) {n : Nat} (h : lenD η dx = some n) : ∃ A c, vx = .slice A n c ∧ n ≤ c := by
  unfold lenD at h
  split at h
  · cases h
    rcases hx with (h | h) | ⟨_, h, _⟩ | ⟨_, h, _⟩
    · cases h; exact ⟨_, _, rfl, Nat.le_refl _⟩
    · exact h.elim
    · cases h
    · cases h
  · cases h
    rcases slice_cells hx (.inl rfl) with ⟨rfl, A, c, rfl⟩ | ⟨A, c, sz, rfl, _, _, hc, _⟩
    · exact ⟨_, _, rfl, Nat.zero_le _⟩
    · exact ⟨_, _, rfl, hc⟩
  · cases h
    rcases slice_cells hx (.inr ⟨_, rfl⟩) with ⟨rfl, A, c, rfl⟩ | ⟨A, c, sz, rfl, _, _, hc, _⟩
    · exact ⟨_, _, rfl, Nat.zero_le _⟩
    · exact ⟨_, _, rfl, hc⟩
  · rename_i id
    split at h
    · rename_i ety sz0 fl es hη
      cases h
      obtain ⟨hι, A, n, cp, rfl⟩ := row_inv hx
      obtain ⟨v, hv, hobj⟩ := hrel.obj id _ hη
      rw [hι] at hv
      cases hv
      obtain ⟨xs, _, ⟨hown, hwr⟩, _⟩ := hobj
      rcases hown.2 with ⟨h1, h2⟩ | ⟨g, cap, cur, hv, _, _, hle, _⟩
      · injection h1 with h1 h3 h4
        exact ⟨A, cp, by rw [h3, h2], by omega⟩
      · injection hv with h1 h3 h4
        subst h3 h4
        exact ⟨A, _, rfl, hle⟩
    · cases h
  · cases h
    obtain ⟨b, c, _, rfl, hc⟩ := bsl_inv hx
    exact ⟨_, _, rfl, hc⟩
  · cases h

def lenOp (P : Program) (η : Nat → Option O) (t : TypeId) (x : D) : Option D :=
  match P.underlying t with
  | some .string => match x with
    | .x (.string s) => some (.x (.int .i64 s.size))
    | _ => none
  | some (.array n _) => some (.x (.int .i64 n))
  | some (.slice _) => match lenD η x with
    | some n => some (.x (.int .i64 n))
    | none => none
  | _ => none
theorem len_sound {N : Nat} {w0 : Bs} {ρ : Nat → D} {η : Nat → Option O} {a : Act} (hrel : Rel N B w0 ι ρ η a w) {t : TypeId} {dx d : D} {vx : Value} (hx : Rep w B ι vx dx) (h : lenOp P η t dx = some d) (ts : Array TypeId) (hts : ts[0]? = some t) (ty : TypeId) :
    ∃ v, (Builtin.len_ ts ty #[vx]).run P w = .ok v w ∧ Rep w B ι v d := by
  unfold lenOp at h
  split at h
  · rename_i hu
    split at h
    · cases h
      rw [hx.x_inv]
      exact ⟨_, by simp [Builtin.len_, hts, run_underlying hu, goInt], .inl (.inl (.x _))⟩
    · cases h
  · rename_i n e hu
    cases h
    refine ⟨.int .i64 n, ?_, .inl (.inl (.x _))⟩
    unfold Builtin.len_
    simp only [hts, List.getElem?_toArray, List.getElem?_cons_zero, Sem.run_bind, run_underlying hu, Result.andThen_ok]
    simp [goInt]
  · rename_i e hu
    split at h
    · rename_i n hn
      cases h
      obtain ⟨A, c, rfl, _⟩ := len_inv hrel hx hn
      exact ⟨_, by simp [Builtin.len_, hts, run_underlying hu, goInt], .inl (.inl (.x _))⟩
    · cases h
  · cases h

def min2D : D → D → Option D
  | .x (.int k a), .x (.int _ b) => some (.x (.int k (if b < a then b else a)))
  | _, _ => none
def max2D : D → D → Option D
  | .x (.int k a), .x (.int _ b) => some (.x (.int k (if a < b then b else a)))
  | _, _ => none
def foldD (f : D → D → Option D) : D → List D → Option D
  | d, [] => some d
  | d, e :: r => match f d e with
    | some d' => foldD f d' r
    | none => none
theorem fold_sound {f : D → D → Option D} {g : Value → Value → Sem Value} (hfg : ∀ d e r vd ve, f d e = some r → Rep w B ι vd d → Rep w B ι ve e → ∃ v, (g vd ve).run P w = .ok v w ∧ Rep w B ι v r) :
    ∀ (es : List D) (vs : List Value) (d : D) (v : Value) (r : D), es.length = vs.length → (∀ (i : Nat) (e : D) (u : Value), es[i]? = some e → vs[i]? = some u → Rep w B ι u e) → Rep w B ι v d → foldD f d es = some r →
      ∃ u, (vs.foldlM g v).run P w = .ok u w ∧ Rep w B ι u r
  | [], [], d, v, r, _, _, hv, h => by cases h; exact ⟨v, by simp, hv⟩
  | [], _ :: _, _, _, _, h, _, _, _ => by cases h
  | _ :: _, [], _, _, _, h, _, _, _ => by cases h
  | e :: es, u :: vs, d, v, r, hl, hr, hv, h => by
    unfold foldD at h
    split at h
    · rename_i d' hd'
      obtain ⟨v', hv', hr'⟩ := hfg d e d' v u hd' hv (hr 0 e u rfl rfl)
      obtain ⟨u', hu', hru⟩ := fold_sound hfg es vs d' v' r (by simpa using hl) (fun i e u h1 h2 => hr (i + 1) e u (by simpa using h1) (by simpa using h2)) hr' h
      exact ⟨u', by simp [List.foldlM_cons, hv', hu'], hru⟩
    · cases h
theorem min2_sound (d e r : D) (vd ve : Value) (h : min2D d e = some r) (hd : Rep w B ι vd d) (he : Rep w B ι ve e) : ∃ v, (Builtin.min2 vd ve).run P w = .ok v w ∧ Rep w B ι v r := by
  unfold min2D at h
  split at h
  · cases h
    rw [hd.x_inv, he.x_inv]
    exact ⟨_, by simp [Builtin.min2], .inl (.inl (.x _))⟩
  · cases h
theorem max2_sound (d e r : D) (vd ve : Value) (h : max2D d e = some r) (hd : Rep w B ι vd d) (he : Rep w B ι ve e) : ∃ v, (Builtin.max2 vd ve).run P w = .ok v w ∧ Rep w B ι v r := by
  unfold max2D at h
  split at h
  · cases h
    rw [hd.x_inv, he.x_inv]
    exact ⟨_, by simp [Builtin.max2], .inl (.inl (.x _))⟩
  · cases h

end
end Go.Abs
