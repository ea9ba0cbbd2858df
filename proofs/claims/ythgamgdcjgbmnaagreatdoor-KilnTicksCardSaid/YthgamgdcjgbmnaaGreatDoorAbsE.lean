/-
  New objects, building, calls by contract; the free operations as one function, and that it is sound.
-/
import Derived.Test.YthgamgdcjgbmnaaGreatDoorAbsD
namespace Go.Abs
set_option linter.unusedSimpArgs false
set_option linter.unusedVariables false
open Go Go.RowKit

section
variable {P : Program} {w : World} {B : Nat} {ι : Inj}

/-! ### Growing -/
theorem okB_new {t b : Nat} {vr : Value} (h : okB ι b) (hb : blk vr ≠ some b) : okB (updI ι t (some vr)) b := by
  refine ⟨h.1, fun i v hv => ?_⟩
  by_cases hi : i = t
  · subst hi; simp at hv; subst hv; exact hb
  · rw [updI_ne _ _ hi] at hv; exact h.2 i v hv
theorem RepI.grow {w' : World} {v vr : Value} {d : D} {t : Nat} (h : RepI w (okB ι) (frB B ι) v d) (hx : Ext w w') (hf : ∀ b, blk vr = some b → w.heap.size ≤ b) : RepI w' (okB (updI ι t (some vr))) (frB B (updI ι t (some vr))) v d :=
  h.mono hx.size
    (fun b hb ho => ⟨okB_new ho (fun e => by have := hf b e; omega), hx.block b hb⟩)
    (fun b hb ho => ⟨⟨ho.1, okB_new ho.2 (fun e => by have := hf b e; omega)⟩, hx.block b hb⟩)
theorem Rep1.grow {w' : World} {v vr : Value} {d : D} {t : Nat} (h : Rep1 w B ι v d) (ht : ι t = none) (hx : Ext w w') (hf : ∀ b, blk vr = some b → w.heap.size ≤ b) : Rep1 w' B (updI ι t (some vr)) v d := by
  rcases h with h | h
  · exact .inl (h.grow hx hf)
  · refine .inr ?_
    have key : ∀ i u, ι i = some u → updI ι t (some vr) i = some u := by
      intro i u hi
      rw [updI_ne]
      · exact hi
      · rintro rfl; rw [ht] at hi; cases hi
    cases d <;> simp only [Ref] at h ⊢
    case ptr => obtain ⟨b, h1, h2⟩ := h; exact ⟨b, key _ _ h1, h2⟩
    case row => exact ⟨key _ _ h.1, h.2⟩
    case rel => obtain ⟨b, n, c, h1, h2⟩ := h; exact ⟨b, n, c, key _ _ h1, h2⟩
    case bsl => obtain ⟨b, c, h1, h2⟩ := h; exact ⟨b, c, key _ _ h1, h2⟩
    case clo => obtain ⟨cap, h1, h2, h3⟩ := h; exact ⟨cap, h1, h2, fun i c k hc hk => ⟨key _ _ (h3 i c k hc hk).1, (h3 i c k hc hk).2⟩⟩
    case mp => exact ⟨key _ _ h.1, h.2⟩
theorem Rep.grow {w' : World} {v vr : Value} {d : D} {t : Nat} (h : Rep w B ι v d) (ht : ι t = none) (hx : Ext w w') (hf : ∀ b, blk vr = some b → w.heap.size ≤ b) : Rep w' B (updI ι t (some vr)) v d := by
  have := h.mapT (f := fun d => d) (fun v d h _ => h.grow ht hx hf) (fun v cs h => (Rep1.grow (.inl h) ht hx hf))
  rwa [mapT_id] at this
theorem ObjRel.grow {w' : World} {v vr : Value} {o : O} {t : Nat} (h : ObjRel w B ι v o) (ht : ι t = none) (hx : Ext w w') (hf : ∀ b, blk vr = some b → w.heap.size ≤ b) : ObjRel w' B (updI ι t (some vr)) v o := by
  cases o with
  | box ty cs =>
    obtain ⟨b, cur, h1, h2, h3, h4, h5⟩ := h
    exact ⟨b, cur, h1, h2, by rw [hx.block b (Array.getElem?_eq_some_iff.1 h3).1]; exact h3, h4, fun j c d hc hd => ⟨(h5 j c d hc hd).1.grow ht hx hf, (h5 j c d hc hd).2⟩⟩
  | row ety sz fl es =>
    obtain ⟨xs, h1, h2, h3, h4, h5⟩ := h
    exact ⟨xs, h1, ⟨ownsRow_ext h2.1 hx, h2.2⟩, h3, fun i e j d c he hd hc => (h4 i e j d c he hd hc).grow hx hf, h5⟩
  | mp es =>
    obtain ⟨r, ms, ck, h1, h2, h3, h4⟩ := h
    exact ⟨r, ms, ck, h1, h2, by rw [hx.block r (Array.getElem?_eq_some_iff.1 h3).1]; exact h3, h4⟩

theorem Rel.none_of {N : Nat} {w0 : Bs} {ρ : Nat → D} {η : Nat → Option O} {a : Act} (h : Rel N B w0 ι ρ η a w) {t : Nat} (ht : η t = none) : ι t = none := by
  cases hi : ι t with
  | none => rfl
  | some v => obtain ⟨o, ho⟩ := h.dom t v hi; rw [ht] at ho; cases ho

/-- A new object. -/
theorem Rel.newO {N : Nat} {w0 : Bs} {ρ : Nat → D} {η : Nat → Option O} {a : Act} {w' : World} (h : Rel N B w0 ι ρ η a w) {t : Nat} (ht : t < 1000 ∨ 10000 ≤ t) (hη : η t = none) (hx : Ext w w') {vr : Value} {ob : O}
    (hf : ∀ b, blk vr = some b → w.heap.size ≤ b) (ho : ObjRel w' B (updI ι t (some vr)) vr ob) :
    Rel N B w0 (updI ι t (some vr)) ρ (upd η t (some ob)) a w' where
  defers := h.defers
  size := h.size
  tmp i := (h.tmp i).grow (h.none_of hη) hx hf
  obj i o hi := by
    by_cases hit : i = t
    · subst hit
      simp at hi
      subst hi
      exact ⟨vr, by simp, ho⟩
    · rw [upd_ne _ _ hit] at hi
      obtain ⟨u, hu, hr⟩ := h.obj i o hi
      exact ⟨u, by rw [updI_ne _ _ hit]; exact hu, hr.grow (h.none_of hη) hx hf⟩
  dom i u hi := by
    by_cases hit : i = t
    · subst hit; exact ⟨ob, by simp⟩
    · rw [updI_ne _ _ hit] at hi
      rw [upd_ne _ _ hit]
      exact h.dom i u hi
  inj i i' u u' b h1 h2 h3 h4 := by
    by_cases hi : i = t <;> by_cases hi' : i' = t
    · rw [hi, hi']
    · subst hi
      simp at h1; subst h1
      rw [updI_ne _ _ hi'] at h2
      have := (h.blk_lt h2 h4).2
      have := hf b h3
      omega
    · subst hi'
      simp at h2; subst h2
      rw [updI_ne _ _ hi] at h1
      have := (h.blk_lt h1 h3).2
      have := hf b h4
      omega
    · rw [updI_ne _ _ hi] at h1
      rw [updI_ne _ _ hi'] at h2
      exact h.inj i i' u u' b h1 h2 h3 h4
  below := h.below.ext h.base hx
  base := Nat.le_trans h.base hx.size
  fresh := h.fresh
  kk := h.kk
  zz := h.zz
  k0 i v hv h1 h2 := by
    rw [updI_ne _ _ (by rintro rfl; omega)]
    exact h.k0 i v hv h1 h2
  nn := h.nn
  glob g cs hg := (h.glob g cs hg).grow hx hf
/-- A new object in a slot. -/
theorem Rel.new {N : Nat} {w0 : Bs} {ρ : Nat → D} {η : Nat → Option O} {a : Act} {w' : World} (h : Rel N B w0 ι ρ η a w) {t : Nat} (ht : t < N) (hη : η t = none) (hx : Ext w w') {v vr : Value} {d : D} {ob : O}
    (hf : ∀ b, blk vr = some b → w.heap.size ≤ b) (ho : ObjRel w' B (updI ι t (some vr)) vr ob) (hv : Rep w' B (updI ι t (some vr)) v d) :
    Rel N B w0 (updI ι t (some vr)) (upd ρ t d) (upd η t (some ob)) (a.put (some t) v) w' :=
  (h.newO (.inl (Nat.lt_of_lt_of_le ht h.nn)) hη hx hf ho).put ht hv

/-- What an operation leaves. -/
def Good (B : Nat) (ι : Inj) (t : Nat) (w w' : World) (v : Value) (d : D) : Option O → Prop
  | none => Ext w w' ∧ Rep w' B ι v d
  | some ob => ∃ vr, Ext w w' ∧ (∀ b, blk vr = some b → w.heap.size ≤ b) ∧ ObjRel w' B (updI ι t (some vr)) vr ob ∧ Rep w' B (updI ι t (some vr)) v d

theorem good_same {t : Nat} {v : Value} {d : D} (h : Rep w B ι v d) : Good B ι t w w v d none := ⟨Below.refl _ _, h⟩

theorem ext_alloc (w : World) (o : Obj) : Ext w (w.alloc o) := (Below.refl _ _).alloc (Nat.le_refl _) _

/-! ### Boxes -/
theorem box_good {N : Nat} {w0 : Bs} {ρ : Nat → D} {η : Nat → Option O} {a : Act} (hrel : Rel N B w0 ι ρ η a w) {t : Nat} (hη : η t = none) {cells : Array Value} {cs : List D} (e : TypeId)
    (hc : CellsRel (Rep1 w B ι) cells cs) (h1 : cs.all one = true) :
    Good B ι t w (w.alloc (.cells cells e)) (.pointer (some ⟨w.heap.size, 0, none⟩)) (.ptr t 0) (some (.box e cs)) := by
  have hx := ext_alloc w (.cells cells e)
  have hf : ∀ b, blk (.pointer (some ⟨w.heap.size, 0, none⟩)) = some b → w.heap.size ≤ b := by intro b hb; simp [blk] at hb; omega
  refine ⟨.pointer (some ⟨w.heap.size, 0, none⟩), hx, hf, ⟨w.heap.size, cells, rfl, .inl hrel.base, heap_alloc_new w _, hc.1, fun j c d hj hd => ?_⟩, .inl (.inr ⟨w.heap.size, by simp, rfl⟩)⟩
  have hr := hc.2 j c d hj hd
  exact ⟨hr.grow (hrel.none_of hη) hx hf, hr.one (List.all_eq_true.1 h1 d (List.mem_of_getElem? hd))⟩

theorem zero_run {t : TypeId} {cs : List D} (h : zeroD P t = some cs) : ∃ z : Value, (zeroValue t).run P w = .ok z w ∧ cs = z.cells.toList.map ofV1 := by
  unfold zeroD at h
  split at h
  · rename_i i hi
    split at h
    · rename_i z hz
      cases h
      exact ⟨z, by simp [zeroValue, typeInfo, hi, hz], rfl⟩
    · cases h
  · cases h
theorem zero_cells (z : Value) : CellsRel (Rep1 w B ι) z.cells (z.cells.toList.map ofV1) := by
  refine ⟨by simp, fun i c d h1 h2 => ?_⟩
  rw [List.getElem?_map, Array.getElem?_toList, h1] at h2
  simp at h2
  subst h2
  exact .inl (rep_ofV1 c _ _)

/-! ### Building -/
def buildT (P : Program) (t : TypeId) : Option (List (Nat × Nat) × List D) :=
  match P.underlying t, zeroD P t with
  | some (.struct fs), some zs => match fs.toList.mapM (fun f => (szT P f.type).map fun n => (f.offset, n)) with
    | some pl => some (pl, zs)
    | none => none
  | some (.array n e), some zs => match szT P e with
    | some sz => some ((List.range n).map (fun i => (i * sz, sz)), zs)
    | none => none
  | _, _ => none
def partsD (ρ : Nat → D) : List (Nat × Operand) → Option (List (Nat × List D))
  | [] => some []
  | (i, x) :: r => if shapeOk (ev ρ x) then match partsD ρ r with
      | some ps => some ((i, cellsD (ev ρ x)) :: ps)
      | none => none
    else none
def buildD (P : Program) (ρ : Nat → D) (t : TypeId) (parts : Array (Nat × Operand)) : Option D :=
  match buildT P t, partsD ρ parts.toList with
  | some (pl, zs), some ps => match fillD (fun i => pl[i]?) zs ps with
    | some cs => some (.agg cs)
    | none => none
  | _, _ => none

theorem fillD_mono {p q : Nat → Option (Nat × Nat)} (hpq : ∀ i x, p i = some x → q i = some x) : ∀ (ps : List (Nat × List D)) (cs cs' : List D), fillD p cs ps = some cs' → fillD q cs ps = some cs'
  | [], _, _, h => h
  | (i, e) :: r, cs, cs', h => by
    unfold fillD at h ⊢
    split at h
    · cases h
    · rename_i off n hp
      rw [hpq i _ hp]
      simp only
      split at h
      · rename_i hb
        rw [if_pos hb]
        exact fillD_mono hpq r _ _ h
      · cases h

theorem parts_rel {N : Nat} {w0 : Bs} {ρ : Nat → D} {η : Nat → Option O} {a : Act} (hrel : Rel N B w0 ι ρ η a w) : ∀ (ps : List (Nat × Operand)) (qs : List (Nat × List D)), partsD ρ ps = some qs →
    (ps.map fun p => (p.1, a.eval p.2)).length = qs.length ∧ ∀ (k : Nat) (p : Nat × Value) (q : Nat × List D), (ps.map fun p => (p.1, a.eval p.2))[k]? = some p → qs[k]? = some q → p.1 = q.1 ∧ CellsRel (Rep1 w B ι) p.2.cells q.2
  | [], qs, h => by cases h; exact ⟨rfl, fun k p q h1 _ => by simp at h1⟩
  | (i, x) :: r, qs, h => by
    unfold partsD at h
    split at h
    · rename_i hs
      split at h
      · rename_i ps hp
        cases h
        obtain ⟨h1, h2⟩ := parts_rel hrel r ps hp
        refine ⟨by simpa using h1, fun k p q hk hq => ?_⟩
        cases k with
        | zero =>
          simp at hk hq
          subst hk hq
          exact ⟨rfl, cells_rel (hrel.ev x) hs⟩
        | succ k => exact h2 k p q (by simpa using hk) (by simpa using hq)
      · cases h
    · cases h

theorem places_run {α : Type} {f : Field → Option α} {g : Field → Sem α} (hfg : ∀ x y, f x = some y → (g x).run P w = .ok y w) : ∀ (fs : List Field) (pl : List α), fs.mapM f = some pl → (fs.mapM g).run P w = .ok pl w
  | [], pl, h => by simp at h; subst h; simp
  | x :: r, pl, h => by
    simp only [List.mapM_cons] at h ⊢
    cases hx : f x with
    | none => simp [hx] at h
    | some y =>
      cases hr : r.mapM f with
      | none => simp [hx, hr] at h
      | some ys =>
        simp [hx, hr] at h
        subst h
        simp [hfg x y hx, places_run hfg r ys hr]

theorem build_sound {N : Nat} {w0 : Bs} {ρ : Nat → D} {η : Nat → Option O} {a : Act} (hrel : Rel N B w0 ι ρ η a w) {t : TypeId} {parts : Array (Nat × Operand)} {d : D} (h : buildD P ρ t parts = some d) :
    ∃ v, (Instr.build t (parts.map fun (i, x) => (i, a.eval x))).run P w = .ok v w ∧ Rep w B ι v d := by
  unfold buildD at h
  split at h
  · rename_i pl zs ps hb hp
    split at h
    · rename_i cs hfill
      cases h
      obtain ⟨hl, hpr⟩ := parts_rel hrel parts.toList ps hp
      have hmap : (parts.map fun (p : Nat × Operand) => (p.1, a.eval p.2)).toList = parts.toList.map fun p => (p.1, a.eval p.2) := by simp
      unfold buildT at hb
      split at hb
      · rename_i fs zs' hu hz
        split at hb
        · rename_i pl' hm
          cases hb
          obtain ⟨z, hzr, rfl⟩ := zero_run (w := w) hz
          obtain ⟨cs', hcs', hr⟩ := fill_sound _ ps z.cells _ cs (zero_cells z) hl hpr hfill
          have hplaces : (fs.mapM fun (f : Field) => (do pure (f.offset, ← Go.sizeOf f.type) : Sem (Nat × Nat))).run P w = .ok pl.toArray w := by
            rw [Array.mapM_eq_mapM_toList]
            have := places_run (P := P) (w := w) (f := fun f => (szT P f.type).map fun n => (f.offset, n)) (g := fun f => (do pure (f.offset, ← Go.sizeOf f.type) : Sem (Nat × Nat)))
              (fun x y hy => by
                simp only [Option.map_eq_some_iff] at hy
                obtain ⟨n, hn, rfl⟩ := hy
                simp [run_sizeOf hn]) fs.toList pl hm
            rw [map_eq_pure_bind, Sem.run_bind, this]
            rfl
          refine ⟨.agg cs', ?_, .inr (.inl ⟨cs, rfl, cs', rfl, hr⟩)⟩
          have hfill' : Instr.fill (fun i => pl.toArray[i]?) z.cells (parts.toList.map fun p => (p.1, a.eval p.2)) = some cs' := by
            rw [← hcs']
            congr 1
            funext i
            simp
          simp only [Instr.build, Sem.run_bind, hzr, Result.andThen_ok, run_underlying hu, hplaces]
          simp only [Array.toList_map, hfill']
          simp
        · cases hb
      · rename_i n e zs' hu hz
        split at hb
        · rename_i sz hs
          cases hb
          obtain ⟨z, hzr, rfl⟩ := zero_run (w := w) hz
          have hfill2 := fillD_mono (q := fun i => some (i * sz, sz)) (fun i x hx => by
            rw [List.getElem?_map] at hx
            simp only [Option.map_eq_some_iff] at hx
            obtain ⟨k, hk, rfl⟩ := hx
            have hk2 := List.getElem?_eq_some_iff.1 hk
            obtain ⟨_, hk2⟩ := hk2
            simp at hk2
            subst hk2
            rfl) ps _ cs hfill
          obtain ⟨cs', hcs', hr⟩ := fill_sound _ ps z.cells _ cs (zero_cells z) hl hpr hfill2
          refine ⟨.agg cs', ?_, .inr (.inl ⟨cs, rfl, cs', rfl, hr⟩)⟩
          simp only [Instr.build, Sem.run_bind, hzr, Result.andThen_ok, run_underlying hu, run_sizeOf hs]
          simp only [Array.toList_map, hcs']
          simp
        · cases hb
      · cases hb
    · cases h
  · cases h

end
end Go.Abs
