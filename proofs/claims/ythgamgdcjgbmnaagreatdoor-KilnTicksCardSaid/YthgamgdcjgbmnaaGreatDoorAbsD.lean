/-
  Slicing, building, new objects and calls of the abstract interpreter; the free operations as one function, and that it is sound.
-/
import Derived.Test.YthgamgdcjgbmnaaGreatDoorAbsC
namespace Go.Abs
set_option linter.unusedSimpArgs false
set_option linter.unusedVariables false
open Go Go.RowKit

section
variable {P : Program} {w : World} {B : Nat} {ι : Inj}

/-! ### Slicing -/
def bnd (dflt : Nat) : Option D → Option Int
  | none => some dflt
  | some (.x (.int _ i)) => some i
  | _ => none
def cutD (es : List (List D)) (l h : Int) : List (List D) := (es.take h.toNat).drop l.toNat
def sliceD (P : Program) (t : TypeId) (x : D) (lo hi : Option D) : Option D :=
  match P.underlying t with
  | some .string => match x with
    | .x (.string s) => match bnd 0 lo, bnd s.size hi with
      | some l, some h => if 0 ≤ l ∧ l ≤ h ∧ h ≤ (s.size : Int) then some (.x (.string (s.extract l.toNat h.toNat))) else none
      | _, _ => none
    | _ => none
  | some (.slice e) => match szT P e with
    | some sz => match x with
      | .sl es => match bnd 0 lo, bnd es.length hi with
        | some l, some h => if es.all (fun c => c.length == sz) = true ∧ 0 ≤ l ∧ l ≤ h ∧ h ≤ (es.length : Int) then some (.sl (cutD es l h)) else none
        | _, _ => none
      | .own fl es => match bnd 0 lo, bnd es.length hi with
        | some l, some h => if es.all (fun c => c.length == sz) = true ∧ 0 ≤ l ∧ l ≤ h ∧ h ≤ (es.length : Int) then some (.own fl (cutD es l h)) else none
        | _, _ => none
      | _ => none
    | none => none
  | some (.array n e) => match szT P e, x, lo, hi with
    | some sz, .ptr id off, none, none => some (.bsl id off n sz)
    | _, _, _, _ => none
  | _ => none

/-- The values of bounds. -/
def BndRel (w : World) (B : Nat) (ι : Inj) : Option Value → Option D → Prop
  | none, none => True
  | some v, some d => Rep w B ι v d
  | _, _ => False

theorem bounds_run {isS : Bool} {len cap : Nat} {lo hi : Option D} {vlo vhi : Option Value} (hlo : BndRel w B ι vlo lo) (hhi : BndRel w B ι vhi hi) {l h : Int} (el : bnd 0 lo = some l) (eh : bnd len hi = some h)
    (h0 : 0 ≤ l) (h1 : l ≤ h) (h2 : h ≤ (len : Int)) (hc : len ≤ cap) : (Instr.sliceBounds isS len cap vlo vhi none).run P w = .ok (l.toNat, h.toNat, cap) w := by
  have dl : (vlo = none ∧ l = 0) ∨ ∃ k, vlo = some (.int k l) := by
    cases vlo <;> cases lo <;> simp only [BndRel] at hlo
    · simp [bnd] at el; exact .inl ⟨rfl, el.symm⟩
    · rename_i v d
      unfold bnd at el
      split at el
      · rename_i e; cases e
      · rename_i k i e
        cases el; cases e
        exact .inr ⟨k, by rw [hlo.x_inv]⟩
      · cases el
  have dh : (vhi = none ∧ h = len) ∨ ∃ k, vhi = some (.int k h) := by
    cases vhi <;> cases hi <;> simp only [BndRel] at hhi
    · simp [bnd] at eh; exact .inl ⟨rfl, eh.symm⟩
    · rename_i v d
      unfold bnd at eh
      split at eh
      · rename_i e; cases e
      · rename_i k i e
        cases eh; cases e
        exact .inr ⟨k, by rw [hhi.x_inv]⟩
      · cases eh
  have hn : (h.toNat : Int) = h := Int.toNat_of_nonneg (by omega)
  rcases dl with ⟨rfl, rfl⟩ | ⟨kl, rfl⟩ <;> rcases dh with ⟨rfl, rfl⟩ | ⟨kh, rfl⟩
  · simp [Instr.sliceBounds]
  · simp [Instr.sliceBounds, run_sliceBound w kh h cap _ (by omega) (by omega)]
  · simp [Instr.sliceBounds, run_sliceBound w kl l len _ (by omega) (by omega)]
  · simp [Instr.sliceBounds, run_sliceBound w kh h cap _ (by omega) (by omega), run_sliceBound w kl l h.toNat _ (by omega) (by omega)]

theorem cut_rep {v : Value} {dx : D} {es : List (List D)} (hx : Rep w B ι v dx) (hd : dx = .sl es ∨ ∃ fl, dx = .own fl es) {l h : Int} (h0 : 0 ≤ l) (h1 : l ≤ h) (h2 : h ≤ (es.length : Int)) {e : TypeId} {sz0 : Nat} (hs0 : sz0 = sz0)
    {A : Option Addr} {n c : Nat} (hv : v = .slice A n c) (hsz0 : ∀ (i : Nat) (x : List D), es[i]? = some x → x.length = sz0) :
    (dx = .sl es → Rep w B ι (sliced A l.toNat h.toNat c sz0) (.sl (cutD es l h))) ∧ (∀ fl, dx = .own fl es → Rep w B ι (sliced A l.toNat h.toNat c sz0) (.own fl (cutD es l h))) := by
  have hlen : (cutD es l h).length = h.toNat - l.toNat := by
    unfold cutD
    simp
    omega
  have hget : ∀ i x, (cutD es l h)[i]? = some x → es[l.toNat + i]? = some x := by
    intro i x hi
    have hlt := (List.getElem?_eq_some_iff.1 hi).1
    rw [hlen] at hlt
    unfold cutD at hi
    rw [List.getElem?_drop, List.getElem?_take_of_lt (by omega)] at hi
    exact hi
  rcases slice_cells hx hd with ⟨rfl, A', c', rfl⟩ | ⟨A', c', sz, rfl, hb, hlt, hcap, hic, hsz, hcell, hrep⟩
  · have e0 : cutD [] l h = [] := by simp [cutD]
    have e1 : h.toNat - l.toNat = 0 := by simp at h2; omega
    cases hv
    constructor
    · intro _; rw [e0]; unfold sliced; rw [e1]; exact .inl (.inl (.sl0 _ _))
    · intro fl _; rw [e0]; unfold sliced; rw [e1]; exact .inl (.inl (.own0 _ _ _))
  · cases hv
    by_cases hz : (cutD es l h).length = 0
    · have e0 : cutD es l h = [] := List.eq_nil_of_length_eq_zero hz
      have e1 : h.toNat - l.toNat = 0 := by omega
      constructor
      · intro _; rw [e0]; unfold sliced; rw [e1]; exact .inl (.inl (.sl0 _ _))
      · intro fl _; rw [e0]; unfold sliced; rw [e1]; exact .inl (.inl (.own0 _ _ _))
    · have hne : c ≠ l.toNat := by omega
      have hszz : sz = sz0 := by
        have hl : 0 < es.length := by omega
        rw [← hsz0 0 es[0] (List.getElem?_eq_getElem hl), hsz _ (List.getElem_mem hl)]
      subst hszz
      have hval : sliced (some A') l.toNat h.toNat c sz = .slice (some (A'.add (l.toNat * sz))) (cutD es l h).length (c - l.toNat) := by
        unfold sliced
        rw [if_neg hne, hlen]
        rfl
      have hcap' : (cutD es l h).length ≤ c - l.toNat := by omega
      have mem : ∀ x, x ∈ cutD es l h → x ∈ es := fun x hx => List.mem_of_mem_take (List.mem_of_mem_drop hx)
      have hcell' : ∀ i j, i < (cutD es l h).length → j < sz → ∃ u, w.cell? ((A'.add (l.toNat * sz)).add (i * sz + j)) = some u ∧ u.oneCell' = true := by
        intro i j hi hj
        rw [add_add', ← Nat.add_assoc, ← Nat.add_mul]
        exact hcell (l.toNat + i) j (by omega) hj
      have hrep' : ∀ (i : Nat) (e : List D) (j : Nat) (d : D) (u : Value), (cutD es l h)[i]? = some e → e[j]? = some d → w.cell? ((A'.add (l.toNat * sz)).add (i * sz + j)) = some u → RepI w (okB ι) (frB B ι) u d := by
        intro i e j d u he hd hu
        rw [add_add', ← Nat.add_assoc, ← Nat.add_mul] at hu
        exact hrep (l.toNat + i) e j d u (hget i e he) hd hu
      constructor
      · intro _
        rw [hval]
        exact .inl (.inl (.sl (by rw [add_block]; exact hb) (by rw [add_block]; exact hlt) hcap' (fun x hx => hic x (mem x hx)) (fun x hx => hsz x (mem x hx)) hcell' hrep'))
      · rintro fl rfl
        rw [hval]
        have hfr : frB B ι A'.block ∧ (fl = true → ∀ e ∈ es, ∀ d ∈ e, ∃ v, d = .x v) := by
          rcases hx with (hx | hx) | ⟨_, hx, _⟩ | ⟨_, hx, _⟩
          · generalize hvv : Value.slice (some A') es.length c = vv at hx
            cases hx with
            | own0 A c => cases hvv; simp at hz; simp [cutD] at hz
            | own hb _ _ _ _ _ _ hfl => cases hvv; exact ⟨hb, hfl⟩
          · exact hx.elim
          · cases hx
          · cases hx
        exact .inl (.inl (.own (by rw [add_block]; exact hfr.1) (by rw [add_block]; exact hlt) hcap' (fun x hx => hic x (mem x hx)) (fun x hx => hsz x (mem x hx)) hcell' hrep' (fun h x hx => hfr.2 h x (mem x hx))))

theorem slice_sound {t : TypeId} {dx d : D} {vx : Value} {lo hi : Option D} {vlo vhi : Option Value} (hx : Rep w B ι vx dx) (hlo : BndRel w B ι vlo lo) (hhi : BndRel w B ι vhi hi) (h : sliceD P t dx lo hi = some d) :
    ∃ v, (Instr.sliceAt t vx vlo vhi none).run P w = .ok v w ∧ Rep w B ι v d := by
  unfold sliceD at h
  split at h
  · rename_i hu
    split at h
    · rename_i s
      rw [hx.x_inv]
      split at h
      · rename_i l hh el eh
        split at h
        · rename_i hb
          cases h
          have := bounds_run (P := P) (isS := false) (cap := s.size) hlo hhi el eh hb.1 hb.2.1 hb.2.2 (Nat.le_refl _)
          exact ⟨_, by simp [Instr.sliceAt, Instr.slice, run_underlying hu, this], .inl (.inl (.x _))⟩
        · cases h
      · cases h
    · cases h
  · rename_i e hu
    split at h
    · rename_i sz hs
      have run : ∀ (A : Option Addr) (n c : Nat) (l h : Int), (Instr.sliceBounds true n c vlo vhi none).run P w = .ok (l.toNat, h.toNat, c) w →
          (Instr.sliceAt t (.slice A n c) vlo vhi none).run P w = .ok (sliced A l.toNat h.toNat c sz) w := by
        intro A n c l h hb
        simp [Instr.sliceAt, Instr.slice, run_underlying hu, hb, run_sizeOf hs, sliced]
      have hall : ∀ {es : List (List D)}, es.all (fun c => c.length == sz) = true → ∀ (i : Nat) (x : List D), es[i]? = some x → x.length = sz := by
        intro es hes i x hi
        have := List.all_eq_true.1 hes x (List.mem_of_getElem? hi)
        simpa using this
      split at h
      · rename_i es
        split at h
        · rename_i l hh el eh
          split at h
          · rename_i hb
            cases h
            have hcap : ∃ A c, vx = .slice A es.length c ∧ es.length ≤ c := by
              rcases slice_cells hx (.inl rfl) with ⟨rfl, A, c, rfl⟩ | ⟨A, c, sz, rfl, _, _, hc, _⟩
              · exact ⟨_, _, rfl, Nat.zero_le _⟩
              · exact ⟨_, _, rfl, hc⟩
            obtain ⟨A, c, rfl, hc⟩ := hcap
            exact ⟨_, run A _ c l hh (bounds_run hlo hhi el eh hb.2.1 hb.2.2.1 hb.2.2.2 hc), (cut_rep hx (.inl rfl) hb.2.1 hb.2.2.1 hb.2.2.2 (e := e) rfl rfl (hall hb.1)).1 rfl⟩
          · cases h
        · cases h
      · rename_i fl es
        split at h
        · rename_i l hh el eh
          split at h
          · rename_i hb
            cases h
            have hcap : ∃ A c, vx = .slice A es.length c ∧ es.length ≤ c := by
              rcases slice_cells hx (.inr ⟨_, rfl⟩) with ⟨rfl, A, c, rfl⟩ | ⟨A, c, sz, rfl, _, _, hc, _⟩
              · exact ⟨_, _, rfl, Nat.zero_le _⟩
              · exact ⟨_, _, rfl, hc⟩
            obtain ⟨A, c, rfl, hc⟩ := hcap
            exact ⟨_, run A _ c l hh (bounds_run hlo hhi el eh hb.2.1 hb.2.2.1 hb.2.2.2 hc), (cut_rep hx (.inr ⟨_, rfl⟩) hb.2.1 hb.2.2.1 hb.2.2.2 (e := e) rfl rfl (hall hb.1)).2 fl rfl⟩
          · cases h
        · cases h
      · cases h
    · cases h
  · rename_i n e hu
    split at h
    · rename_i sz id off hs
      cases h
      cases vlo <;> simp only [BndRel] at hlo
      cases vhi <;> simp only [BndRel] at hhi
      obtain ⟨b, hι, rfl⟩ := hx.ptr_inv
      exact ⟨.slice (some ⟨b, off, none⟩) n n, by simp [Instr.sliceAt, Instr.sureAddr, run_underlying hu, Instr.sliceBounds, run_sizeOf hs, Addr.add], .inl (.inr ⟨b, n, hι, rfl, Nat.le_refl n⟩)⟩
    · cases h
  · cases h

/-- A slice of length 0 and capacity 0: 's[:0:0]'. -/
def slice3D (P : Program) (t : TypeId) (x : D) (lo hi : Option D) (mx : D) : Option D :=
  match P.underlying t with
  | some (.slice e) => match szT P e, bnd 0 lo, hi, mx with
    | some _, some l, some (.x (.int _ h)), .x (.int _ m) => if l = 0 ∧ h = 0 ∧ m = 0 then
        match x with
        | .sl _ => some .cap0
        | .own _ _ => some .cap0
        | .emp => some .cap0
        | _ => none
      else none
    | _, _, _, _ => none
  | _ => none
theorem slice3_sound {t : TypeId} {dx d : D} {vx : Value} {lo hi : Option D} {vlo vhi : Option Value} {dm : D} {vm : Value} (hx : Rep w B ι vx dx) (hlo : BndRel w B ι vlo lo) (hhi : BndRel w B ι vhi hi) (hm : Rep w B ι vm dm) (h : slice3D P t dx lo hi dm = some d) :
    ∃ v, (Instr.sliceAt t vx vlo vhi (some vm)).run P w = .ok v w ∧ Rep w B ι v d := by
  unfold slice3D at h
  split at h
  · rename_i e hu
    split at h
    · rename_i sz l k hh k' m hs hl
      split at h
      · rename_i h0
        obtain ⟨rfl, rfl, rfl⟩ := h0
        have run : ∀ (A : Option Addr) (n c : Nat), vx = .slice A n c → ∃ v, (Instr.sliceAt t vx vlo vhi (some vm)).run P w = .ok v w ∧ Rep w B ι v .cap0 := by
          rintro A n c rfl
          refine ⟨.slice A 0 0, ?_, .inl (.inl (.cap0 A))⟩
          rw [hm.x_inv]
          cases vhi with
          | none => simp [BndRel] at hhi
          | some vh =>
            have hvh : vh = .int k 0 := Rep.x_inv hhi
            subst hvh
            have hlow : vlo = none ∨ ∃ k0, vlo = some (.int k0 0) := by
              cases lo with
              | none => cases vlo <;> simp [BndRel] at hlo ⊢
              | some dl =>
                cases vlo with
                | none => simp [BndRel] at hlo
                | some vl =>
                  right
                  unfold bnd at hl
                  split at hl
                  · rename_i e; cases e
                  · rename_i kk i e
                    cases hl; cases e
                    exact ⟨kk, by rw [Rep.x_inv hlo]⟩
                  · cases hl
            have b0 : ∀ (k : IntKind) (n : Nat) (code : BoundsCode), (Instr.sliceBound (.int k 0) n code).run P w = .ok 0 w := fun k n code => by
              have := run_sliceBound (P := P) w k 0 n code (by omega) (by omega)
              simpa using this
            rcases hlow with rfl | ⟨k0, rfl⟩ <;> simp [Instr.sliceAt, Instr.slice, run_underlying hu, Instr.sliceBounds, b0, run_sizeOf hs]
        split at h
        · cases h
          rcases slice_cells hx (.inl rfl) with ⟨rfl, A, c, rfl⟩ | ⟨A, c, sz, rfl, _⟩
          · exact run _ _ _ rfl
          · exact run _ _ _ rfl
        · cases h
          rcases slice_cells hx (.inr ⟨_, rfl⟩) with ⟨rfl, A, c, rfl⟩ | ⟨A, c, sz, rfl, _⟩
          · exact run _ _ _ rfl
          · exact run _ _ _ rfl
        · cases h
          have := (hx.one_inv (fun _ e => by cases e)).resolve_right (fun h => h.elim)
          cases this
          exact run _ _ _ rfl
        · cases h
      · cases h
    · cases h
  · cases h

/-! ### Building -/
def shapeOk : D → Bool
  | .agg _ => true
  | d => one d
theorem cells_rel {v : Value} {d : D} (h : Rep w B ι v d) (hs : shapeOk d = true) : CellsRel (Rep1 w B ι) v.cells (cellsD d) := by
  by_cases hd : ∃ ds, d = .agg ds
  · obtain ⟨ds, rfl⟩ := hd
    obtain ⟨cs, rfl, hl, hc⟩ := h.agg_inv
    exact ⟨hl, hc⟩
  · have hne : ∀ ds, d ≠ .agg ds := fun ds e => hd ⟨ds, e⟩
    have h1 : one d = true := by cases d <;> first | exact hs | exact absurd rfl (hne _)
    have hr := h.one_inv hne (by rintro ds rfl; cases h1)
    have hv := hr.one h1
    have e1 : v.cells = #[v] := by cases v <;> first | rfl | cases hv
    have e2 : cellsD d = [d] := by cases d <;> first | rfl | exact absurd rfl (hne _)
    rw [e1, e2]
    refine ⟨rfl, fun i c e h1 h2 => ?_⟩
    cases i with
    | zero => simp at h1 h2; subst h1 h2; exact hr
    | succ i => simp at h2

def fillD (place : Nat → Option (Nat × Nat)) (cs : List D) : List (Nat × List D) → Option (List D)
  | [] => some cs
  | (i, e) :: r => match place i with
    | none => none
    | some (off, n) => if e.length = n ∧ off + n ≤ cs.length then fillD place (cs.take off ++ (e ++ cs.drop (off + n))) r else none

theorem splice_get (vs : List Value) : ∀ (off : Nat) (k0 : Nat) (cs : Array Value) (k : Nat), off + k0 + vs.length ≤ cs.size →
    ((vs.zipIdx k0).foldl (fun (cs : Array Value) (p : Value × Nat) => cs.setIfInBounds (off + p.2) p.1) cs)[k]? = if off + k0 ≤ k ∧ k < off + k0 + vs.length then vs[k - (off + k0)]? else cs[k]? := by
  induction vs with
  | nil => intro off k0 cs k h; simp; intro h1 h2; omega
  | cons v vs ih =>
    intro off k0 cs k h
    simp only [List.zipIdx_cons, List.foldl_cons]
    rw [ih off (k0 + 1) _ k (by simp at h ⊢; omega)]
    by_cases h1 : k = off + k0
    · subst h1
      rw [if_neg (by omega), if_pos (by simp), Array.getElem?_setIfInBounds_self_of_lt (by simp at h; omega)]
      simp
    · rw [Array.getElem?_setIfInBounds_ne (by omega)]
      by_cases h2 : off + (k0 + 1) ≤ k ∧ k < off + (k0 + 1) + vs.length
      · rw [if_pos h2, if_pos (by simp; omega), show k - (off + k0) = k - (off + (k0 + 1)) + 1 by omega, List.getElem?_cons_succ]
      · rw [if_neg h2, if_neg (by simp; omega)]
theorem splice_size (vs : List (Value × Nat)) : ∀ (off : Nat) (cs : Array Value), (vs.foldl (fun (cs : Array Value) (p : Value × Nat) => cs.setIfInBounds (off + p.2) p.1) cs).size = cs.size := by
  induction vs with
  | nil => intro off cs; rfl
  | cons v vs ih => intro off cs; simp [ih]

theorem fill_sound {R : Value → D → Prop} {place : Nat → Option (Nat × Nat)} : ∀ (pv : List (Nat × Value)) (pd : List (Nat × List D)) (cs : Array Value) (ds ds' : List D), CellsRel R cs ds →
    pv.length = pd.length → (∀ (k : Nat) (p : Nat × Value) (q : Nat × List D), pv[k]? = some p → pd[k]? = some q → p.1 = q.1 ∧ CellsRel R p.2.cells q.2) → fillD place ds pd = some ds' →
    ∃ cs', Instr.fill place cs pv = some cs' ∧ CellsRel R cs' ds'
  | [], [], cs, ds, ds', hc, _, _, h => by cases h; exact ⟨cs, rfl, hc⟩
  | [], _ :: _, _, _, _, _, h, _, _ => by cases h
  | _ :: _, [], _, _, _, _, h, _, _ => by cases h
  | (i, v) :: pv, (i', e) :: pd, cs, ds, ds', hc, hl, hp, h => by
    obtain ⟨h1, h2⟩ := hp 0 (i, v) (i', e) rfl rfl
    simp only at h1 h2
    subst h1
    unfold fillD at h
    split at h
    · cases h
    · rename_i off n hpl
      split at h
      · rename_i hb
        have hvn : v.cells.size = n := by rw [h2.1]; exact hb.1
        have hcs := hc.1
        let cs1 := v.cells.zipIdx.foldl (fun cs (p : Value × Nat) => cs.setIfInBounds (off + p.2) p.1) cs
        have hget : ∀ k, cs1[k]? = if off ≤ k ∧ k < off + n then v.cells[k - off]? else cs[k]? := by
          intro k
          have := splice_get v.cells.toList off 0 cs k (by simp; omega)
          simp only [Nat.add_zero, Array.length_toList, hvn] at this
          show (v.cells.zipIdx.foldl _ cs)[k]? = _
          rw [← Array.foldl_toList, Array.toList_zipIdx]
          rw [this]
          simp
        have hrel1 : CellsRel R cs1 (ds.take off ++ (e ++ ds.drop (off + n))) := by
          have hsz : cs1.size = cs.size := by
            show (v.cells.zipIdx.foldl _ cs).size = _
            rw [← Array.foldl_toList, Array.toList_zipIdx]
            exact splice_size _ _ _
          refine ⟨by rw [hsz]; simp; omega, fun k c d hk hd => ?_⟩
          rw [hget] at hk
          by_cases hin : off ≤ k ∧ k < off + n
          · rw [if_pos hin] at hk
            rw [List.getElem?_append_right (by simp; omega)] at hd
            have hlt : (ds.take off).length = off := by simp; omega
            rw [hlt, List.getElem?_append_left (by omega)] at hd
            exact h2.2 _ c d hk hd
          · rw [if_neg hin] at hk
            by_cases hlt : k < off
            · rw [List.getElem?_append_left (by simp; omega), List.getElem?_take_of_lt hlt] at hd
              exact hc.2 k c d hk hd
            · have hlen : (ds.take off).length = off := by simp; omega
              rw [List.getElem?_append_right (by omega), hlen, List.getElem?_append_right (by omega), List.getElem?_drop, show off + n + (k - off - e.length) = k by omega] at hd
              exact hc.2 k c d hk hd
        obtain ⟨cs', hf, hr⟩ := fill_sound pv pd cs1 _ ds' hrel1 (by simpa using hl) (fun k p q h3 h4 => hp (k + 1) p q (by simpa using h3) (by simpa using h4)) h
        refine ⟨cs', ?_, hr⟩
        unfold Instr.fill
        simp only [hpl]
        rw [if_neg (by simp; omega)]
        exact hf
      · cases h

end
end Go.Abs
