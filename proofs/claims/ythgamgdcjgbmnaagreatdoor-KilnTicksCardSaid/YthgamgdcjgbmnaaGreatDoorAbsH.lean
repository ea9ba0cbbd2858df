/-
  What operations with an effect do to the relation: a row is frozen, moved, appended to; a cell is stored.
-/
import Derived.Test.YthgamgdcjgbmnaaGreatDoorAbsG
import Derived.Laws.Tables
import Derived.Laws.CopyRow
namespace Go.Abs
set_option linter.unusedSimpArgs false
set_option linter.unusedVariables false
open Go Go.RowKit

section
variable {P : Program} {w : World} {B : Nat} {ι : Inj} {N : Nat} {w0 : Bs} {ρ : Nat → D} {η : Nat → Option O} {a : Act}

/-- A row that is frozen reads as a slice that nobody writes. -/
theorem Rel.freeze_rep (h : Rel N B w0 ι ρ η a w) {id : Nat} {ety : TypeId} {sz : Nat} {fl : Bool} {es : List (List D)} {v : Value} (hη : η id = some (.row ety sz fl es)) (hv : ι id = some v) :
    RepI w (okB (del ι id)) (frB B (del ι id)) v (.own fl es) := by
  obtain ⟨v', hv', hobj⟩ := h.obj id _ hη
  rw [hv] at hv'
  cases hv'
  have hobj' := hobj
  obtain ⟨xs, hsz, ⟨hown, hwr⟩, hlen, hrep, hone, hic, hfl⟩ := hobj
  rcases hown.2 with ⟨rfl, h2⟩ | ⟨g, cap, cur, rfl, hB, hh, hle, hmx, hcs, hxs⟩
  · have : es = [] := List.eq_nil_of_length_eq_zero h2
    subst this
    exact .own0 _ _ _
  · have hcells := (row_cells hobj').2.2.2
    have hB' : wrB B ι g := hwr g rfl
    have hok : okB (Abs.del ι id) g := by
      refine ⟨h.fresh g hB', fun i u hu hb => ?_⟩
      obtain ⟨hi, hu⟩ := del_some hu
      exact hi (h.inj i id u _ g hu hv hb rfl)
    refine .own (sz := sz) ⟨hB', hok⟩ (Array.getElem?_eq_some_iff.1 hh).1 hle hic hlen (fun i j hi hj => ?_) (fun i e j d u he hd hu => ?_) hfl
    · have he : es[i]? = some es[i] := List.getElem?_eq_getElem hi
      have hel := hlen _ (List.getElem_mem hi)
      obtain ⟨u, hu, _, h1⟩ := hcells i _ j _ he (List.getElem?_eq_getElem (by omega : j < es[i].length))
      rw [Addr.add_lit, Nat.zero_add]
      rw [hel] at hu
      exact ⟨u, hu, h1⟩
    · obtain ⟨u', hu', hr, _⟩ := hcells i e j d he hd
      rw [Addr.add_lit, Nat.zero_add] at hu
      rw [hlen e (List.mem_of_getElem? he), hu] at hu'
      cases hu'
      exact hr.del id

/-! ### One object is written -/
theorem not_ok {id b : Nat} {v : Value} (hv : ι id = some v) (hb : blk v = some b) : ¬ okB ι b := fun h => h.2 id v hv hb
theorem touch_RepI {w' : World} {row : Option Nat} (hr : ∀ b, row = some b → ¬ okB ι b) (hg : w.grownBy w' row) {u : Value} {d : D} (h : RepI w (okB ι) (frB B ι) u d) : RepI w' (okB ι) (frB B ι) u d :=
  h.mono hg.size (fun b hb ho => ⟨ho, hg.block b hb (fun e => hr b e.symm ho)⟩) (fun b hb ho => ⟨ho, hg.block b hb (fun e => hr b e.symm ho.2)⟩)
theorem touch_Rep1 {w' : World} {row : Option Nat} (hr : ∀ b, row = some b → ¬ okB ι b) (hg : w.grownBy w' row) {u : Value} {d : D} (h : Rep1 w B ι u d) : Rep1 w' B ι u d := h.imp (touch_RepI hr hg) id
theorem touch_Rep {w' : World} {row : Option Nat} (hr : ∀ b, row = some b → ¬ okB ι b) (hg : w.grownBy w' row) {u : Value} {d : D} (h : Rep w B ι u d) : Rep w' B ι u d := by
  have := h.mapT (f := fun d => d) (fun v d h _ => touch_Rep1 hr hg h) (fun v cs h => touch_Rep1 hr hg (.inl h))
  rwa [mapT_id] at this
theorem touch_Obj {w' : World} {row : Option Nat} (hr : ∀ b, row = some b → ¬ okB ι b) (hg : w.grownBy w' row) {v : Value} {o : O} (hne : ∀ b, blk v = some b → row ≠ some b) (h : ObjRel w B ι v o) : ObjRel w' B ι v o := by
  cases o with
  | box ty cs =>
    obtain ⟨b, cur, rfl, h2, h3, h4, h5⟩ := h
    exact ⟨b, cur, rfl, h2, by rw [hg.block b (Array.getElem?_eq_some_iff.1 h3).1 (fun e => hne b rfl e.symm)]; exact h3, h4, fun j c d hc hd => ⟨touch_Rep1 hr hg (h5 j c d hc hd).1, (h5 j c d hc hd).2⟩⟩
  | row ety sz fl es =>
    obtain ⟨xs, h1, h2, h3, h4, h5⟩ := h
    refine ⟨xs, h1, ⟨?_, h2.2⟩, h3, fun i e j d c he hd hc => touch_RepI hr hg (h4 i e j d c he hd hc), h5⟩
    refine ⟨h2.1.1, ?_⟩
    rcases h2.1.2 with h | ⟨g, cap, cur, e1, e2, e3, e4⟩
    · exact .inl h
    · exact .inr ⟨g, cap, cur, e1, e2, by rw [hg.block g (Array.getElem?_eq_some_iff.1 e3).1 (fun e => hne g (by rw [e1]; rfl) e.symm)]; exact e3, e4⟩
  | mp es =>
    obtain ⟨r, ms, ck, rfl, h2, h3, h4⟩ := h
    exact ⟨r, ms, ck, rfl, h2, by rw [hg.block r (Array.getElem?_eq_some_iff.1 h3).1 (fun e => hne r rfl e.symm)]; exact h3, h4⟩

theorem BelowZ.grown {B : Nat} {Z : Nat → Prop} {w w' w'' : World} {row : Option Nat} (h : BelowZ B Z w w') (hg : w'.grownBy w'' row) (hB : B ≤ w'.heap.size) (hr : ∀ k, row = some k → B ≤ k ∨ Z k) : BelowZ B Z w w'' :=
  ⟨hg.os.trans h.os, hg.tape.trans h.tape, hg.output.trans h.output, Nat.le_trans h.size hg.size, fun k hk hz => (hg.block k (Nat.lt_of_lt_of_le hk hB) (fun e => (hr k e.symm).elim (fun h => by omega) hz)).trans (h.block k hk hz)⟩
/-- An object is written in place. -/
theorem Rel.set {w' : World} (h : Rel N B w0 ι ρ η a w) {id : Nat} {v : Value} {ob : O} (hv : ι id = some v) (hg : w.grownBy w' (blk v)) (ho : ObjRel w' B ι v ob) : Rel N B w0 ι ρ (upd η id (some ob)) a w' := by
  have hr : ∀ b, blk v = some b → ¬ okB ι b := fun b hb => not_ok hv hb
  exact {
    defers := h.defers
    size := h.size
    tmp := fun t => touch_Rep hr hg (h.tmp t)
    obj := fun i o hi => by
      by_cases hit : i = id
      · subst hit
        simp at hi
        subst hi
        exact ⟨v, hv, ho⟩
      · rw [upd_ne _ _ hit] at hi
        obtain ⟨u, hu, hr'⟩ := h.obj i o hi
        exact ⟨u, hu, touch_Obj hr hg (fun b hb e => hit (h.inj i id u v b hu hv hb e)) hr'⟩
    dom := fun i u hi => by
      by_cases hit : i = id
      · subst hit; exact ⟨ob, by simp⟩
      · rw [upd_ne _ _ hit]; exact h.dom i u hi
    inj := h.inj
    below := h.below.grown hg h.base (fun k hk => by have := (h.blk_lt hv hk).1; unfold wrB at this; rwa [h.zz] at this)
    base := Nat.le_trans h.base hg.size
    fresh := h.fresh
    kk := h.kk
    zz := h.zz
    k0 := h.k0
    nn := h.nn
    glob := fun g cs hgl => touch_RepI hr hg (h.glob g cs hgl) }

/-! ### An object moves to another name; every reference to the old name is forgotten -/
def moved (ι : Inj) (id t : Nat) (v' : Value) : Inj := updI (del ι id) t (some v')
theorem moved_some {id t i : Nat} {v' u : Value} (h : moved ι id t v' i = some u) : (i = t ∧ u = v') ∨ (i ≠ t ∧ i ≠ id ∧ ι i = some u) := by
  unfold moved at h
  by_cases hi : i = t
  · subst hi; simp at h; exact .inl ⟨rfl, h.symm⟩
  · rw [updI_ne _ _ hi] at h
    exact .inr ⟨hi, del_some h⟩
theorem moved_ne {id t i : Nat} {v' : Value} (h1 : i ≠ t) (h2 : i ≠ id) : moved ι id t v' i = ι i := by
  unfold moved
  rw [updI_ne _ _ h1, del_ne ι h2]

theorem okB_moved {id t b : Nat} {v v' : Value} (hv : ι id = some v) (hb : b < w.heap.size) (hn : blk v' = blk v ∨ ∀ b, blk v' = some b → w.heap.size ≤ b) (h : okB ι b) : okB (moved ι id t v') b := by
  refine ⟨h.1, fun i u hu => ?_⟩
  rcases moved_some hu with ⟨_, rfl⟩ | ⟨_, _, hu⟩
  · rcases hn with e | e
    · rw [e]; exact h.2 id v hv
    · intro hbb
      have := e b hbb
      omega
  · exact h.2 i u hu

theorem moved_RepI {w' : World} {id t : Nat} {v v' : Value} (hv : ι id = some v) (hn : blk v' = blk v ∨ ∀ b, blk v' = some b → w.heap.size ≤ b) (hg : w.grownBy w' (blk v)) {u : Value} {d : D} (h : RepI w (okB ι) (frB B ι) u d) :
    RepI w' (okB (moved ι id t v')) (frB B (moved ι id t v')) u d :=
  h.mono hg.size (fun b hb ho => ⟨okB_moved hv hb hn ho, hg.block b hb (fun e => ho.2 id v hv e.symm)⟩) (fun b hb ho => ⟨⟨ho.1, okB_moved hv hb hn ho.2⟩, hg.block b hb (fun e => ho.2.2 id v hv e.symm)⟩)

theorem moved_Rep1 {w' : World} {id t : Nat} {v v' : Value} (hv : ι id = some v) (ht : t = id ∨ ι t = none) (hn : blk v' = blk v ∨ ∀ b, blk v' = some b → w.heap.size ≤ b) (hg : w.grownBy w' (blk v)) {u : Value} {d : D} (h : Rep1 w B ι u d) :
    Rep1 w' B (moved ι id t v') u (kill1 id d) := by
  unfold kill1
  split
  · exact .inl (.any _)
  · rename_i hr
    rcases h with h | h
    · exact .inl (moved_RepI hv hn hg h)
    · refine .inr ?_
      have key : ∀ i u, i ≠ id → ι i = some u → moved ι id t v' i = some u := by
        intro i u hi hu
        have hit : i ≠ t := by
          rintro rfl
          rcases ht with rfl | ht
          · exact hi rfl
          · rw [ht] at hu; cases hu
        rw [moved_ne hit hi]
        exact hu
      cases d <;> simp only [Ref] at h ⊢ <;> simp only [refsTo, beq_iff_eq] at hr
      case ptr i off => obtain ⟨b, h1, h2⟩ := h; exact ⟨b, key _ _ hr h1, h2⟩
      case row i => exact ⟨key _ _ hr h.1, h.2⟩
      case rel i sz k off => obtain ⟨b, n, c, h1, h2⟩ := h; exact ⟨b, n, c, key _ _ hr h1, h2⟩
      case bsl i off n sz => obtain ⟨b, c, h1, h2⟩ := h; exact ⟨b, c, key _ _ hr h1, h2⟩
      case clo f ids =>
        obtain ⟨cap, h1, h2, h3⟩ := h
        refine ⟨cap, h1, h2, fun i c k hc hk => ⟨key _ _ ?_ (h3 i c k hc hk).1, (h3 i c k hc hk).2⟩⟩
        rintro rfl
        exact hr (by simp [List.contains_eq_mem, List.mem_of_getElem? hk])
      case mp i => exact ⟨key _ _ hr h.1, h.2⟩

theorem moved_Rep {w' : World} {id t : Nat} {v v' : Value} (hv : ι id = some v) (ht : t = id ∨ ι t = none) (hn : blk v' = blk v ∨ ∀ b, blk v' = some b → w.heap.size ≤ b) (hg : w.grownBy w' (blk v)) {u : Value} {d : D} (h : Rep w B ι u d) :
    Rep w' B (moved ι id t v') u (killD id d) :=
  h.mapT (fun _ _ h _ => moved_Rep1 hv ht hn hg h) (fun _ _ h => moved_Rep1 hv ht hn hg (.inl h))

theorem moved_Obj {w' : World} {id t : Nat} {v v' : Value} (hv : ι id = some v) (ht : t = id ∨ ι t = none) (hn : blk v' = blk v ∨ ∀ b, blk v' = some b → w.heap.size ≤ b) (hg : w.grownBy w' (blk v)) {u : Value} {o : O} (hne : ∀ b, blk u = some b → blk v ≠ some b) (h : ObjRel w B ι u o) :
    ObjRel w' B (moved ι id t v') u (killO id o) := by
  cases o with
  | box ty cs =>
    obtain ⟨b, cur, rfl, h2, h3, h4, h5⟩ := h
    refine ⟨b, cur, rfl, h2, by rw [hg.block b (Array.getElem?_eq_some_iff.1 h3).1 (fun e => hne b rfl e.symm)]; exact h3, by simpa using h4, fun j c d hc hd => ?_⟩
    simp only [List.getElem?_map, Option.map_eq_some_iff] at hd
    obtain ⟨d', hd, rfl⟩ := hd
    exact ⟨moved_Rep1 hv ht hn hg (h5 j c d' hc hd).1, (h5 j c d' hc hd).2⟩
  | row ety sz fl es =>
    obtain ⟨xs, h1, h2, h3, h4, h5⟩ := h
    refine ⟨xs, h1, ⟨⟨h2.1.1, ?_⟩, h2.2⟩, h3, fun i e j d c he hd hc => moved_RepI hv hn hg (h4 i e j d c he hd hc), h5⟩
    rcases h2.1.2 with h | ⟨g, cap, cur, e1, e2, e3, e4⟩
    · exact .inl h
    · exact .inr ⟨g, cap, cur, e1, e2, by rw [hg.block g (Array.getElem?_eq_some_iff.1 e3).1 (fun e => hne g (by rw [e1]; rfl) e.symm)]; exact e3, e4⟩
  | mp es =>
    obtain ⟨r, ms, ck, rfl, h2, h3, h4⟩ := h
    exact ⟨r, ms, ck, rfl, h2, by rw [hg.block r (Array.getElem?_eq_some_iff.1 h3).1 (fun e => hne r rfl e.symm)]; exact h3, h4⟩

theorem Rel.move {w' : World} (h : Rel N B w0 ι ρ η a w) {id t : Nat} {v v' : Value} {ob : O} (hv : ι id = some v) (hid : t < 1000 ∨ 10000 ≤ t) (ht : t = id ∨ η t = none) (hn : blk v' = blk v ∨ ∀ b, blk v' = some b → w.heap.size ≤ b) (hg : w.grownBy w' (blk v))
    (ho : ObjRel w' B (moved ι id t v') v' ob) : Rel N B w0 (moved ι id t v') (fun s => killD id (ρ s)) (upd (killH id η) t (some ob)) a w' := by
  have ht' : t = id ∨ ι t = none := ht.imp (fun e => e) (fun e => h.none_of e)
  have cases_of : ∀ i u, moved ι id t v' i = some u → (i = t ∧ u = v') ∨ (i ≠ t ∧ i ≠ id ∧ ι i = some u) := by
    intro i u hu
    exact moved_some hu
  exact {
    defers := h.defers
    size := h.size
    tmp := fun s => moved_Rep hv ht' hn hg (h.tmp s)
    obj := fun i o hi => by
      by_cases hit : i = t
      · subst hit
        simp at hi
        subst hi
        exact ⟨v', by simp [moved], ho⟩
      · rw [upd_ne _ _ hit] at hi
        unfold killH at hi
        split at hi
        · cases hi
        · rename_i hid
          simp only [Option.map_eq_some_iff] at hi
          obtain ⟨o', ho', rfl⟩ := hi
          obtain ⟨u, hu, hr⟩ := h.obj i o' ho'
          exact ⟨u, by rw [moved_ne hit hid]; exact hu, moved_Obj hv ht' hn hg (fun b hb e => hid (h.inj i id u v b hu hv hb e)) hr⟩
    dom := fun i u hi => by
      rcases cases_of i u hi with ⟨rfl, _⟩ | ⟨h1, h2, h3⟩
      · exact ⟨ob, by simp⟩
      · obtain ⟨o, ho⟩ := h.dom i u h3
        exact ⟨killO id o, by rw [upd_ne _ _ h1]; simp [killH, h2, ho]⟩
    inj := fun i i' u u' b h1 h2 h3 h4 => by
      rcases cases_of i u h1 with ⟨rfl, rfl⟩ | ⟨e1, e2, e3⟩ <;> rcases cases_of i' u' h2 with ⟨rfl, rfl⟩ | ⟨e4, e5, e6⟩
      · rfl
      · rcases hn with e | e
        · rw [e] at h3; exact absurd (h.inj i' id u' v b e6 hv h4 h3) e5
        · have h7 := e b h3
          have h8 := (h.blk_lt e6 h4).2
          omega
      · rcases hn with e | e
        · rw [e] at h4; exact absurd (h.inj i id u v b e3 hv h3 h4) e2
        · have h7 := e b h4
          have h8 := (h.blk_lt e3 h3).2
          omega
      · exact h.inj i i' u u' b e3 e6 h3 h4
    below := h.below.grown hg h.base (fun k hk => by have := (h.blk_lt hv hk).1; unfold wrB at this; rwa [h.zz] at this)
    base := Nat.le_trans h.base hg.size
    fresh := h.fresh
    kk := h.kk
    zz := h.zz
    k0 := fun i u hu h1 h2 => by
      by_cases hi : i = id
      · subst hi
        left
        unfold moved
        rw [updI_ne _ _ (by rintro rfl; omega)]
        simp [Abs.del]
      · rw [moved_ne (by rintro rfl; omega) hi]
        exact h.k0 i u hu h1 h2
    nn := h.nn
    glob := fun g cs hgl => moved_RepI hv hn hg (h.glob g cs hgl) }

theorem ownsRow_ownBlock {e : TypeId} {sz n : Nat} {v : Value} {xs : List Value} (h : w.ownsRow B e sz v n xs) : v.ownBlock = blk v := by
  rcases h.2 with ⟨rfl, _⟩ | ⟨g, cap, cur, rfl, _⟩ <;> rfl

/-! ### The source of an append -/
def srcD (η : Nat → Option O) : D → Option (List (List D) × Bool)
  | .emp => some ([], true)
  | .sl es => some (es, flat es)
  | .own fl es => some (es, fl)
  | .row id => match η id with
    | some (.row _ _ fl es) => some (es, fl)
    | _ => none
  | .x (.slice _ n _) => if n = 0 then some ([], true) else none
  | _ => none

structure Src (w : World) (B : Nat) (ι : Inj) (sz : Nat) (es : List (List D)) (v : Value) (A : Option Addr) (c : Nat) (news : List Value) : Prop where
  val : v = .slice A es.length c
  len : news.length = es.length * sz
  nil : A = none → es = []
  cell : ∀ ad, A = some ad → ∀ (j : Nat) (u : Value), news[j]? = some u → w.cell? (ad.add j) = some u
  one : ∀ u ∈ news, u.oneCell' = true
  rep : ∀ (i : Nat) (e : List D) (j : Nat) (d : D) (u : Value), es[i]? = some e → e[j]? = some d → news[i * sz + j]? = some u → RepI w (okB ι) (frB B ι) u d
  ic : ∀ e ∈ es, ∀ d ∈ e, isCell d = true

theorem src_sl {sz : Nat} {es : List (List D)} {v : Value} {d : D} (h : Rep w B ι v d) (hd : d = .sl es ∨ ∃ fl, d = .own fl es) (hsz : 0 < sz) (hlen : ∀ e ∈ es, e.length = sz) : ∃ A c news, Src w B ι sz es v A c news := by
  rcases slice_cells h hd with ⟨rfl, A, c, rfl⟩ | ⟨A, c, sz', rfl, hb, hlt, hcap, hic, hsz', hcell, hrep⟩
  · exact ⟨A, c, [], rfl, by simp, fun _ => rfl, fun ad _ j u h => by simp at h, fun u h => by simp at h, fun i e j d u h => by simp at h, fun e h => by simp at h⟩
  · by_cases hz : es = []
    · subst hz
      exact ⟨some A, c, [], rfl, by simp, fun _ => rfl, fun ad _ j u h => by simp at h, fun u h => by simp at h, fun i e j d u h => by simp at h, fun e h => by simp at h⟩
    · have e0 : sz' = sz := by
        obtain ⟨x, hx⟩ := List.exists_mem_of_ne_nil es hz
        rw [← hsz' x hx, hlen x hx]
      subst e0
      have hk : ∀ k, k < es.length * sz' → ∃ u, w.cell? (A.add k) = some u ∧ u.oneCell' = true := by
        intro k hk
        have h1 : k / sz' < es.length := Nat.div_lt_of_lt_mul (by rw [Nat.mul_comm]; exact hk)
        have h2 : k % sz' < sz' := Nat.mod_lt _ hsz
        have := hcell (k / sz') (k % sz') h1 h2
        rwa [Nat.div_add_mod' k sz'] at this
      refine ⟨some A, c, (List.range (es.length * sz')).map fun k => (w.cell? (A.add k)).getD undef, rfl, by simp, (fun e => nomatch e), ?_, ?_, ?_, hic⟩
      · rintro ad ⟨⟩ j u hu
        rw [List.getElem?_map] at hu
        simp only [Option.map_eq_some_iff] at hu
        obtain ⟨k, hk1, rfl⟩ := hu
        obtain ⟨hk2, hk3⟩ := List.getElem?_eq_some_iff.1 hk1
        simp at hk2 hk3
        subst hk3
        obtain ⟨u, hu, _⟩ := hk j hk2
        simp [hu]
      · intro u hu
        rw [List.mem_map] at hu
        obtain ⟨k, hk1, rfl⟩ := hu
        obtain ⟨u, hu, h1⟩ := hk k (List.mem_range.1 hk1)
        simp [hu, h1]
      · intro i e j d u he hd hu
        rw [List.getElem?_map] at hu
        simp only [Option.map_eq_some_iff] at hu
        obtain ⟨k, hk1, rfl⟩ := hu
        obtain ⟨hk2, hk3⟩ := List.getElem?_eq_some_iff.1 hk1
        simp at hk2 hk3
        subst hk3
        obtain ⟨u, hu, _⟩ := hk _ hk2
        rw [hu]
        exact hrep i e j d u he hd hu

theorem src_sound (hrel : Rel N B w0 ι ρ η a w) {sz : Nat} {es : List (List D)} {fl : Bool} {v : Value} {d : D} (h : Rep w B ι v d) (hd : srcD η d = some (es, fl)) (hsz : 0 < sz) (hlen : ∀ e ∈ es, e.length = sz) :
    (∃ A c news, Src w B ι sz es v A c news) ∧ (fl = true → ∀ e ∈ es, ∀ d ∈ e, ∃ v, d = .x v) := by
  unfold srcD at hd
  split at hd
  · cases hd
    have h := (h.one_inv (fun _ e => by cases e)).resolve_right (fun h => h.elim)
    cases h
    exact ⟨⟨none, 0, [], rfl, by simp, fun _ => rfl, fun ad _ j u h => by simp at h, fun u h => by simp at h, fun i e j d u h => by simp at h, fun e h => by simp at h⟩, fun _ e h => by simp at h⟩
  · cases hd
    exact ⟨src_sl h (.inl rfl) hsz hlen, fun h => flat_x h⟩
  · cases hd
    refine ⟨src_sl h (.inr ⟨_, rfl⟩) hsz hlen, fun hfl => ?_⟩
    have h := (h.one_inv (fun _ e => by cases e)).resolve_right (fun h => h.elim)
    cases h with
    | own0 => intro e h; simp at h
    | own _ _ _ _ _ _ _ hf => exact hf hfl
  · rename_i id
    split at hd
    · rename_i ety sz0 fl0 es0 hη
      cases hd
      obtain ⟨hι, A, n, c, rfl⟩ := row_inv h
      obtain ⟨v, hv, hobj⟩ := hrel.obj id _ hη
      rw [hι] at hv
      cases hv
      have hobj' := hobj
      obtain ⟨xs, hsz0, ⟨hown, hwr⟩, hlen0, hrep, hone, hic, hfl⟩ := hobj
      refine ⟨?_, hfl⟩
      rcases hown.2 with ⟨h1, h2⟩ | ⟨g, cap, cur, hv, hB, hh, hle, hmx, hcs, hxs⟩
      · cases h1
        have : es = [] := List.eq_nil_of_length_eq_zero h2
        subst this
        exact ⟨none, 0, [], rfl, by simp, fun _ => rfl, fun ad _ j u h => by simp at h, fun u h => by simp at h, fun i e j d u h => by simp at h, fun e h => by simp at h⟩
      · injection hv with h1 h2 h3
        subst h1 h2 h3
        by_cases hz : es = []
        · subst hz
          exact ⟨_, _, [], rfl, by simp, fun _ => rfl, fun ad _ j u h => by simp at h, fun u h => by simp at h, fun i e j d u h => by simp at h, fun e h => by simp at h⟩
        · have e0 : sz0 = sz := by
            obtain ⟨x, hx⟩ := List.exists_mem_of_ne_nil es hz
            rw [← hlen0 x hx, hlen x hx]
          subst e0
          refine ⟨_, _, xs, rfl, hown.1, (fun e => nomatch e), ?_, hone, fun i e j d u he hd hu => hrep i e j d u he hd hu, hic⟩
          rintro ad ⟨⟩ j u hu
          exact hown.cells (g := g) rfl j u hu
    · cases hd
  · rename_i A n c
    split at hd
    · rename_i h0
      subst h0
      cases hd
      rw [h.x_inv]
      exact ⟨⟨A, c, [], rfl, by simp, fun _ => rfl, fun ad _ j u h => by simp at h, fun u h => by simp at h, fun i e j d u h => by simp at h, fun e h => by simp at h⟩, fun _ e h => by simp at h⟩
    · cases hd
  · cases hd

theorem run_append_nil (base : Nat) (t ty e : TypeId) (i : TypeInfo) (size : Nat) (ht : P.underlying t = some (.slice e)) (hi : P.info? e = some i)
    (v : Value) (n : Nat) (xs : List Value) (hown : w.ownsRow base e size v n xs) (c : Nat) : (Builtin.append_ #[t, t] ty #[v, .slice none 0 c]).run P w = .ok v w := by
  rcases hown.2 with ⟨rfl, rfl⟩ | ⟨g, cap, cur, rfl, _, _, hnc, _⟩
  · simp [Builtin.append_, run_underlying ht, Go.sizeOf, typeInfo, hi, Builtin.lenOf, Builtin.firstCells]
  · simp [Builtin.append_, run_underlying ht, Go.sizeOf, typeInfo, hi, Builtin.lenOf, Builtin.firstCells, hnc, storeCells]

/-- An append onto a row of the call's own. -/
theorem append_run {B0 : Nat} (hbase : B0 ≤ w.heap.size) {t ty e : TypeId} {i : TypeInfo} {z : Value} (ht : P.underlying t = some (.slice e)) (hi : P.info? e = some i) (hz : i.zero = some z) (hzs : z.cells.size = i.size) (hsz : 0 < i.size)
    {v : Value} {n : Nat} {xs : List Value} (hown : w.ownsRow B0 e i.size v n xs) {es : List (List D)} {u : Value} {A : Option Addr} {c : Nat} {news : List Value} (hs : Src w B ι i.size es u A c news)
    (h63 : n + es.length ≤ maxLen) (hbytes : (n + es.length) * i.bytes ≤ 140737488355328) :
    ∃ v' w', (Builtin.append_ #[t, t] ty #[v, u]).run P w = .ok v' w' ∧ w'.ownsRow B0 e i.size v' (n + es.length) (xs ++ news) ∧ w.grownBy w' v.ownBlock ∧ (v'.ownBlock = v.ownBlock ∨ v'.ownBlock = some w.heap.size) := by
  rw [hs.val]
  cases A with
  | none =>
    have he := hs.nil rfl
    subst he
    have hn : news = [] := List.eq_nil_of_length_eq_zero (by rw [hs.len]; simp)
    subst hn
    exact ⟨v, w, run_append_nil B0 t ty e i i.size ht hi v n xs hown c, by simpa using hown, World.grownBy.refl w _, .inl rfl⟩
  | some ad =>
    obtain ⟨v', w', hrun, h2, h3, _, h5⟩ := run_append_own_at (P := P) w B0 t ty e i z i.size i.bytes ht hi hz rfl rfl hzs hsz v n xs hown ad es.length c news hs.len (hs.cell ad rfl) hs.one h63 hbytes hbase
    exact ⟨v', w', hrun, h2, h3, h5⟩

theorem append_get {xs ys : List Value} {n sz i j : Nat} {es es' : List (List D)} (hx : xs.length = n * sz) (hes : es.length = n) {e : List D} {u : Value} (he : (es ++ es')[i]? = some e) (hj : j < sz) (hu : (xs ++ ys)[i * sz + j]? = some u) :
    (es[i]? = some e ∧ xs[i * sz + j]? = some u) ∨ (es'[i - n]? = some e ∧ ys[(i - n) * sz + j]? = some u) := by
  by_cases hi : i < n
  · left
    have : (i + 1) * sz ≤ n * sz := Nat.mul_le_mul_right _ hi
    rw [Nat.add_mul, Nat.one_mul] at this
    rw [List.getElem?_append_left (by omega)] at he hu
    exact ⟨he, hu⟩
  · right
    have : n * sz ≤ i * sz := Nat.mul_le_mul_right _ (by omega)
    rw [List.getElem?_append_right (by omega), hes] at he
    rw [List.getElem?_append_right (by omega), hx] at hu
    refine ⟨he, ?_⟩
    rw [Nat.sub_mul, ← hu]
    congr 1
    omega

/-- The row behind an append. -/
theorem append_obj {w' : World} {ι' : Inj} {e : TypeId} {sz n : Nat} {v' : Value} {xs news : List Value} {es es' : List (List D)} {fl fl' : Bool} (hn : es.length = n) (hsz : 0 < sz) (hxl : xs.length = n * sz)
    (hown : w'.ownsRow 0 e sz v' (n + es'.length) (xs ++ news)) (hwr : ∀ b, blk v' = some b → wrB B ι' b)
    (h1 : ∀ x ∈ es, x.length = sz) (h1' : ∀ x ∈ es', x.length = sz)
    (h2 : ∀ (i : Nat) (x : List D) (j : Nat) (d : D) (u : Value), es[i]? = some x → x[j]? = some d → xs[i * sz + j]? = some u → RepI w' (okB ι') (frB B ι') u d)
    (h2' : ∀ (i : Nat) (x : List D) (j : Nat) (d : D) (u : Value), es'[i]? = some x → x[j]? = some d → news[i * sz + j]? = some u → RepI w' (okB ι') (frB B ι') u d)
    (h3 : ∀ u ∈ xs, u.oneCell' = true) (h3' : ∀ u ∈ news, u.oneCell' = true) (h4 : ∀ x ∈ es, ∀ d ∈ x, isCell d = true) (h4' : ∀ x ∈ es', ∀ d ∈ x, isCell d = true)
    (h5 : fl = true → ∀ x ∈ es, ∀ d ∈ x, ∃ v, d = .x v) (h5' : fl' = true → ∀ x ∈ es', ∀ d ∈ x, ∃ v, d = .x v) : ObjRel w' B ι' v' (.row e sz (fl && fl') (es ++ es')) := by
  refine ⟨xs ++ news, hsz, ⟨by rw [List.length_append, hn]; exact hown, hwr⟩, fun x hx => ?_, fun i x j d u hi hd hu => ?_, fun u hu => ?_, fun x hx => ?_, fun hf x hx => ?_⟩
  · exact (List.mem_append.1 hx).elim (h1 x) (h1' x)
  · have hxl' : x.length = sz := (List.mem_append.1 (List.mem_of_getElem? hi)).elim (h1 x) (h1' x)
    have hj := (List.getElem?_eq_some_iff.1 hd).1
    rcases append_get hxl hn hi (by omega) hu with ⟨k1, k2⟩ | ⟨k1, k2⟩
    · exact h2 i x j d u k1 hd k2
    · exact h2' _ x j d u k1 hd k2
  · exact (List.mem_append.1 hu).elim (h3 u) (h3' u)
  · exact (List.mem_append.1 hx).elim (h4 x) (h4' x)
  · simp only [Bool.and_eq_true] at hf
    exact (List.mem_append.1 hx).elim (h5 hf.1 x) (h5' hf.2 x)

end
end Go.Abs
