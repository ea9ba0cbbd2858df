/-
  The abstract values of an interpreter with value semantics, and how they read a world: definitions and first lemmas.
-/
import Derived.WalkKit
import Derived.Maps.AppendAt
namespace Go.Abs
set_option linter.unusedSimpArgs false
set_option linter.unusedVariables false
open Go Go.RowKit

/-- Abstract values. 'x v': the very value v. 'sl', 'own': slices that nobody writes ('own': in memory that is younger than the call). 'ptr', 'row', 'rel', 'bsl': references into objects of the call's own. -/
inductive D where
  | any
  | x (v : Value)
  | agg (cs : List D)
  | tup (ds : List D)
  | emp
  | sl (es : List (List D))
  | own (fl : Bool) (es : List (List D))
  | elt (cs : List D)
  | ptr (id off : Nat)
  | row (id : Nat)
  | rel (id sz i off : Nat)
  | bsl (id off n sz : Nat)
  | clo (f : FuncId) (ids : List Nat)
  | mp (id : Nat)
  | mpv (es : List (Value × Value))
  | cap0

/-- Objects of the call's own. -/
inductive O where
  | box (ty : TypeId) (cs : List D)
  | row (ety : TypeId) (sz : Nat) (fl : Bool) (es : List (List D))
  | mp (es : List (Value × Value))

def getH : List (Nat × O) → Nat → Option O
  | [], _ => none
  | (k, d) :: r, t => if k = t then some d else getH r t

def upd {α : Type} (f : Nat → α) (k : Nat) (x : α) : Nat → α := fun i => if i = k then x else f i
@[simp] theorem upd_same {α : Type} (f : Nat → α) (k : Nat) (x : α) : upd f k x k = x := by simp [upd]
theorem upd_ne {α : Type} (f : Nat → α) {k i : Nat} (x : α) (h : i ≠ k) : upd f k x i = f i := by simp [upd, h]

/-- Where the objects of the call's own lie, which memory may be read besides ('K'), and which elder memory may be written ('Z': that of the objects that came in). -/
structure Inj where
  f : Nat → Option Value
  K : Nat → Prop
  Z : Nat → Prop
instance : CoeFun Inj (fun _ => Nat → Option Value) := ⟨Inj.f⟩
def updI (ι : Inj) (k : Nat) (x : Option Value) : Inj := ⟨upd ι.f k x, ι.K, ι.Z⟩
@[simp] theorem updI_same (ι : Inj) (k : Nat) (x : Option Value) : (updI ι k x) k = x := by simp [updI]
theorem updI_ne (ι : Inj) {k i : Nat} (x : Option Value) (h : i ≠ k) : (updI ι k x) i = ι i := by simp [updI, upd, h]

def blk : Value → Option Nat
  | .pointer (some a) => some a.block
  | .slice (some a) _ _ => some a.block
  | .map (some r) => some r
  | _ => none

def okB (ι : Inj) (b : Nat) : Prop := ι.K b ∧ ∀ id v, ι id = some v → blk v ≠ some b
/-- Memory that the call may write. -/
def wrB (B : Nat) (ι : Inj) (b : Nat) : Prop := B ≤ b ∨ ι.Z b
def frB (B : Nat) (ι : Inj) (b : Nat) : Prop := wrB B ι b ∧ okB ι b

/-- What may stand in a cell of memory that nobody writes. -/
def isCell : D → Bool
  | .x _ => true
  | .emp => true
  | .sl _ => true
  | .any => true
  | .mpv _ => true
  | _ => false

inductive RepI (w : World) (ok fr : Nat → Prop) : Value → D → Prop
  | any (v : Value) : RepI w ok fr v .any
  | x (v : Value) : RepI w ok fr v (.x v)
  | agg {cs : Array Value} {ds : List D} (hl : cs.size = ds.length)
      (h : ∀ (i : Nat) (c : Value) (d : D), cs[i]? = some c → ds[i]? = some d → RepI w ok fr c d) : RepI w ok fr (.agg cs) (.agg ds)
  | tup {cs : Array Value} {ds : List D} (hl : cs.size = ds.length)
      (h : ∀ (i : Nat) (c : Value) (d : D), cs[i]? = some c → ds[i]? = some d → RepI w ok fr c d) : RepI w ok fr (.tuple cs) (.tup ds)
  | emp : RepI w ok fr (.slice none 0 0) .emp
  | sl0 (A : Option Addr) (c : Nat) : RepI w ok fr (.slice A 0 c) (.sl [])
  | own0 (A : Option Addr) (c : Nat) (fl : Bool) : RepI w ok fr (.slice A 0 c) (.own fl [])
  | sl {a : Addr} {c sz : Nat} {es : List (List D)} (hb : ok a.block) (hlt : a.block < w.heap.size) (hcap : es.length ≤ c) (hic : ∀ e ∈ es, ∀ d ∈ e, isCell d = true) (hsz : ∀ e ∈ es, e.length = sz)
      (hcell : ∀ i j, i < es.length → j < sz → ∃ u, w.cell? (a.add (i * sz + j)) = some u ∧ u.oneCell' = true)
      (hrep : ∀ (i : Nat) (e : List D) (j : Nat) (d : D) (u : Value), es[i]? = some e → e[j]? = some d → w.cell? (a.add (i * sz + j)) = some u → RepI w ok fr u d) :
      RepI w ok fr (.slice (some a) es.length c) (.sl es)
  | own {a : Addr} {c sz : Nat} {fl : Bool} {es : List (List D)} (hb : fr a.block) (hlt : a.block < w.heap.size) (hcap : es.length ≤ c) (hic : ∀ e ∈ es, ∀ d ∈ e, isCell d = true) (hsz : ∀ e ∈ es, e.length = sz)
      (hcell : ∀ i j, i < es.length → j < sz → ∃ u, w.cell? (a.add (i * sz + j)) = some u ∧ u.oneCell' = true)
      (hrep : ∀ (i : Nat) (e : List D) (j : Nat) (d : D) (u : Value), es[i]? = some e → e[j]? = some d → w.cell? (a.add (i * sz + j)) = some u → RepI w ok fr u d)
      (hfl : fl = true → ∀ e ∈ es, ∀ d ∈ e, ∃ v, d = .x v) :
      RepI w ok fr (.slice (some a) es.length c) (.own fl es)
  | elt {a : Addr} {cs : List D} (hb : ok a.block) (hlt : a.block < w.heap.size) (hic : ∀ d ∈ cs, isCell d = true)
      (hcell : ∀ j, j < cs.length → ∃ u, w.cell? (a.add j) = some u ∧ u.oneCell' = true)
      (hrep : ∀ (j : Nat) (d : D) (u : Value), cs[j]? = some d → w.cell? (a.add j) = some u → RepI w ok fr u d) : RepI w ok fr (.pointer (some a)) (.elt cs)
  | mpv {r : Nat} {ms : Array MapEntry} {ck : Nat} (hb : ok r) (hh : w.heap[r]? = some (.map ms ck)) : RepI w ok fr (.map (some r)) (.mpv (ms.toList.map (fun e => (e.key, e.val))))
  | cap0 (A : Option Addr) : RepI w ok fr (.slice A 0 0) .cap0

theorem RepI.mono {w w' : World} {ok fr ok' fr' : Nat → Prop} {v : Value} {d : D} (h : RepI w ok fr v d)
    (hs : w.heap.size ≤ w'.heap.size)
    (hok : ∀ b, b < w.heap.size → ok b → ok' b ∧ w'.heap[b]? = w.heap[b]?)
    (hfr : ∀ b, b < w.heap.size → fr b → fr' b ∧ w'.heap[b]? = w.heap[b]?) : RepI w' ok' fr' v d := by
  induction h with
  | any v => exact .any v
  | x v => exact .x v
  | agg hl _ ih => exact .agg hl ih
  | tup hl _ ih => exact .tup hl ih
  | emp => exact .emp
  | sl0 A c => exact .sl0 A c
  | own0 A c fl => exact .own0 A c fl
  | @sl a c sz es hb hlt hcap hic hsz hcell _ ih =>
    obtain ⟨h1, h2⟩ := hok _ hlt hb
    have hc : ∀ n, w'.cell? (a.add n) = w.cell? (a.add n) := fun n => World.cell?_of_block (by
      have : (a.add n).block = a.block := by unfold Addr.add; split <;> rfl
      rw [this]; exact h2)
    exact .sl h1 (Nat.lt_of_lt_of_le hlt hs) hcap hic hsz (fun i j hi hj => by rw [hc]; exact hcell i j hi hj)
      (fun i e j d u he hd hu => ih i e j d u he hd (by rw [← hc]; exact hu))
  | @own a c sz fl es hb hlt hcap hic hsz hcell _ hfl ih =>
    obtain ⟨h1, h2⟩ := hfr _ hlt hb
    have hc : ∀ n, w'.cell? (a.add n) = w.cell? (a.add n) := fun n => World.cell?_of_block (by
      have : (a.add n).block = a.block := by unfold Addr.add; split <;> rfl
      rw [this]; exact h2)
    exact .own h1 (Nat.lt_of_lt_of_le hlt hs) hcap hic hsz (fun i j hi hj => by rw [hc]; exact hcell i j hi hj)
      (fun i e j d u he hd hu => ih i e j d u he hd (by rw [← hc]; exact hu)) hfl
  | @elt a cs hb hlt hic hcell _ ih =>
    obtain ⟨h1, h2⟩ := hok _ hlt hb
    have hc : ∀ n, w'.cell? (a.add n) = w.cell? (a.add n) := fun n => World.cell?_of_block (by
      have : (a.add n).block = a.block := by unfold Addr.add; split <;> rfl
      rw [this]; exact h2)
    exact .elt h1 (Nat.lt_of_lt_of_le hlt hs) hic (fun j hj => by rw [hc]; exact hcell j hj)
      (fun j d u hd hu => ih j d u hd (by rw [← hc]; exact hu))
  | @mpv r ms ck hb hh =>
    obtain ⟨h1, h2⟩ := hok _ (Array.getElem?_eq_some_iff.1 hh).1 hb
    exact .mpv h1 (by rw [h2]; exact hh)
  | cap0 A => exact .cap0 A

/-- A value that may stand in a cell reads the same whatever memory counts as younger than the call. -/
theorem RepI.cell {w : World} {ok fr : Nat → Prop} {v : Value} {d : D} (h : RepI w ok fr v d) (fr' : Nat → Prop) :
    (isCell d = true → RepI w ok fr' v d) ∧ (∀ cs, d = .elt cs → RepI w ok fr' v d) ∧ (∀ fl es, d = .own fl es → RepI w (fun b => ok b ∨ fr b) fr' v (.sl es)) := by
  have wk : ∀ {u : Value} {e : D}, RepI w ok fr' u e → RepI w (fun b => ok b ∨ fr b) fr' u e := fun h =>
    h.mono (Nat.le_refl _) (fun b _ ho => ⟨.inl ho, rfl⟩) (fun b _ ho => ⟨ho, rfl⟩)
  induction h with
  | any v => exact ⟨fun _ => .any v, fun cs h => (nomatch h), fun fl es h => (nomatch h)⟩
  | x v => exact ⟨fun _ => .x v, fun cs h => (nomatch h), fun fl es h => (nomatch h)⟩
  | agg hl _ _ => exact ⟨fun h => (nomatch h), fun cs h => (nomatch h), fun fl es h => (nomatch h)⟩
  | tup hl _ _ => exact ⟨fun h => (nomatch h), fun cs h => (nomatch h), fun fl es h => (nomatch h)⟩
  | emp => exact ⟨fun _ => .emp, fun cs h => (nomatch h), fun fl es h => (nomatch h)⟩
  | sl0 A c => exact ⟨fun _ => .sl0 A c, fun cs h => (nomatch h), fun fl es h => (nomatch h)⟩
  | own0 A c fl => exact ⟨fun h => (nomatch h), fun cs h => (nomatch h), fun fl' es h => by cases h; exact .sl0 A c⟩
  | @sl a c sz es hb hlt hcap hic hsz hcell _ ih =>
    refine ⟨fun _ => .sl hb hlt hcap hic hsz hcell (fun i e j d u he hd hu => (ih i e j d u he hd hu).1 ?_), fun cs h => (nomatch h), fun fl es h => (nomatch h)⟩
    exact hic e (List.mem_of_getElem? he) d (List.mem_of_getElem? hd)
  | @own a c sz fl es hb hlt hcap hic hsz hcell _ hfl ih =>
    refine ⟨fun h => (nomatch h), fun cs h => (nomatch h), fun fl' es' h => ?_⟩
    cases h
    exact .sl (.inr hb) hlt hcap hic hsz hcell (fun i e j d u he hd hu => wk ((ih i e j d u he hd hu).1 (hic e (List.mem_of_getElem? he) d (List.mem_of_getElem? hd))))
  | @elt a cs hb hlt hic hcell _ ih =>
    refine ⟨fun h => (nomatch h), fun cs' h => ?_, fun fl es h => (nomatch h)⟩
    exact .elt hb hlt hic hcell (fun j d u hd hu => (ih j d u hd hu).1 (hic d (List.mem_of_getElem? hd)))
  | mpv hb hh => exact ⟨fun _ => .mpv hb hh, fun cs h => (nomatch h), fun fl es h => (nomatch h)⟩
  | cap0 A => exact ⟨fun h => (nomatch h), fun cs h => (nomatch h), fun fl es h => (nomatch h)⟩

/-- A reference into an object of the call's own. -/
def Ref (ι : Inj) (v : Value) : D → Prop
  | .ptr id off => ∃ b, ι id = some (.pointer (some ⟨b, 0, none⟩)) ∧ v = .pointer (some ⟨b, off, none⟩)
  | .row id => ι id = some v ∧ ∃ A n c, v = .slice A n c
  | .rel id sz i off => ∃ b n c, ι id = some (.slice (some ⟨b, 0, none⟩) n c) ∧ v = .pointer (some ⟨b, i * sz + off, none⟩)
  | .bsl id off n _ => ∃ b c, ι id = some (.pointer (some ⟨b, 0, none⟩)) ∧ v = .slice (some ⟨b, off, none⟩) n c ∧ n ≤ c
  | .clo f ids => ∃ cap : Array Value, v = .func (.func f) #[] cap ∧ cap.size = ids.length ∧ ∀ (i : Nat) (c : Value) (id : Nat), cap[i]? = some c → ids[i]? = some id → ι id = some c ∧ ∃ b, c = .pointer (some ⟨b, 0, none⟩)
  | .mp id => ι id = some v ∧ ∃ r, v = .map (some r)
  | _ => False

def Rep1 (w : World) (B : Nat) (ι : Inj) (v : Value) (d : D) : Prop := RepI w (okB ι) (frB B ι) v d ∨ Ref ι v d
def RepA (w : World) (B : Nat) (ι : Inj) (v : Value) (ds : List D) : Prop :=
  ∃ cs : Array Value, v = .agg cs ∧ cs.size = ds.length ∧ ∀ (i : Nat) (c : Value) (d : D), cs[i]? = some c → ds[i]? = some d → Rep1 w B ι c d
def Rep0 (w : World) (B : Nat) (ι : Inj) (v : Value) (d : D) : Prop := Rep1 w B ι v d ∨ ∃ ds, d = .agg ds ∧ RepA w B ι v ds
def RepT (w : World) (B : Nat) (ι : Inj) (v : Value) (ds : List D) : Prop :=
  ∃ cs : Array Value, v = .tuple cs ∧ cs.size = ds.length ∧ ∀ (i : Nat) (c : Value) (d : D), cs[i]? = some c → ds[i]? = some d → Rep0 w B ι c d
def Rep (w : World) (B : Nat) (ι : Inj) (v : Value) (d : D) : Prop := Rep1 w B ι v d ∨ (∃ ds, d = .agg ds ∧ RepA w B ι v ds) ∨ ∃ ds, d = .tup ds ∧ RepT w B ι v ds

/-- A function over the parts of a value. -/
def mapA (f : D → D) : D → D
  | .agg cs => .agg (cs.map f)
  | d => f d
def mapT (f : D → D) : D → D
  | .tup ds => .tup (ds.map (mapA f))
  | d => mapA f d

theorem Rep0.mapA {w w' : World} {B B' : Nat} {ι ι' : Inj} {v : Value} {d : D} {f : D → D} (h : Rep0 w B ι v d) (hf : ∀ v d, Rep1 w B ι v d → (∀ cs, d ≠ .agg cs) → Rep1 w' B' ι' v (f d))
    (hc : ∀ v cs, RepI w (okB ι) (frB B ι) v (.agg cs) → Rep1 w' B' ι' v (f (.agg cs))) : Rep0 w' B' ι' v (mapA f d) := by
  have agg : ∀ (cs : Array Value) (ds : List D), cs.size = ds.length → (∀ (i : Nat) (c : Value) (d : D), cs[i]? = some c → ds[i]? = some d → Rep1 w B ι c d) → Rep0 w' B' ι' (.agg cs) (Abs.mapA f (.agg ds)) := by
    intro cs ds hl hc'
    refine .inr ⟨_, rfl, cs, rfl, by simpa using hl, fun i c d h1 h2 => ?_⟩
    simp only [List.getElem?_map, Option.map_eq_some_iff] at h2
    obtain ⟨d', h2, rfl⟩ := h2
    have := hc' i c d' h1 h2
    by_cases hd : ∃ ds, d' = .agg ds
    · obtain ⟨ds, rfl⟩ := hd
      exact hc c ds (this.resolve_right (fun h => h.elim))
    · exact hf c d' this (fun ds e => hd ⟨ds, e⟩)
  by_cases hd : ∃ ds, d = .agg ds
  · obtain ⟨ds, rfl⟩ := hd
    rcases h with h | ⟨_, e, cs, rfl, hl, hc'⟩
    · rcases h with h | h
      · cases h with
        | agg hl hc' => exact agg _ _ hl (fun i c d h1 h2 => .inl (hc' i c d h1 h2))
      · exact h.elim
    · cases e
      exact agg cs ds hl hc'
  · have e : Abs.mapA f d = f d := by cases d <;> first | rfl | exact absurd ⟨_, rfl⟩ hd
    rw [e]
    rcases h with h | ⟨ds, e, _⟩
    · exact .inl (hf v d h (fun ds e => hd ⟨ds, e⟩))
    · exact absurd ⟨ds, e⟩ hd
theorem Rep0.of {w : World} {B : Nat} {ι : Inj} {v : Value} {d : D} (h : Rep0 w B ι v d) : Rep w B ι v d := h.imp (fun h => h) .inl
theorem Rep.mapT {w w' : World} {B B' : Nat} {ι ι' : Inj} {v : Value} {d : D} {f : D → D} (h : Rep w B ι v d) (hf : ∀ v d, Rep1 w B ι v d → (∀ cs, d ≠ .agg cs) → Rep1 w' B' ι' v (f d))
    (hc : ∀ v cs, RepI w (okB ι) (frB B ι) v (.agg cs) → Rep1 w' B' ι' v (f (.agg cs))) : Rep w' B' ι' v (mapT f d) := by
  have tup : ∀ (cs : Array Value) (ds : List D), cs.size = ds.length → (∀ (i : Nat) (c : Value) (d : D), cs[i]? = some c → ds[i]? = some d → Rep0 w B ι c d) → Rep w' B' ι' (.tuple cs) (Abs.mapT f (.tup ds)) := by
    intro cs ds hl hc'
    refine .inr (.inr ⟨_, rfl, cs, rfl, by simpa using hl, fun i c d h1 h2 => ?_⟩)
    simp only [List.getElem?_map, Option.map_eq_some_iff] at h2
    obtain ⟨d', h2, rfl⟩ := h2
    exact (hc' i c d' h1 h2).mapA hf hc
  by_cases hd : ∃ ds, d = .tup ds
  · obtain ⟨ds, rfl⟩ := hd
    rcases h with h | ⟨_, e, _⟩ | ⟨_, e, cs, rfl, hl, hc'⟩
    · rcases h with h | h
      · cases h with
        | tup hl hc' => exact tup _ _ hl (fun i c d h1 h2 => .inl (.inl (hc' i c d h1 h2)))
      · exact h.elim
    · cases e
    · cases e
      exact tup cs ds hl hc'
  · have e : Abs.mapT f d = Abs.mapA f d := by cases d <;> first | rfl | exact absurd ⟨_, rfl⟩ hd
    rw [e]
    rcases h with h | h | ⟨ds, e, _⟩
    · exact (Rep0.mapA (.inl h) hf hc).of
    · exact (Rep0.mapA (.inr h) hf hc).of
    · exact absurd ⟨ds, e⟩ hd
theorem mapT_id (d : D) : mapT (fun d => d) d = d := by
  have e : ∀ d, mapA (fun d => d) d = d := by intro d; cases d <;> simp [mapA]
  have e' : mapA (fun d => d) = fun d => d := funext e
  cases d <;> simp [mapT, e']
  all_goals exact e _

def ObjRel (w : World) (B : Nat) (ι : Inj) (v : Value) : O → Prop
  | .box ty cs => ∃ b cur, v = .pointer (some ⟨b, 0, none⟩) ∧ wrB B ι b ∧ w.heap[b]? = some (.cells cur ty (0, 0)) ∧ cur.size = cs.length ∧
      ∀ (j : Nat) (c : Value) (d : D), cur[j]? = some c → cs[j]? = some d → Rep1 w B ι c d ∧ c.oneCell' = true
  | .row ety sz fl es => ∃ xs, 0 < sz ∧ (w.ownsRow 0 ety sz v es.length xs ∧ ∀ b, blk v = some b → wrB B ι b) ∧ (∀ e ∈ es, e.length = sz) ∧
      (∀ (i : Nat) (e : List D) (j : Nat) (d : D) (c : Value), es[i]? = some e → e[j]? = some d → xs[i * sz + j]? = some c →
        RepI w (okB ι) (frB B ι) c d) ∧ (∀ c ∈ xs, c.oneCell' = true) ∧ (∀ e ∈ es, ∀ d ∈ e, isCell d = true) ∧
      (fl = true → ∀ e ∈ es, ∀ d ∈ e, ∃ v, d = .x v)
  | .mp es => ∃ r ms ck, v = .map (some r) ∧ wrB B ι r ∧ w.heap[r]? = some (.map ms ck) ∧ ms.toList.map (fun e => (e.key, e.val)) = es ∧ (∀ e ∈ ms.toList, e.born < ck) ∧ (ms.toList.map (·.born)).Nodup

/-- The world at the beginning of a call, and the memory that its arguments may lie in. -/
structure Bs where
  w : World
  K : Nat → Prop
  Z : Nat → Prop
  f : Nat → Option Value
  G : Nat → Option (List D)

/-- Below B nothing has changed but what may be written. -/
structure BelowZ (B : Nat) (Z : Nat → Prop) (w w' : World) : Prop where
  os : w'.os = w.os
  tape : w'.tape = w.tape
  output : w'.output = w.output
  size : w.heap.size ≤ w'.heap.size
  block : ∀ k, k < B → ¬ Z k → w'.heap[k]? = w.heap[k]?
theorem BelowZ.refl (B : Nat) (Z : Nat → Prop) (w : World) : BelowZ B Z w w := ⟨rfl, rfl, rfl, Nat.le_refl _, fun _ _ _ => rfl⟩
theorem BelowZ.ext {B : Nat} {Z : Nat → Prop} {w w' w'' : World} (h : BelowZ B Z w w') (hB : B ≤ w'.heap.size) (hx : Below w'.heap.size w' w'') : BelowZ B Z w w'' :=
  ⟨hx.os.trans h.os, hx.tape.trans h.tape, hx.output.trans h.output, Nat.le_trans h.size hx.size, fun k hk hz => (hx.block k (Nat.lt_of_lt_of_le hk hB)).trans (h.block k hk hz)⟩

structure Rel (N B : Nat) (w0 : Bs) (ι : Inj) (ρ : Nat → D) (η : Nat → Option O) (a : Act) (w : World) : Prop where
  defers : a.defers = []
  size : a.tmps.size = N
  tmp : ∀ t, Rep w B ι (a.tmps.getD t undef) (ρ t)
  obj : ∀ id o, η id = some o → ∃ v, ι id = some v ∧ ObjRel w B ι v o
  dom : ∀ id v, ι id = some v → ∃ o, η id = some o
  inj : ∀ id id' v v' b, ι id = some v → ι id' = some v' → blk v = some b → blk v' = some b → id = id'
  below : BelowZ B w0.Z w0.w w
  base : B ≤ w.heap.size
  fresh : ∀ b, wrB B ι b → ι.K b
  kk : ι.K = w0.K
  zz : ι.Z = w0.Z
  k0 : ∀ id v, w0.f id = some v → 1000 ≤ id → id < 10000 → ι id = none ∨ ι id = some v
  nn : N ≤ 1000
  glob : ∀ g cs, w0.G g = some cs → RepI w (okB ι) (frB B ι) (.pointer (some ⟨g, 0, none⟩)) (.elt cs)

theorem ObjRel.blk_lt {w : World} {B : Nat} {ι : Inj} {v : Value} {o : O} (h : ObjRel w B ι v o) : ∀ b, blk v = some b → wrB B ι b ∧ b < w.heap.size := by
  intro b hb
  cases o with
  | box ty cs =>
    obtain ⟨b', cur, rfl, hB, hh, _⟩ := h
    simp [blk] at hb
    subst hb
    exact ⟨hB, (Array.getElem?_eq_some_iff.1 hh).1⟩
  | row ety sz fl es =>
    obtain ⟨xs, _, ⟨hown, hwr⟩, _⟩ := h
    refine ⟨hwr b hb, (hown.lt b ?_).2⟩
    rcases hown.2 with ⟨rfl, _⟩ | ⟨g, cap, cur, rfl, _⟩
    · simp [blk] at hb
    · simpa [blk, Value.ownBlock] using hb
  | mp es =>
    obtain ⟨r, ms, ck, rfl, hB, hh, _⟩ := h
    simp [blk] at hb
    subst hb
    exact ⟨hB, (Array.getElem?_eq_some_iff.1 hh).1⟩

theorem Rel.blk_lt {N B : Nat} {w0 : Bs} {ι : Inj} {ρ : Nat → D} {η : Nat → Option O} {a : Act} {w : World} (h : Rel N B w0 ι ρ η a w)
    {id : Nat} {v : Value} (hv : ι id = some v) {b : Nat} (hb : blk v = some b) : wrB B ι b ∧ b < w.heap.size := by
  obtain ⟨o, ho⟩ := h.dom id v hv
  obtain ⟨v', hv', hr⟩ := h.obj id o ho
  rw [hv] at hv'
  cases hv'
  exact hr.blk_lt b hb

/-- Only new blocks have come. -/
abbrev Ext (w w' : World) : Prop := Below w.heap.size w w'

theorem Rep1.ext {w w' : World} {B : Nat} {ι : Inj} {v : Value} {d : D} (h : Rep1 w B ι v d) (hx : Ext w w') : Rep1 w' B ι v d := by
  rcases h with h | h
  · exact .inl (h.mono hx.size (fun b hb ho => ⟨ho, hx.block b hb⟩) (fun b hb ho => ⟨ho, hx.block b hb⟩))
  · exact .inr h
theorem Rep.ext {w w' : World} {B : Nat} {ι : Inj} {v : Value} {d : D} (h : Rep w B ι v d) (hx : Ext w w') : Rep w' B ι v d := by
  have := h.mapT (f := fun d => d) (fun v d h _ => h.ext hx) (fun v cs h => (Rep1.ext (.inl h) hx))
  rwa [mapT_id] at this
theorem ownsRow_ext {w w' : World} {B : Nat} {e : TypeId} {sz : Nat} {v : Value} {n : Nat} {xs : List Value} (h : w.ownsRow B e sz v n xs) (hx : Ext w w') : w'.ownsRow B e sz v n xs := by
  refine ⟨h.1, ?_⟩
  rcases h.2 with h | ⟨g, cap, cur, h1, h2, h3, h4⟩
  · exact .inl h
  · exact .inr ⟨g, cap, cur, h1, h2, by rw [hx.block g (Array.getElem?_eq_some_iff.1 h3).1]; exact h3, h4⟩
theorem ObjRel.ext {w w' : World} {B : Nat} {ι : Inj} {v : Value} {o : O} (h : ObjRel w B ι v o) (hx : Ext w w') : ObjRel w' B ι v o := by
  cases o with
  | box ty cs =>
    obtain ⟨b, cur, h1, h2, h3, h4, h5⟩ := h
    exact ⟨b, cur, h1, h2, by rw [hx.block b (Array.getElem?_eq_some_iff.1 h3).1]; exact h3, h4, fun j c d hc hd => ⟨(h5 j c d hc hd).1.ext hx, (h5 j c d hc hd).2⟩⟩
  | row ety sz fl es =>
    obtain ⟨xs, h1, h2, h3, h4, h5⟩ := h
    exact ⟨xs, h1, ⟨ownsRow_ext h2.1 hx, h2.2⟩, h3, fun i e j d c he hd hc => (h4 i e j d c he hd hc).mono hx.size (fun b hb ho => ⟨ho, hx.block b hb⟩) (fun b hb ho => ⟨ho, hx.block b hb⟩), h5⟩
  | mp es =>
    obtain ⟨r, ms, ck, h1, h2, h3, h4⟩ := h
    exact ⟨r, ms, ck, h1, h2, by rw [hx.block r (Array.getElem?_eq_some_iff.1 h3).1]; exact h3, h4⟩

theorem Rel.ext {N B : Nat} {w0 : Bs} {ι : Inj} {ρ : Nat → D} {η : Nat → Option O} {a : Act} {w w' : World} (h : Rel N B w0 ι ρ η a w) (hx : Ext w w') :
    Rel N B w0 ι ρ η a w' where
  defers := h.defers
  size := h.size
  tmp t := (h.tmp t).ext hx
  obj id o ho := let ⟨v, hv, hr⟩ := h.obj id o ho; ⟨v, hv, hr.ext hx⟩
  dom := h.dom
  inj := h.inj
  below := h.below.ext h.base hx
  base := Nat.le_trans h.base hx.size
  fresh := h.fresh
  kk := h.kk
  zz := h.zz
  k0 := h.k0
  nn := h.nn
  glob g cs hg := (h.glob g cs hg).mono hx.size (fun b hb ho => ⟨ho, hx.block b hb⟩) (fun b hb ho => ⟨ho, hx.block b hb⟩)

theorem getD_put {a : Act} {t : Nat} {v : Value} (ht : t < a.tmps.size) (i : Nat) : (a.put (some t) v).tmps.getD i undef = if i = t then v else a.tmps.getD i undef := by
  simp only [Act.put]
  by_cases h : i = t
  · subst h; simp [ht]
  · simp [h, Array.getElem?_setIfInBounds_ne (Ne.symm h)]

/-- A new value in a slot. -/
theorem Rel.put {N B : Nat} {w0 : Bs} {ι : Inj} {ρ : Nat → D} {η : Nat → Option O} {a : Act} {w : World} (h : Rel N B w0 ι ρ η a w) {t : Nat} (ht : t < N) {v : Value} {d : D}
    (hv : Rep w B ι v d) : Rel N B w0 ι (upd ρ t d) η (a.put (some t) v) w where
  defers := h.defers
  size := by simp [Act.put, h.size]
  tmp i := by
    rw [getD_put (by rw [h.size]; exact ht)]
    by_cases hi : i = t
    · subst hi; simpa using hv
    · rw [upd_ne _ _ hi, if_neg hi]; exact h.tmp i
  obj := h.obj
  dom := h.dom
  inj := h.inj
  below := h.below
  base := h.base
  fresh := h.fresh
  kk := h.kk
  zz := h.zz
  k0 := h.k0
  nn := h.nn
  glob := h.glob

/-- More is forgotten. -/
theorem Rel.weak {N B : Nat} {w0 : Bs} {ι : Inj} {ρ ρ' : Nat → D} {η : Nat → Option O} {a : Act} {w : World} (h : Rel N B w0 ι ρ η a w) (hρ : ∀ t, ρ' t = ρ t ∨ ρ' t = .any) :
    Rel N B w0 ι ρ' η a w where
  defers := h.defers
  size := h.size
  tmp t := by
    rcases hρ t with e | e
    · rw [e]; exact h.tmp t
    · rw [e]; exact .inl (.inl (.any _))
  obj := h.obj
  dom := h.dom
  inj := h.inj
  below := h.below
  base := h.base
  fresh := h.fresh
  kk := h.kk
  zz := h.zz
  k0 := h.k0
  nn := h.nn
  glob := h.glob

def del (ι : Inj) (id : Nat) : Inj := updI ι id none
theorem del_some {ι : Inj} {id i : Nat} {v : Value} (h : del ι id i = some v) : i ≠ id ∧ ι i = some v := by
  unfold del at h
  by_cases hi : i = id
  · subst hi; simp at h
  · rw [updI_ne _ _ hi] at h; exact ⟨hi, h⟩
theorem del_ne (ι : Inj) {id i : Nat} (h : i ≠ id) : del ι id i = ι i := updI_ne ι _ h

theorem okB_del {ι : Inj} {id b : Nat} (h : okB ι b) : okB (del ι id) b := by
  exact ⟨h.1, fun i v hv => h.2 i v (del_some hv).2⟩

def refsTo (id : Nat) : D → Bool
  | .ptr i _ => i == id
  | .row i => i == id
  | .rel i _ _ _ => i == id
  | .bsl i _ _ _ => i == id
  | .clo _ ids => ids.contains id
  | .mp i => i == id
  | _ => false
def kill1 (id : Nat) (d : D) : D := if refsTo id d then .any else d
def killD (id : Nat) : D → D := mapT (kill1 id)
def killO (id : Nat) : O → O
  | .box ty cs => .box ty (cs.map (kill1 id))
  | o => o
def killH (id : Nat) (η : Nat → Option O) : Nat → Option O := fun i => if i = id then none else (η i).map (killO id)

theorem RepI.del {w : World} {B : Nat} {ι : Inj} {v : Value} {d : D} (id : Nat) (h : RepI w (okB ι) (frB B ι) v d) : RepI w (okB (del ι id)) (frB B (del ι id)) v d :=
  h.mono (Nat.le_refl _) (fun _ _ ho => ⟨okB_del ho, rfl⟩) (fun _ _ ho => ⟨⟨ho.1, okB_del ho.2⟩, rfl⟩)

theorem Rep1.kill {w : World} {B : Nat} {ι : Inj} {v : Value} {d : D} (id : Nat) (h : Rep1 w B ι v d) : Rep1 w B (del ι id) v (kill1 id d) := by
  unfold kill1
  split
  · exact .inl (.any _)
  · rename_i hr
    rcases h with h | h
    · exact .inl (h.del id)
    · refine .inr ?_
      cases d <;> simp only [Ref] at h ⊢ <;> simp only [refsTo, beq_iff_eq] at hr
      case ptr i off => rw [del_ne ι hr]; exact h
      case row i => rw [del_ne ι hr]; exact h
      case rel i sz k off => rw [del_ne ι hr]; exact h
      case bsl i off n sz => rw [del_ne ι hr]; exact h
      case clo f ids =>
        obtain ⟨cap, h1, h2, h3⟩ := h
        refine ⟨cap, h1, h2, fun i c k hc hk => ?_⟩
        have : k ≠ id := by
          rintro rfl
          exact hr (by simp [List.contains_eq_mem, List.mem_of_getElem? hk])
        rw [del_ne ι this]
        exact h3 i c k hc hk
      case mp i => rw [del_ne ι hr]; exact h

theorem kill1_agg (id : Nat) (ds : List D) : kill1 id (.agg ds) = .agg ds := rfl

theorem Rep.kill {w : World} {B : Nat} {ι : Inj} {v : Value} {d : D} (id : Nat) (h : Rep w B ι v d) : Rep w B (del ι id) v (killD id d) :=
  h.mapT (fun v d h _ => h.kill id) (fun v cs h => Rep1.kill id (.inl h))

theorem ObjRel.kill {w : World} {B : Nat} {ι : Inj} {v : Value} {o : O} (id : Nat) (h : ObjRel w B ι v o) : ObjRel w B (del ι id) v (killO id o) := by
  cases o with
  | box ty cs =>
    obtain ⟨b, cur, h1, h2, h3, h4, h5⟩ := h
    refine ⟨b, cur, h1, h2, h3, by simpa using h4, fun j c d hc hd => ?_⟩
    simp only [List.getElem?_map, Option.map_eq_some_iff] at hd
    obtain ⟨d', hd, rfl⟩ := hd
    exact ⟨(h5 j c d' hc hd).1.kill id, (h5 j c d' hc hd).2⟩
  | row ety sz fl es =>
    obtain ⟨xs, h1, h2, h3, h4, h5⟩ := h
    exact ⟨xs, h1, h2, h3, fun i e j d c he hd hc => (h4 i e j d c he hd hc).del id, h5⟩
  | mp es => exact h

/-- An object is forgotten, and every reference to it. -/
theorem Rel.kill {N B : Nat} {w0 : Bs} {ι : Inj} {ρ : Nat → D} {η : Nat → Option O} {a : Act} {w : World} (h : Rel N B w0 ι ρ η a w) (id : Nat) :
    Rel N B w0 (del ι id) (fun t => killD id (ρ t)) (killH id η) a w where
  defers := h.defers
  size := h.size
  tmp t := (h.tmp t).kill id
  obj i o ho := by
    unfold killH at ho
    split at ho
    · cases ho
    · rename_i hi
      simp only [Option.map_eq_some_iff] at ho
      obtain ⟨o', ho, rfl⟩ := ho
      obtain ⟨v, hv, hr⟩ := h.obj i o' ho
      exact ⟨v, by rw [del_ne ι hi]; exact hv, hr.kill id⟩
  dom i v hv := by
    obtain ⟨hi, hv⟩ := del_some hv
    obtain ⟨o, ho⟩ := h.dom i v hv
    exact ⟨killO id o, by simp [killH, hi, ho]⟩
  inj i i' v v' b h1 h2 h3 h4 := by
    exact h.inj i i' v v' b (del_some h1).2 (del_some h2).2 h3 h4
  below := h.below
  base := h.base
  fresh := h.fresh
  kk := h.kk
  zz := h.zz
  k0 i v hv h1 h2 := by
    by_cases hi : i = id
    · subst hi; left; simp [Abs.del]
    · rw [del_ne ι hi]; exact h.k0 i v hv h1 h2
  nn := h.nn
  glob g cs hg := (h.glob g cs hg).del id

end Go.Abs
