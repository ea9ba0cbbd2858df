/-
  From a law's given row to the abstract interpreter: every input that reads as data is an abstract input of the same types; and a law that answers true on every such input meets its row.
-/
import Derived.Test.YthgamgdcjgbmnaaGreatDoorAbsQ
import Derived.ProofKit
import Derived.OpenShut
import Derived.Carry
namespace Go.Abs
set_option linter.unusedSimpArgs false
set_option linter.unusedVariables false
open Go Go.RowKit Go.ChangeShapes Go.WideShapes Go.ChangeAt

/-- Abstract cells of a type. -/
def TyC (P : Program) : Nat → TypeId → List D → Prop
  | 0, _, _ => False
  | n + 1, t, cs => match P.underlying t with
    | some .bool => ∃ b, cs = [.x (.bool b)]
    | some (.int k) => ∃ v, cs = [.x (.int k v)] ∧ (Lit.int k v).wf = true
    | some .string => ∃ s, cs = [.x (.string s)] ∧ s.size ≤ maxLen
    | some (.slice e) => ∃ es : List (List D), cs = [.sl es] ∧ es.length ≤ maxLen ∧ ∀ x ∈ es, TyC P n e x
    | some (.struct fs) => cs.length = P.cellsOf t ∧ ∀ f ∈ fs.toList, TyC P n f.type ((cs.drop f.offset).take (P.cellsOf f.type))
    | some (.array m e) => cs.length = P.cellsOf t ∧ ∀ i, i < m → TyC P n e ((cs.drop (i * P.cellsOf e)).take (P.cellsOf e))
    | _ => False

/-- Fields that lie one behind the other. -/
def fieldsOk (P : Program) (S : List TypeId) (tot : Nat) : Nat → List Field → Bool
  | o, [] => o == tot
  | o, f :: r => f.offset == o && S.contains f.type && fieldsOk P S tot (o + P.cellsOf f.type) r
/-- A list of types, closed under what they are made of. -/
def okS (P : Program) (S : List TypeId) : Bool := S.all fun t => match P.underlying t with
  | some .bool => P.cellsOf t == 1
  | some (.int _) => P.cellsOf t == 1
  | some .string => P.cellsOf t == 1
  | some (.slice e) => P.cellsOf t == 1 && S.contains e && decide (0 < P.cellsOf e)
  | some (.struct fs) => fieldsOk P S (P.cellsOf t) 0 fs.toList
  | some (.array m e) => P.cellsOf t == m * P.cellsOf e && S.contains e
  | _ => false

section
variable {H : Type} {enc : TypeId × Value → H} {P : Program} {w : World} {base : Nat} {spare : Nat → Bool} {held : Bool}

def InC (w : World) (c : Value) (d : D) : Prop := RepI w (fun _ => True) (fun _ => False) c d ∧ c.oneCell' = true ∧ isCell d = true
def LRel (R : Value → D → Prop) (cs : List Value) (ds : List D) : Prop := cs.length = ds.length ∧ ∀ (i : Nat) (c : Value) (d : D), cs[i]? = some c → ds[i]? = some d → R c d

theorem LRel.one {R : Value → D → Prop} {c : Value} {d : D} (h : R c d) : LRel R [c] [d] := by
  refine ⟨rfl, fun i c' d' h1 h2 => ?_⟩
  cases i with
  | zero => simp at h1 h2; subst h1 h2; exact h
  | succ i => simp at h1
theorem LRel.append {R : Value → D → Prop} {a b : List Value} {x y : List D} (h : LRel R a x) (k : LRel R b y) : LRel R (a ++ b) (x ++ y) := by
  refine ⟨by simp [h.1, k.1], fun i c d h1 h2 => ?_⟩
  by_cases hi : i < a.length
  · rw [List.getElem?_append_left hi] at h1
    rw [List.getElem?_append_left (by rw [← h.1]; exact hi)] at h2
    exact h.2 i c d h1 h2
  · rw [List.getElem?_append_right (by omega)] at h1
    rw [List.getElem?_append_right (by rw [← h.1]; omega), ← h.1] at h2
    exact k.2 _ c d h1 h2

/-- The parts of a struct, one behind the other. -/
theorem struct_abs {n : Nat} {S : List TypeId} (cs : List Value) (tot : Nat) (hcs : cs.length = tot)
    (part : ∀ f : Field, f.type ∈ S → (∃ x, DataW.trod enc P w base spare held n f.type ((cs.drop f.offset).take (P.cellsOf f.type)) = some x) → ∃ ds, TyC P n f.type ds ∧ LRel (InC w) ((cs.drop f.offset).take (P.cellsOf f.type)) ds) :
    ∀ (fs : List Field) (o : Nat), o ≤ tot → fieldsOk P S tot o fs = true → (∀ f ∈ fs, ∃ x, DataW.trod enc P w base spare held n f.type ((cs.drop f.offset).take (P.cellsOf f.type)) = some x) →
      ∃ ds, LRel (InC w) (cs.drop o) ds ∧ ∀ f ∈ fs, o ≤ f.offset ∧ TyC P n f.type ((ds.drop (f.offset - o)).take (P.cellsOf f.type))
  | [], o, ho, hok, _ => by
    simp only [fieldsOk, beq_iff_eq] at hok
    refine ⟨[], ⟨by simp; omega, fun i c d h1 h2 => by simp at h2⟩, fun f hf => by simp at hf⟩
  | f :: fs, o, ho, hok, hx => by
    simp only [fieldsOk, Bool.and_eq_true, beq_iff_eq, List.contains_eq_mem, decide_eq_true_eq] at hok
    obtain ⟨⟨h1, h2⟩, h3⟩ := hok
    have hmono : ∀ (fs : List Field) (o : Nat), fieldsOk P S tot o fs = true → o ≤ tot := by
      intro fs
      induction fs with
      | nil => intro o h; simp only [fieldsOk, beq_iff_eq] at h; omega
      | cons g r ih =>
        intro o h
        simp only [fieldsOk, Bool.and_eq_true] at h
        have := ih _ h.2
        omega
    have hle := hmono fs _ h3
    obtain ⟨d0, t0, r0⟩ := part f h2 (hx f (by simp))
    obtain ⟨ds, hr, hf⟩ := struct_abs cs tot hcs part fs (o + P.cellsOf f.type) hle h3 (fun g hg => hx g (by simp [hg]))
    subst h1
    have hl0 : d0.length = P.cellsOf f.type := by
      rw [← r0.1]
      simp
      omega
    refine ⟨d0 ++ ds, ?_, fun g hg => ?_⟩
    · have := r0.append hr
      have e : (cs.drop f.offset).take (P.cellsOf f.type) ++ cs.drop (f.offset + P.cellsOf f.type) = cs.drop f.offset := by
        rw [← List.drop_drop, List.take_append_drop]
      rwa [e] at this
    · rcases List.mem_cons.1 hg with rfl | hg
      · refine ⟨Nat.le_refl _, ?_⟩
        rw [Nat.sub_self, List.drop_zero, List.take_append_of_le_length (by omega), List.take_of_length_le (by omega)]
        exact t0
      · obtain ⟨h4, h5⟩ := hf g hg
        refine ⟨by omega, ?_⟩
        rw [List.drop_append_of_le_length' d0 ds (by omega)]
        have : g.offset - f.offset - d0.length = g.offset - (f.offset + P.cellsOf f.type) := by omega
        rw [this]
        exact h5
where
  List.drop_append_of_le_length' {α : Type} (l₁ l₂ : List α) {n : Nat} (h : l₁.length ≤ n) : (l₁ ++ l₂).drop n = l₂.drop (n - l₁.length) := by
    rw [List.drop_append, List.drop_of_length_le h, List.nil_append]

theorem array_abs {n sz : Nat} {e : TypeId} (cs : List Value) (hsz : sz = P.cellsOf e) (part : ∀ i, (∃ x, DataW.trod enc P w base spare held n e ((cs.drop (i * sz)).take sz) = some x) → ∃ ds, TyC P n e ds ∧ LRel (InC w) ((cs.drop (i * sz)).take sz) ds) :
    ∀ (m k : Nat), cs.length = (k + m) * sz → (∀ i, i < m → ∃ x, DataW.trod enc P w base spare held n e ((cs.drop ((k + i) * sz)).take sz) = some x) →
      ∃ ds, LRel (InC w) (cs.drop (k * sz)) ds ∧ ∀ i, i < m → TyC P n e ((ds.drop (i * sz)).take sz)
  | 0, k, hcs, _ => ⟨[], ⟨by simp at hcs; simp [hcs], fun i c d h1 h2 => by simp at h2⟩, fun i hi => by omega⟩
  | m + 1, k, hcs, hx => by
    obtain ⟨d0, t0, r0⟩ := part k (by have := hx 0 (by omega); simpa using this)
    obtain ⟨ds, hr, hf⟩ := array_abs cs hsz part m (k + 1) (by rw [hcs]; congr 1; omega) (fun i hi => by have := hx (i + 1) (by omega); rwa [show k + (i + 1) = k + 1 + i by omega] at this)
    have hl0 : d0.length = sz := by
      rw [← r0.1]
      have : (k + 1) * sz ≤ (k + (m + 1)) * sz := Nat.mul_le_mul_right _ (by omega)
      rw [Nat.add_mul, Nat.one_mul] at this
      simp
      omega
    refine ⟨d0 ++ ds, ?_, fun i hi => ?_⟩
    · have := r0.append hr
      have e : (cs.drop (k * sz)).take sz ++ cs.drop ((k + 1) * sz) = cs.drop (k * sz) := by
        rw [Nat.add_mul, Nat.one_mul, ← List.drop_drop, List.take_append_drop]
      rwa [e] at this
    · cases i with
      | zero =>
        rw [Nat.zero_mul, List.drop_zero, List.take_append_of_le_length (by omega), List.take_of_length_le (by omega)]
        exact t0
      | succ i =>
        have hle : d0.length ≤ (i + 1) * sz := by rw [Nat.add_mul, Nat.one_mul]; omega
        rw [List.drop_append, List.drop_of_length_le hle, List.nil_append, hl0, Nat.add_mul, Nat.one_mul, Nat.add_sub_cancel]
        exact hf i (by omega)

/-- WHATEVER READS AS DATA IS AN ABSTRACT INPUT. -/
theorem trod_abs {S : List TypeId} (hS : okS P S = true) : ∀ (fuel : Nat) (t : TypeId) (cs : List Value) (x : DataW H × List MemPlace), t ∈ S → DataW.trod enc P w base spare held fuel t cs = some x →
    ∃ ds, TyC P fuel t ds ∧ LRel (InC w) cs ds
  | 0, _, _, _, _, h => by simp [DataW.trod] at h
  | fuel + 1, t, cs, x, ht, h => by
    have hok := List.all_eq_true.1 hS t ht
    have ih := fun t' cs' x' => trod_abs hS fuel t' cs' x'
    cases hu : P.underlying t with
    | none => rw [hu] at hok; cases hok
    | some td =>
      rw [hu] at hok
      cases td with
      | bool =>
        obtain ⟨b, rfl, _⟩ := DataW.trod_bool hu h
        exact ⟨[.x (.bool b)], by unfold TyC; rw [hu]; exact ⟨b, rfl⟩, LRel.one ⟨.x _, rfl, rfl⟩⟩
      | int k =>
        obtain ⟨n, rfl, _, wf⟩ := DataW.trod_int hu h
        exact ⟨[.x (.int k n)], by unfold TyC; rw [hu]; exact ⟨n, rfl, wf⟩, LRel.one ⟨.x _, rfl, rfl⟩⟩
      | string =>
        obtain ⟨s, rfl, _, hs⟩ := DataW.trod_string hu h
        exact ⟨[.x (.string s)], by unfold TyC; rw [hu]; exact ⟨s, rfl, hs⟩, LRel.one ⟨.x _, rfl, rfl⟩⟩
      | slice e =>
        simp only [Bool.and_eq_true, beq_iff_eq, List.contains_eq_mem, decide_eq_true_eq] at hok
        obtain ⟨⟨_, he⟩, hpos⟩ := hok
        rcases DataW.trod_slice hu h with ⟨rfl, _⟩ | ⟨a, len, cap, elems, rest, n, hn, rfl, _, hb, hl, hm, hlen, hel, _, _⟩
        · exact ⟨[.sl []], by unfold TyC; rw [hu]; exact ⟨[], rfl, by simp [maxLen], fun x hx => by simp at hx⟩, LRel.one ⟨.sl0 _ _, rfl, rfl⟩⟩
        · injection hn with hn
          subst hn
          have hex : ∀ i, i < len → ∃ cs' ds, w.cells? base (a.add (i * P.cellsOf e)) (P.cellsOf e) = some cs' ∧ TyC P fuel e ds ∧ LRel (InC w) cs' ds := by
            intro i hi
            have h1 := hel i hi
            have h2 : elems[i]? = some (elems[i]'(by omega)) := List.getElem?_eq_getElem (by omega)
            rw [h2] at h1
            simp only [Option.bind_eq_some_iff] at h1
            obtain ⟨cs', hc, ht'⟩ := h1
            obtain ⟨ds, h3, h4⟩ := ih e cs' _ he ht'
            exact ⟨cs', ds, hc, h3, h4⟩
          have hch : ∃ g : Nat → List D, ∀ i, i < len → ∃ cs', w.cells? base (a.add (i * P.cellsOf e)) (P.cellsOf e) = some cs' ∧ TyC P fuel e (g i) ∧ LRel (InC w) cs' (g i) := by
            classical
            refine ⟨fun i => if hi : i < len then Classical.choose (Classical.choose_spec (hex i hi)) else [], fun i hi => ?_⟩
            have := Classical.choose_spec (Classical.choose_spec (hex i hi))
            simp only [dif_pos hi]
            exact ⟨_, this⟩
          obtain ⟨g, hg⟩ := hch
          have hget : ∀ i x, ((List.range len).map g)[i]? = some x → i < len ∧ x = g i := by
            intro i x hx
            rw [List.getElem?_map] at hx
            simp only [Option.map_eq_some_iff] at hx
            obtain ⟨k, hk, rfl⟩ := hx
            obtain ⟨h1, h2⟩ := List.getElem?_eq_some_iff.1 hk
            simp at h1 h2
            subst h2
            exact ⟨h1, rfl⟩
          have hlenD : ((List.range len).map g).length = len := by simp
          refine ⟨[.sl ((List.range len).map g)], ?_, LRel.one ⟨?_, rfl, rfl⟩⟩
          · unfold TyC
            rw [hu]
            refine ⟨_, rfl, by omega, fun x hx => ?_⟩
            obtain ⟨i, hi⟩ := List.getElem?_of_mem hx
            obtain ⟨h1, rfl⟩ := hget i x hi
            obtain ⟨_, _, h2, _⟩ := hg i h1
            exact h2
          · have cell : ∀ i j, i < len → j < P.cellsOf e → ∃ u d, w.cell? (a.add (i * P.cellsOf e + j)) = some u ∧ (g i)[j]? = some d ∧ InC w u d := by
              intro i j hi hj
              obtain ⟨cs', hc, _, hr⟩ := hg i hi
              obtain ⟨_, hcl, hcs⟩ := World.cells?_some hc
              have h1 := hcs j hj
              have h2 : cs'[j]? = some (cs'[j]'(by omega)) := List.getElem?_eq_getElem (by omega)
              have hgl : j < (g i).length := by rw [← hr.1]; omega
              have h3 : (g i)[j]? = some (g i)[j] := List.getElem?_eq_getElem hgl
              rw [add_add', h2] at h1
              exact ⟨_, _, h1, h3, hr.2 j _ _ h2 h3⟩
            have glen : ∀ i, i < len → (g i).length = P.cellsOf e := by
              intro i hi
              obtain ⟨cs', hc, _, hr⟩ := hg i hi
              obtain ⟨_, hcl, _⟩ := World.cells?_some hc
              rw [← hr.1, hcl]
            by_cases hz : len = 0
            · subst hz
              exact .sl0 _ _
            · have hblk : a.block < w.heap.size := by
                obtain ⟨u, _, hu', _⟩ := cell 0 0 (by omega) hpos
                rcases Nat.lt_or_ge a.block w.heap.size with h' | h'
                · exact h'
                · unfold World.cell? at hu'
                  rw [add_block, Array.getElem?_eq_none h'] at hu'
                  cases hu'
              have := @RepI.sl w (fun _ => True) (fun _ => False) a cap (P.cellsOf e) ((List.range len).map g) trivial hblk (by omega) (fun x hx d hd => by
                  obtain ⟨i, hi⟩ := List.getElem?_of_mem hx
                  obtain ⟨h1, rfl⟩ := hget i x hi
                  obtain ⟨j, hj⟩ := List.getElem?_of_mem hd
                  have hjl := (List.getElem?_eq_some_iff.1 hj).1
                  obtain ⟨u, d', _, h2, h3⟩ := cell i j h1 (by rw [← glen i h1]; exact hjl)
                  rw [hj] at h2
                  cases h2
                  exact h3.2.2) (fun x hx => by
                  obtain ⟨i, hi⟩ := List.getElem?_of_mem hx
                  obtain ⟨h1, rfl⟩ := hget i x hi
                  exact glen i h1) (fun i j hi hj => by
                  obtain ⟨u, d, h1, _, h3⟩ := cell i j (by omega) hj
                  exact ⟨u, h1, h3.2.1⟩) (fun i x j d u hx hd hu' => by
                  obtain ⟨h1, rfl⟩ := hget i x hx
                  have hjl := (List.getElem?_eq_some_iff.1 hd).1
                  obtain ⟨u', d', h4, h5, h6⟩ := cell i j h1 (by rw [← glen i h1]; exact hjl)
                  rw [hu'] at h4
                  cases h4
                  rw [hd] at h5
                  cases h5
                  exact h6.1)
              rwa [hlenD] at this
      | struct fs =>
        obtain ⟨xs, n, hn, _, hcl, hxl, hf⟩ := DataW.trod_struct hu h
        injection hn with hn
        subst hn
        obtain ⟨ds, hr, hty⟩ := struct_abs (n := fuel) (S := S) cs (P.cellsOf t) hcl (fun f hfS ⟨x, hx⟩ => ih f.type _ x hfS hx) fs.toList 0 (Nat.zero_le _) hok (fun f hfm => by
          obtain ⟨i, hi⟩ := List.getElem?_of_mem hfm
          rw [Array.getElem?_toList] at hi
          have hil := (Array.getElem?_eq_some_iff.1 hi).1
          exact ⟨_, (hf i f hi).trans (List.getElem?_eq_getElem (by omega))⟩)
        refine ⟨ds, ?_, by simpa using hr⟩
        unfold TyC
        rw [hu]
        refine ⟨by rw [← hcl]; have := hr.1; simpa using this.symm, fun f hfm => ?_⟩
        have := (hty f hfm).2
        simpa using this
      | array m e =>
        simp only [Bool.and_eq_true, beq_iff_eq, List.contains_eq_mem, decide_eq_true_eq] at hok
        obtain ⟨xs, n, hn, _, hcl, hxl, hf⟩ := DataW.trod_array hu h
        injection hn with hn
        subst hn
        obtain ⟨ds, hr, hty⟩ := array_abs (n := fuel) (e := e) cs rfl (fun i ⟨x, hx⟩ => ih e _ x hok.2 hx) m 0 (by rw [hcl, hok.1]; simp) (fun i hi => by
          have h1 := hf i hi
          exact ⟨_, by rw [Nat.zero_add]; exact h1.trans (List.getElem?_eq_getElem (by omega))⟩)
        refine ⟨ds, ?_, by simpa using hr⟩
        unfold TyC
        rw [hu]
        exact ⟨by rw [← hcl]; have := hr.1; simpa using this.symm, hty⟩
      | _ => cases hok

end
end Go.Abs
