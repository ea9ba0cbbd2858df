/-
  A run of a kiln in plain words: its faults as a set, its limits, its beginning, and its fans.
-/
import Derived.Test.YtdefohgkniglpaaGreatDoorChM
namespace Go.Proofs.YtdefohgkniglpaaGreatDoor
set_option linter.unusedSimpArgs false
set_option linter.unusedVariables false
open Go Go.Abs
set_option maxHeartbeats 2000000
set_option maxRecDepth 100000
/-! ### Sorted, of equal ones one -/
open Go.Lib in
theorem compactI_up (d : Array Int) (hd : ∀ i j, i ≤ j → j < d.size → d[i]! ≤ d[j]!) : ∀ m, m ≤ d.size →
    (∀ x, x ∈ compactUpTo d m ↔ ∃ j, j < m ∧ d[j]! = x) ∧ (compactUpTo d m).Pairwise (· < ·)
  | 0, _ => by simp [compactUpTo]
  | m + 1, hm => by
    obtain ⟨h1, h2⟩ := compactI_up d hd m (by omega)
    rw [compactUpTo_succ]
    by_cases hk : keeps d m = true
    · rw [if_pos hk]
      refine ⟨fun x => ?_, List.pairwise_append.2 ⟨h2, by simp, fun a ha b hb => ?_⟩⟩
      · rw [List.mem_append, h1]
        constructor
        · rintro (⟨j, hj, e⟩ | e)
          · exact ⟨j, by omega, e⟩
          · simp at e; exact ⟨m, by omega, e.symm⟩
        · rintro ⟨j, hj, e⟩
          by_cases hjm : j = m
          · subst hjm; right; simp [e]
          · exact .inl ⟨j, by omega, e⟩
      · simp at hb
        subst hb
        obtain ⟨j, hj, rfl⟩ := (h1 a).1 ha
        simp only [keeps, decide_eq_true_eq] at hk
        have hm0 : m ≠ 0 := by omega
        have hk := hk.resolve_left hm0
        have g1 := hd j (m - 1) (by omega) (by omega)
        have g2 := hd (m - 1) m (by omega) (by omega)
        omega
    · rw [if_neg hk, List.append_nil]
      refine ⟨fun x => ?_, h2⟩
      rw [h1]
      constructor
      · rintro ⟨j, hj, e⟩; exact ⟨j, by omega, e⟩
      · rintro ⟨j, hj, e⟩
        by_cases hjm : j = m
        · subst hjm
          simp only [keeps, decide_eq_true_eq, not_or, Decidable.not_not] at hk
          exact ⟨j - 1, by omega, by rw [← hk.2]; exact e⟩
        · exact ⟨j, by omega, e⟩
theorem setI (l : List Int) : (compactI (sortI l)).Pairwise (· < ·) ∧ ∀ z, z ∈ compactI (sortI l) ↔ z ∈ l := by
  have hp : (sortI l).Pairwise (fun a b => decide (a ≤ b) = true) := by
    refine List.pairwise_mergeSort (fun a b c h1 h2 => ?_) (fun a b => ?_) _
    · simp only [decide_eq_true_eq] at *
      omega
    · simp only [Bool.or_eq_true, decide_eq_true_eq]
      omega
  have gb : ∀ (t : List Int) (j : Nat) (h : j < t.length), t.toArray[j]! = t[j] := fun t j h => by
    rw [getElem!_pos t.toArray j (by simpa using h)]
    exact List.getElem_toArray _
  obtain ⟨c1, c2⟩ := compactI_up (sortI l).toArray (fun i j hij hj => by
    simp only [List.size_toArray] at hj
    by_cases e : i = j
    · subst e; exact Int.le_refl _
    · have := List.pairwise_iff_getElem.1 hp i j (by omega) hj (by omega)
      simp only [decide_eq_true_eq] at this
      rw [gb _ i (by omega), gb _ j hj]
      exact this) _ (Nat.le_refl _)
  have e : compactI (sortI l) = Lib.compactUpTo (sortI l).toArray (sortI l).toArray.size := by
    simp [compactI, Lib.compact]
  rw [e]
  refine ⟨c2, fun z => ?_⟩
  rw [c1]
  constructor
  · rintro ⟨j, hj, rfl⟩
    simp only [List.size_toArray] at hj
    rw [gb _ j hj]
    exact List.mem_mergeSort.1 (List.getElem_mem hj)
  · intro hz
    have hm : z ∈ sortI l := List.mem_mergeSort.2 hz
    obtain ⟨j, hj, ej⟩ := List.mem_iff_getElem.1 hm
    exact ⟨j, by simpa using hj, by rw [gb _ j hj, ej]⟩
theorem asc_eqI : ∀ {a b : List Int}, a.Pairwise (· < ·) → b.Pairwise (· < ·) → (∀ z, z ∈ a ↔ z ∈ b) → a = b
  | [], [], _, _, _ => rfl
  | [], y :: b, _, _, h => absurd ((h y).2 (by simp)) (by simp)
  | x :: a, [], _, _, h => absurd ((h x).1 (by simp)) (by simp)
  | x :: a, y :: b, ha, hb, h => by
    obtain ⟨a1, a2⟩ := List.pairwise_cons.1 ha
    obtain ⟨b1, b2⟩ := List.pairwise_cons.1 hb
    have e : x = y := by
      rcases List.mem_cons.1 ((h x).1 (by simp)) with e | g
      · exact e
      · rcases List.mem_cons.1 ((h y).2 (by simp)) with e | g'
        · exact e.symm
        · have := b1 x g; have := a1 y g'; omega
    subst e
    rw [asc_eqI a2 b2 (fun z => ?_)]
    have := h z
    simp only [List.mem_cons] at this
    constructor
    · intro hz
      rcases this.1 (.inr hz) with e | g
      · subst e; have := a1 z hz; omega
      · exact g
    · intro hz
      rcases this.2 (.inr hz) with e | g
      · subst e; have := b1 z hz; omega
      · exact g
theorem mem_kinds {t z : Int} : ∀ {l : List Flt}, z ∈ kinds t l ↔ ∃ f ∈ l, f.a ≤ t ∧ t < f.b ∧ f.kind = z
  | [] => by simp [kinds]
  | f :: r => by
    have ih := mem_kinds (t := t) (z := z) (l := r)
    unfold kinds
    simp only [List.mem_cons, exists_eq_or_imp]
    split
    · rename_i h1
      split
      · rename_i h2; simp [ih, h1, h2, eq_comm]
      · rename_i h2; simp [ih, h2]
    · rename_i h1; simp [ih, h1]
theorem mem_atM {l : List Flt} {t z : Int} : z ∈ atM l t ↔ ∃ f ∈ l, f.a ≤ t ∧ t < f.b ∧ f.kind = z := by
  rw [atM, (setI _).2, mem_kinds]
theorem atM_asc (l : List Flt) (t : Int) : (atM l t).Pairwise (· < ·) := (setI _).1
theorem kinds_len (t : Int) : ∀ l : List Flt, (kinds t l).length ≤ l.length
  | [] => Nat.le_refl _
  | f :: r => by
    have := kinds_len t r
    unfold kinds
    split
    · split
      · simp; omega
      · simp; omega
    · simp; omega
theorem atM_len (l : List Flt) (t : Int) : (atM l t).length ≤ l.length := by
  have h1 := compactI_length (sortI (kinds t l))
  rw [sortI_length] at h1
  have := kinds_len t l
  unfold atM
  omega
theorem inL_iff (v : Int) : ∀ l : List Int, inL v l = true ↔ v ∈ l
  | [] => by simp [inL]
  | x :: r => by
    have ih := inL_iff v r
    unfold inL
    split
    · rename_i h; simp_all
    · rename_i h
      simp only [List.mem_cons]
      constructor
      · intro hh; exact .inr (ih.1 (by simpa using hh))
      · rintro (e | hh)
        · exact absurd e (by intro e; exact h (by simp_all))
        · simpa using ih.2 hh
/-! ### The greatest -/
theorem mx_le {a b c : Int} : mx a b ≤ c ↔ a ≤ c ∧ b ≤ c := by unfold mx; split <;> omega
theorem le_mx (a b : Int) : a ≤ mx a b ∧ b ≤ mx a b := by unfold mx; split <;> omega
theorem stp_le {c : Int} : ∀ {l : List Itm} {s : Int}, stp s l ≤ c ↔ s ≤ c ∧ ∀ x ∈ l, grad x.cel ≤ c
  | [], s => by simp [stp]
  | x :: r, s => by
    unfold stp
    rw [stp_le]
    simp only [List.mem_cons, forall_eq_or_imp]
    split
    · constructor
      · rintro ⟨h1, h2⟩; exact ⟨by omega, h1, h2⟩
      · rintro ⟨h1, h2, h3⟩; exact ⟨h2, h3⟩
    · constructor
      · rintro ⟨h1, h2⟩; exact ⟨h1, by omega, h2⟩
      · rintro ⟨h1, h2, h3⟩; exact ⟨h1, h3⟩
theorem steep_le {c : Int} : ∀ {l : List Itm}, l ≠ [] → (steepM l ≤ c ↔ ∀ x ∈ l, grad x.cel ≤ c)
  | [], h => absurd rfl h
  | x :: r, _ => by
    unfold steepM
    rw [stp_le]
    simp only [List.mem_cons, forall_eq_or_imp]
theorem stp_eq (s : Int) {l : List Itm} (h : l ≠ []) : stp s l = mx s (steepM l) := by
  apply Int.le_antisymm
  · rw [stp_le]
    refine ⟨(le_mx _ _).1, fun x hx => ?_⟩
    have := (steep_le h).1 (Int.le_refl _) x hx
    have := (le_mx s (steepM l)).2
    omega
  · rw [mx_le]
    obtain ⟨h1, h2⟩ := stp_le.1 (Int.le_refl (stp s l))
    exact ⟨h1, (steep_le h).2 h2⟩
/-! ### Limits -/
theorem InvK.ne {k : Kl} (h : InvK k) : k.items ≠ [] := by
  intro e
  have := h.some
  rw [e] at this
  simp at this
structure Lim (w : Spc) (q : List Itm) (first : Int) (r : Rn) : Prop where
  ww : r.k.w = w
  a : r.a ≤ w.temp
  b : r.b ≤ w.dep
  bnd : BndL w.grad r.k.items q
  all : ∀ x ∈ r.k.items, grad x.cel ≤ r.g
  g : r.g ≤ first
theorem bnd_first {m first : Int} (hm : m ≤ first) : ∀ {l q : List Itm}, BndL m l q → (∀ y ∈ q, grad y.cel ≤ first) → ∀ x ∈ l, grad x.cel ≤ first
  | [], [], _, _, x, hx => by simp at hx
  | x :: r, y :: q, ⟨_, h2, _, h4⟩, hq, z, hz => by
    rcases List.mem_cons.1 hz with rfl | hz
    · have := hq y (by simp)
      split at h2 <;> omega
    · exact bnd_first hm h4 (fun y hy => hq y (by simp [hy])) z hz
theorem lim_go {w : Spc} {q : List Itm} {first : Int} (hm : w.grad ≤ first) (hq : ∀ y ∈ q, grad y.cel ≤ first) (fs : List Flt) (t : Nat) (r : Rn) (iv : InvK r.k) (h : Lim w q first r) (hs : r.k.stage < r.k.stages.length) : Lim w q first (goR fs t r) := by
  have iv2 := inv_tick iv hs (atM fs t)
  have hw : (tickK r.k (atM fs t)).w = w := h.ww
  have hb : BndL w.grad (tickK r.k (atM fs t)).items q := by
    have := bnd_tick iv (by rw [h.ww]; exact h.bnd) (atM fs t)
    rwa [h.ww] at this
  have h1 := iv2.temp
  have h2 := iv2.dep
  rw [hw] at h1 h2
  have hall := bnd_first hm hb hq
  refine ⟨hw, mx_le.2 ⟨h.a, h1.2⟩, mx_le.2 ⟨h.b, h2.2⟩, hb, fun x hx => ?_, mx_le.2 ⟨h.g, (steep_le iv2.ne).2 hall⟩⟩
  have := (steep_le iv2.ne).1 (Int.le_refl _) x hx
  have := (le_mx r.g (steepM (tickK r.k (atM fs t)).items)).2
  show grad x.cel ≤ mx r.g (steepM (tickK r.k (atM fs t)).items)
  omega
theorem lim_rn {g : Gv} (h : errD g = 0) {first : Int} (hm : g.w.grad ≤ first) (hq : ∀ b ∈ g.l, grad b.cel ≤ first) : Lim g.w (g.l.map itemB) first (rnM g) := by
  have iv := inv_kil h
  have hq' : ∀ y ∈ g.l.map itemB, grad y.cel ≤ first := by
    intro y hy
    obtain ⟨b, hb, rfl⟩ := List.mem_map.1 hy
    exact hq b hb
  have h1 := iv.temp
  have h2 := iv.dep
  refine (runM_inv (p := Lim g.w (g.l.map itemB) first) (fun t r i h s => lim_go hm hq' g.fs t r i h s) _ _ _ iv ⟨rfl, h1.2, h2.2, BndL.refl iv.cells, fun x hx => (steep_le iv.ne).1 (Int.le_refl _) x hx, (steep_le iv.ne).2 hq'⟩).2
/-! ### A shorter run -/
theorem runM_succ (fs : List Flt) (n t : Nat) (r : Rn) : runM fs (n + 1) t r = if doneK r.k = true then r else runM fs n (t + 1) (goR fs t r) := rfl
theorem run_done (fs : List Flt) (n t : Nat) (r : Rn) (h : doneK r.k = true) : runM fs n t r = r := by
  cases n with
  | zero => rfl
  | succ n => rw [runM_succ, if_pos h]
theorem run_add (fs : List Flt) : ∀ (n d t : Nat) (r : Rn), runM fs (n + d) t r = runM fs d (t + n) (runM fs n t r)
  | 0, d, t, r => by simp [runM]
  | n + 1, d, t, r => by
    rw [show n + 1 + d = (n + d) + 1 by omega, runM_succ, runM_succ]
    by_cases h : doneK r.k = true
    · rw [if_pos h, if_pos h, run_done _ _ _ _ h]
    · rw [if_neg h, if_neg h, run_add fs n d (t + 1), show t + 1 + n = t + (n + 1) by omega]
structure Mono (r q : Rn) : Prop where
  held : r.k.held ≤ q.k.held
  stage : r.k.stage ≤ q.k.stage
  a : r.a ≤ q.a
  b : r.b ≤ q.b
  g : r.g ≤ q.g
structure Cnt (m : Nat) (r : Rn) : Prop where
  ticks : 0 ≤ r.k.ticks ∧ r.k.ticks ≤ m
  held : 0 ≤ r.k.held ∧ r.k.held ≤ r.k.ticks
theorem tick_ticks {k : Kl} {f : List Int} (h : 0 ≤ k.ticks ∧ k.ticks ≤ 1000000) : (tickK k f).ticks = k.ticks + 1 := by
  show IntKind.i64.wrap (k.ticks + 1) = _
  exact wrap64 (by omega) (by omega)
theorem tick_held {k : Kl} {f : List Int} (h : 0 ≤ k.held ∧ k.held ≤ 1000000) : k.held ≤ (tickK k f).held ∧ (tickK k f).held ≤ k.held + 1 := by
  unfold tickK tickC
  dsimp only
  split
  · rw [wrap64 (by omega) (by omega)]; omega
  · omega
theorem tick_stage (k : Kl) (f : List Int) : k.stage ≤ (tickK k f).stage := by
  unfold tickK tickC
  dsimp only
  split <;> omega
theorem go_cnt {fs : List Flt} {t m : Nat} {r : Rn} (hm : m ≤ 100000) (h : Cnt m r) : Cnt (m + 1) (goR fs t r) := by
  obtain ⟨h1, h2⟩ := h
  have a1 := tick_ticks (k := r.k) (f := atM fs t) (by omega)
  have a2 := tick_held (k := r.k) (f := atM fs t) (by omega)
  refine ⟨?_, ?_⟩
  · show 0 ≤ (tickK r.k (atM fs t)).ticks ∧ (tickK r.k (atM fs t)).ticks ≤ _
    omega
  · show 0 ≤ (tickK r.k (atM fs t)).held ∧ (tickK r.k (atM fs t)).held ≤ (tickK r.k (atM fs t)).ticks
    omega
theorem run_mono (fs : List Flt) : ∀ (n t m : Nat) (r : Rn), m + n ≤ 100000 → Cnt m r → Mono r (runM fs n t r) ∧ Cnt (m + n) (runM fs n t r) ∧ (r.k.ticks = m → ((runM fs n t r).k.ticks = m + n ∨ ((runM fs n t r).k.ticks < m + n ∧ doneK (runM fs n t r).k = true)))
  | 0, _, m, r, _, h => ⟨⟨Int.le_refl _, Nat.le_refl _, Int.le_refl _, Int.le_refl _, Int.le_refl _⟩, h, fun e => .inl (by simpa [runM] using e)⟩
  | n + 1, t, m, r, hm, h => by
    unfold runM
    split
    · rename_i hd
      exact ⟨⟨Int.le_refl _, Nat.le_refl _, Int.le_refl _, Int.le_refl _, Int.le_refl _⟩, ⟨by have := h.ticks; omega, h.held⟩, fun e => .inr ⟨by omega, hd⟩⟩
    · have hc := go_cnt (fs := fs) (t := t) (by omega) h
      obtain ⟨⟨i1, i2, i3, i4, i5⟩, i6, i7⟩ := run_mono fs n (t + 1) (m + 1) (goR fs t r) (by omega) hc
      have ht := h.ticks
      have hh := h.held
      have a1 := (tick_held (k := r.k) (f := atM fs t) (by omega)).1
      have a2 := tick_stage r.k (atM fs t)
      have a3 := tick_ticks (k := r.k) (f := atM fs t) (by omega)
      have a4 := (le_mx r.a (tickK r.k (atM fs t)).t).1
      have a5 := (le_mx r.b (tickK r.k (atM fs t)).d).1
      have a6 := (le_mx r.g (steepM (tickK r.k (atM fs t)).items)).1
      refine ⟨⟨Int.le_trans a1 i1, Nat.le_trans a2 i2, Int.le_trans a4 i3, Int.le_trans a5 i4, Int.le_trans a6 i5⟩, ?_, fun e => ?_⟩
      · rw [show m + (n + 1) = m + 1 + n by omega]; exact i6
      · have : (goR fs t r).k.ticks = ((m + 1 : Nat) : Int) := by
          show (tickK r.k (atM fs t)).ticks = _
          rw [a3, e]; omega
        have := i7 this
        rcases this with h | ⟨h, h'⟩
        · exact .inl (by omega)
        · exact .inr ⟨by omega, h'⟩
/-- A run of m ticks against one of n + d. -/
theorem shorter {fs : List Flt} {k : Kl} (n d : Nat) (hn : n + d ≤ 100000) (hk : k.ticks = 0 ∧ k.held = 0) :
    Mono (runM fs n 0 (firstR k)) (runM fs (n + d) 0 (firstR k)) ∧ (runM fs n 0 (firstR k)).k.ticks = (if (n : Int) < (runM fs (n + d) 0 (firstR k)).k.ticks then (n : Int) else (runM fs (n + d) 0 (firstR k)).k.ticks) ∧
      ((n : Int) < (runM fs (n + d) 0 (firstR k)).k.ticks ∨ runM fs n 0 (firstR k) = runM fs (n + d) 0 (firstR k)) := by
  have c0 : Cnt 0 (firstR k) := ⟨by show 0 ≤ k.ticks ∧ k.ticks ≤ _; omega, by show 0 ≤ k.held ∧ k.held ≤ k.ticks; omega⟩
  obtain ⟨m1, m2, m3⟩ := run_mono fs n 0 0 (firstR k) (by omega) c0
  have m3 := m3 hk.1
  rw [run_add, Nat.zero_add]
  rw [Nat.zero_add] at m2
  simp only [Int.natCast_zero, Int.zero_add] at m3
  obtain ⟨n1, n2, n3⟩ := run_mono fs d n n (runM fs n 0 (firstR k)) (by omega) m2
  rcases m3 with e | ⟨e, hd⟩
  · have n3 := n3 (by simpa using e)
    refine ⟨n1, ?_, ?_⟩
    · rcases n3 with h | ⟨h, h'⟩
      · split <;> omega
      · have := n2.ticks
        have : (n : Int) ≤ (runM fs d n (runM fs n 0 (firstR k))).k.ticks := by
          clear h h'
          have := (run_mono fs d n n (runM fs n 0 (firstR k)) (by omega) m2).2.1
          have key : ∀ (d t m : Nat) (r : Rn), m + d ≤ 100000 → Cnt m r → r.k.ticks ≤ (runM fs d t r).k.ticks := by
            intro d
            induction d with
            | zero => intro t m r _ _; exact Int.le_refl _
            | succ d ih =>
              intro t m r hm hc
              unfold runM
              split
              · exact Int.le_refl _
              · have h1 := ih (t + 1) (m + 1) (goR fs t r) (by omega) (go_cnt (by omega) hc)
                have ht := hc.ticks
                have a3 := tick_ticks (k := r.k) (f := atM fs t) (by omega)
                have : (goR fs t r).k.ticks = r.k.ticks + 1 := a3
                omega
          have := key d n n (runM fs n 0 (firstR k)) (by omega) m2
          omega
        split <;> omega
    · by_cases hl : (n : Int) < (runM fs d n (runM fs n 0 (firstR k))).k.ticks
      · exact .inl hl
      · right
        cases d with
        | zero => rfl
        | succ d =>
          by_cases hdn : doneK (runM fs n 0 (firstR k)).k = true
          · rw [run_done _ _ _ _ hdn]
          · exfalso
            apply hl
            unfold runM
            rw [if_neg hdn]
            have hc := go_cnt (fs := fs) (t := n) (by omega) m2
            obtain ⟨_, q2, _⟩ := run_mono fs d (n + 1) (n + 1) (goR fs n (runM fs n 0 (firstR k))) (by omega) hc
            have key : ∀ (d t m : Nat) (r : Rn), m + d ≤ 100000 → Cnt m r → r.k.ticks ≤ (runM fs d t r).k.ticks := by
              intro d
              induction d with
              | zero => intro t m r _ _; exact Int.le_refl _
              | succ d ih =>
                intro t m r hm hc
                unfold runM
                split
                · exact Int.le_refl _
                · have h1 := ih (t + 1) (m + 1) (goR fs t r) (by omega) (go_cnt (by omega) hc)
                  have ht := hc.ticks
                  have a3 := tick_ticks (k := r.k) (f := atM fs t) (by omega)
                  have : (goR fs t r).k.ticks = r.k.ticks + 1 := a3
                  omega
            have := key d (n + 1) (n + 1) (goR fs n (runM fs n 0 (firstR k))) (by omega) hc
            have a3 := tick_ticks (k := (runM fs n 0 (firstR k)).k) (f := atM fs n) (by have := m2.ticks; omega)
            have : (goR fs n (runM fs n 0 (firstR k))).k.ticks = (runM fs n 0 (firstR k)).k.ticks + 1 := a3
            omega
  · rw [run_done _ _ _ _ hd]
    exact ⟨⟨Int.le_refl _, Nat.le_refl _, Int.le_refl _, Int.le_refl _, Int.le_refl _⟩, by split <;> omega, .inr rfl⟩
/-! ### Faults as a set -/
theorem run_congr {fs fs' : List Flt} (h : ∀ t : Nat, atM fs t = atM fs' t) : ∀ (n t : Nat) (r : Rn), runM fs n t r = runM fs' n t r
  | 0, _, _ => rfl
  | n + 1, t, r => by
    unfold runM
    split
    · rfl
    · rw [show goR fs t r = goR fs' t r by simp [goR, h t]]
      exact run_congr h n (t + 1) _
theorem atM_eq {fs fs' : List Flt} {t : Int} (h : ∀ z, (∃ f ∈ fs, f.a ≤ t ∧ t < f.b ∧ f.kind = z) ↔ (∃ f ∈ fs', f.a ≤ t ∧ t < f.b ∧ f.kind = z)) : atM fs t = atM fs' t :=
  asc_eqI (atM_asc _ _) (atM_asc _ _) (fun z => by rw [mem_atM, mem_atM]; exact h z)
/-! ### Without fans -/
theorem dry_surf (w : Spc) (t d : Int) : ∀ l : List Itm, (dryL w t d false l).map (fun x => x.cel.s) = l.map (fun x => x.cel.s)
  | [] => rfl
  | x :: r => by
    simp only [dryL, List.map_cons, dry_surf w t d r]
    congr 1
    cases hc : comp x.cel w x.th t d
    · rw [tick_not hc]
    · rw [tick, if_pos hc]
      rfl
structure Fan (s : List Int) (r : Rn) : Prop where
  s : r.k.items.map (fun x => x.cel.s) = s
  held : r.k.held = 0
theorem run_fan {fs : List Flt} {s : List Int} : ∀ (n t : Nat) (r : Rn), (∀ m : Nat, m < t + n → inL 2 (atM fs m) = true) → Fan s r → Fan s (runM fs n t r)
  | 0, _, _, _, h => h
  | n + 1, t, r, hf, h => by
    unfold runM
    split
    · exact h
    · refine run_fan n (t + 1) _ (fun m hm => hf m (by omega)) ⟨?_, ?_⟩
      · show (itsK r.k _ _ (inL 2 (atM fs t))).map _ = s
        rw [hf t (by omega)]
        unfold itsK
        simp only [Bool.not_true, Bool.false_and]
        rw [dry_surf]
        exact h.s
      · show (if holdK r.k _ _ (inL 2 (atM fs t)) = true then _ else _) = (0 : Int)
        rw [hf t (by omega)]
        simp only [holdK, Bool.not_true, Bool.false_and, Bool.false_eq_true, if_false]
        exact h.held
end Go.Proofs.YtdefohgkniglpaaGreatDoor
