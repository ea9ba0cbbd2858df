/-
  Calls that hand over objects: the names of the objects are turned to those that the callee's contract has, and back; and that this is sound.
-/
import Derived.Test.YthgamgdcjgbmnaaGreatDoorAbsJ
namespace Go.Abs
set_option linter.unusedSimpArgs false
set_option linter.unusedVariables false
open Go Go.RowKit

def lookN : List (Nat × Nat) → Nat → Option Nat
  | [], _ => none
  | (a, b) :: r, k => if a = k then some b else lookN r k
def swp : List (Nat × Nat) → List (Nat × Nat)
  | [] => []
  | (a, b) :: r => (b, a) :: swp r
def hasN : List (Nat × Nat) → Nat → Bool
  | [], _ => false
  | (a, _) :: r, k => if a = k then true else hasN r k
def nodupN : List (Nat × Nat) → Bool
  | [] => true
  | (a, _) :: r => !hasN r a && nodupN r

def lookAll (σ : List (Nat × Nat)) : List Nat → Option (List Nat)
  | [] => some []
  | k :: r => match lookN σ k, lookAll σ r with
    | some x, some xs => some (x :: xs)
    | _, _ => none
/-- A value under other names ('z': what is the caller's own is only read). -/
def ren1 (z : Bool) (σ : List (Nat × Nat)) : D → Option D
  | .ptr id off => match lookN σ id with
    | some k => some (.ptr k off)
    | none => none
  | .row id => match lookN σ id with
    | some k => some (.row k)
    | none => none
  | .mp id => match lookN σ id with
    | some k => some (.mp k)
    | none => none
  | .clo f ids => match lookAll σ ids with
    | some ks => some (.clo f ks)
    | none => none
  | .rel _ _ _ _ => none
  | .bsl _ _ _ _ => none
  | .agg _ => none
  | .tup _ => none
  | .own fl es => if z = true then some (.sl es) else some (.own fl es)
  | .any => some .any
  | .x v => some (.x v)
  | .emp => some .emp
  | .sl es => some (.sl es)
  | .elt cs => some (.elt cs)
  | .mpv es => some (.mpv es)
  | .cap0 => some .cap0
def renC (z : Bool) (σ : List (Nat × Nat)) : List D → Option (List D)
  | [] => some []
  | d :: r => match ren1 z σ d, renC z σ r with
    | some x, some xs => some (x :: xs)
    | _, _ => none
def renA (z : Bool) (σ : List (Nat × Nat)) : D → Option D
  | .agg cs => match renC z σ cs with
    | some xs => some (.agg xs)
    | none => none
  | d => ren1 z σ d
def renL (z : Bool) (σ : List (Nat × Nat)) : List D → Option (List D)
  | [] => some []
  | d :: r => match renA z σ d, renL z σ r with
    | some x, some xs => some (x :: xs)
    | _, _ => none
def renT (z : Bool) (σ : List (Nat × Nat)) : D → Option D
  | .tup ds => match renL z σ ds with
    | some xs => some (.tup xs)
    | none => none
  | d => renA z σ d
def renO (z : Bool) (σ : List (Nat × Nat)) : O → Option O
  | .box ty cs => match renC z σ cs with
    | some xs => some (.box ty xs)
    | none => none
  | .row e sz fl es => some (.row e sz fl es)
  | .mp es => some (.mp es)

/-! ### Names -/
def refs1 : D → List Nat
  | .ptr id _ => [id]
  | .row id => [id]
  | .mp id => [id]
  | .clo _ ids => ids
  | _ => []
def refsC : List D → List Nat
  | [] => []
  | d :: r => refs1 d ++ refsC r
def refsA : D → List Nat
  | .agg cs => refsC cs
  | d => refs1 d
def addNew : List Nat → List Nat → List Nat
  | acc, [] => acc
  | acc, k :: r => if acc.contains k = true then addNew acc r else addNew (acc ++ [k]) r
def rootsE : List Nat → List D → List Nat
  | acc, [] => acc
  | acc, d :: r => rootsE (addNew acc (refsA d)) r
def pairAll (nm : Nat) : List Nat → List (Nat × Nat)
  | [] => []
  | k :: r => (k, nm) :: pairAll nm r
def cellPairs (nm : Nat) : Nat → List D → List (Nat × Nat)
  | _, [] => []
  | off, d :: r => pairAll (10000 + 100 * nm + off) (refs1 d) ++ cellPairs nm (off + 1) r
def rootPairs (h : List (Nat × O)) : Nat → List Nat → List (Nat × Nat)
  | _, [] => []
  | nm, id :: r => (id, nm) :: ((match getH h id with
    | some (.box _ cs) => cellPairs nm 0 cs
    | _ => []) ++ rootPairs h (nm + 1) r)
/-- The objects that are handed over, under the callee's names. -/
def handed (h : List (Nat × O)) (σ : List (Nat × Nat)) : List (Nat × Nat) → Option (List (Nat × O))
  | [] => some []
  | (id, nm) :: r => match getH h id with
    | some o => match renO true σ o, handed h σ r with
      | some o', some r' => some ((nm, o') :: r')
      | _, _ => none
    | none => none
/-- The name that an object has behind the call. -/
def backN (σ : List (Nat × Nat)) (t k : Nat) : Nat := match lookN (swp σ) k with
  | some id => id
  | none => if k < 10000 then t else 10000 + 100 * (match lookN (swp σ) ((k - 10000) / 100) with
    | some id => id
    | none => t) + (k - 10000) % 100
def backs (σ : List (Nat × Nat)) (t : Nat) : List (Nat × O) → List (Nat × Nat)
  | [] => []
  | (k, _) :: r => (k, backN σ t k) :: backs σ t r
def renHs (τ : List (Nat × Nat)) : List (Nat × O) → Option (List (Nat × O))
  | [] => some []
  | (k, o) :: r => match lookN τ k, renO false τ o, renHs τ r with
    | some id, some o', some r' => some ((id, o') :: r')
    | _, _, _ => none
/-- The objects that were handed over and did not come back. -/
def gone (hs' : List (Nat × O)) : List (Nat × Nat) → List Nat
  | [] => []
  | (id, nm) :: r => match getH hs' nm with
    | none => id :: gone hs' r
    | some _ => gone hs' r
/-- .. or came back at another address. -/
def loose (hs' : List (Nat × O)) : List (Nat × Nat) → List Nat
  | [] => []
  | (id, nm) :: r => if nm < 10000 ∧ 1000 ≤ nm then
      match getH hs' nm with
      | none => id :: loose hs' r
      | some _ => loose hs' r
    else id :: loose hs' r
def hits (L : List Nat) (d : D) : Bool := L.any (fun id => refsTo id d)
def kill1s (L : List Nat) (d : D) : D := if hits L d = true then .any else d
def killDs (L : List Nat) : D → D := mapT (kill1s L)
def killOs (L : List Nat) : O → O
  | .box ty cs => .box ty (cs.map (kill1s L))
  | o => o
def killTs (L : List Nat) : List (Nat × D) → List (Nat × D)
  | [] => []
  | (k, e) :: r => (k, killDs L e) :: killTs L r
def clearH (L V : List Nat) : List (Nat × O) → List (Nat × O)
  | [] => []
  | (k, e) :: r => if V.contains k = true then clearH L V r else (k, killOs L e) :: clearH L V r
def setHs : List (Nat × O) → List (Nat × O) → List (Nat × O)
  | h, [] => h
  | h, (k, o) :: r => setHs (setH h k o) r
/-- The new names meet none that stays. -/
def freeN (h : List (Nat × O)) (σ : List (Nat × Nat)) : List (Nat × Nat) → Bool
  | [] => true
  | (k, id) :: r => (match getH h id with
    | none => decide (id < 1000 ∨ 10000 ≤ id)
    | some _ => match lookN σ id with
      | some nm => decide (nm = k) && decide (id < 1000 ∨ 10000 ≤ id ∨ 1000 ≤ k ∧ k < 10000)
      | none => false) && freeN h σ r

/-- A result goes into its slot. -/
def putD (dst : Option Nat) (s : St) (d : D) : St := match dst with
  | some t => ⟨setT s.t t d, s.h⟩
  | none => s
def eres (s0 : St) (dst : Option Nat) (σ : List (Nat × Nat)) : Option (D × List (Nat × O)) → Option St
  | none => none
  | some (r, hs') => match backs σ (dst.getD 999) hs' with
    | τ => if nodupN τ = true ∧ nodupN (swp τ) = true ∧ freeN s0.h σ τ = true then
        match renT false τ r, renHs τ hs' with
        | some r', some hs'' => some (putD dst ⟨killTs (loose hs' σ) s0.t, setHs (clearH (loose hs' σ) (gone hs' σ) s0.h) hs''⟩ r')
        | _, _ => none
      else none
def emp0 : D → D
  | .emp => .sl []
  | d => d
/-- A call that hands over objects. -/
def ecall (call : CT) (s0 : St) (dst : Option Nat) (g : FuncId) (ds : List D) : Option St :=
  match rootPairs s0.h 1000 (rootsE [] ds) with
  | σ => if nodupN σ = true ∧ nodupN (swp σ) = true then
      match renL true σ ds, handed s0.h σ σ with
      | some ds', some hs => eres s0 dst σ (call.e g hs (ds'.map (mapA emp0)))
      | _, _ => none
    else none

/-! ### That it is sound -/
theorem lookN_mem : ∀ {σ : List (Nat × Nat)} {a b : Nat}, lookN σ a = some b → (a, b) ∈ σ
  | (x, y) :: r, a, b, h => by
    unfold lookN at h
    split at h
    · rename_i e; subst e; cases h; exact List.mem_cons_self
    · exact List.mem_cons_of_mem _ (lookN_mem h)
theorem hasN_iff : ∀ {σ : List (Nat × Nat)} {a : Nat}, hasN σ a = true ↔ ∃ b, (a, b) ∈ σ
  | [], a => by simp [hasN]
  | (x, y) :: r, a => by
    unfold hasN
    split
    · rename_i e; subst e; simp
    · rename_i e
      rw [hasN_iff]
      simp [Ne.symm e]
theorem lookN_of : ∀ {σ : List (Nat × Nat)} {a b : Nat}, nodupN σ = true → (a, b) ∈ σ → lookN σ a = some b
  | (x, y) :: r, a, b, hn, h => by
    simp only [nodupN, Bool.and_eq_true, Bool.not_eq_true'] at hn
    unfold lookN
    rcases List.mem_cons.1 h with e | h
    · cases e; rw [if_pos rfl]
    · rw [if_neg, lookN_of hn.2 h]
      rintro rfl
      have := (hasN_iff (σ := r) (a := x)).2 ⟨b, h⟩
      rw [this] at hn
      exact absurd hn.1 (by simp)
theorem swp_mem : ∀ {σ : List (Nat × Nat)} {a b : Nat}, (a, b) ∈ swp σ ↔ (b, a) ∈ σ
  | [], a, b => by simp [swp]
  | (x, y) :: r, a, b => by
    simp only [swp, List.mem_cons, swp_mem, Prod.mk.injEq]
    constructor <;> rintro (⟨h1, h2⟩ | h) <;> first | exact .inl ⟨h2, h1⟩ | exact .inr h
theorem lookN_none {σ : List (Nat × Nat)} {a : Nat} (hn : nodupN σ = true) : lookN σ a = none ↔ ∀ b, (a, b) ∉ σ := by
  constructor
  · intro h b hb
    rw [lookN_of hn hb] at h
    cases h
  · intro h
    cases hl : lookN σ a with
    | none => rfl
    | some b => exact absurd (lookN_mem hl) (h b)

section
variable {P : Program} {w w' : World} {B : Nat} {ι : Inj} {N : Nat} {w0 : Bs} {ρ : Nat → D} {η : Nat → Option O} {a : Act}

/-- A value under other names. -/
theorem ren1_rep {B B' : Nat} {ι ι' : Inj} {z : Bool} {σ : List (Nat × Nat)} (hI : ∀ u d, RepI w (okB ι) (frB B ι) u d → (isCell d = true ∨ (∃ cs, d = .elt cs) ∨ (z = false ∧ ∃ fl es, d = .own fl es) ∨ d = .cap0) → RepI w' (okB ι') (frB B' ι') u d)
    (hO : z = true → ∀ u fl es, RepI w (okB ι) (frB B ι) u (.own fl es) → RepI w' (okB ι') (frB B' ι') u (.sl es)) (hR : ∀ id k v, lookN σ id = some k → ι id = some v → ι' k = some v) {v : Value} {d d' : D} (h : Rep1 w B ι v d) (hd : ren1 z σ d = some d') : Rep1 w' B' ι' v d' := by
  unfold ren1 at hd
  split at hd
  · rename_i id off
    split at hd
    · rename_i k hk
      cases hd
      rcases h with h | ⟨b, h1, h2⟩
      · cases h
      · exact .inr ⟨b, hR _ _ _ hk h1, h2⟩
    · cases hd
  · rename_i id
    split at hd
    · rename_i k hk
      cases hd
      rcases h with h | ⟨h1, h2⟩
      · cases h
      · exact .inr ⟨hR _ _ _ hk h1, h2⟩
    · cases hd
  · rename_i id
    split at hd
    · rename_i k hk
      cases hd
      rcases h with h | ⟨h1, h2⟩
      · cases h
      · exact .inr ⟨hR _ _ _ hk h1, h2⟩
    · cases hd
  · rename_i f ids
    split at hd
    · rename_i ks hk
      cases hd
      rcases h with h | ⟨cap, h1, h2, h3⟩
      · cases h
      · have key : ∀ (ids ks : List Nat), lookAll σ ids = some ks → ks.length = ids.length ∧ ∀ (i k : Nat), ks[i]? = some k → ∃ id, ids[i]? = some id ∧ lookN σ id = some k := by
          intro ids
          induction ids with
          | nil => intro ks h; cases h; exact ⟨rfl, fun i k h => by simp at h⟩
          | cons x r ih =>
            intro ks h
            unfold lookAll at h
            split at h
            · rename_i y ys hy hys
              cases h
              obtain ⟨h1, h2⟩ := ih ys hys
              refine ⟨by simp [h1], fun i k hk => ?_⟩
              cases i with
              | zero => simp at hk; subst hk; exact ⟨x, rfl, hy⟩
              | succ i => simpa using h2 i k (by simpa using hk)
            · cases h
        obtain ⟨k1, k2⟩ := key ids ks hk
        refine .inr ⟨cap, h1, by rw [k1]; exact h2, fun i c k hc hk => ?_⟩
        obtain ⟨id, e1, e2⟩ := k2 i k hk
        exact ⟨hR _ _ _ e2 (h3 i c id hc e1).1, (h3 i c id hc e1).2⟩
    · cases hd
  · cases hd
  · cases hd
  · cases hd
  · cases hd
  · rename_i fl es
    have h := h.resolve_right (fun h => h.elim)
    split at hd
    · rename_i hz
      cases hd
      exact .inl (hO hz _ _ _ h)
    · rename_i hz
      cases hd
      exact .inl (hI _ _ h (.inr (.inr (.inl ⟨by simpa using hz, _, _, rfl⟩))))
  · cases hd; exact .inl (.any _)
  · cases hd; exact .inl (hI _ _ (h.resolve_right (fun h => h.elim)) (.inl rfl))
  · cases hd; exact .inl (hI _ _ (h.resolve_right (fun h => h.elim)) (.inl rfl))
  · cases hd; exact .inl (hI _ _ (h.resolve_right (fun h => h.elim)) (.inl rfl))
  · cases hd; exact .inl (hI _ _ (h.resolve_right (fun h => h.elim)) (.inr (.inl ⟨_, rfl⟩)))
  · cases hd; exact .inl (hI _ _ (h.resolve_right (fun h => h.elim)) (.inl rfl))
  · cases hd; exact .inl (hI _ _ (h.resolve_right (fun h => h.elim)) (.inr (.inr (.inr rfl))))
theorem renC_get {z : Bool} {σ : List (Nat × Nat)} : ∀ (ds ds' : List D), renC z σ ds = some ds' → ds'.length = ds.length ∧ ∀ (i : Nat) (d' : D), ds'[i]? = some d' → ∃ d, ds[i]? = some d ∧ ren1 z σ d = some d'
  | [], ds', h => by cases h; exact ⟨rfl, fun i d' h => by simp at h⟩
  | d :: r, ds', h => by
    unfold renC at h
    split at h
    · rename_i x y hx hy
      cases h
      obtain ⟨h1, h2⟩ := renC_get r y hy
      refine ⟨by simp [h1], fun i d' hi => ?_⟩
      cases i with
      | zero => simp at hi; subst hi; exact ⟨d, rfl, hx⟩
      | succ i => simpa using h2 i d' (by simpa using hi)
    · cases h
theorem renL_get {z : Bool} {σ : List (Nat × Nat)} : ∀ (ds ds' : List D), renL z σ ds = some ds' → ds'.length = ds.length ∧ ∀ (i : Nat) (d' : D), ds'[i]? = some d' → ∃ d, ds[i]? = some d ∧ renA z σ d = some d'
  | [], ds', h => by cases h; exact ⟨rfl, fun i d' h => by simp at h⟩
  | d :: r, ds', h => by
    unfold renL at h
    split at h
    · rename_i x y hx hy
      cases h
      obtain ⟨h1, h2⟩ := renL_get r y hy
      refine ⟨by simp [h1], fun i d' hi => ?_⟩
      cases i with
      | zero => simp at hi; subst hi; exact ⟨d, rfl, hx⟩
      | succ i => simpa using h2 i d' (by simpa using hi)
    · cases h
theorem renA_rep {B B' : Nat} {ι ι' : Inj} {z : Bool} {σ : List (Nat × Nat)} (h1 : ∀ v d d', Rep1 w B ι v d → ren1 z σ d = some d' → Rep1 w' B' ι' v d') {v : Value} {d d' : D} (h : Rep0 w B ι v d) (hd : renA z σ d = some d') : Rep0 w' B' ι' v d' := by
  by_cases ha : ∃ cs, d = .agg cs
  · obtain ⟨cs, rfl⟩ := ha
    simp only [renA] at hd
    split at hd
    · rename_i xs hx
      cases hd
      obtain ⟨vs, rfl, hl, hc⟩ := h.of.agg_inv
      obtain ⟨e1, e2⟩ := renC_get _ _ hx
      refine .inr ⟨_, rfl, vs, rfl, by omega, fun i c d' hi hd' => ?_⟩
      obtain ⟨d0, g1, g2⟩ := e2 i d' hd'
      exact h1 _ _ _ (hc i c d0 hi g1) g2
    · cases hd
  · have e : renA z σ d = ren1 z σ d := by cases d <;> first | rfl | exact absurd ⟨_, rfl⟩ ha
    rw [e] at hd
    rcases h with h | ⟨ds, e, _⟩
    · exact .inl (h1 _ _ _ h hd)
    · exact absurd ⟨ds, e⟩ ha
theorem renT_rep {B B' : Nat} {ι ι' : Inj} {z : Bool} {σ : List (Nat × Nat)} (h1 : ∀ v d d', Rep1 w B ι v d → ren1 z σ d = some d' → Rep1 w' B' ι' v d') {v : Value} {d d' : D} (h : Rep w B ι v d) (hd : renT z σ d = some d') : Rep w' B' ι' v d' := by
  by_cases ha : ∃ cs, d = .tup cs
  · obtain ⟨cs, rfl⟩ := ha
    simp only [renT] at hd
    split at hd
    · rename_i xs hx
      cases hd
      obtain ⟨vs, rfl, hl, hc⟩ := h.tup_inv
      obtain ⟨e1, e2⟩ := renL_get _ _ hx
      refine .inr (.inr ⟨_, rfl, vs, rfl, by omega, fun i c d' hi hd' => ?_⟩)
      obtain ⟨d0, g1, g2⟩ := e2 i d' hd'
      exact renA_rep h1 (hc i c d0 hi g1) g2
    · cases hd
  · have e : renT z σ d = renA z σ d := by cases d <;> first | rfl | exact absurd ⟨_, rfl⟩ ha
    rw [e] at hd
    rcases h with h | h | ⟨ds, e, _⟩
    · exact (renA_rep h1 (.inl h) hd).of
    · exact (renA_rep h1 (.inr h) hd).of
    · exact absurd ⟨ds, e⟩ ha
theorem renO_rel {B B' : Nat} {ι ι' : Inj} {z : Bool} {σ : List (Nat × Nat)} (h1 : ∀ v d d', Rep1 w B ι v d → ren1 z σ d = some d' → Rep1 w B' ι' v d') (hI : ∀ u d, RepI w (okB ι) (frB B ι) u d → isCell d = true → RepI w (okB ι') (frB B' ι') u d)
    {v : Value} {o o' : O} (hw : ∀ b, blk v = some b → wrB B ι b → wrB B' ι' b) (h : ObjRel w B ι v o) (ho : renO z σ o = some o') : ObjRel w B' ι' v o' := by
  cases o with
  | box ty cs =>
    simp only [renO] at ho
    split at ho
    · rename_i xs hx
      cases ho
      obtain ⟨b, cur, rfl, h2, h3, h4, h5⟩ := h
      obtain ⟨e1, e2⟩ := renC_get _ _ hx
      refine ⟨b, cur, rfl, hw b rfl h2, h3, by omega, fun j c d hc hd => ?_⟩
      obtain ⟨d0, g1, g2⟩ := e2 j d hd
      exact ⟨h1 _ _ _ (h5 j c d0 hc g1).1 g2, (h5 j c d0 hc g1).2⟩
    · cases ho
  | row e sz fl es =>
    cases ho
    obtain ⟨xs, g1, ⟨g2, g2'⟩, g3, g4, g5, g6, g7⟩ := h
    exact ⟨xs, g1, ⟨g2, fun b hb => hw b hb (g2' b hb)⟩, g3, fun i e j d c he hd hc => hI _ _ (g4 i e j d c he hd hc) (g6 e (List.mem_of_getElem? he) d (List.mem_of_getElem? hd)), g5, g6, g7⟩
  | mp es =>
    cases ho
    obtain ⟨r, ms, ck, rfl, h2, h3⟩ := h
    exact ⟨r, ms, ck, rfl, hw r rfl h2, h3⟩

/-! #### The callee's side -/
def Zp (ι : Inj) (σ : List (Nat × Nat)) (b : Nat) : Prop := ∃ id nm v, (id, nm) ∈ σ ∧ ι id = some v ∧ blk v = some b
def inE (w : World) (ι : Inj) (σ : List (Nat × Nat)) : Inj := ⟨fun k => match lookN (swp σ) k with
  | some id => ι id
  | none => none, fun b => okB ι b ∨ w.heap.size ≤ b ∨ Zp ι σ b, Zp ι σ⟩

theorem inE_some {σ : List (Nat × Nat)} {k : Nat} {v : Value} (h : inE w ι σ k = some v) : ∃ id, (id, k) ∈ σ ∧ ι id = some v := by
  simp only [inE] at h
  split at h
  · rename_i id hid
    exact ⟨id, swp_mem.1 (lookN_mem hid), h⟩
  · cases h
theorem inE_of {σ : List (Nat × Nat)} (hn : nodupN (swp σ) = true) {id k : Nat} (h : (id, k) ∈ σ) : inE w ι σ k = ι id := by
  simp only [inE, lookN_of hn (swp_mem.2 h)]
theorem okB_in {σ : List (Nat × Nat)} {b : Nat} (h : okB ι b) : okB (inE w ι σ) b :=
  ⟨.inl h, fun k v hv => by
    obtain ⟨id, _, hi⟩ := inE_some hv
    exact h.2 id v hi⟩
theorem repI_in {σ : List (Nat × Nat)} {u : Value} {d : D} (h : RepI w (okB ι) (frB B ι) u d) (hc : isCell d = true ∨ (∃ cs, d = .elt cs) ∨ (true = false ∧ ∃ fl es, d = .own fl es) ∨ d = .cap0) (fr : Nat → Prop) : RepI w (okB (inE w ι σ)) fr u d := by
  have wk : ∀ {d}, RepI w (okB ι) fr u d → RepI w (okB (inE w ι σ)) fr u d := fun h => h.mono (Nat.le_refl _) (fun b _ ho => ⟨okB_in ho, rfl⟩) (fun b _ ho => ⟨ho, rfl⟩)
  rcases hc with hc | ⟨cs, rfl⟩ | ⟨h, _⟩ | rfl
  · exact wk ((h.cell _).1 hc)
  · exact wk ((h.cell _).2.1 _ rfl)
  · cases h
  · cases h; exact .cap0 _
theorem rep1_in {σ : List (Nat × Nat)} (hn : nodupN (swp σ) = true) {B' : Nat} {v : Value} {d d' : D} (h : Rep1 w B ι v d) (hd : ren1 true σ d = some d') : Rep1 w B' (inE w ι σ) v d' := by
  refine ren1_rep (fun u d h hc => repI_in h hc _) (fun _ u fl es h => ?_) (fun id k v hk hv => ?_) h hd
  · exact ((h.cell _).2.2 _ _ rfl).mono (Nat.le_refl _) (fun b _ ho => ⟨okB_in (ho.elim (fun h => h) (·.2)), rfl⟩) (fun b _ ho => ⟨ho, rfl⟩)
  · rw [inE_of hn (lookN_mem hk)]; exact hv

theorem handed_get {h : List (Nat × O)} {σ : List (Nat × Nat)} : ∀ (l : List (Nat × Nat)) (hs : List (Nat × O)), handed h σ l = some hs →
    (∀ nm o', getH hs nm = some o' → ∃ id o, (id, nm) ∈ l ∧ getH h id = some o ∧ renO true σ o = some o') ∧ (∀ id nm, (id, nm) ∈ l → (∃ o', getH hs nm = some o') ∧ ∃ o, getH h id = some o)
  | [], hs, e => by cases e; exact ⟨fun nm o' h => by simp [getH] at h, fun id nm h => by simp at h⟩
  | (id, nm) :: r, hs, e => by
    unfold handed at e
    split at e
    · rename_i o ho
      split at e
      · rename_i o' r' h1 h2
        cases e
        obtain ⟨g1, g2⟩ := handed_get r r' h2
        refine ⟨fun k x hk => ?_, fun i k hk => ?_⟩
        · unfold getH at hk
          split at hk
          · rename_i e
            subst e
            cases hk
            exact ⟨id, o, List.mem_cons_self, ho, h1⟩
          · obtain ⟨i, o2, m1, m2⟩ := g1 k x hk
            exact ⟨i, o2, List.mem_cons_of_mem _ m1, m2⟩
        · rcases List.mem_cons.1 hk with e | hk
          · cases e
            exact ⟨⟨o', by simp [getH]⟩, o, ho⟩
          · obtain ⟨⟨x, hx⟩, hy⟩ := g2 i k hk
            refine ⟨?_, hy⟩
            unfold getH
            split
            · exact ⟨_, rfl⟩
            · exact ⟨x, hx⟩
      · cases e
    · cases e

theorem objs_in (hrel : Rel N B w0 ι ρ η a w) {h : List (Nat × O)} (hη : η = getH h) {σ : List (Nat × Nat)} (hn1 : nodupN σ = true) (hn2 : nodupN (swp σ) = true) {hs : List (Nat × O)} (hh : handed h σ σ = some hs) : Objs w w.heap.size (inE w ι σ) hs := by
  subst hη
  obtain ⟨g1, g2⟩ := handed_get σ hs hh
  refine ⟨fun nm o' ho' => ?_, fun nm v hv => ?_, fun k k' v v' b h1 h2 h3 h4 => ?_, fun b hb => ?_⟩
  · obtain ⟨id, o, m1, m2, m3⟩ := g1 nm o' ho'
    obtain ⟨v, hv, hobj⟩ := hrel.obj id o m2
    refine ⟨v, by rw [inE_of hn2 m1]; exact hv, renO_rel (fun v d d' h hd => rep1_in hn2 h hd) (fun u d h hc => repI_in h (.inl hc) _) (fun b hb _ => .inr ⟨id, nm, v, m1, hv, hb⟩) hobj m3⟩
  · obtain ⟨id, m1, _⟩ := inE_some hv
    exact (g2 id nm m1).1
  · obtain ⟨id, m1, m2⟩ := inE_some h1
    obtain ⟨id', m3, m4⟩ := inE_some h2
    have e := hrel.inj id id' v v' b m2 m4 h3 h4
    subst e
    have e1 := lookN_of hn1 m1
    have e2 := lookN_of hn1 m3
    rw [e1] at e2
    exact Option.some.inj e2
  · rcases hb with hb | hb
    · exact .inr (.inl hb)
    · exact .inr (.inr hb)
theorem globs_in (hrel : Rel N B w0 ι ρ η a w) {G : Nat → Option (List D)} (hG : w0.G = G) (σ : List (Nat × Nat)) : Globs G w (okB (inE w ι σ)) (frB w.heap.size (inE w ι σ)) :=
  fun g cs hg => repI_in (hrel.glob g cs (by rw [hG]; exact hg)) (.inr (.inl ⟨_, rfl⟩)) _

/-! #### The caller's side, behind the call -/
def outE (ι ι' : Inj) (σ τ : List (Nat × Nat)) : Inj := ⟨fun id => match lookN (swp τ) id with
  | some k => ι' k
  | none => match lookN σ id with
    | some _ => none
    | none => ι id, ι.K, ι.Z⟩
/-- What the call has left. -/
structure Left (w w' : World) (B : Nat) (ι ι' : Inj) (h : List (Nat × O)) (σ τ : List (Nat × Nat)) (hs' : List (Nat × O)) : Prop where
  below : BelowZ w.heap.size (Zp ι σ) w w'
  K : ι'.K = (inE w ι σ).K
  Z : ι'.Z = Zp ι σ
  objs : Objs w' w.heap.size ι' hs'
  k0 : ∀ k v, inE w ι σ k = some v → 1000 ≤ k → k < 10000 → ι' k = none ∨ ι' k = some v
  n1 : nodupN σ = true
  n2 : nodupN (swp σ) = true
  t1 : nodupN τ = true
  t2 : nodupN (swp τ) = true
  tk : ∀ k, (∃ o, getH hs' k = some o) ↔ ∃ id, (k, id) ∈ τ
  free : ∀ k id, (k, id) ∈ τ → (getH h id = none ∧ (id < 1000 ∨ 10000 ≤ id)) ∨ ((∃ o, getH h id = some o) ∧ (id, k) ∈ σ ∧ (id < 1000 ∨ 10000 ≤ id ∨ 1000 ≤ k ∧ k < 10000))
  stay : ∀ id nm, (id, nm) ∈ σ → ∀ o, getH hs' nm = some o → (nm, id) ∈ τ

variable {ι' : Inj} {h : List (Nat × O)} {σ τ : List (Nat × Nat)} {hs' : List (Nat × O)}

theorem outE_cases {id : Nat} {v : Value} (hv : outE ι ι' σ τ id = some v) : (∃ k, (k, id) ∈ τ ∧ ι' k = some v) ∨ (lookN σ id = none ∧ lookN (swp τ) id = none ∧ ι id = some v) := by
  simp only [outE] at hv
  split at hv
  · rename_i k hk
    exact .inl ⟨k, swp_mem.1 (lookN_mem hk), hv⟩
  · rename_i h1
    split at hv
    · cases hv
    · rename_i h2; exact .inr ⟨h2, h1, hv⟩
theorem Left.in (hl : Left w w' B ι ι' h σ τ hs') {k id : Nat} (hk : (k, id) ∈ τ) : outE ι ι' σ τ id = ι' k := by
  simp only [outE, lookN_of hl.t2 (swp_mem.2 hk)]
theorem Left.out (hl : Left w w' B ι ι' h σ τ hs') (hrel : Rel N B w0 ι ρ (getH h) a w) {id : Nat} {v : Value} (hv : ι id = some v) (hs : lookN σ id = none) : outE ι ι' σ τ id = some v := by
  have : lookN (swp τ) id = none := by
    cases ht : lookN (swp τ) id with
    | none => rfl
    | some k =>
      obtain ⟨o, ho⟩ := hrel.dom id v hv
      rcases hl.free k id (swp_mem.1 (lookN_mem ht)) with ⟨h1, _⟩ | ⟨_, h2, _⟩
      · rw [ho] at h1; cases h1
      · rw [lookN_of hl.n1 h2] at hs; cases hs
  simp only [outE, this, hs]
  exact hv

theorem Left.blk' (hl : Left w w' B ι ι' h σ τ hs') {k : Nat} {v : Value} (hv : ι' k = some v) {b : Nat} (hb : blk v = some b) : (w.heap.size ≤ b ∨ Zp ι σ b) ∧ b < w'.heap.size := by
  obtain ⟨o, ho⟩ := hl.objs.dom k v hv
  obtain ⟨v', hv', hr⟩ := hl.objs.obj k o ho
  rw [hv] at hv'
  cases hv'
  have := hr.blk_lt b hb
  unfold wrB at this
  rwa [hl.Z] at this
theorem Left.zp (hrel : Rel N B w0 ι ρ (getH h) a w) {b : Nat} (hz : Zp ι σ b) : wrB B ι b ∧ b < w.heap.size := by
  obtain ⟨id, nm, v, _, hv, hb⟩ := hz
  exact hrel.blk_lt hv hb
/-- Memory of the caller's that the callee did not have. -/
theorem Left.okOld (hl : Left w w' B ι ι' h σ τ hs') {b : Nat} (hb : b < w.heap.size) (ho : okB ι b) : okB (outE ι ι' σ τ) b ∧ w'.heap[b]? = w.heap[b]? := by
  have nz : ¬ Zp ι σ b := fun ⟨id, nm, v, _, hv, hb'⟩ => ho.2 id v hv hb'
  refine ⟨⟨ho.1, fun id v hv hbb => ?_⟩, hl.below.block b hb nz⟩
  rcases outE_cases hv with ⟨k, _, hk⟩ | ⟨_, _, hi⟩
  · rcases (hl.blk' hk hbb).1 with h1 | h1
    · omega
    · exact nz h1
  · exact ho.2 id v hi hbb
theorem Left.repOld (hl : Left w w' B ι ι' h σ τ hs') {u : Value} {d : D} (hr : RepI w (okB ι) (frB B ι) u d) : RepI w' (okB (outE ι ι' σ τ)) (frB B (outE ι ι' σ τ)) u d :=
  hr.mono hl.below.size (fun b hb ho => hl.okOld hb ho) (fun b hb ho => ⟨⟨ho.1, (hl.okOld hb ho.2).1⟩, (hl.okOld hb ho.2).2⟩)
theorem Left.okNew (hl : Left w w' B ι ι' h σ τ hs') (hrel : Rel N B w0 ι ρ (getH h) a w) {b : Nat} (ho : okB ι' b) : okB (outE ι ι' σ τ) b := by
  have hk := ho.1
  rw [hl.K] at hk
  refine ⟨?_, fun id v hv hbb => ?_⟩
  · rcases hk with hk | hk | hk
    · exact hk.1
    · exact hrel.fresh b (.inl (Nat.le_trans hrel.base hk))
    · exact hrel.fresh b (Left.zp hrel hk).1
  · rcases outE_cases hv with ⟨k, _, hk'⟩ | ⟨hs, _, hi⟩
    · exact ho.2 k v hk' hbb
    · rcases hk with hk | hk | ⟨id2, nm, v2, m1, m2, m3⟩
      · exact hk.2 id v hi hbb
      · have := (hrel.blk_lt hi hbb).2
        omega
      · have e := hrel.inj id id2 v v2 b hi m2 hbb m3
        subst e
        rw [lookN_of hl.n1 m1] at hs
        cases hs
theorem Left.wrNew (hl : Left w w' B ι ι' h σ τ hs') (hrel : Rel N B w0 ι ρ (getH h) a w) {b : Nat} (hb : wrB w.heap.size ι' b) : wrB B (outE ι ι' σ τ) b := by
  rcases hb with hb | hb
  · exact .inl (Nat.le_trans hrel.base hb)
  · rw [hl.Z] at hb
    exact (Left.zp hrel hb).1
theorem Left.repNew (hl : Left w w' B ι ι' h σ τ hs') (hrel : Rel N B w0 ι ρ (getH h) a w) {u : Value} {d : D} (hr : RepI w' (okB ι') (frB w.heap.size ι') u d) : RepI w' (okB (outE ι ι' σ τ)) (frB B (outE ι ι' σ τ)) u d :=
  hr.mono (Nat.le_refl _) (fun b _ ho => ⟨hl.okNew hrel ho, rfl⟩) (fun b _ ho => ⟨⟨hl.wrNew hrel ho.1, hl.okNew hrel ho.2⟩, rfl⟩)
theorem Left.rep1New (hl : Left w w' B ι ι' h σ τ hs') (hrel : Rel N B w0 ι ρ (getH h) a w) {v : Value} {d d' : D} (hr : Rep1 w' w.heap.size ι' v d) (hd : ren1 false τ d = some d') : Rep1 w' B (outE ι ι' σ τ) v d' :=
  ren1_rep (fun u d h _ => hl.repNew hrel h) (fun hz => by cases hz) (fun id k v hk hv => by rw [hl.in (lookN_mem hk)]; exact hv) hr hd

theorem gone_mem {id : Nat} : ∀ (l : List (Nat × Nat)), id ∈ gone hs' l ↔ ∃ nm, (id, nm) ∈ l ∧ getH hs' nm = none
  | [] => by simp [gone]
  | (i, nm) :: r => by
    unfold gone
    split
    · rename_i hn
      simp only [List.mem_cons, gone_mem r]
      constructor
      · rintro (rfl | ⟨k, h1, h2⟩)
        · exact ⟨nm, .inl rfl, hn⟩
        · exact ⟨k, .inr h1, h2⟩
      · rintro ⟨k, h1 | h1, h2⟩
        · cases h1; exact .inl rfl
        · exact .inr ⟨k, h1, h2⟩
    · rename_i o ho
      rw [gone_mem r]
      constructor
      · rintro ⟨k, h1, h2⟩; exact ⟨k, List.mem_cons_of_mem _ h1, h2⟩
      · rintro ⟨k, h1, h2⟩
        rcases List.mem_cons.1 h1 with h1 | h1
        · cases h1; rw [ho] at h2; cases h2
        · exact ⟨k, h1, h2⟩
theorem loose_mem {id : Nat} : ∀ (l : List (Nat × Nat)), (∃ nm, (id, nm) ∈ l ∧ (¬ (nm < 10000 ∧ 1000 ≤ nm) ∨ getH hs' nm = none)) → id ∈ loose hs' l
  | [], h => by obtain ⟨_, h, _⟩ := h; simp at h
  | (i, nm) :: r, ⟨k, h1, h2⟩ => by
    unfold loose
    rcases List.mem_cons.1 h1 with e | h1
    · cases e
      split
      · rename_i hr
        have hn := h2.resolve_left (fun h => h hr)
        rw [hn]
        exact List.mem_cons_self
      · exact List.mem_cons_self
    · have := loose_mem r ⟨k, h1, h2⟩
      split
      · split
        · exact List.mem_cons_of_mem _ this
        · exact this
      · exact List.mem_cons_of_mem _ this

/-- A reference that is not forgotten still holds. -/
theorem Left.refOld (hl : Left w w' B ι ι' h σ τ hs') (hrel : Rel N B w0 ι ρ (getH h) a w) {id : Nat} {v : Value} (hv : ι id = some v) (hn : id ∉ loose hs' σ) : outE ι ι' σ τ id = some v := by
  cases hs : lookN σ id with
  | none => exact hl.out hrel hv hs
  | some nm =>
    have hm := lookN_mem hs
    have h1 : nm < 10000 ∧ 1000 ≤ nm := by
      by_cases h1 : nm < 10000 ∧ 1000 ≤ nm
      · exact h1
      · exact absurd (loose_mem σ ⟨nm, hm, .inl h1⟩) hn
    cases hg : getH hs' nm with
    | none => exact absurd (loose_mem σ ⟨nm, hm, .inr hg⟩) hn
    | some o =>
      have ht := hl.stay id nm hm o hg
      rw [hl.in ht]
      rcases hl.k0 nm v (by rw [inE_of hl.n2 hm]; exact hv) h1.2 h1.1 with e | e
      · obtain ⟨u, hu, _⟩ := hl.objs.obj nm o hg
        rw [e] at hu
        cases hu
      · exact e
theorem Left.rep1Old (hl : Left w w' B ι ι' h σ τ hs') (hrel : Rel N B w0 ι ρ (getH h) a w) {v : Value} {d : D} (hr : Rep1 w B ι v d) : Rep1 w' B (outE ι ι' σ τ) v (kill1s (loose hs' σ) d) := by
  unfold kill1s
  split
  · exact .inl (.any _)
  · rename_i hh
    have hh' : ∀ id ∈ loose hs' σ, refsTo id d = false := by
      intro id hid
      cases hr : refsTo id d with
      | false => rfl
      | true => exact absurd (List.any_eq_true.2 ⟨id, hid, hr⟩) hh
    have key : ∀ id v, ι id = some v → refsTo id d = true → outE ι ι' σ τ id = some v := fun id v hv hr => hl.refOld hrel hv (fun hin => by rw [hh' id hin] at hr; cases hr)
    rcases hr with hr | hr
    · exact .inl (hl.repOld hr)
    · refine .inr ?_
      cases d <;> simp only [Ref] at hr ⊢
      case ptr i off => obtain ⟨b, h1, h2⟩ := hr; exact ⟨b, key _ _ h1 (by simp [refsTo]), h2⟩
      case row i => exact ⟨key _ _ hr.1 (by simp [refsTo]), hr.2⟩
      case rel i sz k off => obtain ⟨b, n, c, h1, h2⟩ := hr; exact ⟨b, n, c, key _ _ h1 (by simp [refsTo]), h2⟩
      case bsl i off n sz => obtain ⟨b, c, h1, h2⟩ := hr; exact ⟨b, c, key _ _ h1 (by simp [refsTo]), h2⟩
      case clo f ids =>
        obtain ⟨cap, h1, h2, h3⟩ := hr
        exact ⟨cap, h1, h2, fun i c k hc hk => ⟨key _ _ (h3 i c k hc hk).1 (by simp [refsTo, List.contains_eq_mem, List.mem_of_getElem? hk]), (h3 i c k hc hk).2⟩⟩
      case mp i => exact ⟨key _ _ hr.1 (by simp [refsTo]), hr.2⟩
theorem Left.repTOld (hl : Left w w' B ι ι' h σ τ hs') (hrel : Rel N B w0 ι ρ (getH h) a w) {v : Value} {d : D} (hr : Rep w B ι v d) : Rep w' B (outE ι ι' σ τ) v (killDs (loose hs' σ) d) :=
  hr.mapT (fun _ _ h _ => hl.rep1Old hrel h) (fun _ _ h => hl.rep1Old hrel (.inl h))
theorem Left.objOld (hl : Left w w' B ι ι' h σ τ hs') (hrel : Rel N B w0 ι ρ (getH h) a w) {id : Nat} {v : Value} (hv : ι id = some v) (hs : lookN σ id = none) {o : O} (ho : ObjRel w B ι v o) : ObjRel w' B (outE ι ι' σ τ) v (killOs (loose hs' σ) o) := by
  have hblk : ∀ b, blk v = some b → w'.heap[b]? = w.heap[b]? := fun b hb => hl.below.block b (hrel.blk_lt hv hb).2 (fun ⟨id2, nm, v2, m1, m2, m3⟩ => by
    have e := hrel.inj id id2 v v2 b hv m2 hb m3
    subst e
    rw [lookN_of hl.n1 m1] at hs
    cases hs)
  cases o with
  | box ty cs =>
    obtain ⟨b, cur, rfl, h2, h3, h4, h5⟩ := ho
    refine ⟨b, cur, rfl, h2, by rw [hblk b rfl]; exact h3, by simpa using h4, fun j c d hc hd => ?_⟩
    simp only [List.getElem?_map, Option.map_eq_some_iff] at hd
    obtain ⟨d', hd, rfl⟩ := hd
    exact ⟨hl.rep1Old hrel (h5 j c d' hc hd).1, (h5 j c d' hc hd).2⟩
  | row ety sz fl es =>
    obtain ⟨xs, h1, ⟨h2, h2'⟩, h3, h4, h5⟩ := ho
    refine ⟨xs, h1, ⟨⟨h2.1, ?_⟩, h2'⟩, h3, fun i e j d c he hd hc => hl.repOld (h4 i e j d c he hd hc), h5⟩
    rcases h2.2 with h | ⟨g, cap, cur, e1, e2, e3, e4⟩
    · exact .inl h
    · exact .inr ⟨g, cap, cur, e1, e2, by rw [hblk g (by rw [e1]; rfl)]; exact e3, e4⟩
  | mp es =>
    obtain ⟨r, ms, ck, rfl, h2, h3, h4⟩ := ho
    exact ⟨r, ms, ck, rfl, h2, by rw [hblk r rfl]; exact h3, h4⟩

theorem Rel.left (hrel : Rel N B w0 ι ρ (getH h) a w) (hl : Left w w' B ι ι' h σ τ hs') {η'' : Nat → Option O} 
    (hη : ∀ id, η'' id = match lookN (swp τ) id with
      | some k => (getH hs' k).bind (renO false τ)
      | none => match lookN σ id with
        | some _ => none
        | none => (getH h id).map (killOs (loose hs' σ)))
    (hsome : ∀ k id, (k, id) ∈ τ → ∃ o, η'' id = some o) :
    Rel N B w0 (outE ι ι' σ τ) (fun t => killDs (loose hs' σ) (ρ t)) η'' a w' where
  defers := hrel.defers
  size := hrel.size
  tmp t := hl.repTOld hrel (hrel.tmp t)
  obj id o ho := by
    rw [hη] at ho
    split at ho
    · rename_i k hk
      have hm := swp_mem.1 (lookN_mem hk)
      cases hg : getH hs' k with
      | none => rw [hg] at ho; cases ho
      | some o1 =>
        rw [hg] at ho
        simp only [Option.bind_some] at ho
        obtain ⟨v, hv, hobj⟩ := hl.objs.obj k o1 hg
        exact ⟨v, by rw [hl.in hm]; exact hv, renO_rel (fun v d d' h hd => hl.rep1New hrel h hd) (fun u d h _ => hl.repNew hrel h) (fun b _ hw => hl.wrNew hrel hw) hobj ho⟩
    · split at ho
      · cases ho
      · rename_i hs
        simp only [Option.map_eq_some_iff] at ho
        obtain ⟨o1, ho1, rfl⟩ := ho
        obtain ⟨v, hv, hobj⟩ := hrel.obj id o1 ho1
        exact ⟨v, hl.out hrel hv hs, hl.objOld hrel hv hs hobj⟩
  dom id v hv := by
    rcases outE_cases hv with ⟨k, hk, _⟩ | ⟨h1, h2, h3⟩
    · exact hsome k id hk
    · obtain ⟨o, ho⟩ := hrel.dom id v h3
      refine ⟨killOs (loose hs' σ) o, ?_⟩
      rw [hη, h2]
      simp only [h1, ho, Option.map_some]
  inj id id' v v' b h1 h2 h3 h4 := by
    rcases outE_cases h1 with ⟨k, m1, m2⟩ | ⟨m1, _, m2⟩ <;> rcases outE_cases h2 with ⟨k', m3, m4⟩ | ⟨m3, _, m4⟩
    · have e := hl.objs.inj k k' v v' b m2 m4 h3 h4
      subst e
      have e1 := lookN_of hl.t1 m1
      rw [lookN_of hl.t1 m3] at e1
      exact (Option.some.inj e1).symm
    · rcases (hl.blk' m2 h3).1 with hb | ⟨id2, nm, v2, n1, n2, n3⟩
      · have := (hrel.blk_lt m4 h4).2; omega
      · have e := hrel.inj id' id2 v' v2 b m4 n2 h4 n3
        subst e
        rw [lookN_of hl.n1 n1] at m3
        cases m3
    · rcases (hl.blk' m4 h4).1 with hb | ⟨id2, nm, v2, n1, n2, n3⟩
      · have := (hrel.blk_lt m2 h3).2; omega
      · have e := hrel.inj id id2 v v2 b m2 n2 h3 n3
        subst e
        rw [lookN_of hl.n1 n1] at m1
        cases m1
    · exact hrel.inj id id' v v' b m2 m4 h3 h4
  below := by
    refine ⟨hl.below.os.trans hrel.below.os, hl.below.tape.trans hrel.below.tape, hl.below.output.trans hrel.below.output, Nat.le_trans hrel.below.size hl.below.size, fun k hk hz => ?_⟩
    rw [hl.below.block k (Nat.lt_of_lt_of_le hk hrel.base) (fun hzp => ?_)]
    · exact hrel.below.block k hk hz
    · rcases (Left.zp hrel hzp).1 with h1 | h1
      · omega
      · rw [hrel.zz] at h1; exact hz h1
  base := Nat.le_trans hrel.base hl.below.size
  fresh := hrel.fresh
  kk := hrel.kk
  zz := hrel.zz
  k0 id v hv h1 h2 := by
    cases ho : outE ι ι' σ τ id with
    | none => exact .inl rfl
    | some u =>
      right
      rcases outE_cases ho with ⟨k, m1, m2⟩ | ⟨m1, _, m2⟩
      · rcases hl.free k id m1 with ⟨_, h⟩ | ⟨_, hs, h | h | h⟩
        · omega
        · omega
        · omega
        · cases hi : ι id with
          | none =>
            obtain ⟨o, ho'⟩ := (hl.tk k).2 ⟨id, m1⟩
            have := hrel.obj id
            rcases hl.free k id m1 with ⟨_, h⟩ | ⟨⟨o2, ho2⟩, _⟩
            · omega
            · obtain ⟨v2, hv2, _⟩ := hrel.obj id o2 ho2
              rw [hi] at hv2; cases hv2
          | some v1 =>
            have e := hl.k0 k v1 (by rw [inE_of hl.n2 hs]; exact hi) h.1 h.2
            rw [m2] at e
            have e := e.resolve_left (by simp)
            rcases hrel.k0 id v hv h1 h2 with g | g
            · rw [hi] at g; cases g
            · rw [hi] at g
              rw [e]; exact g
      · rcases hrel.k0 id v hv h1 h2 with g | g
        · rw [m2] at g; cases g
        · rw [m2] at g; exact g
  nn := hrel.nn
  glob g cs hg := hl.repOld (hrel.glob g cs hg)

theorem getT_killTs (L : List Nat) (l : List (Nat × D)) : getT (killTs L l) = fun t => killDs L (getT l t) := by
  funext i
  induction l with
  | nil => simp [killTs, getT, killDs, mapT, mapA, kill1s, hits, refsTo]
  | cons p r ih =>
    obtain ⟨k, e⟩ := p
    simp only [killTs, getT]
    split
    · rfl
    · exact ih
theorem getH_clearH (L V : List Nat) (l : List (Nat × O)) (id : Nat) : getH (clearH L V l) id = if V.contains id = true then none else (getH l id).map (killOs L) := by
  induction l with
  | nil => simp [clearH, getH]
  | cons p r ih =>
    obtain ⟨k, e⟩ := p
    simp only [clearH]
    split
    · rename_i hk
      rw [ih]
      simp only [getH]
      by_cases h : k = id
      · subst h; rw [if_pos hk, if_pos hk]
      · rw [if_neg h]
    · rename_i hk
      simp only [getH, ih]
      by_cases h : k = id
      · subst h; rw [if_pos rfl, if_neg hk, if_pos rfl]; rfl
      · rw [if_neg h, if_neg h]
theorem getH_setHs : ∀ (l h : List (Nat × O)), (l.map Prod.fst).Nodup → ∀ id, getH (setHs h l) id = match getH l id with
    | some o => some o
    | none => getH h id
  | [], h, _, id => rfl
  | (k, o) :: r, h, hn, id => by
    simp only [List.map_cons, List.nodup_cons] at hn
    rw [setHs, getH_setHs r (setH h k o) hn.2 id, getH_set]
    simp only [getH]
    by_cases hk : k = id
    · subst hk
      have : getH r k = none := by
        cases hg : getH r k with
        | none => rfl
        | some x =>
          have mem : ∀ (r : List (Nat × O)) x, getH r k = some x → k ∈ r.map Prod.fst := by
            intro r
            induction r with
            | nil => intro x h; cases h
            | cons q r ih =>
              intro x h
              obtain ⟨k', o'⟩ := q
              simp only [getH] at h
              split at h
              · rename_i e; subst e; simp
              · simp only [List.map_cons, List.mem_cons]; exact .inr (ih x h)
          exact absurd (mem r x hg) hn.1
      rw [this]
      simp
    · rw [if_neg hk]
      cases getH r id with
      | none => simp [upd, Ne.symm hk]
      | some x => rfl
theorem renHs_get {τ0 : List (Nat × Nat)} (hn : nodupN τ0 = true) (hn2 : nodupN (swp τ0) = true) : ∀ (l l' : List (Nat × O)), renHs τ0 l = some l' → (l.map Prod.fst).Nodup → 
    (l'.map Prod.fst).Nodup ∧ (∀ id, getH l' id = match lookN (swp τ0) id with
      | some k => (getH l k).bind (renO false τ0)
      | none => none) ∧ (∀ id o, getH l' id = some o → ∃ k o1, (k, id) ∈ τ0 ∧ getH l k = some o1) ∧ (∀ id ∈ l'.map Prod.fst, ∃ k ∈ l.map Prod.fst, (k, id) ∈ τ0) ∧ ∀ k o, getH l k = some o → ∃ id o', (k, id) ∈ τ0 ∧ getH l' id = some o'
  | [], l', h, _ => by
    cases h
    refine ⟨by simp, fun id => ?_, fun id o h => by simp [getH] at h, fun id h => by simp at h, fun k o h => by simp [getH] at h⟩
    simp only [getH]
    split <;> rfl
  | (k, o) :: r, l', h, hnd => by
    simp only [List.map_cons, List.nodup_cons] at hnd
    unfold renHs at h
    split at h
    · rename_i id o' r' h1 h2 h3
      cases h
      obtain ⟨g1, g2, g3, g4, g5⟩ := renHs_get hn hn2 r r' h3 hnd.2
      have hm := lookN_mem h1
      have uniq : ∀ k', (k', id) ∈ τ0 → k' = k := by
        intro k' hk'
        have e1 := lookN_of hn2 (swp_mem.2 hm)
        rw [lookN_of hn2 (swp_mem.2 hk')] at e1
        exact Option.some.inj e1
      have uniq2 : ∀ id', (k, id') ∈ τ0 → id' = id := by
        intro id' hk'
        have e1 := lookN_of hn hm
        rw [lookN_of hn hk'] at e1
        exact Option.some.inj e1
      refine ⟨?_, fun i => ?_, fun i x hx => ?_, fun i hi => ?_, fun k1 o1 hk1 => ?_⟩
      · simp only [List.map_cons, List.nodup_cons]
        refine ⟨fun hin => ?_, g1⟩
        obtain ⟨k', hk', hmem⟩ := g4 id hin
        rw [uniq k' hmem] at hk'
        exact hnd.1 hk'
      · simp only [getH]
        by_cases hi : id = i
        · subst hi
          rw [if_pos rfl, lookN_of hn2 (swp_mem.2 hm)]
          simp [h2]
        · rw [if_neg hi, g2 i]
          cases hl : lookN (swp τ0) i with
          | none => rfl
          | some k2 =>
            simp only
            have : k ≠ k2 := by
              rintro rfl
              exact hi (uniq2 i (swp_mem.1 (lookN_mem hl))).symm
            rw [if_neg this]
      · simp only [getH] at hx
        split at hx
        · rename_i e; subst e; exact ⟨k, o, hm, by simp [getH]⟩
        · obtain ⟨k1, o1, m1, m2⟩ := g3 i x hx
          simp only [getH]
          by_cases hk : k = k1
          · exact ⟨k1, o, m1, by simp [hk]⟩
          · exact ⟨k1, o1, m1, by rw [if_neg hk]; exact m2⟩
      · simp only [List.map_cons, List.mem_cons] at hi
        rcases hi with rfl | hi
        · exact ⟨k, by simp, hm⟩
        · obtain ⟨k', m1, m2⟩ := g4 i hi
          exact ⟨k', by simp only [List.map_cons, List.mem_cons]; exact .inr m1, m2⟩
      · simp only [getH] at hk1
        split at hk1
        · rename_i e
          subst e
          exact ⟨id, o', hm, by simp [getH]⟩
        · obtain ⟨id1, o2, m1, m2⟩ := g5 k1 o1 hk1
          simp only [getH]
          by_cases hk : id = id1
          · exact ⟨id1, o', m1, by simp [hk]⟩
          · exact ⟨id1, o2, m1, by rw [if_neg hk]; exact m2⟩
    · cases h

theorem backs_keys (σ : List (Nat × Nat)) (t : Nat) : ∀ (l : List (Nat × O)), (backs σ t l).map Prod.fst = l.map Prod.fst
  | [] => rfl
  | (k, o) :: r => by simp [backs, backs_keys σ t r]
theorem backs_mem {σ : List (Nat × Nat)} {t k id : Nat} : ∀ {l : List (Nat × O)}, (k, id) ∈ backs σ t l → id = backN σ t k ∧ ∃ o, (k, o) ∈ l
  | (k', o) :: r, h => by
    simp only [backs, List.mem_cons] at h
    rcases h with e | h
    · cases e; exact ⟨rfl, o, by simp⟩
    · obtain ⟨h1, o', h2⟩ := backs_mem h
      exact ⟨h1, o', List.mem_cons_of_mem _ h2⟩
theorem backs_of {σ : List (Nat × Nat)} {t k : Nat} {o : O} : ∀ {l : List (Nat × O)}, (k, o) ∈ l → (k, backN σ t k) ∈ backs σ t l
  | (k', o') :: r, h => by
    simp only [backs, List.mem_cons]
    rcases List.mem_cons.1 h with e | h
    · cases e; exact .inl rfl
    · exact .inr (backs_of h)
theorem getH_mem {k : Nat} {o : O} : ∀ {l : List (Nat × O)}, getH l k = some o → (k, o) ∈ l
  | (k', o') :: r, h => by
    simp only [getH] at h
    split at h
    · rename_i e; subst e; cases h; simp
    · exact List.mem_cons_of_mem _ (getH_mem h)
theorem getH_ex {k : Nat} {o : O} : ∀ {l : List (Nat × O)}, (k, o) ∈ l → ∃ o', getH l k = some o'
  | (k', o') :: r, h => by
    simp only [getH]
    split
    · exact ⟨_, rfl⟩
    · rename_i hne
      rcases List.mem_cons.1 h with e | h
      · cases e; exact absurd rfl hne
      · exact getH_ex h
theorem nodupN_keys : ∀ {l : List (Nat × Nat)}, nodupN l = true → (l.map Prod.fst).Nodup
  | [], _ => by simp
  | (k, o) :: r, h => by
    simp only [nodupN, Bool.and_eq_true, Bool.not_eq_true'] at h
    simp only [List.map_cons, List.nodup_cons]
    refine ⟨fun hin => ?_, nodupN_keys h.2⟩
    obtain ⟨⟨a, b⟩, hm, e⟩ := List.mem_map.1 hin
    simp only at e
    subst e
    have := (hasN_iff (σ := r) (a := a)).2 ⟨b, hm⟩
    rw [h.1] at this
    cases this
theorem freeN_get {h : List (Nat × O)} {σ : List (Nat × Nat)} : ∀ {τ : List (Nat × Nat)}, freeN h σ τ = true → ∀ k id, (k, id) ∈ τ → (getH h id = none ∧ (id < 1000 ∨ 10000 ≤ id)) ∨ ((∃ o, getH h id = some o) ∧ (id, k) ∈ σ ∧ (id < 1000 ∨ 10000 ≤ id ∨ 1000 ≤ k ∧ k < 10000))
  | (k', id') :: r, hf, k, id, hm => by
    simp only [freeN, Bool.and_eq_true] at hf
    rcases List.mem_cons.1 hm with e | hm
    · cases e
      have hf := hf.1
      split at hf
      · rename_i hg; exact .inl ⟨hg, by simpa using hf⟩
      · rename_i o hg
        split at hf
        · rename_i nm hs
          simp only [Bool.and_eq_true, decide_eq_true_eq] at hf
          obtain ⟨rfl, h2⟩ := hf
          exact .inr ⟨⟨o, hg⟩, lookN_mem hs, h2⟩
        · cases hf
    · exact freeN_get hf.2 k id hm
end
section
variable {P : Program} {w : World} {B : Nat} {N : Nat} {w0 : Bs} {a : Act} {call : CT}

/-- A call that hands over objects is sound. -/
theorem ecall_sound (hcall : CTok P call) (hG : w0.G = call.g) {s0 s' : St} {dst : Option Nat} (ht : ∀ t, dst = some t → t < N) {g : FuncId} {args : Array Value} {ds : List D} (hrel : SRel N B w0 s0 a w)
    (hargs : ∀ ι, Rel N B w0 ι (getT s0.t) (getH s0.h) a w → CellsRel (Rep w B ι) args ds) (hs : ecall call s0 dst g ds = some s') :
    (callFunc g args).run P w = .ok (.enter g args) w ∧ Calls P g args w fun e w' => ∃ v, e = .returned v ∧ SRel N B w0 s' (a.put dst v) w' := by
  obtain ⟨ι, hrel⟩ := hrel
  have hargs := hargs ι hrel
  unfold ecall at hs
  obtain ⟨σ, hσ⟩ : ∃ σ, σ = rootPairs s0.h 1000 (rootsE [] ds) := ⟨_, rfl⟩
  simp only [← hσ] at hs
  split at hs
  · rename_i hnd
    obtain ⟨n1, n2⟩ := hnd
    split at hs
    · rename_i ds' hs0 hren hhand
      cases hc : call.e g hs0 (ds'.map (mapA emp0)) with
      | none => rw [hc] at hs; cases hs
      | some rr =>
        obtain ⟨r, hs'⟩ := rr
        rw [hc] at hs
        simp only [eres] at hs
        split at hs
        · rename_i hnd'
          obtain ⟨t1, t2, hfree⟩ := hnd'
          split at hs
          · rename_i r' hs'' hr' hhs''
            cases hs
            obtain ⟨t, htt⟩ : ∃ t, t = dst.getD 999 := ⟨_, rfl⟩
            rw [← htt] at t1 t2 hfree hr' hhs''
            obtain ⟨τ, hτ⟩ : ∃ τ, τ = backs σ t hs' := ⟨_, rfl⟩
            rw [← hτ] at t1 t2 hfree hr' hhs''
            obtain ⟨c1, c2⟩ := hcall.2 g hs0 _ r hs' hc
            refine ⟨c1 args w, ?_⟩
            have hkeys : (hs'.map Prod.fst).Nodup := by
              rw [← backs_keys σ t hs', ← hτ]
              exact nodupN_keys t1
            have hcells : CellsRel (Rep w w.heap.size (inE w ι σ)) args (ds'.map (mapA emp0)) := by
              obtain ⟨e1, e2⟩ := renL_get _ _ hren
              refine ⟨by rw [List.length_map, e1]; exact hargs.1, fun i c d' hi hd' => ?_⟩
              rw [List.getElem?_map] at hd'
              simp only [Option.map_eq_some_iff] at hd'
              obtain ⟨d1, hd1, rfl⟩ := hd'
              obtain ⟨d0, g1, g2⟩ := e2 i d1 hd1
              have hr0 : Rep0 w B ι c d0 := by
                rcases hargs.2 i c d0 hi g1 with h | h | ⟨_, rfl, _⟩
                · exact .inl h
                · exact .inr h
                · cases g2
              have h0 : Rep0 w w.heap.size (inE w ι σ) c d1 := renA_rep (fun v d d' h hd => rep1_in n2 h hd) hr0 g2
              refine (Rep0.mapA h0 (fun v d h _ => ?_) (fun v cs h => .inl h)).of
              cases d <;> first | exact h | skip
              have h := h.resolve_right (fun h => h.elim)
              cases h
              exact .inl (.sl0 _ _)
            refine (c2 w (inE w ι σ) args (objs_in hrel rfl n1 n2 hhand) (globs_in hrel hG σ) hcells).mono ?_
            rintro e w' ⟨v, ι', he, hbel, hK, hZ, hobjs, hrep, hk0⟩
            refine ⟨v, he, ?_⟩
            have hl : Left w w' B ι ι' s0.h σ τ hs' := {
              below := hbel
              K := hK
              Z := hZ
              objs := hobjs
              k0 := hk0
              n1 := n1
              n2 := n2
              t1 := t1
              t2 := t2
              tk := fun k => by
                constructor
                · rintro ⟨o, ho⟩
                  exact ⟨_, by rw [hτ]; exact backs_of (getH_mem ho)⟩
                · rintro ⟨id, hm⟩
                  rw [hτ] at hm
                  obtain ⟨_, o, ho⟩ := backs_mem hm
                  exact getH_ex ho
              free := freeN_get hfree
              stay := fun id nm hm o ho => by
                have := backs_of (σ := σ) (t := t) (getH_mem ho)
                rw [← hτ] at this
                have e : backN σ t nm = id := by
                  unfold backN
                  rw [lookN_of n2 (swp_mem.2 hm)]
                rwa [e] at this }
            obtain ⟨k1, k2, k3, k4, k5⟩ := renHs_get t1 t2 hs' hs'' hhs'' hkeys
            have hη : ∀ id, getH (setHs (clearH (loose hs' σ) (gone hs' σ) s0.h) hs'') id = match lookN (swp τ) id with
                | some k => (getH hs' k).bind (renO false τ)
                | none => match lookN σ id with
                  | some _ => none
                  | none => (getH s0.h id).map (killOs (loose hs' σ)) := by
              intro id
              rw [getH_setHs _ _ k1, k2 id]
              cases hlt : lookN (swp τ) id with
              | some k =>
                simp only
                obtain ⟨o, ho⟩ := (hl.tk k).2 ⟨id, swp_mem.1 (lookN_mem hlt)⟩
                obtain ⟨id1, o', m1, m2⟩ := k5 k o ho
                have e : id1 = id := by
                  have e1 := lookN_of t1 m1
                  rw [lookN_of t1 (swp_mem.1 (lookN_mem hlt))] at e1
                  exact (Option.some.inj e1).symm
                subst e
                have := k2 id1
                rw [m2, hlt] at this
                simp only at this
                rw [← this]
              | none =>
                simp only
                rw [getH_clearH]
                cases hls : lookN σ id with
                | some nm =>
                  simp only
                  have hm := lookN_mem hls
                  have : getH hs' nm = none := by
                    cases hg : getH hs' nm with
                    | none => rfl
                    | some o =>
                      have := hl.stay id nm hm o hg
                      rw [lookN_of t2 (swp_mem.2 this)] at hlt
                      cases hlt
                  rw [if_pos]
                  rw [List.contains_eq_mem, decide_eq_true_eq]
                  exact (gone_mem σ).2 ⟨nm, hm, this⟩
                | none =>
                  simp only
                  rw [if_neg]
                  rw [List.contains_eq_mem, decide_eq_true_eq]
                  intro hin
                  obtain ⟨nm, hm, _⟩ := (gone_mem σ).1 hin
                  rw [lookN_of n1 hm] at hls
                  cases hls
            have hfin := Rel.left (η'' := getH (setHs (clearH (loose hs' σ) (gone hs' σ) s0.h) hs'')) hrel hl hη (fun k id hm => by
              obtain ⟨o, ho⟩ := (hl.tk k).2 ⟨id, hm⟩
              obtain ⟨id1, o', m1, m2⟩ := k5 k o ho
              have e : id1 = id := by
                have e1 := lookN_of t1 m1
                rw [lookN_of t1 hm] at e1
                exact (Option.some.inj e1).symm
              subst e
              refine ⟨o', ?_⟩
              rw [getH_setHs _ _ k1, m2])
            refine ⟨outE ι ι' σ τ, ?_⟩
            cases dst with
            | none =>
              simp only [putD, getT_killTs]
              exact hfin
            | some q =>
              simp only [putD, getT_set, getT_killTs]
              exact hfin.put (ht q rfl) (renT_rep (fun v d d' h hd => hl.rep1New hrel h hd) hrep hr')
          · cases hs
        · cases hs
    · cases hs
  · cases hs
end
end Go.Abs
