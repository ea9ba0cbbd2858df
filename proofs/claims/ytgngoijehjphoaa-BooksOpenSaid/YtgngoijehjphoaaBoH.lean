/-
  BooksOpen: what is kept while movements are posted.
-/
import Derived.Test.YtgngoijehjphoaaBoG
namespace Go.Proofs.Ytgngoijehjphoaa
set_option linter.unusedSimpArgs false
set_option linter.unusedVariables false
open Go Go.Abs
set_option maxHeartbeats 8000000
set_option maxRecDepth 100000
theorem nm9_acc : Accs nm9 := ⟨nm9_mk, by decide +kernel, by decide⟩
/-- The ledger behind some movements. -/
structure BkInv (i : Nat) (en : List Ent) : Prop where
  L : Lg nm9 en
  ids : ∀ y ∈ en, ∃ j, j < i ∧ y.id = idB j
  last : ∀ m, lastT en = some m → m < i
  bnd : ∀ a, -(137438953472 * (i : Int)) ≤ balE a en ∧ balE a en ≤ 137438953472 * (i : Int)
  acc : ∀ y ∈ en, ∀ p ∈ y.ps, p.acc ∈ acc8
  len : en.length ≤ i
theorem BkInv.zero : BkInv 0 [] := ⟨.nil, (fun y hy => by cases hy), (fun m hm => by cases hm), (fun a => by simp [balE]), (fun y hy => by cases hy), Nat.le_refl _⟩
theorem BkInv.mono {i : Nat} {en : List Ent} (h : BkInv i en) : BkInv (i + 1) en :=
  ⟨h.L, fun y hy => by obtain ⟨j, h1, h2⟩ := h.ids y hy; exact ⟨j, by omega, h2⟩, fun m hm => by have := h.last m hm; omega,
    fun a => by have := h.bnd a; simp only [Int.natCast_add, Int.cast_ofNat_Int]; omega, h.acc, by have := h.len; omega⟩
theorem MvOk.sum {ps : List Pst} (h : MvOk ps) (a : ByteArray) : -137438953472 ≤ sumP a ps ∧ sumP a ps ≤ 137438953472 := by
  have := sumP_bnd (a := a) h.amt (by omega)
  have := h.len
  omega
theorem MvOk.err {ps : List Pst} (h : MvOk ps) {i : Nat} {en : List Ent} (hb : BkInv i en) (hi : i < 60) (hne : ps ≠ []) : errP nm9 en ⟨idB i, i, ps⟩ = 0 := by
  have ho : ∀ p ∈ ps, outB p.amt = false := fun p hp => by
    have := h.amt p hp
    rw [outB_iff]; omega
  refine errP_of ?_ (by simp only [idB_size]; omega) ?_ (by simp only; omega) (by simp only; omega) (fun m hm => by have := hb.last m hm; simp only; omega) hne (by have := h.len; simp only; omega) (pstP_0.2 fun p hp => ⟨acc8_nm (h.acc p hp), ho p hp⟩) ?_ (anyP_0.2 fun p _ => ?_) (by have := hb.len; omega)
  · intro e
    have : (idB i).size = 0 := by simp only at e; rw [e]; rfl
    rw [idB_size] at this
    omega
  · intro hm
    obtain ⟨y, hy, e⟩ := List.mem_map.1 hm
    obtain ⟨j, h1, h2⟩ := hb.ids y hy
    rw [h2] at e
    have := idB_inj j (by omega) i hi e
    omega
  · simp only
    rw [totP_eq (k := 0) ho (by omega) (by omega) (by have := h.len; omega), h.tot]
    rfl
  · have := h.sum p.acc
    have := hb.bnd p.acc
    rw [outB_iff]
    simp only
    omega
theorem lastT_snoc (en : List Ent) (x : Ent) : lastT (en ++ [x]) = some x.t := by simp [lastT]
theorem BkInv.snoc {i : Nat} {en : List Ent} (hb : BkInv i en) (hi : i < 60) {ps : List Pst} (h : MvOk ps) (hne : ps ≠ []) : BkInv (i + 1) (en ++ [⟨idB i, i, ps⟩]) := by
  refine ⟨.snoc hb.L (h.err hb hi hne), fun y hy => ?_, fun m hm => ?_, fun a => ?_, fun y hy => ?_, ?_⟩
  · rcases List.mem_append.1 hy with hy | hy
    · obtain ⟨j, h1, h2⟩ := hb.ids y hy
      exact ⟨j, by omega, h2⟩
    · simp at hy
      subst hy
      exact ⟨i, by omega, rfl⟩
  · rw [lastT_snoc] at hm
    simp at hm
    omega
  · rw [balE_snoc]
    have := hb.bnd a
    have := h.sum a
    simp only [Int.natCast_add, Int.cast_ofNat_Int]
    omega
  · rcases List.mem_append.1 hy with hy | hy
    · exact hb.acc y hy
    · simp at hy
      subst hy
      exact h.acc
  · have := hb.len
    simp
    omega
/-- A movement is posted. -/
def stepB (i : Nat) (en : List Ent) (x : Mov) : List Ent := if mv (mvV x) = [] then en else en ++ [⟨idB i, i, mv (mvV x)⟩]
theorem BkInv.step {i : Nat} {en : List Ent} (hb : BkInv i en) (hi : i < 60) {x : Mov} (hx : x.Ok) : BkInv (i + 1) (stepB i en x) := by
  unfold stepB
  split
  · exact hb.mono
  · exact hb.snoc hi (mv_ok x hx) (by assumption)
theorem stepB_bal (i : Nat) (en : List Ent) (x : Mov) (a : ByteArray) : balE a (stepB i en x) = balE a en + sumP a (mv (mvV x)) := by
  unfold stepB
  split
  · rename_i h; rw [h]; simp [sumP]
  · rw [balE_snoc]
def allB (i : Nat) (en : List Ent) : List Mov → List Ent
  | [] => en
  | x :: r => allB (i + 1) (stepB i en x) r
theorem BkInv.all {ms : List Mov} : ∀ {i : Nat} {en : List Ent}, BkInv i en → i + ms.length ≤ 60 → (∀ x ∈ ms, x.Ok) → BkInv (i + ms.length) (allB i en ms) := by
  induction ms with
  | nil => intro i en h _ _; exact h
  | cons x r ih =>
    intro i en h hl hx
    simp only [List.length_cons] at hl ⊢
    have := ih (h.step (by omega) (hx x (by simp))) (by omega) (fun y hy => hx y (by simp [hy]))
    rw [show i + (r.length + 1) = i + 1 + r.length by omega]
    exact this
theorem accS_mono {l : List ByteArray} (hn : l.Nodup) : ∀ {en : List Ent}, (∀ y ∈ en, ∀ p ∈ y.ps, p.acc ∈ l) → accS (fun a => balE a en) l = (en.map fun y => totS y.ps).sum
  | [], _ => by simp [balE, accS_zero]
  | x :: r, h => by
    have ih := accS_mono hn (en := r) (fun y hy => h y (by simp [hy]))
    simp only [balE, List.map_cons, List.sum_cons]
    rw [accS_add, ih, accS_sumP hn (h x (by simp))]
theorem BkInv.sum0 {i : Nat} {en : List Ent} (h : BkInv i en) : accS (fun a => balE a en) acc8 = 0 := by
  rw [accS_mono acc8_nd h.acc]
  have : ∀ y ∈ en, totS y.ps = 0 := fun y hy => by
    obtain ⟨p, _, hp⟩ := h.L.prop hy
    exact tot0 hp
  clear h
  induction en with
  | nil => rfl
  | cons y r ih =>
    simp only [List.map_cons, List.sum_cons, this y (by simp), ih (fun z hz => this z (by simp [hz]))]
    rfl
end Go.Proofs.Ytgngoijehjphoaa
