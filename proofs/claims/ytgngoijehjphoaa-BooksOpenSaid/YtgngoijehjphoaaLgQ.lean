/-
  Plain laws of ledgers: balances add up to zero; entries can be posted again; an opposite entry restores.
-/
import Derived.Test.YtgngoijehjphoaaLgM
namespace Go.Proofs.Ytgngoijehjphoaa
set_option linter.unusedSimpArgs false
set_option linter.unusedVariables false
open Go Go.Abs
set_option maxHeartbeats 2000000
set_option maxRecDepth 100000
/-- An entry is posted, or refused. -/
def stepL (accs : List ByteArray) (en : List Ent) (x : Ent) : List Ent := if errP accs en x = 0 then en ++ [x] else en
def postAll (accs : List ByteArray) (en : List Ent) : List Ent → List Ent
  | [] => en
  | x :: r => postAll accs (stepL accs en x) r
theorem Lg.step {accs : List ByteArray} {en : List Ent} (h : Lg accs en) (x : Ent) : Lg accs (stepL accs en x) := by
  unfold stepL
  split
  · exact .snoc h (by assumption)
  · exact h
theorem Lg.all {accs : List ByteArray} : ∀ {r en : List Ent}, Lg accs en → Lg accs (postAll accs en r)
  | [], _, h => h
  | x :: r, _, h => Lg.all (r := r) (h.step x)
theorem stepL_mem {accs : List ByteArray} {en : List Ent} {x y : Ent} (h : y ∈ stepL accs en x) : y ∈ en ∨ y = x := by
  unfold stepL at h
  split at h
  · simpa using h
  · exact .inl h
theorem stepL_len {accs : List ByteArray} {en : List Ent} {x : Ent} : (stepL accs en x).length ≤ en.length + 1 := by
  unfold stepL
  split <;> simp
/-- Each entry of a ledger could be posted where it stands. -/
theorem Lg.at {accs : List ByteArray} {en : List Ent} (h : Lg accs en) : ∀ {p : List Ent} {x : Ent} {r : List Ent}, en = p ++ x :: r → Lg accs p ∧ errP accs p x = 0 := by
  induction h with
  | nil => intro p x r e; simp at e
  | @snoc en y h hy ih =>
    intro p x r e
    rcases List.eq_nil_or_concat r with rfl | ⟨r, z, rfl⟩
    · obtain ⟨e1, e2⟩ := List.append_inj' e rfl
      subst e1
      cases e2
      exact ⟨h, hy⟩
    · rw [List.concat_eq_append, ← List.cons_append, ← List.append_assoc] at e
      exact ih (List.append_inj' e rfl).1
theorem Lg.prop {accs : List ByteArray} {en : List Ent} (h : Lg accs en) {x : Ent} (hx : x ∈ en) : ∃ p, Lg accs p ∧ errP accs p x = 0 := by
  obtain ⟨p, r, e⟩ := List.append_of_mem hx
  exact ⟨p, h.at e⟩
theorem postAll_self {accs : List ByteArray} {en : List Ent} (h : Lg accs en) : ∀ {r p : List Ent}, en = p ++ r → postAll accs p r = en
  | [], p, e => by simp [postAll, e]
  | x :: r, p, e => by
    have h1 := (h.at e).2
    simp only [postAll, stepL, if_pos h1]
    exact postAll_self h (by simp [e])
/-- The sum of amounts. -/
def totS : List Pst → Int
  | [] => 0
  | p :: r => p.amt + totS r
theorem totP_eq : ∀ {ps : List Pst} {s : Int} {k : Nat}, (∀ p ∈ ps, outB p.amt = false) → -(72057594037927936 * (k : Int)) ≤ s → s ≤ 72057594037927936 * (k : Int) → k + ps.length ≤ 120 → totP s ps = s + totS ps
  | [], s, k, _, _, _, _ => by simp [totP, totS]
  | p :: r, s, k, h, h1, h2, hk => by
    have hp := outB_iff.1 (h p (by simp))
    simp only [List.length_cons] at hk
    simp only [totP, totS]
    rw [wrap64 (by omega) (by omega), totP_eq (k := k + 1) (fun q hq => h q (by simp [hq])) (by omega) (by omega) (by omega)]
    omega
/-- A sum over accounts. -/
def accS (f : ByteArray → Int) : List ByteArray → Int
  | [] => 0
  | a :: r => f a + accS f r
theorem accS_add (f g : ByteArray → Int) : ∀ l, accS (fun a => f a + g a) l = accS f l + accS g l
  | [] => rfl
  | a :: r => by simp only [accS, accS_add f g r]; omega
theorem accS_zero : ∀ l : List ByteArray, accS (fun _ => 0) l = 0
  | [] => rfl
  | a :: r => by simp only [accS, accS_zero r]; rfl
theorem accS_none {a : ByteArray} {n : Int} : ∀ {l : List ByteArray}, a ∉ l → accS (fun b => if a = b then n else 0) l = 0
  | [], _ => rfl
  | b :: r, h => by
    simp only [List.mem_cons, not_or] at h
    simp only [accS, accS_none h.2, if_neg h.1]
    rfl
theorem accS_one {a : ByteArray} {n : Int} : ∀ {l : List ByteArray}, l.Nodup → a ∈ l → accS (fun b => if a = b then n else 0) l = n
  | [], _, h => by cases h
  | b :: r, hn, h => by
    obtain ⟨h1, h2⟩ := List.nodup_cons.1 hn
    simp only [accS]
    by_cases e : a = b
    · subst e
      rw [if_pos rfl, accS_none h1]
      omega
    · rw [if_neg e]
      rcases List.mem_cons.1 h with h | h
      · exact absurd h e
      · rw [accS_one h2 h]
        omega
theorem accS_sumP {accs : List ByteArray} (hn : accs.Nodup) : ∀ {ps : List Pst}, (∀ p ∈ ps, p.acc ∈ accs) → accS (fun a => sumP a ps) accs = totS ps
  | [], _ => accS_zero accs
  | p :: r, h => by
    have ih := accS_sumP hn (ps := r) (fun q hq => h q (by simp [hq]))
    simp only [sumP, totS]
    rw [accS_add, ih, accS_one hn (h p (by simp))]
theorem tot0 {accs : List ByteArray} {en : List Ent} {x : Ent} (h : errP accs en x = 0) : totS x.ps = 0 := by
  obtain ⟨_, _, _, _, _, _, _, h8, h9, h10, _⟩ := errP_0 h
  rw [totP_eq (k := 0) (fun p hp => (pstP_0.1 h9 p hp).2) (by omega) (by omega) (by omega)] at h10
  omega
/-- All balances add up to zero. -/
theorem Lg.zero {accs : List ByteArray} (hn : accs.Nodup) {en : List Ent} (h : Lg accs en) : accS (fun a => balE a en) accs = 0 := by
  induction h with
  | nil => exact accS_zero accs
  | @snoc en x h hx ih =>
    have h9 := (errP_0 hx).2.2.2.2.2.2.2.2.1
    have e : (fun a => balE a (en ++ [x])) = fun a => balE a en + sumP a x.ps := funext fun a => balE_snoc a en x
    rw [e, accS_add, ih, accS_sumP hn (fun p hp => (pstP_0.1 h9 p hp).1), tot0 hx]
    rfl
/-- An opposite posting. -/
def negP (p : Pst) : Pst := ⟨p.acc, -p.amt⟩
theorem sumP_neg (a : ByteArray) : ∀ ps : List Pst, sumP a (ps.map negP) = -sumP a ps
  | [] => rfl
  | p :: r => by
    simp only [List.map_cons, sumP, negP, sumP_neg a r]
    split <;> omega
theorem totS_neg : ∀ ps : List Pst, totS (ps.map negP) = -totS ps
  | [] => rfl
  | p :: r => by simp only [List.map_cons, totS, negP, totS_neg r]; omega
theorem opp_bal (x : Ent) (i : ByteArray) (a : ByteArray) : balE a [x, ⟨i, x.t, x.ps.map negP⟩] = 0 := by
  simp only [balE, sumP_neg]; omega
/-- The opposite of a first entry can be posted. -/
theorem opp_ok {accs : List ByteArray} {x : Ent} (h : errP accs [] x = 0) {i : ByteArray} (h1 : i ≠ ByteArray.empty) (h2 : i.size ≤ 40) (h3 : i ≠ x.id) : errP accs [x] ⟨i, x.t, x.ps.map negP⟩ = 0 := by
  have ht := tot0 h
  obtain ⟨g1, g2, g3, g4, g5, g6, g7, g8, g9, g10, g11, g12⟩ := errP_0 h
  have hp := pstP_0.1 g9
  have hq : ∀ p ∈ x.ps.map negP, p.acc ∈ accs ∧ outB p.amt = false := by
    intro p hm
    obtain ⟨q, hq, rfl⟩ := List.mem_map.1 hm
    obtain ⟨k1, k2⟩ := hp q hq
    refine ⟨k1, ?_⟩
    rw [outB_iff] at k2 ⊢
    simp only [negP]
    omega
  refine errP_of h1 h2 (by simpa using h3) g4 g5 ?_ (by simpa using g7) (by simpa using g8) (pstP_0.2 hq) ?_ (anyP_0.2 fun p hm => ?_) (by simp)
  · intro m hm
    simp [lastT] at hm
    simp only
    omega
  · simp only
    rw [totP_eq (k := 0) (fun p hm => (hq p hm).2) (by omega) (by omega) (by simp; omega), totS_neg, ht]
    rfl
  · have := opp_bal x i p.acc
    simp only [balE] at this
    simp only [balE]
    rw [show sumP p.acc x.ps + 0 + sumP p.acc (x.ps.map negP) = 0 by omega]
    decide
end Go.Proofs.Ytgngoijehjphoaa
