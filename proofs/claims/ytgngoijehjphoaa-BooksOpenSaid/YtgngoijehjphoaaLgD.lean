/-
  An entry is posted, run abstractly: its copy, the new balances.
-/
import Derived.Test.YtgngoijehjphoaaLgC
namespace Go.Proofs.Ytgngoijehjphoaa
set_option linter.unusedSimpArgs false
set_option linter.unusedVariables false
open Go Go.Abs
set_option maxHeartbeats 8000000
set_option maxRecDepth 100000
theorem clone_run (l : List Pst) (h : l.length ≤ 1000000) : NF_slices_Clone_api_Posting_api_Posting [.sl (l.map ePs)] = some (.own true (l.map ePs)) := by
  cases l with
  | nil => rw [NF_slices_Clone_api_Posting_api_Posting_sl]; simp
  | cons x r =>
    rw [NF_slices_Clone_api_Posting_api_Posting_sl, if_neg (by simp), F_slices_Clone_api_Posting_api_Posting_eq]
    simp at h ⊢
    omega
theorem copyOf_run (x : Ent) (h : x.ps.length ≤ 1000000) : F_ledger_copyOf [.agg (eEn x)] = some (.agg [S x.id, I x.t, .own true (x.ps.map ePs)]) := by
  rw [F_ledger_copyOf_eq]
  have hc := clone_run x.ps h
  simp [hc]
/-- A ledger as an object. -/
def ledH (n : Nat) (b : Bal) (ids : List ByteArray) (en : List Ent) (fl : Bool) : List (Nat × O) :=
  [(n, .box 57 [.mp (10000 + 100 * n), .mp (10000 + 100 * n + 1), .row (10000 + 100 * n + 2)]), (10000 + 100 * n, .mp (b.map encB)), (10000 + 100 * n + 1, .mp (ids.map encK)), (10000 + 100 * n + 2, .row 41 3 fl (en.map eEn))]
/-- The state of a posting under way. -/
def pstS (b : Bal) (ids : List ByteArray) (en : List Ent) (fl : Bool) (x : Ent) (l : Bal) (d23 d24 d25 : D) : St :=
  ⟨[(0, .ptr 1000 0), (1, .any), (3, .ptr 3 0), (4, .any), (5, .any), (6, .mp 21), (8, .any), (10, .any), (12, .any), (23, d23), (24, d24), (25, d25), (57, .any)],
    [(1000, .box 57 [.mp 110000, .mp 110001, .row 110002]), (110000, .mp (b.map encB)), (110001, .mp (ids.map encK)), (110002, .row 41 3 fl (en.map eEn)), (3, .box 41 [S x.id, I x.t, .sl (x.ps.map ePs)]), (21, .mp (l.map encB))]⟩
theorem post_loop (b : Bal) (ids : List ByteArray) (en : List Ent) (fl : Bool) (x : Ent) (hl : x.ps.length ≤ 1000) : ∀ (n i : Nat) (r : List Pst) (l : Bal), x.ps.drop i = r → r.length < n →
    L_ledger_Ledger_Post 8 n (pstS b ids en fl x l (.sl (x.ps.map ePs)) (I x.ps.length) (I i)) = some (.ex 0, pstS b ids en fl x (aftB b l r) .any .any .any) := by
  intro n
  induction n with
  | zero => intro i r l hr hn; omega
  | succ n ih =>
    intro i r l hr hn
    rw [L_ledger_Ledger_Post_succ_8, R_ledger_Ledger_Post_eq]
    cases r with
    | nil =>
      have h2 : ¬ (i : Int) < x.ps.length := by
        have := List.drop_eq_nil_iff.1 hr
        omega
      simp [pstS, h2, aftB]
    | cons p r =>
      obtain ⟨h1, h3, hr', hi⟩ := dcP hr
      have hw := wrapN (n := i) (by omega)
      have ih' := fun l' => ih (i + 1) r l' hr' (by simp at hn; omega)
      simp only [Int.natCast_add, Int.cast_ofNat_Int, pstS] at ih'
      have k1 := lookV_B p.acc l
      have k2 := lookV_B p.acc b
      have e1 : aftB b l (p :: r) = aftB b (setB p.acc (IntKind.i64.wrap ((balO p.acc (firstB b p.acc l)).getD 0 + p.amt)) (firstB b p.acc l)) r := rfl
      have k3 := lookV_B p.acc (firstB b p.acc l)
      have p1 := putM_B p.acc ((balO p.acc b).getD 0) l
      have p2 := putM_B p.acc (IntKind.i64.wrap ((balO p.acc (firstB b p.acc l)).getD 0 + p.amt)) (firstB b p.acc l)
      rw [e1]
      cases c : (balO p.acc l).isSome
      · rw [c] at k1
        have e2 : firstB b p.acc l = setB p.acc ((balO p.acc b).getD 0) l := by simp [firstB, c]
        rw [← e2] at p1
        simp [pstS, h1, h3, hw, allS_B, k1, k2, k3, p1, p2]
        simpa using ih' _
      · rw [c] at k1
        have e2 : firstB b p.acc l = l := by simp [firstB, c]
        rw [e2] at k3 p2 ⊢
        simp [pstS, h1, h3, hw, allS_B, k1, k2, k3, p1, p2]
        simpa using ih' _
/-- The state at the head of the loop over the new map. -/
def scnS (b : Bal) (ids : List ByteArray) (en : List Ent) (fl : Bool) (x : Ent) (l : Bal) (d57 : D) : St :=
  ⟨[(0, .ptr 1000 0), (1, .any), (3, .ptr 3 0), (4, .any), (5, .any), (6, .mpv (l.map encB)), (8, .any), (10, .any), (12, .any), (23, .any), (24, .any), (25, .any), (57, d57)],
    [(1000, .box 57 [.mp 110000, .mp 110001, .row 110002]), (110000, .mp (b.map encB)), (110001, .mp (ids.map encK)), (110002, .row 41 3 fl (en.map eEn)), (3, .box 41 [S x.id, I x.t, .sl (x.ps.map ePs)])]⟩
def retS (b : Bal) (ids : List ByteArray) (en : List Ent) (fl : Bool) (d4 : D) : St :=
  ⟨[(0, .any), (1, .any), (3, .any), (4, d4), (5, .any), (6, .any), (8, .any), (10, .any), (12, .any), (23, .any), (24, .any), (25, .any), (57, .any)],
    [(1000, .box 57 [.mp 110000, .mp 110001, .row 110002]), (110000, .mp (b.map encB)), (110001, .mp (ids.map encK)), (110002, .row 41 3 fl (en.map eEn))]⟩
theorem scan_loop (b : Bal) (ids : List ByteArray) (en : List Ent) (fl : Bool) (x : Ent) (l : Bal) (n : Nat) :
    L_ledger_Ledger_Post 16 n (scnS b ids en fl x l (.it (l.map encB) [])) = if anyOut l = true then some (.ret, retS b ids en fl (I 9)) else some (.ex 2, scnS b ids en fl x l .any) := by
  rw [I_ledger_Ledger_Post_16]
  have hover : ∀ l', G_ledger_Ledger_Post_16 (itOver (scnS b ids en fl x l (.it (l.map encB) [])) 58 57 (l.map encB) l') = some (.ex 2, scnS b ids en fl x l .any) := by
    intro l'
    rw [G_ledger_Ledger_Post_16_eq]
    simp [scnS]
  have hout : ∀ l' (y : ByteArray × Int), outB y.2 = true → G_ledger_Ledger_Post_16 (itStep (scnS b ids en fl x l (.it (l.map encB) [])) 58 57 (l.map encB) l' (encB y)) = some (.ret, retS b ids en fl (I 9)) := by
    intro l' y h
    rw [G_ledger_Ledger_Post_16_eq]
    have ho := outside_run y.2
    rw [h] at ho
    simp [scnS, retS, ho, encB]
  have hin : ∀ l' (y : ByteArray × Int), outB y.2 = false → ItCont (G_ledger_Ledger_Post_16) (an_ledger_Ledger_Post.loops.lookup 16) (scnS b ids en fl x l (.it (l.map encB) [])) 58 57 (l.map encB) l' (encB y) := by
    intro l' y h
    have ho := outside_run y.2
    rw [h] at ho
    refine ⟨_, by rw [G_ledger_Ledger_Post_16_eq]; simp [scnS, ho, encB]; rfl, ?_⟩
    simp [scnS, encB]
  have hc : 58 < 93 ∧ 57 < 93 ∧ 58 ≠ 57 ∧ noItT 57 (scnS b ids en fl x l (.it (l.map encB) [])).t = true ∧ noItH (scnS b ids en fl x l (.it (l.map encB) [])).h = true := ⟨by omega, by omega, by omega, by simp [scnS, noItT, noIt, flat2, flat1], by simp [scnS, noItH, flat1]⟩
  cases ha : anyOut l
  · rw [if_neg (by simp)]
    have hall := anyOut_iff.1 ha
    refine itLoop_eq (es := l.map encB) (by simp [scnS]) hc ⟨by simp, fun l' e he => ?_, .inl ⟨fun l' e he => ?_, hover⟩⟩
    · obtain ⟨y, hy, rfl⟩ := List.mem_map.1 he
      exact .inl (hin l' y (hall y hy))
    · obtain ⟨y, hy, rfl⟩ := List.mem_map.1 he
      exact hin l' y (hall y hy)
  · rw [if_pos rfl]
    have hex : ∃ y ∈ l, outB y.2 = true := by
      refine Classical.byContradiction fun hn => ?_
      have : anyOut l = false := anyOut_iff.2 fun y hy => by
        cases h : outB y.2
        · rfl
        · exact absurd ⟨y, hy, h⟩ hn
      rw [ha] at this
      cases this
    obtain ⟨y0, hy0, h0⟩ := hex
    refine itLoop_eq (es := l.map encB) (by simp [scnS]) hc ⟨by simp, fun l' e he => ?_, .inr ⟨encB y0, List.mem_map.2 ⟨y0, hy0, rfl⟩, fun l' => hout l' y0 h0⟩⟩
    obtain ⟨y, hy, rfl⟩ := List.mem_map.1 he
    cases h : outB y.2
    · exact .inl (hin l' y h)
    · exact .inr (hout l' y h)

theorem mergeM_B : ∀ (l b : Bal), mergeM (b.map encB) (l.map encB) = (mergeB b l).map encB
  | [], _ => rfl
  | x :: r, b => by
    have ih := mergeM_B r (setB x.1 x.2 b)
    simp only [List.map_cons, mergeB, ← ih, ← putM_B]
    rfl
theorem allK_B {b : Bal} (h : ∀ x ∈ b, x.1.size ≤ 1000) : allK (b.map encB) = true := by
  rw [allK_iff]
  intro e he
  obtain ⟨x, hx, rfl⟩ := List.mem_map.1 he
  have : maxLen = 2 ^ 63 - 1 := rfl
  exact ⟨x.1, rfl, by have := h x hx; omega⟩
theorem setB_mem {k : ByteArray} {n : Int} {b : Bal} {x : ByteArray × Int} (h : x ∈ setB k n b) : x.1 = k ∨ x.1 ∈ b.map (·.1) := by
  have h1 : x.1 ∈ (setB k n b).map (·.1) := List.mem_map.2 ⟨x, h, rfl⟩
  rw [setB_keys] at h1
  split at h1
  · exact .inr h1
  · simp only [List.mem_append, List.mem_singleton] at h1
    exact h1.symm
theorem setB_len {k : ByteArray} {n : Int} : ∀ {b : Bal}, (setB k n b).length ≤ b.length + 1
  | [] => by simp [setB]
  | x :: r => by
    have ih := setB_len (k := k) (n := n) (b := r)
    simp only [setB]
    split
    · simp
    · simp; omega
theorem balO_keys {k : ByteArray} : ∀ {b : Bal}, balO k b ≠ none → k ∈ b.map (·.1)
  | [], h => absurd rfl h
  | x :: r, h => by
    simp only [balO] at h
    split at h
    · rename_i e; simp [e]
    · have := balO_keys h; simp at this ⊢; exact .inr this
theorem aftB_keys {b : Bal} : ∀ {ps : List Pst} {l : Bal}, pstE b ps = 0 → (∀ x ∈ l, x.1 ∈ b.map (·.1)) → (∀ x ∈ aftB b l ps, x.1 ∈ b.map (·.1)) ∧ (aftB b l ps).length ≤ l.length + 2 * ps.length
  | [], l, _, h => ⟨h, by simp [aftB]⟩
  | p :: r, l, hp, h => by
    simp only [pstE] at hp
    split at hp
    · omega
    rename_i hb
    split at hp
    · omega
    have hk := balO_keys hb
    have h1 : ∀ x ∈ firstB b p.acc l, x.1 ∈ b.map (·.1) := by
      unfold firstB
      split
      · exact h
      · intro x hx
        rcases setB_mem hx with e | e
        · rw [e]; exact hk
        · obtain ⟨y, hy, e⟩ := List.mem_map.1 e
          rw [← e]; exact h y hy
    have l1 : (firstB b p.acc l).length ≤ l.length + 1 := by
      unfold firstB
      split
      · omega
      · exact setB_len
    obtain ⟨g1, g2⟩ := aftB_keys (b := b) (ps := r) (l := setB p.acc (IntKind.i64.wrap ((balO p.acc (firstB b p.acc l)).getD 0 + p.amt)) (firstB b p.acc l)) hp (fun x hx => by
      rcases setB_mem hx with e | e
      · rw [e]; exact hk
      · obtain ⟨y, hy, e⟩ := List.mem_map.1 e
        rw [← e]; exact h1 y hy)
    refine ⟨g1, ?_⟩
    have := setB_len (k := p.acc) (n := IntKind.i64.wrap ((balO p.acc (firstB b p.acc l)).getD 0 + p.amt)) (b := firstB b p.acc l)
    simp only [List.length_cons, aftB]
    omega
theorem chkE_0 {b : Bal} {ids : List ByteArray} {m : Option Int} {id : ByteArray} {t : Int} {ps : List Pst} (h : chkE b ids m id t ps = 0) : ps ≠ [] ∧ ps.length ≤ 16 ∧ pstE b ps = 0 := by
  unfold chkE at h
  by_cases h1 : ps = []
  · rw [if_pos h1] at h
    repeat' (split at h)
    all_goals omega
  rw [if_neg h1] at h
  by_cases h2 : 16 < (ps.length : Int)
  · rw [if_pos h2] at h
    repeat' (split at h)
    all_goals omega
  rw [if_neg h2] at h
  by_cases h3 : pstE b ps = 0
  · exact ⟨h1, by omega, h3⟩
  · rw [if_neg h3] at h
    repeat' (split at h)
    all_goals first | omega | exact absurd h h3
end Go.Proofs.Ytgngoijehjphoaa
