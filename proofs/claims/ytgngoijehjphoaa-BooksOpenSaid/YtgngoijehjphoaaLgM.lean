/-
  A ledger in plain words: accounts with their balances, as a map holds them; entries; what an entry's check and its posting give.
-/
import Derived.Test.YtgngoijehjphoaaAbs3
namespace Go.Proofs.Ytgngoijehjphoaa
set_option linter.unusedSimpArgs false
set_option linter.unusedVariables false
open Go Go.Abs
set_option maxHeartbeats 2000000
set_option maxRecDepth 100000
/-- Accounts and balances, as entries of a map. -/
def encB (x : ByteArray × Int) : Value × Value := (.string x.1, .int .i64 x.2)
/-- Known Ids. -/
def encK (s : ByteArray) : Value × Value := (.string s, .bool true)
abbrev Bal := List (ByteArray × Int)
theorem allS_B : ∀ l : Bal, allS (l.map encB) = true
  | [] => rfl
  | x :: r => by simp only [List.map_cons, encB, allS]; exact allS_B r
theorem allS_K : ∀ l : List ByteArray, allS (l.map encK) = true
  | [] => rfl
  | x :: r => by simp only [List.map_cons, encK, allS]; exact allS_K r
/-- The balance of an account, if it is one. -/
def balO (k : ByteArray) : Bal → Option Int
  | [] => none
  | x :: r => if k = x.1 then some x.2 else balO k r
def hasK (k : ByteArray) : List ByteArray → Bool
  | [] => false
  | x :: r => if k = x then true else hasK k r
/-- A balance is set, or an account comes behind the others. -/
def setB (k : ByteArray) (n : Int) : Bal → Bal
  | [] => [(k, n)]
  | x :: r => if k = x.1 then (x.1, n) :: r else x :: setB k n r
def addK (k : ByteArray) : List ByteArray → List ByteArray
  | [] => [k]
  | x :: r => if k = x then x :: r else x :: addK k r
theorem valM_B (k : ByteArray) : ∀ l : Bal, valM k (l.map encB) = (balO k l).map (Value.int .i64)
  | [] => rfl
  | x :: r => by
    simp only [List.map_cons, encB, valM, balO]
    split
    · rfl
    · exact valM_B k r
theorem lookV_B (k : ByteArray) (l : Bal) : lookV k (.int .i64 0) (l.map encB) = (.int .i64 ((balO k l).getD 0), (balO k l).isSome) := by
  unfold lookV
  rw [valM_B]
  cases balO k l <;> rfl
theorem valM_K (k : ByteArray) : ∀ l : List ByteArray, valM k (l.map encK) = if hasK k l = true then some (.bool true) else none
  | [] => rfl
  | x :: r => by
    simp only [List.map_cons, encK, valM, hasK]
    split
    · rfl
    · exact valM_K k r
theorem lookV_K (k : ByteArray) (l : List ByteArray) : lookV k (.bool false) (l.map encK) = (.bool (hasK k l), hasK k l) := by
  unfold lookV
  rw [valM_K]
  cases hasK k l <;> rfl
theorem putM_B (k : ByteArray) (n : Int) : ∀ l : Bal, putM k (.int .i64 n) (l.map encB) = (setB k n l).map encB
  | [] => rfl
  | x :: r => by
    have ih := putM_B k n r
    simp only [List.map_cons, encB, putM, setB]
    split
    · rfl
    · simp only [List.map_cons, encB]
      rw [← ih]
theorem putM_K (k : ByteArray) : ∀ l : List ByteArray, putM k (.bool true) (l.map encK) = (addK k l).map encK
  | [] => rfl
  | x :: r => by
    have ih := putM_K k r
    simp only [List.map_cons, encK, putM, addK]
    split
    · rfl
    · simp only [List.map_cons, encK]
      rw [← ih]
theorem setB_new {k : ByteArray} {n : Int} : ∀ {l : Bal}, balO k l = none → setB k n l = l ++ [(k, n)]
  | [], _ => rfl
  | x :: r, h => by
    simp only [balO] at h
    simp only [setB]
    split at h
    · cases h
    · rename_i e
      rw [if_neg e, setB_new h]
      rfl
theorem addK_new {k : ByteArray} : ∀ {l : List ByteArray}, hasK k l = false → addK k l = l ++ [k]
  | [], _ => rfl
  | x :: r, h => by
    simp only [hasK] at h
    simp only [addK]
    split at h
    · cases h
    · rename_i e
      rw [if_neg e, addK_new h]
      rfl
/-- A posting. -/
structure Pst where
  acc : ByteArray
  amt : Int
def ePs (p : Pst) : List D := [.x (.string p.acc), .x (.int .i64 p.amt)]
/-- An entry. -/
structure Ent where
  id : ByteArray
  t : Int
  ps : List Pst
def eEn (x : Ent) : List D := [.x (.string x.id), .x (.int .i64 x.t), .sl (x.ps.map ePs)]
def outB (n : Int) : Bool := !decide (-72057594037927936 ≤ n) || decide (72057594037927936 < n)
/-- The sum of amounts, as the machine adds. -/
def totP (s : Int) : List Pst → Int
  | [] => s
  | p :: r => totP (IntKind.i64.wrap (s + p.amt)) r
/-- The first error of postings. -/
def pstE (b : Bal) : List Pst → Int
  | [] => 0
  | p :: r => if balO p.acc b = none then 8 else if outB p.amt = true then 9 else pstE b r
def lastT (l : List Ent) : Option Int := l.getLast?.map (·.t)
/-- The error of an entry apart from that of the balances. -/
def chkE (b : Bal) (ids : List ByteArray) (last : Option Int) (id : ByteArray) (t : Int) (ps : List Pst) : Int :=
  if id = ByteArray.empty then 6 else if 40 < (id.size : Int) then 6 else if hasK id ids = true then 7 else if t < 0 then 15 else if 10000000 < t then 15 else
  if (match last with | some m => decide (t < m) | none => false) = true then 15 else if ps = [] then 3 else if 16 < (ps.length : Int) then 4 else if pstE b ps = 0 then (if totP 0 ps = 0 then 0 else 22) else pstE b ps

/-! ### Postings, as the program lays them into a new map -/
/-- The account's own balance first. -/
def firstB (b : Bal) (k : ByteArray) (l : Bal) : Bal := if (balO k l).isSome = true then l else setB k ((balO k b).getD 0) l
def aftB (b : Bal) (l : Bal) : List Pst → Bal
  | [] => l
  | p :: r => aftB b (setB p.acc (IntKind.i64.wrap ((balO p.acc (firstB b p.acc l)).getD 0 + p.amt)) (firstB b p.acc l)) r
def anyOut : Bal → Bool
  | [] => false
  | x :: r => outB x.2 || anyOut r
def mergeB (b : Bal) : Bal → Bal
  | [] => b
  | x :: r => mergeB (setB x.1 x.2 b) r
/-- The error of an entry at the program's ledger. -/
def errA (b : Bal) (ids : List ByteArray) (en : List Ent) (x : Ent) : Int :=
  if chkE b ids (lastT en) x.id x.t x.ps ≠ 0 then chkE b ids (lastT en) x.id x.t x.ps else if anyOut (aftB b [] x.ps) = true then 9 else if 1024 ≤ (en.length : Int) then 12 else 0

/-! ### What a ledger is: its accounts and its entries -/
def sumP (a : ByteArray) : List Pst → Int
  | [] => 0
  | p :: r => (if p.acc = a then p.amt else 0) + sumP a r
def balE (a : ByteArray) : List Ent → Int
  | [] => 0
  | x :: r => sumP a x.ps + balE a r
def balL (accs : List ByteArray) (en : List Ent) : Bal := accs.map fun a => (a, balE a en)
def pstP (accs : List ByteArray) : List Pst → Int
  | [] => 0
  | p :: r => if hasK p.acc accs = true then (if outB p.amt = true then 9 else pstP accs r) else 8
def anyP (en : List Ent) (ps : List Pst) : List Pst → Bool
  | [] => false
  | p :: r => outB (balE p.acc en + sumP p.acc ps) || anyP en ps r
def errP (accs : List ByteArray) (en : List Ent) (x : Ent) : Int :=
  if x.id = ByteArray.empty then 6 else if 40 < (x.id.size : Int) then 6 else if hasK x.id (en.map (·.id)) = true then 7 else if x.t < 0 then 15 else if 10000000 < x.t then 15 else
  if (match lastT en with | some m => decide (x.t < m) | none => false) = true then 15 else if x.ps = [] then 3 else if 16 < (x.ps.length : Int) then 4 else if pstP accs x.ps ≠ 0 then pstP accs x.ps else if totP 0 x.ps ≠ 0 then 22 else
  if anyP en x.ps x.ps = true then 9 else if 1024 ≤ (en.length : Int) then 12 else 0
/-- Entries that were posted, one after another. -/
inductive Lg (accs : List ByteArray) : List Ent → Prop
  | nil : Lg accs []
  | snoc {en : List Ent} {x : Ent} (h : Lg accs en) (hx : errP accs en x = 0) : Lg accs (en ++ [x])

theorem hasK_mem {k : ByteArray} : ∀ {l : List ByteArray}, hasK k l = true ↔ k ∈ l
  | [] => by simp [hasK]
  | x :: r => by
    have ih := hasK_mem (k := k) (l := r)
    simp only [hasK, List.mem_cons]
    split
    · rename_i e; simp [e]
    · rename_i e; simp [e, ih]
theorem hasK_not {k : ByteArray} {l : List ByteArray} : hasK k l = false ↔ k ∉ l := by
  rw [← hasK_mem]; simp
theorem balO_L (f : ByteArray → Int) (a : ByteArray) : ∀ accs : List ByteArray, balO a (accs.map fun a => (a, f a)) = if hasK a accs = true then some (f a) else none
  | [] => rfl
  | x :: r => by
    have ih := balO_L f a r
    simp only [List.map_cons, balO, hasK]
    split
    · rename_i e; simp [e]
    · exact ih
theorem pstE_L (accs : List ByteArray) (en : List Ent) : ∀ ps : List Pst, pstE (balL accs en) ps = pstP accs ps
  | [] => rfl
  | p :: r => by
    have ih := pstE_L accs en r
    have e := balO_L (fun a => balE a en) p.acc accs
    simp only [pstE, pstP, ih]
    cases h : hasK p.acc accs
    · rw [h] at e
      rw [if_pos (show balO p.acc (balL accs en) = none from e)]
      rfl
    · rw [h] at e
      rw [if_neg (show ¬ balO p.acc (balL accs en) = none by rw [show balO p.acc (balL accs en) = some (balE p.acc en) from e]; simp)]
      rfl
theorem sumP_none {a : ByteArray} : ∀ {ps : List Pst}, a ∉ ps.map (·.acc) → sumP a ps = 0
  | [], _ => rfl
  | p :: r, h => by
    simp only [List.map_cons, List.mem_cons, not_or] at h
    simp only [sumP, sumP_none h.2]
    rw [if_neg (fun e => h.1 e.symm)]
    rfl
theorem sumP_app (a : ByteArray) : ∀ p q : List Pst, sumP a (p ++ q) = sumP a p + sumP a q
  | [], q => by simp [sumP]
  | x :: r, q => by simp only [List.cons_append, sumP, sumP_app a r q]; omega
theorem balE_app (a : ByteArray) : ∀ p q : List Ent, balE a (p ++ q) = balE a p + balE a q
  | [], q => by simp [balE]
  | x :: r, q => by simp only [List.cons_append, balE, balE_app a r q]; omega
theorem balE_snoc (a : ByteArray) (en : List Ent) (x : Ent) : balE a (en ++ [x]) = balE a en + sumP a x.ps := by
  rw [balE_app]; simp [balE]
theorem errP_0 {accs : List ByteArray} {en : List Ent} {x : Ent} (h : errP accs en x = 0) : x.id ≠ ByteArray.empty ∧ x.id.size ≤ 40 ∧ x.id ∉ en.map (·.id) ∧ 0 ≤ x.t ∧ x.t ≤ 10000000 ∧ (∀ m, lastT en = some m → m ≤ x.t) ∧ x.ps ≠ [] ∧ x.ps.length ≤ 16 ∧ pstP accs x.ps = 0 ∧ totP 0 x.ps = 0 ∧ anyP en x.ps x.ps = false ∧ en.length < 1024 := by
  unfold errP at h
  by_cases h1 : x.id = ByteArray.empty
  · rw [if_pos h1] at h; omega
  rw [if_neg h1] at h
  by_cases h2 : 40 < (x.id.size : Int)
  · rw [if_pos h2] at h; omega
  rw [if_neg h2] at h
  by_cases h3 : hasK x.id (en.map (·.id)) = true
  · rw [if_pos h3] at h; omega
  rw [if_neg h3] at h
  by_cases h4 : x.t < 0
  · rw [if_pos h4] at h; omega
  rw [if_neg h4] at h
  by_cases h5 : 10000000 < x.t
  · rw [if_pos h5] at h; omega
  rw [if_neg h5] at h
  by_cases h6 : (match lastT en with | some m => decide (x.t < m) | none => false) = true
  · rw [if_pos h6] at h; omega
  rw [if_neg h6] at h
  by_cases h7 : x.ps = []
  · rw [if_pos h7] at h; omega
  rw [if_neg h7] at h
  by_cases h8 : 16 < (x.ps.length : Int)
  · rw [if_pos h8] at h; omega
  rw [if_neg h8] at h
  by_cases h9 : pstP accs x.ps ≠ 0
  · rw [if_pos h9] at h; exact absurd h h9
  rw [if_neg h9] at h
  by_cases h10 : totP 0 x.ps ≠ 0
  · rw [if_pos h10] at h; omega
  rw [if_neg h10] at h
  by_cases h11 : anyP en x.ps x.ps = true
  · rw [if_pos h11] at h; omega
  rw [if_neg h11] at h
  by_cases h12 : 1024 ≤ (en.length : Int)
  · rw [if_pos h12] at h; omega
  refine ⟨h1, by omega, fun hm => h3 (hasK_mem.2 hm), by omega, by omega, fun m hm => ?_, h7, by omega, Classical.byContradiction h9, Classical.byContradiction h10, by simpa using h11, by omega⟩
  rw [hm] at h6
  simp at h6
  exact h6
theorem errP_of {accs : List ByteArray} {en : List Ent} {x : Ent} (h1 : x.id ≠ ByteArray.empty) (h2 : x.id.size ≤ 40) (h3 : x.id ∉ en.map (·.id)) (h4 : 0 ≤ x.t) (h5 : x.t ≤ 10000000) (h6 : ∀ m, lastT en = some m → m ≤ x.t) (h7 : x.ps ≠ []) (h8 : x.ps.length ≤ 16)
    (h9 : pstP accs x.ps = 0) (h10 : totP 0 x.ps = 0) (h11 : anyP en x.ps x.ps = false) (h12 : en.length < 1024) : errP accs en x = 0 := by
  unfold errP
  rw [if_neg h1, if_neg (by omega), if_neg (by rw [hasK_mem]; exact h3), if_neg (by omega), if_neg (by omega), if_neg, if_neg h7, if_neg (by omega), if_neg (by simp [h9]), if_neg (by simp [h10]), if_neg (by simp [h11]), if_neg (by omega)]
  cases hl : lastT en with
  | none => simp
  | some m => have := h6 m hl; simpa using this
theorem pstP_0 {accs : List ByteArray} : ∀ {ps : List Pst}, pstP accs ps = 0 ↔ ∀ p ∈ ps, p.acc ∈ accs ∧ outB p.amt = false
  | [] => by simp [pstP]
  | p :: r => by
    have ih := pstP_0 (accs := accs) (ps := r)
    simp only [pstP, List.mem_cons, forall_eq_or_imp]
    rw [← ih, ← hasK_mem]
    cases h1 : hasK p.acc accs <;> cases h2 : outB p.amt <;> simp
theorem anyP_0 {en : List Ent} {qs : List Pst} : ∀ {ps : List Pst}, anyP en qs ps = false ↔ ∀ p ∈ ps, outB (balE p.acc en + sumP p.acc qs) = false
  | [] => by simp [anyP]
  | p :: r => by
    have ih := anyP_0 (en := en) (qs := qs) (ps := r)
    simp only [anyP, Bool.or_eq_false_iff, List.mem_cons, forall_eq_or_imp, ih]
theorem outB_iff {n : Int} : outB n = false ↔ -72057594037927936 ≤ n ∧ n ≤ 72057594037927936 := by
  simp [outB]
/-- Balances stay within their bounds. -/
theorem Lg.bound {accs : List ByteArray} {en : List Ent} (h : Lg accs en) (a : ByteArray) : -72057594037927936 ≤ balE a en ∧ balE a en ≤ 72057594037927936 := by
  induction h with
  | nil => simp [balE]
  | @snoc en x h hx ih =>
    rw [balE_snoc]
    have h2 := (errP_0 hx).2.2.2.2.2.2.2.2.2.2.1
    by_cases ha : a ∈ x.ps.map (·.acc)
    · obtain ⟨p, hp, rfl⟩ := List.mem_map.1 ha
      exact outB_iff.1 (anyP_0.1 h2 p hp)
    · rw [sumP_none ha]; omega
theorem sumP_bound {a : ByteArray} : ∀ {ps : List Pst}, (∀ p ∈ ps, outB p.amt = false) → -(72057594037927936 * (ps.length : Int)) ≤ sumP a ps ∧ sumP a ps ≤ 72057594037927936 * (ps.length : Int)
  | [], _ => by simp [sumP]
  | p :: r, h => by
    have ih := sumP_bound (a := a) (ps := r) (fun q hq => h q (by simp [hq]))
    have hp := outB_iff.1 (h p (by simp))
    simp only [sumP, List.length_cons]
    split <;> omega

/-! ### The program's map is the ledger's -/
theorem setB_L {k : ByteArray} {n : Int} {f : ByteArray → Int} : ∀ {accs : List ByteArray}, accs.Nodup → k ∈ accs → setB k n (accs.map fun a => (a, f a)) = accs.map fun a => (a, if a = k then n else f a)
  | [], _, h => by cases h
  | x :: r, hn, h => by
    obtain ⟨h1, h2⟩ := List.nodup_cons.1 hn
    simp only [List.map_cons, setB]
    by_cases e : k = x
    · subst e
      rw [if_pos rfl, if_pos rfl]
      congr 1
      refine List.map_congr_left fun a ha => ?_
      rw [if_neg (by rintro rfl; exact h1 ha)]
    · rw [if_neg e, if_neg (Ne.symm e)]
      rcases List.mem_cons.1 h with h | h
      · exact absurd h e
      · rw [setB_L h2 h]
theorem balO_mem {k : ByteArray} : ∀ {b : Bal}, k ∉ b.map (·.1) → balO k b = none
  | [], _ => rfl
  | x :: r, h => by
    simp only [List.map_cons, List.mem_cons, not_or] at h
    simp only [balO, if_neg h.1, balO_mem h.2]
theorem mergeB_L {accs : List ByteArray} (hn : accs.Nodup) : ∀ {l : Bal} {f : ByteArray → Int}, (l.map (·.1)).Nodup → (∀ x ∈ l, x.1 ∈ accs) → mergeB (accs.map fun a => (a, f a)) l = accs.map fun a => (a, (balO a l).getD (f a))
  | [], f, _, _ => by simp [mergeB, balO]
  | x :: r, f, hl, h => by
    obtain ⟨h1, h2⟩ := List.nodup_cons.1 hl
    simp only [mergeB]
    rw [setB_L hn (h x (by simp)), mergeB_L hn h2 (fun y hy => h y (by simp [hy]))]
    refine List.map_congr_left fun a _ => ?_
    simp only [balO]
    by_cases e : a = x.1
    · subst e
      rw [balO_mem h1, if_pos rfl, if_pos rfl]
      rfl
    · rw [if_neg e, if_neg e]
theorem balO_set {k a : ByteArray} {n : Int} : ∀ {b : Bal}, balO a (setB k n b) = if a = k then some n else balO a b
  | [] => by simp [setB, balO]
  | x :: r => by
    have ih := balO_set (k := k) (a := a) (n := n) (b := r)
    simp only [setB]
    by_cases e : k = x.1
    · subst e
      rw [if_pos rfl]
      simp only [balO]
      split <;> rfl
    · rw [if_neg e]
      simp only [balO, ih]
      by_cases e1 : a = x.1
      · rw [if_pos e1, if_pos e1, if_neg (by rintro rfl; exact e e1)]
      · rw [if_neg e1, if_neg e1]
theorem setB_keys {k : ByteArray} {n : Int} : ∀ {b : Bal}, (setB k n b).map (·.1) = if hasK k (b.map (·.1)) = true then b.map (·.1) else b.map (·.1) ++ [k]
  | [] => rfl
  | x :: r => by
    have ih := setB_keys (k := k) (n := n) (b := r)
    simp only [setB, List.map_cons, hasK]
    by_cases e : k = x.1
    · rw [if_pos e, if_pos e]; simp
    · rw [if_neg e, if_neg e, List.map_cons, ih]
      split <;> simp
theorem setB_nd {k : ByteArray} {n : Int} {b : Bal} (h : (b.map (·.1)).Nodup) : ((setB k n b).map (·.1)).Nodup := by
  rw [setB_keys]
  split
  · exact h
  · rename_i hk
    rw [Bool.not_eq_true, hasK_not] at hk
    rw [List.nodup_append]
    exact ⟨h, by simp, fun a ha b hb => by simp at hb; subst hb; rintro rfl; exact hk ha⟩
/-- What has been laid into the new map behind some postings. -/
structure Aft (accs : List ByteArray) (en : List Ent) (q : List Pst) (l : Bal) : Prop where
  val : ∀ a, balO a l = if hasK a (q.map (·.acc)) = true then some (balE a en + sumP a q) else none
  nd : (l.map (·.1)).Nodup
theorem aft_step {accs : List ByteArray} {en : List Ent} (hL : Lg accs en) {q : List Pst} {l : Bal} {p : Pst} (h : Aft accs en q l) (hp : p.acc ∈ accs) (hq : ∀ p ∈ q, outB p.amt = false) (hp2 : outB p.amt = false) (hlen : q.length ≤ 16) :
    Aft accs en (q ++ [p]) (setB p.acc (IntKind.i64.wrap ((balO p.acc (firstB (balL accs en) p.acc l)).getD 0 + p.amt)) (firstB (balL accs en) p.acc l)) := by
  have hb := hL.bound p.acc
  have hs := sumP_bound (a := p.acc) hq
  have hpo := outB_iff.1 hp2
  have hf : balO p.acc (firstB (balL accs en) p.acc l) = some (balE p.acc en + sumP p.acc q) := by
    unfold firstB
    rw [h.val]
    by_cases e : hasK p.acc (q.map (·.acc)) = true
    · rw [if_pos e]
      simp only [Option.isSome_some, if_true]
      rw [h.val, if_pos e]
    · rw [if_neg e, sumP_none (by rw [← hasK_mem]; exact e)]
      simp only [Option.isSome_none, Bool.false_eq_true, if_false]
      rw [balO_set, if_pos rfl, balL, balO_L, if_pos (hasK_mem.2 hp)]
      simp
  have ho : ∀ a, a ≠ p.acc → balO a (firstB (balL accs en) p.acc l) = balO a l := by
    intro a ha
    unfold firstB
    split
    · rfl
    · rw [balO_set, if_neg ha]
  rw [hf]
  simp only [Option.getD_some]
  rw [wrap64 (by omega) (by omega)]
  refine ⟨fun a => ?_, setB_nd ?_⟩
  · rw [balO_set]
    by_cases e : a = p.acc
    · subst e
      rw [if_pos rfl, if_pos (by rw [hasK_mem]; simp), sumP_app]
      simp only [sumP, if_true]
      congr 1
      omega
    · rw [if_neg e, ho a e, h.val, sumP_app]
      have e2 : sumP a [p] = 0 := by simp [sumP, Ne.symm e]
      have e3 : hasK a ((q ++ [p]).map (·.acc)) = hasK a (q.map (·.acc)) := by
        rw [Bool.eq_iff_iff, hasK_mem, hasK_mem]
        simp [e]
      rw [e2, e3, Int.add_zero]
  · unfold firstB
    split
    · exact h.nd
    · exact setB_nd h.nd
theorem aft_all {accs : List ByteArray} {en : List Ent} (hL : Lg accs en) : ∀ {r q : List Pst} {l : Bal}, Aft accs en q l → (∀ p ∈ q ++ r, p.acc ∈ accs ∧ outB p.amt = false) → (q ++ r).length ≤ 16 → Aft accs en (q ++ r) (aftB (balL accs en) l r)
  | [], q, l, h, _, _ => by simpa [aftB] using h
  | p :: r, q, l, h, hp, hlen => by
    have e : q ++ p :: r = (q ++ [p]) ++ r := by simp
    rw [e] at hp hlen ⊢
    simp only [aftB]
    simp only [List.length_append, List.length_cons, List.length_nil] at hlen
    exact aft_all hL (aft_step hL h (hp p (by simp)).1 (fun x hx => (hp x (by simp [hx])).2) (hp p (by simp)).2 (by omega)) hp (by simp; omega)
theorem anyOut_iff : ∀ {l : Bal}, anyOut l = false ↔ ∀ x ∈ l, outB x.2 = false
  | [] => by simp [anyOut]
  | x :: r => by simp only [anyOut, Bool.or_eq_false_iff, List.mem_cons, forall_eq_or_imp, anyOut_iff (l := r)]
theorem balO_in : ∀ {l : Bal}, (l.map (·.1)).Nodup → ∀ {a : ByteArray} {n : Int}, (a, n) ∈ l ↔ balO a l = some n
  | [], _, a, n => by simp [balO]
  | x :: r, h, a, n => by
    obtain ⟨h1, h2⟩ := List.nodup_cons.1 h
    have ih := balO_in (l := r) h2 (a := a) (n := n)
    simp only [List.mem_cons, balO]
    by_cases e : a = x.1
    · subst e
      rw [if_pos rfl]
      constructor
      · rintro (e | hm)
        · rw [← e]
        · exact absurd (List.mem_map.2 ⟨_, hm, rfl⟩) h1
      · intro e
        cases e
        exact .inl rfl
    · rw [if_neg e, ← ih]
      constructor
      · rintro (e2 | hm)
        · exact absurd (by rw [← e2]) e
        · exact hm
      · exact .inr
theorem aft_any {accs : List ByteArray} {en : List Ent} {ps : List Pst} {l : Bal} (h : Aft accs en ps l) : anyOut l = anyP en ps ps := by
  have key : anyOut l = false ↔ anyP en ps ps = false := by
    rw [anyOut_iff, anyP_0]
    constructor
    · intro h1 p hp
      have hv := h.val p.acc
      rw [if_pos (hasK_mem.2 (List.mem_map.2 ⟨p, hp, rfl⟩))] at hv
      exact h1 _ ((balO_in h.nd).2 hv)
    · rintro h1 ⟨a, n⟩ hx
      have hv := (balO_in h.nd).1 hx
      rw [h.val] at hv
      split at hv
      · rename_i ha
        cases hv
        obtain ⟨p, hp, rfl⟩ := List.mem_map.1 (hasK_mem.1 ha)
        exact h1 p hp
      · cases hv
  cases h1 : anyOut l <;> cases h2 : anyP en ps ps <;> simp_all
/-- The program's errors are those of the ledger. -/
theorem errA_P {accs : List ByteArray} {en : List Ent} (hL : Lg accs en) (x : Ent) : errA (balL accs en) (en.map (·.id)) en x = errP accs en x := by
  unfold errA errP chkE
  rw [pstE_L]
  by_cases h1 : x.id = ByteArray.empty
  · simp only [h1, if_true]; rfl
  by_cases h2 : 40 < (x.id.size : Int)
  · simp only [h1, h2, if_true, if_false]; rfl
  by_cases h3 : hasK x.id (en.map (·.id)) = true
  · simp only [h1, h2, h3, if_true, if_false]; rfl
  by_cases h4 : x.t < 0
  · simp only [h1, h2, h3, h4, if_true, if_false]; rfl
  by_cases h5 : 10000000 < x.t
  · simp only [h1, h2, h3, h4, h5, if_true, if_false]; rfl
  simp only [h1, h2, h3, h4, h5, if_false]
  generalize (match lastT en with | some m => decide (x.t < m) | none => false) = q
  cases q
  · by_cases h7 : x.ps = []
    · simp [h7]
    by_cases h8 : 16 < (x.ps.length : Int)
    · simp [h7, h8]
    by_cases h9 : pstP accs x.ps = 0
    · have hA := aft_all hL (r := x.ps) (q := []) (l := []) ⟨fun a => rfl, .nil⟩ (pstP_0.1 h9) (by simpa using (by omega : x.ps.length ≤ 16))
      rw [List.nil_append] at hA
      rw [aft_any hA]
      by_cases h10 : totP 0 x.ps = 0 <;> simp [h7, h8, h9, h10]
    · simp [h7, h8, h9]
  · simp
/-- The ledger behind an entry. -/
theorem merge_P {accs : List ByteArray} (hn : accs.Nodup) {en : List Ent} (hL : Lg accs en) {x : Ent} (hx : errP accs en x = 0) : mergeB (balL accs en) (aftB (balL accs en) [] x.ps) = balL accs (en ++ [x]) ∧ addK x.id (en.map (·.id)) = (en ++ [x]).map (·.id) := by
  obtain ⟨_, _, h3, _, _, _, _, h8, h9, _⟩ := errP_0 hx
  have hA := aft_all hL (r := x.ps) (q := []) (l := []) ⟨fun a => rfl, .nil⟩ (pstP_0.1 h9) (by simpa using h8)
  rw [List.nil_append] at hA
  refine ⟨?_, by rw [addK_new (hasK_not.2 h3)]; simp⟩
  show mergeB (accs.map fun a => (a, balE a en)) _ = _
  rw [mergeB_L hn hA.nd (fun y hy => ?_)]
  · refine List.map_congr_left fun a _ => ?_
    rw [hA.val, balE_snoc]
    split
    · rfl
    · rename_i ha
      rw [sumP_none (by rw [← hasK_mem]; exact ha)]
      simp
  · obtain ⟨a, n⟩ := y
    have hv := (balO_in hA.nd).1 hy
    rw [hA.val] at hv
    split at hv
    · rename_i ha
      obtain ⟨p, hp, e⟩ := List.mem_map.1 (hasK_mem.1 ha)
      exact e ▸ (pstP_0.1 h9 p hp).1
    · cases hv
end Go.Proofs.Ytgngoijehjphoaa
