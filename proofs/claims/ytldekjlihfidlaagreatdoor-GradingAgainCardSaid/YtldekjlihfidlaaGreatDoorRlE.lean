/-
  The statements' own small functions, and the names that an expression mentions, run abstractly.
-/
import Derived.Test.YtldekjlihfidlaaGreatDoorRlD
namespace Go.Proofs.YtldekjlihfidlaaGreatDoor.Rl
set_option linter.unusedSimpArgs false
set_option linter.unusedVariables false
open Go Go.Abs
set_option maxHeartbeats 4000000
set_option maxRecDepth 100000
@[simp] theorem eX_flat (e : Ex) : (eX e).all isX = false := by simp [eX_eq]
theorem fold0 (op n : Int) (s : ByteArray) : [I op, I n, St' s, .sl []] = eX (.mk op n s []) := by simp [eX_eq, Ex.op, Ex.n, Ex.name, Ex.args]
theorem fold1 (op n : Int) (s : ByteArray) (a : Ex) : [I op, I n, St' s, .sl [eX a]] = eX (.mk op n s [a]) := by rw [eX_eq (.mk op n s [a])]; simp [Ex.op, Ex.n, Ex.name, Ex.args]
theorem fold2 (op n : Int) (s : ByteArray) (a b : Ex) : [I op, I n, St' s, .sl [eX a, eX b]] = eX (.mk op n s [a, b]) := by rw [eX_eq (.mk op n s [a, b])]; simp [Ex.op, Ex.n, Ex.name, Ex.args]
/-! ### count -/
def cntL (c : Ex → Int → Int) (lm : Int) : List Ex → Int → Int
  | [], n => n
  | a :: r, n => if n ≤ lm then cntL c lm r (n + c a (lm - n)) else n
def cnt : Nat → Ex → Int → Int
  | 0, _, lm => lm + 1
  | k + 1, e, lm => if lm ≤ 0 then lm + 1 else if 100 < e.name.size then lm + 1 else cntL (cnt k) lm e.args 1
def nodesL (c : Ex → Nat) : List Ex → Nat
  | [] => 0
  | a :: r => c a + nodesL c r
def nodes : Nat → Ex → Nat
  | 0, _ => 0
  | k + 1, e => 1 + nodesL (nodes k) e.args
theorem cntL_bound {c : Ex → Int → Int} {lm : Int} (h0 : 0 ≤ lm) (hc : ∀ a m, 0 ≤ m → m ≤ lm → 1 ≤ c a m ∧ c a m ≤ m + 1) : ∀ (l : List Ex) (n : Int), 1 ≤ n → n ≤ lm + 1 → 1 ≤ cntL c lm l n ∧ cntL c lm l n ≤ lm + 1
  | [], n, h1, h2 => ⟨h1, h2⟩
  | a :: r, n, h1, h2 => by
    unfold cntL
    split
    · have := hc a (lm - n) (by omega) (by omega)
      exact cntL_bound h0 hc r _ (by omega) (by omega)
    · exact ⟨h1, h2⟩
theorem cnt_bound : ∀ (k : Nat) (e : Ex) (lm : Int), 0 ≤ lm → 1 ≤ cnt k e lm ∧ cnt k e lm ≤ lm + 1
  | 0, e, lm, h => by unfold cnt; omega
  | k + 1, e, lm, h => by
    unfold cnt
    split
    · omega
    · split
      · omega
      · exact cntL_bound h (fun a m h0 h1 => cnt_bound k a m h0) e.args 1 (by omega) (by omega)
theorem cntL_nodes {c : Ex → Int → Int} {d : Ex → Nat} {lm : Int} (h0 : 0 ≤ lm) (hc : ∀ a m, 0 ≤ m → m ≤ lm → 1 ≤ c a m ∧ c a m ≤ m + 1) (hd : ∀ a m, 0 ≤ m → m ≤ lm → c a m ≤ m → (d a : Int) ≤ c a m) : ∀ (l : List Ex) (n : Int), 1 ≤ n → n ≤ lm + 1 → cntL c lm l n ≤ lm → n + (nodesL d l : Int) ≤ cntL c lm l n
  | [], n, h1, h2, h => by simp [nodesL, cntL]
  | a :: r, n, h1, h2, h => by
    unfold cntL at h ⊢
    split at h
    · rename_i hn
      rw [if_pos hn]
      have hb := hc a (lm - n) (by omega) (by omega)
      have := cntL_nodes h0 hc hd r _ (by omega) (by omega) h
      have hm : ∀ (l : List Ex) (n : Int), 1 ≤ n → n ≤ lm + 1 → n ≤ cntL c lm l n := by
        intro l
        induction l with
        | nil => intro n _ _; exact Int.le_refl _
        | cons a r ih =>
          intro n g1 g2
          unfold cntL
          split
          · have := hc a (lm - n) (by omega) (by omega)
            have := ih (n + c a (lm - n)) (by omega) (by omega)
            omega
          · exact Int.le_refl _
      have hle := hm r (n + c a (lm - n)) (by omega) (by omega)
      have := hd a (lm - n) (by omega) (by omega) (by omega)
      simp only [nodesL]
      omega
    · rename_i hn; omega
theorem cnt_nodes : ∀ (k : Nat) (e : Ex) (lm : Int), 0 ≤ lm → cnt k e lm ≤ lm → (nodes k e : Int) ≤ cnt k e lm
  | 0, e, lm, h, h' => by unfold cnt at h'; omega
  | k + 1, e, lm, h, h' => by
    unfold cnt at h' ⊢
    split at h'
    · omega
    · rename_i g1
      rw [if_neg g1]
      split at h'
      · omega
      · rename_i g2
        rw [if_neg g2]
        have := cntL_nodes (c := cnt k) (d := nodes k) h (fun a m h0 h1 => cnt_bound k a m h0) (fun a m h0 h1 h2 => cnt_nodes k a m h0 h2) e.args 1 (by omega) (by omega) h'
        simp only [nodes]
        omega
theorem nodesL_mono {c d : Ex → Nat} (h : ∀ a, c a ≤ d a) : ∀ l : List Ex, nodesL c l ≤ nodesL d l
  | [] => Nat.le_refl _
  | a :: r => by
    have := nodesL_mono h r
    have := h a
    simp only [nodesL]
    omega
theorem nodes_mono : ∀ (k : Nat) (e : Ex), nodes k e ≤ nodes (k + 1) e
  | 0, e => Nat.zero_le _
  | k + 1, e => by
    have := nodesL_mono (nodes_mono k) e.args
    show 1 + nodesL (nodes k) e.args ≤ 1 + nodesL (nodes (k + 1)) e.args
    omega
theorem nodes_le (k j : Nat) (e : Ex) : nodes k e ≤ nodes (k + j) e := by
  induction j with
  | zero => exact Nat.le_refl _
  | succ j ih => exact Nat.le_trans ih (nodes_mono _ e)
theorem small_nodes {e : Ex} (h : cnt 12 e 300 ≤ 300) : nodes 8 e ≤ 300 := by
  have := cnt_nodes 12 e 300 (by omega) h
  have h8 : nodes 8 e ≤ nodes 12 e := nodes_le 8 4 e
  omega
/-! ### short, table, plain -/
def shortM : List (ByteArray × Int) → Bool
  | [] => true
  | f :: r => if 100 < f.1.size then false else shortM r
def tableM : List (Int × Ex) → Bool
  | [] => true
  | r :: l => if cnt 12 r.2 300 ≤ 300 then tableM l else false
def plainL (c : Ex → Bool) : List Ex → Bool
  | [] => true
  | a :: r => if c a = true then plainL c r else false
def plainM : Nat → Ex → Bool
  | 0, _ => true
  | k + 1, e => if plainL (plainM k) e.args = true then decide (e.op < 3) || decide (5 < e.op) else false
/-! ### Same -/
def sameS : List ByteArray → List ByteArray → Bool
  | s :: r, t :: q => if s = t then sameS r q else false
  | _, _ => true
theorem sameS_refl : ∀ l : List ByteArray, sameS l l = true
  | [] => rfl
  | s :: r => by simp [sameS, sameS_refl r]
end Go.Proofs.YtldekjlihfidlaaGreatDoor.Rl
