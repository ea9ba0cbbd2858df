/-
  The statements' own small functions, and the names that an expression mentions, run abstractly.
-/
import Derived.Test.YtkdmoefacgbgkaaRlD
namespace Go.Proofs.Ytkdmoefacgbgkaa
set_option linter.unusedSimpArgs false
set_option linter.unusedVariables false
open Go Go.Abs
set_option maxHeartbeats 4000000
set_option maxRecDepth 100000
@[simp] theorem eX_flat (e : Ex) : (eX e).all isX = false := by simp [eX_eq]
theorem num_run (n : Int) : F_law43_num [I n] = some (.agg [I 1, I n, St' ByteArray.empty, .own true []]) := by
  rw [F_law43_num_eq]
  simp
theorem name_run (s : ByteArray) : F_law43_name [St' s] = some (.agg [I 2, I 0, St' s, .own true []]) := by
  rw [F_law43_name_eq]
  simp
theorem two_run (op : Int) (a b : Ex) : F_law43_two [I op, .agg (eX a), .agg (eX b)] = some (.agg [I op, I 0, St' ByteArray.empty, .own false [eX a, eX b]]) := by
  rw [F_law43_two_eq]
  simp [eX_eq]
theorem not_run (a : Ex) : F_law43_not [.agg (eX a)] = some (.agg [I 9, I 0, St' ByteArray.empty, .own false [eX a]]) := by
  rw [F_law43_not_eq]
  simp [eX_eq]
theorem fold0 (op n : Int) (s : ByteArray) : [I op, I n, St' s, .sl []] = eX (.mk op n s []) := by simp [eX_eq, Ex.op, Ex.n, Ex.name, Ex.args]
theorem fold1 (op n : Int) (s : ByteArray) (a : Ex) : [I op, I n, St' s, .sl [eX a]] = eX (.mk op n s [a]) := by rw [eX_eq (.mk op n s [a])]; simp [Ex.op, Ex.n, Ex.name, Ex.args]
theorem fold2 (op n : Int) (s : ByteArray) (a b : Ex) : [I op, I n, St' s, .sl [eX a, eX b]] = eX (.mk op n s [a, b]) := by rw [eX_eq (.mk op n s [a, b])]; simp [Ex.op, Ex.n, Ex.name, Ex.args]
/-! ### count -/
def cntL (c : Ex → Int → Int) (lm : Int) : List Ex → Int → Int
  | [], n => n
  | a :: r, n => if n ≤ lm then cntL c lm r (n + c a (lm - n)) else n
def cnt : Nat → Ex → Int → Int
  | 0, _, lm => lm + 1
  | k + 1, e, lm => if lm ≤ 0 then lm + 1 else if 100 < e.name.size then lm + 1 else cntL (cnt k) lm e.args 1
def nodesL (c : Ex → Nat) : List Ex → Nat
  | [] => 0
  | a :: r => c a + nodesL c r
def nodes : Nat → Ex → Nat
  | 0, _ => 0
  | k + 1, e => 1 + nodesL (nodes k) e.args
theorem cntL_bound {c : Ex → Int → Int} {lm : Int} (h0 : 0 ≤ lm) (hc : ∀ a m, 0 ≤ m → m ≤ lm → 1 ≤ c a m ∧ c a m ≤ m + 1) : ∀ (l : List Ex) (n : Int), 1 ≤ n → n ≤ lm + 1 → 1 ≤ cntL c lm l n ∧ cntL c lm l n ≤ lm + 1
  | [], n, h1, h2 => ⟨h1, h2⟩
  | a :: r, n, h1, h2 => by
    unfold cntL
    split
    · have := hc a (lm - n) (by omega) (by omega)
      exact cntL_bound h0 hc r _ (by omega) (by omega)
    · exact ⟨h1, h2⟩
theorem cnt_bound : ∀ (k : Nat) (e : Ex) (lm : Int), 0 ≤ lm → 1 ≤ cnt k e lm ∧ cnt k e lm ≤ lm + 1
  | 0, e, lm, h => by unfold cnt; omega
  | k + 1, e, lm, h => by
    unfold cnt
    split
    · omega
    · split
      · omega
      · exact cntL_bound h (fun a m h0 h1 => cnt_bound k a m h0) e.args 1 (by omega) (by omega)
theorem cntL_nodes {c : Ex → Int → Int} {d : Ex → Nat} {lm : Int} (h0 : 0 ≤ lm) (hc : ∀ a m, 0 ≤ m → m ≤ lm → 1 ≤ c a m ∧ c a m ≤ m + 1) (hd : ∀ a m, 0 ≤ m → m ≤ lm → c a m ≤ m → (d a : Int) ≤ c a m) : ∀ (l : List Ex) (n : Int), 1 ≤ n → n ≤ lm + 1 → cntL c lm l n ≤ lm → n + (nodesL d l : Int) ≤ cntL c lm l n
  | [], n, h1, h2, h => by simp [nodesL, cntL]
  | a :: r, n, h1, h2, h => by
    unfold cntL at h ⊢
    split at h
    · rename_i hn
      rw [if_pos hn]
      have hb := hc a (lm - n) (by omega) (by omega)
      have := cntL_nodes h0 hc hd r _ (by omega) (by omega) h
      have hm : ∀ (l : List Ex) (n : Int), 1 ≤ n → n ≤ lm + 1 → n ≤ cntL c lm l n := by
        intro l
        induction l with
        | nil => intro n _ _; exact Int.le_refl _
        | cons a r ih =>
          intro n g1 g2
          unfold cntL
          split
          · have := hc a (lm - n) (by omega) (by omega)
            have := ih (n + c a (lm - n)) (by omega) (by omega)
            omega
          · exact Int.le_refl _
      have hle := hm r (n + c a (lm - n)) (by omega) (by omega)
      have := hd a (lm - n) (by omega) (by omega) (by omega)
      simp only [nodesL]
      omega
    · rename_i hn; omega
theorem cnt_nodes : ∀ (k : Nat) (e : Ex) (lm : Int), 0 ≤ lm → cnt k e lm ≤ lm → (nodes k e : Int) ≤ cnt k e lm
  | 0, e, lm, h, h' => by unfold cnt at h'; omega
  | k + 1, e, lm, h, h' => by
    unfold cnt at h' ⊢
    split at h'
    · omega
    · rename_i g1
      rw [if_neg g1]
      split at h'
      · omega
      · rename_i g2
        rw [if_neg g2]
        have := cntL_nodes (c := cnt k) (d := nodes k) h (fun a m h0 h1 => cnt_bound k a m h0) (fun a m h0 h1 h2 => cnt_nodes k a m h0 h2) e.args 1 (by omega) (by omega) h'
        simp only [nodes]
        omega
theorem nodesL_mono {c d : Ex → Nat} (h : ∀ a, c a ≤ d a) : ∀ l : List Ex, nodesL c l ≤ nodesL d l
  | [] => Nat.le_refl _
  | a :: r => by
    have := nodesL_mono h r
    have := h a
    simp only [nodesL]
    omega
theorem nodes_mono : ∀ (k : Nat) (e : Ex), nodes k e ≤ nodes (k + 1) e
  | 0, e => Nat.zero_le _
  | k + 1, e => by
    have := nodesL_mono (nodes_mono k) e.args
    show 1 + nodesL (nodes k) e.args ≤ 1 + nodesL (nodes (k + 1)) e.args
    omega
theorem nodes_le (k j : Nat) (e : Ex) : nodes k e ≤ nodes (k + j) e := by
  induction j with
  | zero => exact Nat.le_refl _
  | succ j ih => exact Nat.le_trans ih (nodes_mono _ e)
theorem count_loop (sf : List D → Option D) (c : Ex → Int → Int) (e : Ex) (lv lm : Int) (hl : e.args.length ≤ 9223372036854775807) (hlv : 0 < lv ∧ lv ≤ 1000) (hlm : 0 ≤ lm ∧ lm ≤ 1000) (hc : ∀ a m, 0 ≤ m → m ≤ lm → 1 ≤ c a m ∧ c a m ≤ m + 1) (hsf : ∀ a ∈ e.args, ∀ m, 0 ≤ m → m ≤ lm → sf [.agg (eX a), I (lv - 1), I m] = some (I (c a m))) : ∀ (n i : Nat) (r : List (Ex)) (q : Int), e.args.drop i = r → r.length < n → 1 ≤ q → q ≤ lm + 1 →
    L_law43_count sf 5 n ⟨[(0, .any), (1, I lv), (2, I lm), (3, .ptr 3 0), (6, .any), (7, I q), (8, I i)], [(3, .box 24 (eX e))]⟩ =
      some (.ex 0, ⟨[(0, .any), (1, .any), (2, I lm), (3, .ptr 3 0), (6, .any), (7, I (cntL c lm r q)), (8, .any)], [(3, .box 24 (eX e))]⟩)
  | 0, _, _, _, _, hn, _, _ => by omega
  | n + 1, i, [], q, hr, hn, hq1, hq2 => by
    rw [L_law43_count_succ, R_law43_count_eq]
    by_cases g : q ≤ lm <;> simp [dn hr, g, cntL]
  | n + 1, i, x :: r, q, hr, hn, hq1, hq2 => by
    rw [L_law43_count_succ, R_law43_count_eq]
    obtain ⟨h1, h3, hr', hi⟩ := dc (enc := eX) hr
    have hw := wrapN (n := i) (by omega)
    have ih := count_loop sf c e lv lm hl hlv hlm hc hsf n (i + 1) r (q + c x (lm - q)) hr' (by simp at hn; omega)
    simp only [Int.natCast_add, Int.cast_ofNat_Int] at ih
    by_cases g : q ≤ lm
    · have h5 := hsf x (by rw [← List.take_append_drop i e.args, hr]; simp) (lm - q) (by omega) (by omega)
      have hw2 : IntKind.i64.wrap (lv - 1) = lv - 1 := wrap64 (by omega) (by omega)
      have hw3 : IntKind.i64.wrap (lm - q) = lm - q := wrap64 (by omega) (by omega)
      have hb := hc x (lm - q) (by omega) (by omega)
      have hw4 : IntKind.i64.wrap (q + c x (lm - q)) = q + c x (lm - q) := wrap64 (by omega) (by omega)
      simp [h1, h3, hw, g, h5, hw2, hw3, hw4, cntL, ih (by omega) (by omega)]
    · simp [h1, h3, g, cntL]
theorem count_run : ∀ (k m : Nat) (e : Ex) (lv lm : Int), Fits e → k < m → lv = k → lv ≤ 1000 → 0 ≤ lm → lm ≤ 1000 → FN_law43_count m [.agg (eX e), I lv, I lm] = some (I (cnt k e lm)) := by
  intro k
  induction k with
  | zero =>
    intro m e lv lm hf hm hlv _ h0 h1
    obtain ⟨m, rfl⟩ : ∃ q, m = q + 1 := ⟨m - 1, by omega⟩
    subst hlv
    rw [FN_law43_count_eq]
    have hw : IntKind.i64.wrap (lm + 1) = lm + 1 := wrap64 (by omega) (by omega)
    simp [cnt, hw]
  | succ k ih =>
    intro m e lv lm hf hm hlv hl h0 h1
    obtain ⟨m, rfl⟩ : ∃ q, m = q + 1 := ⟨m - 1, by omega⟩
    rw [FN_law43_count_eq]
    have hbig := bigL_ge
    obtain ⟨ho, hn, hs, hla, ha⟩ := hf
    have hw : IntKind.i64.wrap (lm + 1) = lm + 1 := wrap64 (by omega) (by omega)
    have g0 : ¬ lv = 0 := by omega
    by_cases g1 : lm ≤ 0
    · simp [g0, g1, hw, cnt]
    · have hA := count_loop (FN_law43_count m) (cnt k) e lv lm hla ⟨by omega, hl⟩ ⟨h0, h1⟩ (fun a q h0 _ => cnt_bound k a q h0) (fun a h q h0' h1' => ih m a (lv - 1) q (ha a h) (by omega) (by omega) (by omega) h0' (by omega)) bigL 0 e.args 1 rfl (by omega) (by omega) (by omega)
      simp at hA
      by_cases g2 : 100 < e.name.size
      · have g2' : (100 : Int) < e.name.size := by omega
        simp [g0, g1, hA, cnt, g2, g2', hw]
      · have g2' : ¬ (100 : Int) < e.name.size := by omega
        simp [g0, g1, hA, cnt, g2, g2']
theorem small_run (e : Ex) (hf : Fits e) : F_law43_small [.agg (eX e)] = some (B (decide (cnt 12 e 300 ≤ 300))) := by
  rw [F_law43_small_eq]
  have h := count_run 12 1000 e 12 300 hf (by omega) (by omega) (by omega) (by omega) (by omega)
  have h' : F_law43_count [.agg (eX e), I 12, I 300] = some (I (cnt 12 e 300)) := h
  simp [h']
theorem small_nodes {e : Ex} (h : cnt 12 e 300 ≤ 300) : nodes 8 e ≤ 300 := by
  have := cnt_nodes 12 e 300 (by omega) h
  have h8 : nodes 8 e ≤ nodes 12 e := nodes_le 8 4 e
  omega
/-! ### short, table, plain -/
def shortM : List (ByteArray × Int) → Bool
  | [] => true
  | f :: r => if 100 < f.1.size then false else shortM r
theorem short_loop (f : List (ByteArray × Int)) (hf : f.length ≤ 1000) : ∀ (n i : Nat) (r : List (ByteArray × Int)), f.drop i = r → r.length < n →
    L_law43_short 4 n ⟨[(0, .sl (f.map eF)), (2, .any), (3, I i)], []⟩ =
      if shortM r = true then some (.ex 0, ⟨[(0, .any), (2, .any), (3, .any)], []⟩) else some (.ret, ⟨[(0, .any), (2, B false), (3, .any)], []⟩)
  | 0, _, _, _, hn => by omega
  | n + 1, i, [], hr, hn => by
    rw [L_law43_short_succ, R_law43_short_eq]
    simp [dn hr, shortM]
  | n + 1, i, x :: r, hr, hn => by
    rw [L_law43_short_succ, R_law43_short_eq]
    obtain ⟨h1, h3, hr', hi⟩ := dc (enc := eF) hr
    have hw := wrapN (n := i) (by omega)
    have ih := short_loop f hf n (i + 1) r hr' (by simp at hn; omega)
    simp at ih
    by_cases g : 100 < x.1.size
    · have g' : (100 : Int) < x.1.size := by omega
      simp [h1, h3, hw, g, g', shortM]
    · have g' : ¬ (100 : Int) < x.1.size := by omega
      simp [h1, h3, hw, g, g', shortM, ih]
theorem short_run (f : List (ByteArray × Int)) : F_law43_short [.sl (f.map eF)] = some (B (if f.length ≤ 60 then shortM f else false)) := by
  rw [F_law43_short_eq]
  have hbig := bigL_ge
  by_cases h : f.length ≤ 60
  · have : ¬ (60 : Int) < f.length := by omega
    have ih := short_loop f (by omega) bigL 0 f rfl (by omega)
    simp at ih
    cases hs : shortM f <;> simp [hs] at ih <;> simp [this, ih, h, hs]
  · have : (60 : Int) < f.length := by omega
    simp [this, h]
def tableM : List (Int × Ex) → Bool
  | [] => true
  | r :: l => if cnt 12 r.2 300 ≤ 300 then tableM l else false
theorem table_loop (l : List (Int × Ex)) (hl : l.length ≤ 1000) (hf : ∀ x ∈ l, Fits x.2) : ∀ (n i : Nat) (r : List (Int × Ex)), l.drop i = r → r.length < n →
    L_law43_table 4 n ⟨[(0, .sl (l.map eR)), (2, .any), (3, I i)], []⟩ =
      if tableM r = true then some (.ex 0, ⟨[(0, .any), (2, .any), (3, .any)], []⟩) else some (.ret, ⟨[(0, .any), (2, B false), (3, .any)], []⟩)
  | 0, _, _, _, hn => by omega
  | n + 1, i, [], hr, hn => by
    rw [L_law43_table_succ, R_law43_table_eq]
    simp [dn hr, tableM]
  | n + 1, i, x :: r, hr, hn => by
    rw [L_law43_table_succ, R_law43_table_eq]
    obtain ⟨h1, h3, hr', hi⟩ := dc (enc := eR) hr
    have hw := wrapN (n := i) (by omega)
    have ih := table_loop l hl hf n (i + 1) r hr' (by simp at hn; omega)
    simp at ih
    have hx := small_run x.2 (hf x (by rw [← List.take_append_drop i l, hr]; simp))
    by_cases g : cnt 12 x.2 300 ≤ 300 <;> simp [h1, h3, hw, g, hx, tableM, ih]
theorem table_run (l : List (Int × Ex)) (hf : ∀ x ∈ l, Fits x.2) : F_law43_table [.sl (l.map eR)] = some (B (if l.length ≤ 40 then tableM l else false)) := by
  rw [F_law43_table_eq]
  have hbig := bigL_ge
  by_cases h : l.length ≤ 40
  · have : ¬ (40 : Int) < l.length := by omega
    have ih := table_loop l (by omega) hf bigL 0 l rfl (by omega)
    simp at ih
    cases hs : tableM l <;> simp [hs] at ih <;> simp [this, ih, h, hs]
  · have : (40 : Int) < l.length := by omega
    simp [this, h]
def plainL (c : Ex → Bool) : List Ex → Bool
  | [] => true
  | a :: r => if c a = true then plainL c r else false
def plainM : Nat → Ex → Bool
  | 0, _ => true
  | k + 1, e => if plainL (plainM k) e.args = true then decide (e.op < 3) || decide (5 < e.op) else false
theorem plain_loop (sf : List D → Option D) (c : Ex → Bool) (e : Ex) (lv : Int) (hl : e.args.length ≤ 9223372036854775807) (hlv : 0 < lv ∧ lv ≤ 1000) (hsf : ∀ a ∈ e.args, sf [.agg (eX a), I (lv - 1)] = some (B (c a))) : ∀ (n i : Nat) (r : List (Ex)), e.args.drop i = r → r.length < n →
    L_law43_plain sf 4 n ⟨[(0, .any), (1, I lv), (2, .ptr 2 0), (4, .any), (5, I i)], [(2, .box 24 (eX e))]⟩ =
      if plainL c r = true then some (.ex 0, ⟨[(0, .any), (1, .any), (2, .ptr 2 0), (4, .any), (5, .any)], [(2, .box 24 (eX e))]⟩) else some (.ret, ⟨[(0, .any), (1, .any), (2, .any), (4, B false), (5, .any)], []⟩)
  | 0, _, _, _, hn => by omega
  | n + 1, i, [], hr, hn => by
    rw [L_law43_plain_succ, R_law43_plain_eq]
    simp [dn hr, plainL]
  | n + 1, i, x :: r, hr, hn => by
    rw [L_law43_plain_succ, R_law43_plain_eq]
    obtain ⟨h1, h3, hr', hi⟩ := dc (enc := eX) hr
    have hw := wrapN (n := i) (by omega)
    have ih := plain_loop sf c e lv hl hlv hsf n (i + 1) r hr' (by simp at hn; omega)
    simp at ih
    have h5 := hsf x (by rw [← List.take_append_drop i e.args, hr]; simp)
    have hw2 : IntKind.i64.wrap (lv - 1) = lv - 1 := wrap64 (by omega) (by omega)
    cases g : c x <;> simp [h1, h3, hw, g, h5, hw2, plainL, ih]
theorem plain_run : ∀ (k m : Nat) (e : Ex) (lv : Int), Fits e → k < m → lv = k → lv ≤ 1000 → FN_law43_plain m [.agg (eX e), I lv] = some (B (plainM k e)) := by
  intro k
  induction k with
  | zero =>
    intro m e lv hf hm hlv _
    obtain ⟨m, rfl⟩ : ∃ q, m = q + 1 := ⟨m - 1, by omega⟩
    subst hlv
    rw [FN_law43_plain_eq]
    simp [plainM]
  | succ k ih =>
    intro m e lv hf hm hlv hl
    obtain ⟨m, rfl⟩ : ∃ q, m = q + 1 := ⟨m - 1, by omega⟩
    rw [FN_law43_plain_eq]
    have hbig := bigL_ge
    obtain ⟨ho, hn, hs, hla, ha⟩ := hf
    have g0 : ¬ lv = 0 := by omega
    have hA := plain_loop (FN_law43_plain m) (plainM k) e lv hla ⟨by omega, hl⟩ (fun a h => ih m a (lv - 1) (ha a h) (by omega) (by omega) (by omega)) bigL 0 e.args rfl (by omega)
    simp at hA
    cases g : plainL (plainM k) e.args <;> simp [g] at hA <;> simp [g0, hA, plainM, g]
    by_cases g3 : 3 ≤ e.op <;> simp [g3] <;> omega
/-! ### Same -/
def sameS : List ByteArray → List ByteArray → Bool
  | s :: r, t :: q => if s = t then sameS r q else false
  | _, _ => true
theorem sameS_refl : ∀ l : List ByteArray, sameS l l = true
  | [] => rfl
  | s :: r => by simp [sameS, sameS_refl r]
theorem Same_loop (a b : List ByteArray) (hab : a.length = b.length) (ha : a.length ≤ 9223372036854775807) : ∀ (n i : Nat) (r q : List ByteArray), a.drop i = r → b.drop i = q → r.length < n →
    L_ref43_Same 4 n ⟨[(0, .sl (a.map eS)), (1, .sl (b.map eS)), (4, .any), (5, I i)], []⟩ =
      if sameS r q = true then some (.ex 0, ⟨[(0, .any), (1, .any), (4, .any), (5, .any)], []⟩) else some (.ret, ⟨[(0, .any), (1, .any), (4, B false), (5, .any)], []⟩)
  | 0, _, _, _, _, _, hn => by omega
  | n + 1, i, [], q, hr, hq, hn => by
    rw [L_ref43_Same_succ, R_ref43_Same_eq]
    simp [dn hr, sameS]
  | n + 1, i, x :: r, [], hr, hq, hn => by
    have h1 := dn hq
    obtain ⟨_, h3, _⟩ := dc (enc := eS) hr
    omega
  | n + 1, i, x :: r, y :: q, hr, hq, hn => by
    rw [L_ref43_Same_succ, R_ref43_Same_eq]
    obtain ⟨h1, h3, hr', hi⟩ := dc (enc := eS) hr
    obtain ⟨k1, k3, kr', ki⟩ := dc (enc := eS) hq
    have hw := wrapN (n := i) (by omega)
    have ih := Same_loop a b hab ha n (i + 1) r q hr' kr' (by simp at hn; omega)
    simp at ih
    by_cases g : x = y <;> simp [h1, h3, k1, hw, g, sameS, ih]
theorem Same_run (a b : List ByteArray) (ha : a.length ≤ 9223372036854775807) : F_ref43_Same [.sl (a.map eS), .sl (b.map eS)] = some (B (if a.length = b.length then sameS a b else false)) := by
  rw [F_ref43_Same_eq]
  have hbig := bigL_ge
  by_cases h : a.length = b.length
  · have ih := Same_loop a b h ha bigL 0 a b rfl rfl (by omega)
    simp at ih
    cases hs : sameS a b <;> simp [hs] at ih <;> simp [h, ih, hs]
  · have h' : ¬ (a.length : Int) = b.length := by omega
    simp [h, h']
end Go.Proofs.Ytkdmoefacgbgkaa
