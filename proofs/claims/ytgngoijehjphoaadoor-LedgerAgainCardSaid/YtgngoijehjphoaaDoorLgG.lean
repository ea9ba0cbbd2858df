/-
  The text of an entry, and hashes, run abstractly: both sides.
-/
import Derived.Test.YtgngoijehjphoaaDoorLgE
namespace Go.Proofs.YtgngoijehjphoaaDoor
set_option linter.unusedSimpArgs false
set_option linter.unusedVariables false
open Go Go.Abs
set_option maxHeartbeats 8000000
set_option maxRecDepth 100000
@[simp] theorem b64 : (IntKind.u64.bits : Int) = 64 := rfl
theorem wu64 {n : Int} (h : 0 ≤ n) (h2 : n ≤ 18446744073709551615) : IntKind.u64.wrap n = n := by
  rw [IntKind.wrap_u64]; omega
/-- A number in decimal. -/
def natB (n : Nat) : ByteArray := ⟨(Lib.decDigits n).toArray⟩
theorem one_digit : ∀ n : Nat, n < 10 → (⟨#[48, 49, 50, 51, 52, 53, 54, 55, 56, 57]⟩ : ByteArray).extract n (n + 1) = ⟨#[UInt8.ofNat (48 + n)]⟩ := by decide
theorem natB_small {n : Nat} (h : n < 10) : natB n = ⟨#[UInt8.ofNat (48 + n)]⟩ := by
  unfold natB; rw [Lib.decDigits_one h]
theorem natB_big {n : Nat} (h : ¬ n < 10) : natB n = natB (n / 10) ++ natB (n % 10) := by
  have h1 : Lib.decDigits n = Lib.decDigits (n / 10) ++ Lib.decDigits (n % 10) := by
    rw [Lib.decDigits_one (show n % 10 < 10 by omega)]
    conv => lhs; rw [Lib.decDigits, dif_neg h]
  unfold natB
  rw [h1]
  apply ByteArray.ext
  simp
theorem decDigits_len : ∀ (k n : Nat), n < 10 ^ (k + 1) → (Lib.decDigits n).length ≤ k + 1
  | 0, n, h => by rw [Lib.decDigits_one (by omega)]; simp
  | k + 1, n, h => by
    by_cases h10 : n < 10
    · rw [Lib.decDigits_one h10]; simp
    · rw [Lib.decDigits, dif_neg h10]
      have := decDigits_len k (n / 10) (by rw [Nat.pow_succ] at h; omega)
      simp
      omega
theorem natB_size (n : Nat) (h : n < 18446744073709551616) : (natB n).size ≤ 20 := by
  have := decDigits_len 19 n (Nat.lt_of_lt_of_le h (by decide))
  simpa [natB, ByteArray.size] using this
theorem natural_one (k n : Nat) (h10 : n < 10) : FN_ref06_natural (k + 1) [.x (.int .u64 n)] = some (S (natB n)) := by
  rw [FN_ref06_natural_eq]
  have h1 : (n : Int) < 10 := by omega
  have h2 : IntKind.u64.wrap ((n : Int) + 1) = (n : Int) + 1 := by rw [wu64] <;> omega
  have h3 : (n : Int) + 1 ≤ ((⟨#[48, 49, 50, 51, 52, 53, 54, 55, 56, 57]⟩ : ByteArray).size : Int) := by
    show (n : Int) + 1 ≤ 10
    omega
  have h4 := one_digit n h10
  rw [← natB_small h10] at h4
  have h5 : (n : Int) ≤ (n : Int) + 1 := by omega
  simp [h1, h2, h3, h4, h5]
theorem natural_run : ∀ (k n : Nat), n < 18446744073709551616 → n < 10 ^ (k + 1) → FN_ref06_natural (k + 1) [.x (.int .u64 n)] = some (S (natB n)) := by
  intro k
  induction k with
  | zero =>
    intro n hn hk
    exact natural_one 0 n (by omega)
  | succ k ih =>
    intro n hn hk
    by_cases h10 : n < 10
    · exact natural_one (k + 1) n h10
    · rw [FN_ref06_natural_eq]
      have h1 : ¬ (n : Int) < 10 := by omega
      have h2 : IntKind.u64.wrap ((n : Int) / 10) = (n : Int) / 10 := by rw [wu64] <;> omega
      have h3 : (n : Int).tmod 10 = (n : Int) % 10 := rfl
      have i1 := ih (n / 10) (by omega) (by rw [Nat.pow_succ] at hk; omega)
      have i2 := ih (n % 10) (by omega) (Nat.lt_of_lt_of_le (show n % 10 < 10 by omega) (by rw [Nat.pow_succ]; exact Nat.le_mul_of_pos_left _ (Nat.pow_pos (by omega))))
      have s1 := natB_size (n / 10) (by omega)
      have s2 := natB_size (n % 10) (by omega)
      have s3 : ¬ (9223372036854775807 : Int) < ((natB (n / 10)).size : Int) + (natB (n % 10)).size := by omega
      simp only [Int.natCast_ediv, Int.natCast_emod, Int.cast_ofNat_Int] at i1 i2
      simp [h1, h2, h3, i1, i2, s3, natB_big h10]
theorem natural_ge (k : Nat) (hk : 19 ≤ k) (n : Nat) (h : n < 18446744073709551616) : FN_ref06_natural (k + 1) [.x (.int .u64 n)] = some (S (natB n)) :=
  natural_run k n h (Nat.lt_of_lt_of_le h (Nat.le_trans (by decide : 18446744073709551616 ≤ 10 ^ 20) (Nat.pow_le_pow_right (by omega) (by omega))))
theorem natural_all (n : Nat) (h : n < 18446744073709551616) : F_ref06_natural [.x (.int .u64 n)] = some (S (natB n)) := natural_ge 999 (by omega) n h
theorem digits_run (n : Int) (h0 : -9223372036854775808 ≤ n) (h1 : n ≤ 9223372036854775807) : F_ref06_Digits [I n] = some (S (itoaS n)) := by
  rw [F_ref06_Digits_eq]
  by_cases hn : n < 0
  · have w1 : IntKind.i64.wrap (n + 1) = n + 1 := wrap64 (by omega) (by omega)
    have w2 : IntKind.i64.wrap (-(n + 1)) = -(n + 1) := wrap64 (by omega) (by omega)
    have w3 : IntKind.u64.wrap (-(n + 1)) = -(n + 1) := wu64 (by omega) (by omega)
    have w4 : IntKind.u64.wrap (-(n + 1) + 1) = (n.natAbs : Int) := by rw [wu64] <;> omega
    have hr := natural_all n.natAbs (by omega)
    have s1 := natB_size n.natAbs (by omega)
    have e : itoaS n = ⟨#[45]⟩ ++ natB n.natAbs := by
      unfold itoaS natB Lib.itoa
      rw [if_pos hn]
      apply ByteArray.ext
      simp
    have s2 : ¬ (9223372036854775807 : Int) < ((⟨#[45]⟩ : ByteArray).size : Int) + (natB n.natAbs).size := by
      show ¬ (9223372036854775807 : Int) < 1 + (natB n.natAbs).size
      omega
    simp [hn, w1, w2, w3, w4, hr, e, s2]
  · obtain ⟨m, rfl⟩ : ∃ m : Nat, n = m := ⟨n.toNat, by omega⟩
    have w1 : IntKind.u64.wrap (m : Int) = (m : Int) := by rw [wu64] <;> omega
    have hr := natural_all m (by omega)
    have e : itoaS (m : Int) = natB m := by
      unfold itoaS natB Lib.itoa
      rw [if_neg hn]
      rfl
    simp [hn, w1, hr, e]
theorem itoaS_size (n : Int) (h0 : -9223372036854775808 ≤ n) (h1 : n ≤ 9223372036854775807) : (itoaS n).size ≤ 21 := by
  unfold itoaS Lib.itoa
  split
  · have := natB_size n.natAbs (by omega)
    simp [natB, ByteArray.size] at this ⊢
    omega
  · have := natB_size n.toNat (by omega)
    simp [natB, ByteArray.size] at this ⊢
    omega
theorem cat_ok {a b : ByteArray} (h : a.size + b.size ≤ 1000000000) : strBin .add a b = some (S (a ++ b)) := by
  unfold strBin
  have : ¬ (((a.size + b.size : Nat) : Int) > IntKind.i64.max) := by
    have e : IntKind.i64.max = 9223372036854775807 := rfl
    rw [e]; omega
  simp only [if_neg this]
abbrev sp : ByteArray := ⟨#[32]⟩
abbrev nl : ByteArray := ⟨#[10]⟩
/-- The words of an entry's text. -/
def wrdP : List Pst → List ByteArray
  | [] => []
  | p :: r => p.acc :: itoaS p.amt :: wrdP r
def wrd (x : Ent) : List ByteArray := itoaS x.id.size :: x.id :: itoaS x.t :: wrdP x.ps
/-- The text behind a beginning. -/
def txtP (s : ByteArray) : List Pst → ByteArray
  | [] => s
  | p :: r => txtP (s ++ sp ++ p.acc ++ sp ++ itoaS p.amt) r
def txt (x : Ent) : ByteArray := txtP (itoaS x.id.size ++ sp ++ x.id ++ sp ++ itoaS x.t) x.ps ++ nl
/-- An entry whose text is no matter. -/
structure OkE (x : Ent) : Prop where
  id : x.id.size ≤ 1000
  t0 : 0 ≤ x.t
  t1 : x.t ≤ 10000000
  ps : x.ps.length ≤ 40
  acc : ∀ p ∈ x.ps, p.acc.size ≤ 1000
  amt : ∀ p ∈ x.ps, -9223372036854775808 ≤ p.amt ∧ p.amt ≤ 9223372036854775807
theorem txtP_size : ∀ (r : List Pst) (s : ByteArray), (∀ p ∈ r, p.acc.size ≤ 1000 ∧ -9223372036854775808 ≤ p.amt ∧ p.amt ≤ 9223372036854775807) → (txtP s r).size ≤ s.size + 1100 * r.length
  | [], s, _ => by simp [txtP]
  | p :: r, s, h => by
    obtain ⟨h1, h2, h3⟩ := h p (by simp)
    have h4 := itoaS_size p.amt h2 h3
    have := txtP_size r (s ++ sp ++ p.acc ++ sp ++ itoaS p.amt) (fun q hq => h q (by simp [hq]))
    simp only [txtP, ByteArray.size_append, List.length_cons] at this ⊢
    have e1 : sp.size = 1 := rfl
    omega
theorem textR_loop (x : Ent) (hx : OkE x) : ∀ (n i : Nat) (r : List Pst) (s : ByteArray), x.ps.drop i = r → r.length < n → s.size + 1100 * r.length ≤ 1000000 →
    L_ref51_Text 3 n ⟨[(0, .any), (1, .ptr 1 0), (2, .any), (3, S s), (4, I i)], [(1, .box 41 [S x.id, I x.t, .sl (x.ps.map ePs)])]⟩ = some (.ex 0, ⟨[(0, .any), (1, .any), (2, .any), (3, S (txtP s r)), (4, .any)], []⟩) := by
  intro n
  induction n with
  | zero => intro i r s hr hn; omega
  | succ n ih =>
    intro i r s hr hn hs
    rw [L_ref51_Text_succ, R_ref51_Text_eq]
    cases r with
    | nil =>
      have h2 : ¬ (i : Int) < x.ps.length := by have := List.drop_eq_nil_iff.1 hr; omega
      simp [h2, txtP]
    | cons p r =>
      obtain ⟨h1, h3, hr', hi⟩ := dcP hr
      have hm := List.mem_of_getElem? h1
      have a1 := hx.acc p hm
      obtain ⟨a2, a3⟩ := hx.amt p hm
      have a4 := itoaS_size p.amt a2 a3
      have hd := digits_run p.amt a2 a3
      have hps := hx.ps
      have hw := wrapN (n := i) (by omega)
      simp only [List.length_cons] at hn hs
      have e1 : sp.size = 1 := rfl
      have k1 : strBin .add s sp = _ := cat_ok (by omega)
      have k2 : strBin .add (s ++ sp) p.acc = _ := cat_ok (by simp only [ByteArray.size_append]; omega)
      have k3 : strBin .add (s ++ sp ++ p.acc) sp = _ := cat_ok (by simp only [ByteArray.size_append]; omega)
      have k4 : strBin .add (s ++ sp ++ p.acc ++ sp) (itoaS p.amt) = _ := cat_ok (by simp only [ByteArray.size_append]; omega)
      have ih' := ih (i + 1) r (s ++ sp ++ p.acc ++ sp ++ itoaS p.amt) hr' (by omega) (by simp only [ByteArray.size_append]; omega)
      simp only [Int.natCast_add, Int.cast_ofNat_Int] at ih'
      simp [-strBin, h1, h3, hd, hw, k1, k2, k3, k4, txtP]
      simpa using ih'
theorem textR_run (x : Ent) (hx : OkE x) : F_ref51_Text [.agg (eEn x)] = some (S (txt x)) := by
  rw [F_ref51_Text_eq]
  have hid := hx.id
  have ht0 := hx.t0
  have ht1 := hx.t1
  have i1 := digits_run x.id.size (by omega) (by omega)
  have i2 := digits_run x.t (by omega) (by omega)
  have s1 := itoaS_size x.id.size (by omega) (by omega)
  have s2 := itoaS_size x.t (by omega) (by omega)
  have e1 : sp.size = 1 := rfl
  have e2 : nl.size = 1 := rfl
  have k1 : strBin .add (itoaS x.id.size) sp = _ := cat_ok (by omega)
  have k2 : strBin .add (itoaS x.id.size ++ sp) x.id = _ := cat_ok (by simp only [ByteArray.size_append]; omega)
  have k3 : strBin .add (itoaS x.id.size ++ sp ++ x.id) sp = _ := cat_ok (by simp only [ByteArray.size_append]; omega)
  have k4 : strBin .add (itoaS x.id.size ++ sp ++ x.id ++ sp) (itoaS x.t) = _ := cat_ok (by simp only [ByteArray.size_append]; omega)
  have hps := hx.ps
  have hsz := txtP_size x.ps (itoaS x.id.size ++ sp ++ x.id ++ sp ++ itoaS x.t) (fun p hp => ⟨hx.acc p hp, hx.amt p hp⟩)
  simp only [ByteArray.size_append] at hsz
  have k5 : strBin .add (txtP (itoaS x.id.size ++ sp ++ x.id ++ sp ++ itoaS x.t) x.ps) nl = _ := cat_ok (by omega)
  have ih := textR_loop x hx bigL 0 x.ps (itoaS x.id.size ++ sp ++ x.id ++ sp ++ itoaS x.t) rfl (by have := bigL_ge; omega) (by simp only [ByteArray.size_append]; omega)
  simp [-strBin] at ih
  simp [-strBin, i1, i2, k1, k2, k3, k4, ih, k5, txt]
theorem text_loop (x : Ent) (hx : OkE x) : ∀ (n i : Nat) (r : List Pst) (es : List ByteArray), x.ps.drop i = r → r.length < n → es.length + 2 * r.length ≤ 1000 →
    L_ledger_text 3 n ⟨[(0, .any), (1, .any), (2, .any), (3, .row 3), (5, .any), (17, .sl (x.ps.map ePs)), (18, I x.ps.length), (19, I i)], [(3, .row 9 1 true (es.map Abs.eS))]⟩ = some (.ex 0, ⟨[(0, .any), (1, .any), (2, .any), (3, .row 3), (5, .any), (17, .any), (18, .any), (19, .any)], [(3, .row 9 1 true ((es ++ wrdP r).map Abs.eS))]⟩) := by
  intro n
  induction n with
  | zero => intro i r es hr hn; omega
  | succ n ih =>
    intro i r es hr hn hs
    rw [L_ledger_text_succ, R_ledger_text_eq]
    cases r with
    | nil =>
      have h2 : ¬ (i : Int) < x.ps.length := by have := List.drop_eq_nil_iff.1 hr; omega
      simp [h2, wrdP]
    | cons p r =>
      obtain ⟨h1, h3, hr', hi⟩ := dcP hr
      have hm := List.mem_of_getElem? h1
      obtain ⟨a2, a3⟩ := hx.amt p hm
      have hd := F_itoa_eq p.amt a2 a3
      have hps := hx.ps
      have hw := wrapN (n := i) (by omega)
      simp only [List.length_cons] at hn hs
      have ih' := ih (i + 1) r (es ++ [p.acc, itoaS p.amt]) hr' (by omega) (by simp; omega)
      simp only [Int.natCast_add, Int.cast_ofNat_Int] at ih'
      have hsz : (es.length + 2) * 17 ≤ 140737488355328 := by omega
      simp [h1, h3, hd, hw, wrdP, hsz]
      simpa using ih'
theorem data_app (a b : ByteArray) : (a ++ b).data.toList = a.data.toList ++ b.data.toList := by simp
theorem txtP_data : ∀ (r : List Pst) (s : ByteArray), (txtP s r).data.toList = s.data.toList ++ Lib.joinTail [32] ((wrdP r).map (·.data.toList))
  | [], s => by simp [txtP, wrdP, Lib.joinTail]
  | p :: r, s => by
    have ih := txtP_data r (s ++ sp ++ p.acc ++ sp ++ itoaS p.amt)
    simp only [txtP, ih, data_app, wrdP, List.map_cons, Lib.joinTail, List.flatten_cons, List.append_assoc]
theorem join_txt (x : Ent) : joinS (wrd x) sp ++ nl = txt x := by
  unfold txt
  congr 1
  have h : ∀ a b : ByteArray, a.data.toList = b.data.toList → a = b := fun a b h => by
    cases a; cases b; simp at h; simp [h]
  apply h
  rw [txtP_data]
  simp only [joinS, wrd, List.map_cons, Lib.join_cons, Lib.joinTail, List.map_cons, List.flatten_cons, data_app, List.append_assoc]
theorem txt_size (x : Ent) (hx : OkE x) : (txt x).size ≤ 100000 := by
  have hid := hx.id
  have ht0 := hx.t0
  have ht1 := hx.t1
  have hps := hx.ps
  have s1 := itoaS_size x.id.size (by omega) (by omega)
  have s2 := itoaS_size x.t (by omega) (by omega)
  have hsz := txtP_size x.ps (itoaS x.id.size ++ sp ++ x.id ++ sp ++ itoaS x.t) (fun p hp => ⟨hx.acc p hp, hx.amt p hp⟩)
  have e1 : sp.size = 1 := rfl
  have e2 : nl.size = 1 := rfl
  unfold txt
  simp only [ByteArray.size_append] at hsz ⊢
  omega
theorem wrdP_len : ∀ r : List Pst, (wrdP r).length = 2 * r.length
  | [] => rfl
  | p :: r => by simp only [wrdP, List.length_cons, wrdP_len r]; omega
theorem text_run (x : Ent) (hx : OkE x) : F_ledger_text [.agg (eEn x)] = some (S (txt x)) := by
  rw [F_ledger_text_eq]
  have hid := hx.id
  have ht0 := hx.t0
  have ht1 := hx.t1
  have hps := hx.ps
  have i1 := F_itoa_eq x.id.size (by omega) (by omega)
  have i2 := F_itoa_eq x.t (by omega) (by omega)
  have ih := text_loop x hx bigL 0 x.ps [itoaS x.id.size, x.id, itoaS x.t] rfl (by have := bigL_ge; omega) (by simp; omega)
  have hj := join_txt x
  have hts := txt_size x hx
  rw [← hj] at hts
  simp only [ByteArray.size_append] at hts
  have e2 : nl.size = 1 := rfl
  have hjn := F_join_eq (wrd x) sp (by simp [wrd, wrdP_len]; omega) (by omega)
  have k : strBin .add (joinS (wrd x) sp) nl = _ := cat_ok (by omega)
  rw [hj] at k
  simp only [wrd] at k hjn
  simp [-strBin] at ih hjn
  simp [-strBin, i1, i2, ih, hjn, k]
@[simp] theorem wu_lit {n : Int} (h : (decide (0 ≤ n) && decide (n ≤ 18446744073709551615)) = true) : IntKind.u64.wrap n = n := by
  simp at h
  exact wu64 h.1 h.2
def hashP (h : Int) : List UInt8 → Int
  | [] => h
  | c :: r => hashP (IntKind.u64.wrap (bits .xor .u64 h (IntKind.u64.wrap c.toNat) * 1099511628211)) r
theorem hashR_loop (s : ByteArray) (hs : s.size ≤ 1000000000) : ∀ (n i : Nat) (r : List UInt8) (h : Int), (byt s).drop i = r → r.length < n →
    L_ref04_Hash 3 n ⟨[(0, S s), (2, .any), (3, .x (.int .u64 h)), (4, I i)], []⟩ = some (.ex 0, ⟨[(0, .any), (2, .any), (3, .x (.int .u64 (hashP h r))), (4, .any)], []⟩) := by
  intro n
  induction n with
  | zero => intro i r h hr hn; omega
  | succ n ih =>
    intro i r h hr hn
    rw [L_ref04_Hash_succ, R_ref04_Hash_eq]
    cases r with
    | nil =>
      have h2 : ¬ (i : Int) < s.size := by have := bn hr; omega
      simp [h2, hashP]
    | cons c r =>
      obtain ⟨h1, h3, hr'⟩ := bc hr
      have h3' : (i : Int) < s.size := by omega
      have hw := wrapN (n := i) (by omega)
      simp only [List.length_cons] at hn
      have ih' := ih (i + 1) r (IntKind.u64.wrap (bits .xor .u64 h (IntKind.u64.wrap c.toNat) * 1099511628211)) hr' (by omega)
      simp only [Int.natCast_add, Int.cast_ofNat_Int] at ih'
      simp [h1, h3', hw, hashP]
      simpa using ih'
theorem hashR_run (s : ByteArray) (hs : s.size ≤ 1000000000) : F_ref04_Hash [S s] = some (.x (.int .u64 (hashP 14695981039346656037 (byt s)))) := by
  rw [F_ref04_Hash_eq]
  have ih := hashR_loop s hs bigL 0 (byt s) 14695981039346656037 rfl (by rw [← byt_len]; have := bigL_ge; omega)
  simp at ih
  simp [ih]
theorem hash_loop (s : ByteArray) (hs : s.size ≤ 1000000000) : ∀ (n i : Nat) (r : List UInt8) (h : Int), (byt s).drop i = r → r.length < n →
    L_sums_Hash 3 n ⟨[(0, .any), (2, .any), (3, .x (.int .u64 h)), (5, .any), (7, .own true (bytesR s)), (8, I s.size), (9, I i)], []⟩ = some (.ex 0, ⟨[(0, .any), (2, .any), (3, .x (.int .u64 (hashP h r))), (5, .any), (7, .any), (8, .any), (9, .any)], []⟩) := by
  intro n
  induction n with
  | zero => intro i r h hr hn; omega
  | succ n ih =>
    intro i r h hr hn
    rw [L_sums_Hash_succ, R_sums_Hash_eq]
    cases r with
    | nil =>
      have h2 : ¬ (i : Int) < s.size := by have := bn hr; omega
      simp [h2, hashP]
    | cons c r =>
      obtain ⟨h1, h3, hr'⟩ := bc hr
      have h3' : (i : Int) < s.size := by omega
      have hw := wrapN (n := i) (by omega)
      simp only [List.length_cons] at hn
      have ih' := ih (i + 1) r (IntKind.u64.wrap (bits .xor .u64 h (IntKind.u64.wrap c.toNat) * 1099511628211)) hr' (by omega)
      simp only [Int.natCast_add, Int.cast_ofNat_Int] at ih'
      have hg : (bytesR s)[i]? = some [.x (.int .u8 c.toNat)] := by
        have := byt_get s i
        rw [h1] at this
        simp only [bytesR, List.getElem?_map]
        rw [show s.data.toList = byt s from rfl, ← this]
        rfl
      generalize bytesR s = L at *
      simp [hg, h3', hw, hashP]
      simpa using ih'
end Go.Proofs.YtgngoijehjphoaaDoor
