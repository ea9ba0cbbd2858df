/-
  The digest of a ledger, run abstractly: both sides.
-/
import Derived.Test.YtgngoijehjphoaaDoorLgG
namespace Go.Proofs.YtgngoijehjphoaaDoor
set_option linter.unusedSimpArgs false
set_option linter.unusedVariables false
open Go Go.Abs
set_option maxHeartbeats 8000000
set_option maxRecDepth 100000
theorem hash_run (s : ByteArray) (hs : s.size ≤ 1000000000) : F_sums_Hash [S s] = some (.x (.int .u64 (hashP 14695981039346656037 (byt s)))) := by
  rw [F_sums_Hash_eq]
  have ih := hash_loop s hs bigL 0 (byt s) 14695981039346656037 rfl (by rw [← byt_len]; have := bigL_ge; omega)
  simp at ih
  simp [ih]
/-- A number's bytes. -/
def b8 (h : Int) : ByteArray := ⟨#[UInt8.ofNat (IntKind.u8.wrap (h / 72057594037927936)).toNat, UInt8.ofNat (IntKind.u8.wrap (h / 281474976710656)).toNat, UInt8.ofNat (IntKind.u8.wrap (h / 1099511627776)).toNat, UInt8.ofNat (IntKind.u8.wrap (h / 4294967296)).toNat, UInt8.ofNat (IntKind.u8.wrap (h / 16777216)).toNat, UInt8.ofNat (IntKind.u8.wrap (h / 65536)).toNat, UInt8.ofNat (IntKind.u8.wrap (h / 256)).toNat, UInt8.ofNat (IntKind.u8.wrap h).toNat]⟩
def chainM (h : Int) (s : ByteArray) : Int := hashP 14695981039346656037 (byt (b8 h ++ s))
theorem b8_size (h : Int) : (b8 h).size = 8 := rfl
theorem chain_run (h : Int) (s : ByteArray) (hs : s.size ≤ 100000) : F_sums_Chain [.x (.int .u64 h), S s] = some (.x (.int .u64 (chainM h s))) := by
  rw [F_sums_Chain_eq]
  obtain ⟨m, hm⟩ := bigL_succ 9 (by omega)
  rw [hm]
  have k : strBin .add (b8 h) s = _ := cat_ok (by rw [b8_size]; omega)
  have hh := hash_run (b8 h ++ s) (by rw [ByteArray.size_append, b8_size]; omega)
  unfold b8 at k hh
  simp [L_sums_Chain_succ, R_sums_Chain_eq, -strBin, k, hh, chainM, b8]
theorem bytes_run (h : Int) : F_ref04_Bytes [.x (.int .u64 h)] = some (S (b8 h)) := by
  rw [F_ref04_Bytes_eq]
  obtain ⟨m, hm⟩ := bigL_succ 9 (by omega)
  rw [hm]
  simp [L_ref04_Bytes_succ, R_ref04_Bytes_eq, b8]
theorem chainR_run (h : Int) (s : ByteArray) (hs : s.size ≤ 100000) : F_ref04_Chain [.x (.int .u64 h), S s] = some (.x (.int .u64 (chainM h s))) := by
  rw [F_ref04_Chain_eq]
  have k : strBin .add (b8 h) s = _ := cat_ok (by rw [b8_size]; omega)
  have hh := hashR_run (b8 h ++ s) (by rw [ByteArray.size_append, b8_size]; omega)
  have hb := bytes_run h
  simp [-strBin, hb, k, hh, chainM]
def digM (h : Int) : List Ent → Int
  | [] => h
  | x :: r => digM (chainM h (txt x)) r
theorem dig_loop (en : List Ent) (hl : en.length ≤ 1000000) (ho : ∀ x ∈ en, OkE x) : ∀ (n i : Nat) (r : List Ent) (h : Int), en.drop i = r → r.length < n →
    L_ledger_Ledger_Digest 5 n ⟨[(0, .any), (2, .any), (3, .x (.int .u64 h)), (5, .any), (11, .sl (en.map eEn)), (12, I en.length), (13, I i)], []⟩ = some (.ex 0, ⟨[(0, .any), (2, .any), (3, .x (.int .u64 (digM h r))), (5, .any), (11, .any), (12, .any), (13, .any)], []⟩) := by
  intro n
  induction n with
  | zero => intro i r h hr hn; omega
  | succ n ih =>
    intro i r h hr hn
    rw [L_ledger_Ledger_Digest_succ, R_ledger_Ledger_Digest_eq]
    cases r with
    | nil =>
      have h2 : ¬ (i : Int) < en.length := by have := List.drop_eq_nil_iff.1 hr; omega
      simp [h2, digM]
    | cons x r =>
      have h1 : en[i]? = some x := by
        have := congrArg (fun t => t[0]?) hr
        simpa using this
      have hi := (List.getElem?_eq_some_iff.1 h1).1
      have h3 : (i : Int) < en.length := by omega
      have hr' : en.drop (i + 1) = r := by rw [← List.tail_drop, hr]; rfl
      have hx := ho x (List.mem_of_getElem? h1)
      have hw := wrapN (n := i) (by omega)
      simp only [List.length_cons] at hn
      have ht := text_run x hx
      have hc := chain_run h (txt x) (txt_size x hx)
      have ih' := ih (i + 1) r (chainM h (txt x)) hr' (by omega)
      simp only [Int.natCast_add, Int.cast_ofNat_Int] at ih'
      simp at ht
      simp [h1, h3, hw, ht, hc, digM]
      simpa using ih'
theorem dig_run (b : Bal) (ids : List ByteArray) (en : List Ent) (hl : en.length ≤ 1000000) (ho : ∀ x ∈ en, OkE x) : F_ledger_Ledger_Digest [.elt [.mpv (b.map encB), .mpv (ids.map encK), .sl (en.map eEn)]] = some (.x (.int .u64 (digM 0 en))) := by
  rw [F_ledger_Ledger_Digest_eq]
  have ih := dig_loop en hl ho bigL 0 en 0 rfl (by have := bigL_ge; omega)
  simp at ih
  simp [ih]
def eNm0 (s : ByteArray) : List D := eNm s
theorem digR_loop (ac : List ByteArray) (en : List Ent) (hl : en.length ≤ 1000000) (ho : ∀ x ∈ en, OkE x) : ∀ (n i : Nat) (r : List Ent) (h : Int), en.drop i = r → r.length < n →
    L_ref51_L_Digest 3 n ⟨[(0, .any), (1, .ptr 1 0), (2, .any), (3, .x (.int .u64 h)), (4, I i)], [(1, .box 31 [.sl (ac.map eNm), .sl (en.map eEn)])]⟩ = some (.ex 0, ⟨[(0, .any), (1, .any), (2, .any), (3, .x (.int .u64 (digM h r))), (4, .any)], []⟩) := by
  intro n
  induction n with
  | zero => intro i r h hr hn; omega
  | succ n ih =>
    intro i r h hr hn
    rw [L_ref51_L_Digest_succ, R_ref51_L_Digest_eq]
    cases r with
    | nil =>
      have h2 : ¬ (i : Int) < en.length := by have := List.drop_eq_nil_iff.1 hr; omega
      simp [h2, digM]
    | cons x r =>
      have h1 : en[i]? = some x := by
        have := congrArg (fun t => t[0]?) hr
        simpa using this
      have hi := (List.getElem?_eq_some_iff.1 h1).1
      have h3 : (i : Int) < en.length := by omega
      have hr' : en.drop (i + 1) = r := by rw [← List.tail_drop, hr]; rfl
      have hx := ho x (List.mem_of_getElem? h1)
      have hw := wrapN (n := i) (by omega)
      simp only [List.length_cons] at hn
      have ht := textR_run x hx
      have hc := chainR_run h (txt x) (txt_size x hx)
      have ih' := ih (i + 1) r (chainM h (txt x)) hr' (by omega)
      simp only [Int.natCast_add, Int.cast_ofNat_Int] at ih'
      simp at ht
      simp [h1, h3, hw, ht, hc, digM]
      simpa using ih'
theorem digR_run (ac : List ByteArray) (en : List Ent) (hl : en.length ≤ 1000000) (ho : ∀ x ∈ en, OkE x) : F_ref51_L_Digest [.agg [.sl (ac.map eNm), .sl (en.map eEn)]] = some (.x (.int .u64 (digM 0 en))) := by
  rw [F_ref51_L_Digest_eq]
  have ih := digR_loop ac en hl ho bigL 0 en 0 rfl (by have := bigL_ge; omega)
  simp at ih
  simp [ih]
end Go.Proofs.YtgngoijehjphoaaDoor
