/-
  Whether a ledger is open, run abstractly.
-/
import Derived.Test.YtgngoijehjphoaaBoC
namespace Go.Proofs.Ytgngoijehjphoaa
set_option linter.unusedSimpArgs false
set_option linter.unusedVariables false
open Go Go.Abs
set_option maxHeartbeats 8000000
set_option maxRecDepth 100000
theorem wrap_add (a b : Int) : IntKind.i64.wrap (IntKind.i64.wrap a + b) = IntKind.i64.wrap (a + b) := by
  rw [IntKind.wrap_i64, IntKind.wrap_i64, IntKind.wrap_i64]
  omega
theorem wrap_add2 (a b : Int) : IntKind.i64.wrap (a + IntKind.i64.wrap b) = IntKind.i64.wrap (a + b) := by
  rw [Int.add_comm, wrap_add, Int.add_comm]
def sOther : ByteArray := ⟨#[111, 116, 104, 101, 114]⟩
/-- The accounts of the statement's ledger. -/
def nm9 : List ByteArray := sOther :: acc8
theorem nm9_mk : nm9.Nodup := by decide +kernel
theorem acc8_nm {a : ByteArray} (h : a ∈ acc8) : a ∈ nm9 := List.mem_cons_of_mem _ h
/-- A ledger that is only looked at. -/
abbrev ledE (accs : List ByteArray) (en : List Ent) : D := .elt [.mpv ((balL accs en).map encB), .mpv ((en.map (·.id)).map encK), .sl (en.map eEn)]
theorem lbal_run (accs : List ByteArray) (en : List Ent) (a : ByteArray) : F_ledger_Ledger_Balance [ledE accs en, S a] = some (I (if hasK a accs = true then balE a en else 0)) := by
  have h := balance_run (balL accs en) ((en.map (·.id)).map encK) (en.map eEn) a
  rw [h, balL, balO_L]
  split <;> rfl
theorem Lg.psl {accs : List ByteArray} {en : List Ent} (h : Lg accs en) : ∀ y ∈ en, y.ps.length ≤ 16 := by
  intro y hy
  obtain ⟨p, _, h⟩ := h.prop hy
  exact (errP_0 h).2.2.2.2.2.2.2.1
theorem lents_run {accs : List ByteArray} {en : List Ent} (h : Lg accs en) : F_ledger_Ledger_Entries [ledE accs en] = some (.own en.isEmpty (en.map eEn)) := by
  rw [ents_run (balL accs en) (en.map (·.id)) en (by have := h.len; omega) (fun x hx => by have := h.psl x hx; omega)]
theorem index_loop (a : ByteArray) (l : List ByteArray) (hl : l.length ≤ 1000) : ∀ (n i : Nat) (r : List ByteArray), l.drop i = r → r.length < n →
    ∃ k : Int, 0 ≤ k ∧ L_slices_Index_string_string 2 n ⟨[(0, .sl (l.map eNm)), (1, S a), (4, .any), (5, .any), (7, I l.length), (8, I i)], []⟩ =
      if hasK a r = true then some (.ret, ⟨[(0, .any), (1, .any), (4, I k), (5, .any), (7, .any), (8, .any)], []⟩) else some (.ex 0, ⟨[(0, .any), (1, .any), (4, .any), (5, .any), (7, .any), (8, .any)], []⟩) := by
  intro n
  induction n with
  | zero => intro i r hr hn; omega
  | succ n ih =>
    intro i r hr hn
    rw [L_slices_Index_string_string_succ, R_slices_Index_string_string_eq]
    cases r with
    | nil =>
      have h2 := dnG hr
      exact ⟨0, by omega, by simp [h2, hasK]⟩
    | cons x r =>
      obtain ⟨h1, h3, hr', hi⟩ := dcG hr
      have hw := wrapN (n := i) (by omega)
      simp only [List.length_cons] at hn
      obtain ⟨k, hk, ih'⟩ := ih (i + 1) r hr' (by omega)
      simp only [Int.natCast_add, Int.cast_ofNat_Int] at ih'
      by_cases hc : a = x
      · subst hc
        exact ⟨i, by omega, by simp [h1, h3, hasK]⟩
      · have hc' : ¬ x = a := fun e => hc e.symm
        refine ⟨k, hk, ?_⟩
        simp [h1, h3, hasK, hc, hc', hw]
        simpa using ih'
theorem contains_run (a : ByteArray) (l : List ByteArray) (hl : l.length ≤ 1000) : F_slices_Contains_string_string [.sl (l.map eNm), S a] = some (B (hasK a l)) := by
  rw [F_slices_Contains_string_string_eq]
  have hx : ∃ k : Int, (if hasK a l = true then 0 ≤ k else k = -1) ∧ F_slices_Index_string_string [.sl (l.map eNm), S a] = some (I k) := by
    rw [F_slices_Index_string_string_eq]
    obtain ⟨k, hk, ih⟩ := index_loop a l hl bigL 0 l rfl (by have := bigL_ge; omega)
    cases c : hasK a l
    · simp [c] at ih
      exact ⟨-1, by simp, by simp [ih]⟩
    · simp [c] at ih
      exact ⟨k, by simp [hk], by simp [ih]⟩
  obtain ⟨k, hk, hx⟩ := hx
  cases c : hasK a l
  · rw [c] at hk
    simp at hk
    subst hk
    simp [hx]
  · rw [c] at hk
    simp at hk
    simp [hx, hk]
/-- Whether an account but the first has less than nothing. -/
def negL (en : List Ent) : Nat → List ByteArray → Bool
  | _, [] => false
  | i, a :: r => if balE a en < 0 ∧ i ≠ 0 then true else negL en (i + 1) r
theorem open6_loop {en : List Ent} (_hL : Lg nm9 en) : ∀ (n i : Nat) (r : List ByteArray) (s v : Int), v = IntKind.i64.wrap s → acc8.drop i = r → r.length < n →
    L_books_Open 6 n ⟨[(0, ledE nm9 en), (2, .any), (3, .own true (acc8.map eNm)), (4, I v), (5, .any), (6, .any), (7, .any), (9, .any), (11, .any), (15, .own true (acc8.map eNm)), (16, I 8), (17, I i), (38, .any), (39, .any), (40, .any), (45, .any), (46, .any), (47, .any)], []⟩ =
      if negL en i r = true then some (.ret, ⟨[(0, .any), (2, B false), (3, .any), (4, .any), (5, .any), (6, .any), (7, .any), (9, .any), (11, .any), (15, .any), (16, .any), (17, .any), (38, .any), (39, .any), (40, .any), (45, .any), (46, .any), (47, .any)], []⟩)
      else some (.ex 0, ⟨[(0, ledE nm9 en), (2, .any), (3, .own true (acc8.map eNm)), (4, I (IntKind.i64.wrap (s + accS (fun a => balE a en) r))), (5, .any), (6, .any), (7, .any), (9, .any), (11, .any), (15, .any), (16, .any), (17, .any), (38, .any), (39, .any), (40, .any), (45, .any), (46, .any), (47, .any)], []⟩) := by
  intro n
  induction n with
  | zero => intro i r s v _ hr hn; omega
  | succ n ih =>
    intro i r s v hv hr hn
    rw [L_books_Open_succ, R_books_Open_eq]
    cases r with
    | nil =>
      have h2 := dnG hr
      rw [acc8_len] at h2
      have h2' : ¬ (i : Int) < 8 := h2
      simp only [accS, Int.add_zero, ← hv, ledE, negL]
      generalize acc8.map eNm = A at *
      generalize (balL nm9 en).map encB = M1 at *
      generalize (en.map (·.id)).map encK = M2 at *
      generalize en.map eEn = L at *
      simp [h2']
    | cons a r =>
      obtain ⟨h1, h3, hr', hi⟩ := dcG hr
      rw [acc8_len] at hi
      have h3' : (i : Int) < 8 := by omega
      have hw := wrapN (n := i) (by omega)
      simp only [List.length_cons] at hn
      have ha : (acc8.map eNm)[i]? = some [S a] := by rw [List.getElem?_map, h1]; rfl
      have hm : a ∈ acc8 := List.mem_of_getElem? h1
      have hb := lbal_run nm9 en a
      rw [if_pos (hasK_mem.2 (acc8_nm hm))] at hb
      have ih' := ih (i + 1) r (s + balE a en) (IntKind.i64.wrap (v + balE a en)) (by rw [hv, wrap_add]) hr' (by omega)
      have e : s + accS (fun a => balE a en) (a :: r) = s + balE a en + accS (fun a => balE a en) r := by simp only [accS]; omega
      rw [e]
      by_cases c1 : balE a en < 0
      · by_cases c2 : i = 0
        · have c3 : negL en i (a :: r) = negL en (i + 1) r := by simp [negL, c2]
          rw [c3]
          simp only [ledE, Int.natCast_add, Int.cast_ofNat_Int] at ih' hb ⊢
          generalize acc8.map eNm = A at *
          generalize (balL nm9 en).map encB = M1 at *
          generalize (en.map (·.id)).map encK = M2 at *
          generalize en.map eEn = L at *
          subst c2
          simp at ih'
          simp [ha, hb, c1]
          simpa using ih'
        · have c3 : negL en i (a :: r) = true := by simp [negL, c1, c2]
          rw [c3]
          simp only [ledE] at hb ⊢
          generalize acc8.map eNm = A at *
          generalize (balL nm9 en).map encB = M1 at *
          generalize (en.map (·.id)).map encK = M2 at *
          generalize en.map eEn = L at *
          simp [ha, h3', hb, c1, c2]
      · have c3 : negL en i (a :: r) = negL en (i + 1) r := by simp [negL, c1]
        rw [c3]
        simp only [ledE, Int.natCast_add, Int.cast_ofNat_Int] at ih' hb ⊢
        generalize acc8.map eNm = A at *
        generalize (balL nm9 en).map encB = M1 at *
        generalize (en.map (·.id)).map encK = M2 at *
        generalize en.map eEn = L at *
        simp [ha, h3', hb, c1, hw]
        simpa using ih'
theorem open19_loop (L : List (List D)) (g : Bool) (d39 d40 : D) (h39 : ∃ k, d39 = I k) (h40 : ∃ k, d40 = I k) (ps : List Pst) (hl : ps.length ≤ 1000) (hp : ∀ p ∈ ps, p.acc ∈ acc8) : ∀ (n k : Nat) (r : List Pst), ps.drop k = r → r.length < n →
    L_books_Open 19 n ⟨[(0, .any), (2, .any), (3, .own true (acc8.map eNm)), (4, .any), (5, .any), (6, .any), (7, .any), (9, .any), (11, .any), (15, .any), (16, .any), (17, .any), (38, .own g L), (39, d39), (40, d40), (45, .sl (ps.map ePs)), (46, I ps.length), (47, I k)], []⟩ =
      some (.ex 4, ⟨[(0, .any), (2, .any), (3, .own true (acc8.map eNm)), (4, .any), (5, .any), (6, .any), (7, .any), (9, .any), (11, .any), (15, .any), (16, .any), (17, .any), (38, .own g L), (39, d39), (40, d40), (45, .any), (46, .any), (47, .any)], []⟩) := by
  obtain ⟨k39, rfl⟩ := h39
  obtain ⟨k40, rfl⟩ := h40
  intro n
  induction n with
  | zero => intro k r hr hn; omega
  | succ n ih =>
    intro k r hr hn
    rw [L_books_Open_succ, R_books_Open_eq]
    cases r with
    | nil =>
      have h2 := dnG hr
      generalize acc8.map eNm = A at *
      simp [h2]
    | cons p r =>
      obtain ⟨h1, h3, hr', hi⟩ := dcG hr
      have hw := wrapN (n := k) (by omega)
      simp only [List.length_cons] at hn
      have ih' := ih (k + 1) r hr' (by omega)
      have hc := contains_run p.acc acc8 (by rw [acc8_len]; omega)
      rw [hasK_mem.2 (hp p (List.mem_of_getElem? h1))] at hc
      simp only [Int.natCast_add, Int.cast_ofNat_Int] at ih'
      generalize acc8.map eNm = A at *
      simp [h1, h3, hc, hw]
      simpa using ih'
theorem open16_loop {en : List Ent} (hl : en.length ≤ 2000) (hps : ∀ y ∈ en, y.ps.length ≤ 1000) (hp : ∀ y ∈ en, ∀ p ∈ y.ps, p.acc ∈ acc8) (g : Bool) : ∀ (n i : Nat) (r : List Ent), en.drop i = r → r.length < n →
    L_books_Open 16 n ⟨[(0, .any), (2, .any), (3, .own true (acc8.map eNm)), (4, .any), (5, .any), (6, .any), (7, .any), (9, .any), (11, .any), (15, .any), (16, .any), (17, .any), (38, .own g (en.map eEn)), (39, I en.length), (40, I i), (45, .any), (46, .any), (47, .any)], []⟩ =
      some (.ex 2, ⟨[(0, .any), (2, .any), (3, .any), (4, .any), (5, .any), (6, .any), (7, .any), (9, .any), (11, .any), (15, .any), (16, .any), (17, .any), (38, .any), (39, .any), (40, .any), (45, .any), (46, .any), (47, .any)], []⟩) := by
  intro n
  induction n with
  | zero => intro i r hr hn; omega
  | succ n ih =>
    intro i r hr hn
    rw [L_books_Open_succ, R_books_Open_eq]
    cases r with
    | nil =>
      have h2 := dnG hr
      generalize acc8.map eNm = A at *
      generalize en.map eEn = L at *
      simp [h2]
    | cons y r =>
      obtain ⟨h1, h3, hr', hi⟩ := dcG hr
      have hw := wrapN (n := i) (by omega)
      simp only [List.length_cons] at hn
      have ih' := ih (i + 1) r hr' (by omega)
      have hy := List.mem_of_getElem? h1
      have h19 := open19_loop (en.map eEn) g (I en.length) (I i) ⟨_, rfl⟩ ⟨_, rfl⟩ y.ps (hps y hy) (hp y hy) bigL 0 y.ps rfl (by have := bigL_ge; have := hps y hy; omega)
      have hgy : (en.map eEn)[i]? = some [S y.id, I y.t, .sl (y.ps.map ePs)] := by rw [List.getElem?_map, h1]; rfl
      simp only [Int.natCast_add, Int.cast_ofNat_Int] at ih'
      generalize acc8.map eNm = A at *
      generalize en.map eEn = L at *
      simp at h19
      simp [hgy, h3, h19, hw]
      simpa using ih'
/-- Whether a ledger is open. -/
theorem open_run {en : List Ent} (hL : Lg nm9 en) (hp : accS (fun a => balE a en) acc8 = 0 → ∀ y ∈ en, ∀ p ∈ y.ps, p.acc ∈ acc8) (hb : -9223372036854775808 ≤ accS (fun a => balE a en) acc8 ∧ accS (fun a => balE a en) acc8 ≤ 9223372036854775807) :
    F_books_Open [ledE nm9 en] = some (B (!negL en 0 acc8 && decide (accS (fun a => balE a en) acc8 = 0))) := by
  rw [F_books_Open_eq]
  have h6 := open6_loop hL bigL 0 acc8 0 0 rfl rfl (by have := bigL_ge; rw [acc8_len]; omega)
  rw [Int.zero_add, wrap64 hb.1 hb.2] at h6
  have ha := accounts_run
  have hal : (acc8.map eNm).length = 8 := rfl
  have he := lents_run hL
  have hen := hL.len
  cases hn : negL en 0 acc8
  · rw [hn] at h6
    by_cases hs : accS (fun a => balE a en) acc8 = 0
    · have h16 := open16_loop (en := en) (by omega) (fun y hy => by have := hL.psl y hy; omega) (hp hs) en.isEmpty bigL 0 en rfl (by have := bigL_ge; omega)
      have hlen : ((en.map eEn).length : Int) = en.length := by simp
      rw [hs] at h6 ⊢
      simp only [ledE] at h6 he ⊢
      generalize acc8.map eNm = A at *
      generalize (balL nm9 en).map encB = M1 at *
      generalize (en.map (·.id)).map encK = M2 at *
      generalize en.map eEn = L at *
      simp at h6 h16
      simp [ha, hal, h6, he, hlen, h16]
    · simp only [ledE] at h6 ⊢
      generalize accS (fun a => balE a en) acc8 = sm at *
      generalize acc8.map eNm = A at *
      generalize (balL nm9 en).map encB = M1 at *
      generalize (en.map (·.id)).map encK = M2 at *
      generalize en.map eEn = L at *
      simp at h6
      simp [ha, hal, h6, hs]
  · rw [hn] at h6
    simp only [ledE] at h6 ⊢
    generalize acc8.map eNm = A at *
    generalize (balL nm9 en).map encB = M1 at *
    generalize (en.map (·.id)).map encK = M2 at *
    generalize en.map eEn = L at *
    simp at h6
    simp [ha, hal, h6]
theorem openNil_run : F_books_Open [.x (.pointer none)] = some (B false) := by
  rw [F_books_Open_eq]; simp
end Go.Proofs.Ytgngoijehjphoaa
