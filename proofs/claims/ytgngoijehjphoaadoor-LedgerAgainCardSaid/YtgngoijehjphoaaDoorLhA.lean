/-
  LedgerZero, run abstractly: whole.
-/
import Derived.Test.YtgngoijehjphoaaDoorLgZ
namespace Go.Proofs.YtgngoijehjphoaaDoor
set_option linter.unusedSimpArgs false
set_option linter.unusedVariables false
open Go Go.Abs
set_option maxHeartbeats 16000000
set_option maxRecDepth 100000
def cntZ (f : ByteArray → Int) : List ByteArray → Nat
  | [] => 0
  | a :: r => (if f a = 0 then 0 else 1) + cntZ f r
theorem cntZ_filter (f : ByteArray → Int) : ∀ l : List ByteArray, cntZ f l = (l.filter fun a => f a ≠ 0).length
  | [] => rfl
  | a :: r => by
    simp only [cntZ, cntZ_filter f r]
    by_cases h : f a = 0
    · rw [if_pos h, List.filter_cons_of_neg (by simp [h])]; omega
    · rw [if_neg h, List.filter_cons_of_pos (by simp [h]), List.length_cons]; omega
theorem cnt_trL (accs : List ByteArray) (en : List Ent) : cntZ (fun a => balE a en) accs = (trL accs en).length := by
  rw [cntZ_filter, trL, List.length_map]
  exact (((sortS_perm accs).filter _).length_eq).symm
theorem cntZ_le (f : ByteArray → Int) : ∀ l : List ByteArray, cntZ f l ≤ l.length
  | [] => Nat.le_refl _
  | a :: r => by
    have := cntZ_le f r
    simp only [cntZ, List.length_cons]
    split <;> omega
theorem z13_loop {accs : List ByteArray} (hA : Accs accs) {en : List Ent} (hL : Lg accs en) (fl g : Bool) (T : List (List D)) : ∀ (n j : Nat) (r : List ByteArray) (c : Nat) (s v : Int), v = IntKind.i64.wrap s → accs.drop j = r → r.length < n → c + r.length ≤ 2000 →
    L_law51_LedgerZero 13 n (zS accs ((balL accs en).map encB) ((en.map (·.id)).map encK) (en.map eEn) fl g T (I v) (I c) (I j) .any .any .any) =
      some (.ex 2, ⟨[(0, .any), (1, .any), (4, .any), (5, .ptr 28 0), (6, .any), (7, .any), (8, .any), (9, .own true T), (10, I (IntKind.i64.wrap (s + accS (fun a => balE a en) r))), (11, I ((c + cntZ (fun a => balE a en) r : Nat) : Int)), (12, .any), (13, .any), (14, .any), (15, .any), (16, .any)],
    [(28, .box 56 [.mp 12800, .mp 12801, .row 12802]), (12800, .mp ((balL accs en).map encB)), (12801, .mp ((en.map (·.id)).map encK)), (12802, .row 41 3 fl (en.map eEn))]⟩) := by
  intro n
  induction n with
  | zero => intro j r c s v _ hr hn; omega
  | succ n ih =>
    intro j r c s v hv hr hn hc
    rw [L_law51_LedgerZero_succ, R_law51_LedgerZero_eq]
    cases r with
    | nil =>
      have h2 := dnG hr
      simp only [zS, accS, cntZ, Int.add_zero, Nat.add_zero, ← hv]
      generalize (balL accs en).map encB = M1 at *
      generalize (en.map (·.id)).map encK = M2 at *
      generalize en.map eEn = L at *
      simp [h2]
    | cons a r =>
      obtain ⟨h1, h3, hr', hi⟩ := dcG hr
      have hlA := hA.len
      have hw := wrapN (n := j) (by omega)
      simp only [List.length_cons] at hn hc
      have hwc := wrapN (n := c) (by omega)
      have h17 := z17_loop accs ((balL accs en).map encB) ((en.map (·.id)).map encK) en (by have := hL.len; omega) (fun x hx => by have := hL.psl x hx; omega) fl g T (I v) (I c) ⟨_, rfl⟩ ⟨_, rfl⟩ j a h3 h1 bigL 0 en 0 0 rfl rfl (by have := bigL_ge; have := hL.len; omega)
      have hbd := hL.bound a
      rw [Int.zero_add, wrap64 (by omega) (by omega)] at h17
      have hb := lbal_run accs en a
      rw [if_pos (hasK_mem.2 (List.mem_of_getElem? h1))] at hb
      have hv2 : IntKind.i64.wrap (v + balE a en) = IntKind.i64.wrap (s + balE a en) := by rw [hv, wrap_add]
      have ih' := fun c' hc' => ih (j + 1) r c' (s + balE a en) _ hv2 hr' (by omega) hc'
      have e : s + accS (fun a => balE a en) (a :: r) = s + balE a en + accS (fun a => balE a en) r := by simp only [accS]; omega
      rw [e]
      have c1 : ¬ balE a en < -72057594037927936 := by omega
      have c2 : ¬ 72057594037927936 < balE a en := by omega
      clear hbd ih e
      by_cases h0 : balE a en = 0
      · have e2 : cntZ (fun a => balE a en) (a :: r) = cntZ (fun a => balE a en) r := by simp [cntZ, h0]
        rw [e2]
        have ih' := ih' c (by omega)
        simp only [zS, ledE, Int.natCast_add, Int.cast_ofNat_Int] at ih' h17 hb ⊢
        generalize (balL accs en).map encB = M1 at *
        generalize (en.map (·.id)).map encK = M2 at *
        generalize en.map eEn = L at *
        generalize accS (fun a => balE a en) r = A1 at *
        generalize cntZ (fun a => balE a en) r = A2 at *
        generalize balE a en = b at *
        subst h0
        simp [h1, h3, hw, h17, hb]
        simpa using ih'
      · have e2 : c + cntZ (fun a => balE a en) (a :: r) = c + 1 + cntZ (fun a => balE a en) r := by simp [cntZ, h0]; omega
        rw [e2]
        have ih' := ih' (c + 1) (by omega)
        simp only [zS, ledE, Int.natCast_add, Int.cast_ofNat_Int] at ih' h17 hb ⊢
        generalize (balL accs en).map encB = M1 at *
        generalize (en.map (·.id)).map encK = M2 at *
        generalize en.map eEn = L at *
        generalize accS (fun a => balE a en) r = A1 at *
        generalize cntZ (fun a => balE a en) r = A2 at *
        generalize balE a en = b at *
        simp [h1, h3, hw, hwc, h17, hb, c1, c2, h0]
        simpa using ih'
end Go.Proofs.YtgngoijehjphoaaDoor
