/-
  The chapter's first example, run abstractly.
-/
import Derived.Test.YtgngoijehjphoaaDoorLgV
namespace Go.Proofs.YtgngoijehjphoaaDoor
set_option linter.unusedSimpArgs false
set_option linter.unusedVariables false
open Go Go.Abs
set_option maxHeartbeats 8000000
set_option maxRecDepth 100000
abbrev sLogs : ByteArray := ⟨#[108, 111, 103, 115]⟩
abbrev sGreen : ByteArray := ⟨#[103, 114, 101, 101, 110]⟩
abbrev awA : List ByteArray := [sLogs, sGreen]
abbrev awX : Ent := ⟨⟨#[101, 48, 45, 49]⟩, 7, [⟨sLogs, -5⟩, ⟨sGreen, 5⟩]⟩
abbrev awY : Ent := ⟨⟨#[101, 48, 45, 50]⟩, 6, [⟨sLogs, -5⟩, ⟨sGreen, 5⟩]⟩
theorem aw_mk : mkE awA = 0 := by decide +kernel
theorem aw_acc : Accs awA := accs_of aw_mk (by decide +kernel)
theorem aw_e1 : errP awA [] awX = 0 := by decide +kernel
theorem aw_e2 : errP awA [awX] awX = 7 := by decide +kernel
theorem aw_e3 : errP awA [awX] awY = 15 := by decide +kernel
theorem aw_L : Lg awA [awX] := .snoc .nil aw_e1
theorem itoa_d {n : Nat} (h : n < 10) : itoaS (n : Int) = ⟨#[UInt8.ofNat (48 + n)]⟩ := by
  have e : itoaS (n : Int) = natB n := by
    unfold itoaS natB Lib.itoa
    rw [if_neg (by omega)]
    rfl
  rw [e, natB_small h]
theorem itoa_n {n : Nat} (h : n < 10) (h0 : 0 < n) : itoaS (-(n : Int)) = ⟨#[45, UInt8.ofNat (48 + n)]⟩ := by
  have e : itoaS (-(n : Int)) = ⟨#[45]⟩ ++ natB n := by
    unfold itoaS natB Lib.itoa
    rw [if_pos (by omega)]
    apply ByteArray.ext
    simp
  rw [e, natB_small h]
  rfl
theorem aw_txt : txt awX = ⟨#[52, 32, 101, 48, 45, 49, 32, 55, 32, 108, 111, 103, 115, 32, 45, 53, 32, 103, 114, 101, 101, 110, 32, 53, 10]⟩ := by
  have h4 := itoa_d (n := 4) (by omega)
  have h7 := itoa_d (n := 7) (by omega)
  have h5 := itoa_d (n := 5) (by omega)
  have hm := itoa_n (n := 5) (by omega) (by omega)
  simp only [Int.cast_ofNat_Int] at h4 h7 h5 hm
  have hs : ((⟨#[101, 48, 45, 49]⟩ : ByteArray).size : Int) = 4 := rfl
  simp only [txt, txtP, hs, h4, h7, h5, hm]
  decide +kernel
theorem aw_dig : digM 0 [awX] ≠ 0 := by
  simp only [digM, aw_txt]
  decide +kernel
theorem aw_tr : trL awA [awX] = [⟨sGreen, 5⟩, ⟨sLogs, -5⟩] := by
  have hs : sortS awA = [sGreen, sLogs] := sorted_eq (sortS_sorted _) (by simp [SortedL]; decide +kernel) ((sortS_perm _).trans (by decide +kernel))
  have b1 : balE sGreen [awX] = 5 := by decide +kernel
  have b2 : balE sLogs [awX] = -5 := by decide +kernel
  unfold trL
  rw [hs]
  simp [b1, b2]
theorem entsO_loop (b : Bal) (ids : List ByteArray) (en : List Ent) (f0 : Bool) (hl : en.length ≤ 1000000) (hp : ∀ x ∈ en, x.ps.length ≤ 1000000) : ∀ (n i : Nat) (r : List Ent) (fl : Bool) (es : List Ent), en.drop i = r → r.length < n → es.length + r.length ≤ 1000000 →
    L_ledger_Ledger_Entries_obj 5 n ⟨[(0, .any), (2, .any), (3, .row 3), (5, .any), (11, .row 110002), (12, I en.length), (13, I i)], [(1000, .box 56 [.mp 110000, .mp 110001, .row 110002]), (110000, .mp (b.map encB)), (110001, .mp (ids.map encK)), (110002, .row 41 3 f0 (en.map eEn)), (3, .row 41 3 fl (es.map eEn))]⟩ =
      some (.ex 0, ⟨[(0, .any), (2, .any), (3, .row 3), (5, .any), (11, .any), (12, .any), (13, .any)], [(1000, .box 56 [.mp 110000, .mp 110001, .row 110002]), (110000, .mp (b.map encB)), (110001, .mp (ids.map encK)), (110002, .row 41 3 f0 (en.map eEn)), (3, .row 41 3 (fl && r.isEmpty) ((es ++ r).map eEn))]⟩) := by
  intro n
  induction n with
  | zero => intro i r fl es hr hn; omega
  | succ n ih =>
    intro i r fl es hr hn hes
    rw [L_ledger_Ledger_Entries_obj_succ, R_ledger_Ledger_Entries_obj_eq]
    cases r with
    | nil =>
      have h2 := dnG hr
      simp [h2]
    | cons x r =>
      obtain ⟨h1, h3, hr', hi⟩ := dcG hr
      have hw := wrapN (n := i) (by omega)
      simp only [List.length_cons] at hn hes
      have ih' := ih (i + 1) r false (es ++ [x]) hr' (by omega) (by simp; omega)
      simp only [Int.natCast_add, Int.cast_ofNat_Int] at ih'
      have hc := copyOf_run x (hp x (List.mem_of_getElem? h1))
      have hsz : (es.length + 1) * 49 ≤ 140737488355328 := by omega
      simp at hc
      simp [h1, h3, hc, hw, hsz]
      simpa using ih'
theorem entsO_run (b : Bal) (ids : List ByteArray) (en : List Ent) (f0 : Bool) (hl : en.length ≤ 1000000) (hp : ∀ x ∈ en, x.ps.length ≤ 1000000) : E_ledger_Ledger_Entries_obj (ledH 1000 b ids en f0) [.ptr 1000 0] =
    some (.row 3, [(1000, .box 56 [.mp 110000, .mp 110001, .row 110002]), (110000, .mp (b.map encB)), (110001, .mp (ids.map encK)), (110002, .row 41 3 f0 (en.map eEn)), (3, .row 41 3 en.isEmpty (en.map eEn))]) := by
  rw [E_ledger_Ledger_Entries_obj_eq]
  have ih := entsO_loop b ids en f0 hl hp bigL 0 en true [] rfl (by have := bigL_ge; omega) (by simpa using hl)
  simp at ih
  simp [ledH, ih]

theorem awake51_run : F_law51_awake [] = some (B true) := by
  rw [F_law51_awake_eq]
  have h1 := newGood_run awA aw_mk
  have d1 := ldig_run aw_acc (Lg.nil (accs := awA))
  have p1 := post_L aw_acc (Lg.nil (accs := awA)) true awX
  have p2 := post_L aw_acc aw_L false awX
  have p3 := post_L aw_acc aw_L false awY
  have b1 := lbal_run awA [awX] sGreen
  have t1 := ltrial_run aw_acc [awX]
  have e1 := entsO_run (balL awA [awX]) [awX.id] [awX] false (by simp) (by simp)
  have d2 := ldig_run aw_acc aw_L
  have s1 := sameP_run [⟨sGreen, 5⟩, ⟨sLogs, -5⟩] (by simp)
  rw [aw_e1] at p1
  rw [aw_e2] at p2
  rw [aw_e3] at p3
  rw [aw_tr] at t1
  rw [show (if hasK sGreen awA = true then balE sGreen [awX] else 0) = 5 by decide +kernel] at b1
  have hd := aw_dig
  generalize digM 0 [awX] = dg at *
  simp [ledP, ledH, ledE, digM] at h1 d1 p1 p2 p3 b1 t1 e1 d2 s1
  generalize hB0 : balL awA [] = B0 at *
  generalize hB1 : balL awA [awX] = B1 at *
  generalize hM0 : B0.map encB = M0 at *
  generalize hM1 : B1.map encB = M1 at *
  simp [h1, d1, p1, p2, p3, b1, t1, e1, d2, s1, hd]
end Go.Proofs.YtgngoijehjphoaaDoor
