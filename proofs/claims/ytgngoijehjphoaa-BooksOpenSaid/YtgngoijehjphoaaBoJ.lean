/-
  BooksOpen, run abstractly: whole; its inputs and its contract.
-/
import Derived.Test.YtgngoijehjphoaaBoI
import Derived.Test.YtgngoijehjphoaaCvV
namespace Go.Proofs.Ytgngoijehjphoaa
set_option linter.unusedSimpArgs false
set_option linter.unusedVariables false
open Go Go.Abs
set_option maxHeartbeats 16000000
set_option maxRecDepth 100000
def vW (f : ByteArray → Int) : List Int := acc8.map f
theorem b35_loop (o : Bool) (M1 M2 : List (Value × Value)) (L E : List (List D)) (fl f2 : Bool) {en : List Ent} (hL : Lg nm9 en) : ∀ (n j : Nat) (r : List ByteArray) (neg : Bool) (s v : Int), v = IntKind.i64.wrap s → acc8.drop j = r → r.length < n →
    L_law52_BooksOpen 35 n ⟨[(0, .any), (1, B o), (4, .any), (5, .own true (acc8.map eNm)), (6, .any), (7, .ptr 31 0), (8, .any), (9, .row 9), (10, .row 10), (11, .any), (12, .any), (13, .any), (14, .any), (15, .any), (16, .any), (17, B neg), (18, I v), (19, I j)],
      [(31, .box 57 [.mp 13100, .mp 13101, .row 13102]), (13100, .mp M1), (13101, .mp M2), (13102, .row 41 3 fl L), (9, .row 3 1 true ((acc8.map fun a => balE a en).map eI)), (10, .row 41 3 f2 E)]⟩ =
      some (.ex 6, ⟨[(0, .any), (1, B o), (4, .any), (5, .any), (6, .any), (7, .ptr 31 0), (8, .any), (9, .any), (10, .row 10), (11, .any), (12, .any), (13, .any), (14, .any), (15, .any), (16, .any), (17, B (neg || negR en r)), (18, I (IntKind.i64.wrap (s + accS (fun a => balE a en) r))), (19, .any)],
      [(31, .box 57 [.mp 13100, .mp 13101, .row 13102]), (13100, .mp M1), (13101, .mp M2), (13102, .row 41 3 fl L), (10, .row 41 3 f2 E)]⟩) := by
  intro n
  induction n with
  | zero => intro j r neg s v _ hr hn; omega
  | succ n ih =>
    intro j r neg s v hv hr hn
    rw [L_law52_BooksOpen_succ, R_law52_BooksOpen_eq]
    have hal : (acc8.map eNm).length = 8 := rfl
    have hl8 : (acc8.map fun a => balE a en).length = 8 := by simp [acc8_len]
    cases r with
    | nil =>
      have h2 := dnG hr
      rw [acc8_len] at h2
      have h2' : ¬ (j : Int) < 8 := h2
      simp only [accS, negR, Bool.or_false, Int.add_zero, ← hv]
      generalize acc8.map (fun a => balE a en) = l at *
      generalize acc8.map eNm = A at *
      simp [h2', hal, hl8]
    | cons a r =>
      obtain ⟨h1, _, hr', hj⟩ := dcG hr
      rw [acc8_len] at hj
      have h3 : (j : Int) < 8 := by omega
      have hw := wrapN (n := j) (by omega)
      simp only [List.length_cons] at hn
      have hA : (acc8.map eNm)[j]? = some [S a] := by rw [List.getElem?_map, h1]; rfl
      have hv1 : (acc8.map fun a => balE a en)[j]? = some (balE a en) := by rw [List.getElem?_map, h1]; rfl
      have ih' := fun neg => ih (j + 1) r neg (s + balE a en) (IntKind.i64.wrap (v + balE a en)) (by rw [hv, wrap_add]) hr' (by omega)
      have e : s + accS (fun a => balE a en) (a :: r) = s + balE a en + accS (fun a => balE a en) r := by simp only [accS]; omega
      rw [e]
      simp only [Int.natCast_add, Int.cast_ofNat_Int] at ih'
      generalize acc8.map (fun a => balE a en) = l at *
      generalize acc8.map eNm = A at *
      generalize accS (fun a => balE a en) r = S1 at *
      cases neg
      · by_cases c2 : a = sForest
        · have ih' := ih' false
          have c3 : negR en (a :: r) = negR en r := by simp [negR, c2]
          rw [c3]
          have c2' : a = ⟨#[102, 111, 114, 101, 115, 116]⟩ := c2
          generalize balE a en = b at *
          subst c2'
          simp [hA, hal, h3, hv1, hl8, hw]
          simpa using ih'
        · have ih' := ih' (decide (balE a en < 0))
          have c2' := notForest c2
          have c3 : (false || negR en (a :: r)) = (decide (balE a en < 0) || negR en r) := by
            simp only [Bool.false_or, negR]
            by_cases hb : balE a en < 0
            · rw [if_pos ⟨hb, c2⟩, decide_eq_true hb]; rfl
            · rw [if_neg (fun h => hb h.1), decide_eq_false hb]; rfl
          rw [c3]
          generalize balE a en = b at *
          simp [hA, hal, h3, hv1, hl8, c2', hw]
          simpa using ih'
      · have ih' := ih' true
        rw [Bool.true_or] at ih' ⊢
        generalize balE a en = b at *
        simp [hA, hal, h3, hv1, hl8, hw]
        simpa using ih'
abbrev sLast : ByteArray := ⟨#[108, 97, 115, 116]⟩
/-- The last entry. -/
abbrev lastE : Ent := ⟨sLast, 100, [⟨⟨#[111, 116, 104, 101, 114]⟩, 1⟩, ⟨⟨#[102, 111, 114, 101, 115, 116]⟩, -1⟩]⟩
theorem last_sum (a : ByteArray) : -1 ≤ sumP a lastE.ps ∧ sumP a lastE.ps ≤ 1 := by
  simp only [sumP]
  split <;> split <;> omega
theorem last_err {i : Nat} {en : List Ent} (hb : BkInv i en) (hi : i ≤ 60) : errP nm9 en lastE = 0 := by
  refine errP_of (by decide) (by decide) ?_ (by decide) (by decide) (fun m hm => by have := hb.last m hm; simp only; omega) (by simp) (by simp) (by decide +kernel) (by decide +kernel) (anyP_0.2 fun p _ => ?_) (by have := hb.len; omega)
  · intro hm
    obtain ⟨y, hy, e⟩ := List.mem_map.1 hm
    obtain ⟨j, _, h2⟩ := hb.ids y hy
    rw [h2] at e
    have := congrArg ByteArray.size e
    rw [idB_size] at this
    exact absurd this (by decide)
  · have := last_sum p.acc
    have := hb.bnd p.acc
    rw [outB_iff]
    omega
theorem last_acc {i : Nat} {en : List Ent} (hb : BkInv i en) : accS (fun a => balE a (en ++ [lastE])) acc8 = -1 := by
  have e : (fun a => balE a (en ++ [lastE])) = fun a => balE a en + sumP a lastE.ps := funext fun a => balE_snoc a en lastE
  rw [e, accS_add, hb.sum0]
  decide +kernel
theorem new9_run : E_ledger_New [] [.sl (nm9.map eNm)] = some (.tup [.ptr 15 0, I 0], [(15, .box 57 [.mp 11500, .mp 11501, .row 11502]), (11500, .mp ((balL nm9 []).map encB)), (11501, .mp []), (11502, .row 41 3 true [])]) := by
  rw [E_ledger_New_eq]
  have ih := new_loop nm9 (by decide) bigL 0 nm9 [] rfl (by have := bigL_ge; have : nm9.length = 9 := rfl; omega)
  have e0 : newE [] nm9 = 0 := by decide +kernel
  have e1 : newL [] nm9 = balL nm9 [] := by rfl
  rw [if_pos e0, e1] at ih
  have h9 : (nm9.map eNm).length = 9 := rfl
  have h9' : (nm9.length : Int) = 9 := rfl
  rw [h9'] at ih
  generalize nm9.map eNm = N at *
  generalize (balL nm9 []).map encB = M at *
  simp at ih
  simp [h9, ih]
theorem open_law (ms : List Mov) (hl : ms.length ≤ 9223372036854775807) (hok : ∀ x ∈ ms, x.Ok) (o : Bool) : F_law52_BooksOpen [.sl (ms.map eMv), B o] = some (B true) := by
  rw [F_law52_BooksOpen_eq]
  by_cases h60 : 60 < (ms.length : Int)
  · simp [h60, awake52_run]
  have ha := accounts_run
  have hal : (acc8.map eNm).length = 8 := rfl
  have hall : (∀ z ∈ acc8.map eNm, z.length = 1) = True := eq_true (fun z hz => by obtain ⟨y, _, rfl⟩ := List.mem_map.1 hz; rfl)
  have hn := new9_run
  have e9 : nm9.map eNm = [S sOther] :: acc8.map eNm := rfl
  rw [e9] at hn
  unfold sOther at hn
  obtain ⟨f1, f2, h12⟩ := b12_loop ms (by omega) hok o bigL 0 ms [] true true .zero rfl (by have := bigL_ge; omega)
  have e0 : (acc8.map fun a => IntKind.i64.wrap (balE a [])).map eI = [[I 0], [I 0], [I 0], [I 0], [I 0], [I 0], [I 0], [I 0]] := rfl
  have hinv := BkInv.zero.all (ms := ms) (by omega) hok
  rw [Nat.zero_add] at hinv
  generalize allB 0 [] ms = en at *
  have hw : (acc8.map fun a => IntKind.i64.wrap (balE a en)) = acc8.map fun a => balE a en := List.map_congr_left fun a _ => by
    have := hinv.L.bound a
    exact wrap64 (by omega) (by omega)
  rw [hw] at h12
  have h35 := b35_loop o ((balL nm9 en).map encB) ((en.map (·.id)).map encK) (en.map eEn) (en.map eEn) f1 f2 hinv.L bigL 0 acc8 false 0 0 rfl rfl (by have := bigL_ge; rw [acc8_len]; omega)
  rw [hinv.sum0] at h35
  have hO := open_run hinv.L (fun _ => hinv.acc) (by rw [hinv.sum0]; omega)
  rw [hinv.sum0, negR_L] at hO
  have hR := ropen_run hinv.L hinv.acc hinv.sum0
  have hP := post_L nm9_acc hinv.L f1 lastE
  rw [last_err hinv (by omega)] at hP
  have hL2 : Lg nm9 (en ++ [lastE]) := .snoc hinv.L (last_err hinv (by omega))
  have hO2 := open_run hL2 (fun h => by rw [last_acc hinv] at h; omega) (by rw [last_acc hinv]; omega)
  rw [last_acc hinv] at hO2
  simp only [bS, ledE, ledP, ledH, if_true, e0] at h12 hO hO2 hP
  generalize (balL nm9 []).map encB = M0 at *
  generalize (acc8.map fun a => balE a en).map eI = Sv at *
  generalize hA : acc8.map eNm = A at *
  generalize (balL nm9 en).map encB = M1 at *
  generalize (en.map (·.id)).map encK = M2 at *
  generalize en.map eEn = L at *
  generalize (balL nm9 (en ++ [lastE])).map encB = N1 at *
  generalize ((en ++ [lastE]).map (·.id)).map encK = N2 at *
  generalize (en ++ [lastE]).map eEn = N3 at *
  generalize negR en acc8 = ng at *
  clear hw e0 hA
  simp at h12 h35 hO hO2 hP
  cases ng <;> cases o <;> simp at h35 hO hR <;> simp [h60, ha, hal, hall, hn, h12, h35, hO, hR, openNil_run, hP, hO2, awake52_run]
end Go.Proofs.Ytgngoijehjphoaa
