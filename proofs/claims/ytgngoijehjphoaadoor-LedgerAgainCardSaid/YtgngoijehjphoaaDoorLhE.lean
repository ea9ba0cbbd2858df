/-
  LedgerAgain, run abstractly: the opposite entry; the statement.
-/
import Derived.Test.YtgngoijehjphoaaDoorLhD
namespace Go.Proofs.YtgngoijehjphoaaDoor
set_option linter.unusedSimpArgs false
set_option linter.unusedVariables false
open Go Go.Abs
set_option maxHeartbeats 16000000
set_option maxRecDepth 100000
theorem ag26_loop (x : Ent) (hps : x.ps.length ≤ 16) (ho : ∀ p ∈ x.ps, outB p.amt = false) (L : List (List D)) (hg : L[0]? = some [S x.id, I x.t, .sl (x.ps.map ePs)]) (hlp : (0 : Int) < L.length) (g : Bool) (i' : ByteArray) (N1 N2 : List (Value × Value)) (N3 : List (List D)) : ∀ (n k : Nat) (r es : List Pst), x.ps.drop k = r → r.length < n → es.length + r.length ≤ 16 →
    L_law51_LedgerAgain 26 n ⟨[(0, .any), (1, .any), (4, .any), (5, .any), (6, .any), (7, .any), (8, .any), (9, .any), (10, .own g L), (11, .any), (12, .ptr 103 0), (13, .any), (14, .ptr 14 0), (15, I k), (16, .any)],
      [(103, .box 56 [.mp 20300, .mp 20301, .row 20302]), (20300, .mp N1), (20301, .mp N2), (20302, .row 41 3 false N3), (14, .box 41 [S i', I x.t, .row 11402]), (11402, .row 47 2 true (es.map ePs))]⟩ =
      some (.ex 4, ⟨[(0, .any), (1, .any), (4, .any), (5, .any), (6, .any), (7, .any), (8, .any), (9, .any), (10, .own g L), (11, .any), (12, .ptr 103 0), (13, .any), (14, .ptr 14 0), (15, .any), (16, .any)],
      [(103, .box 56 [.mp 20300, .mp 20301, .row 20302]), (20300, .mp N1), (20301, .mp N2), (20302, .row 41 3 false N3), (14, .box 41 [S i', I x.t, .row 11402]), (11402, .row 47 2 true ((es ++ r.map negP).map ePs))]⟩) := by
  intro n
  induction n with
  | zero => intro k r es hr hn; omega
  | succ n ih =>
    intro k r es hr hn hes
    rw [L_law51_LedgerAgain_succ, R_law51_LedgerAgain_eq]
    cases r with
    | nil =>
      have h2 := dnG hr
      simp [hg, hlp, h2]
    | cons p r =>
      obtain ⟨h1, h3, hr', hi⟩ := dcG hr
      have hw := wrapN (n := k) (by omega)
      simp only [List.length_cons] at hn hes
      have hb := outB_iff.1 (ho p (List.mem_of_getElem? h1))
      have hwn : IntKind.i64.wrap (-p.amt) = -p.amt := wrap64 (by omega) (by omega)
      have ih' := ih (k + 1) r (es ++ [negP p]) hr' (by omega) (by simp; omega)
      have hsz : (es.length + 1) * 25 ≤ 140737488355328 := by omega
      simp only [Int.natCast_add, Int.cast_ofNat_Int] at ih'
      simp [hg, hlp, h1, h3, hw, hwn, hsz]
      simpa [negP] using ih'
theorem trL_zero {accs : List ByteArray} {en : List Ent} (h : ∀ a, balE a en = 0) : trL accs en = [] := by
  unfold trL
  rw [List.map_eq_nil_iff, List.filter_eq_nil_iff]
  intro a _
  simp [h a]
theorem again_law (l : List ByteArray) (ens : List Ent) (hl : l.length ≤ 9223372036854775807) (hens : ens.length ≤ 9223372036854775807) : F_law51_LedgerAgain [.sl (l.map eNm), .sl (ens.map eEn)] = some (B true) := by
  rw [F_law51_LedgerAgain_eq]
  have hf := few_run l hl
  have hs := short_run ens hens
  cases h0 : fewM l
  · simp [h0] at hf
    simp [hf, awake51_run]
  simp [h0] at hf
  cases h1 : shortM ens
  · simp [h1] at hs
    simp [hf, hs, awake51_run]
  simp [h1] at hs
  by_cases hm : mkE l = 0
  case neg =>
    have hn := newBad_run l hm
    simp [hf, hs, hn, hm, awake51_run]
  have hn := newGood_run l hm
  have hA := accs_of hm (fun a ha => by simp [fewM] at h0; have := few100_mem h0.1 a ha; omega)
  have hl20 : ens.length ≤ 20 := by simp [shortM] at h1; omega
  obtain ⟨f1, i8⟩ := ag8_loop hA ((balL l []).map encB) [] [] ens (by omega) bigL 0 ens [] true .nil rfl (by have := bigL_ge; omega)
  have hL := Lg.all (r := ens) (Lg.nil (accs := l))
  generalize postAll l [] ens = en at *
  have hE := entsO_run (balL l en) (en.map (·.id)) en f1 (by have := hL.len; omega) (fun x hx => by have := hL.psl x hx; omega)
  obtain ⟨f2, i13⟩ := ag13_loop hA hL ((balL l en).map encB) ((en.map (·.id)).map encK) f1 en.isEmpty bigL 0 en [] true rfl rfl (by have := bigL_ge; have := hL.len; omega)
  have hT := ltrial_run hA en
  have hD := ldig_run hA hL
  have hS := sameP_run (trL l en) (by have := trL_len (accs := l) (en := en); have := hA.len; omega)
  have hlen : ((en.map eEn).length : Int) = en.length := by simp
  by_cases hz : en = []
  · have hlz : (en.map eEn).length = 0 := by simp [hz]
    simp only [ledE, ledH] at hE hT hD
    generalize (balL l en).map encB = M1 at *
    generalize (en.map (·.id)).map encK = M2 at *
    generalize en.map eEn = L at *
    generalize (balL l []).map encB = M0 at *
    generalize (trL l en).map ePs = T at *
    simp at i8 i13
    simp [hf, hs, hn, i8, hE, i13, hT, hD, hS, hlz, awake51_run]
  obtain ⟨x, r, hx⟩ : ∃ x r, en = x :: r := by
    cases en with
    | nil => exact absurd rfl hz
    | cons x r => exact ⟨x, r, rfl⟩
  obtain ⟨_, hx0⟩ := hL.at (p := []) hx
  have hg : (en.map eEn)[0]? = some (eEn x) := by rw [hx]; rfl
  have hlz : ¬ (en.map eEn).length = 0 := by simp [hz]
  have hlp : (0 : Int) < (en.map eEn).length := by omega
  have hP0 := post_L hA (Lg.nil (accs := l)) true x
  rw [hx0] at hP0
  obtain ⟨hid, sz2, _, _, _, _, _, hps, hpp, _⟩ := errP_0 hx0
  have sz0 : x.id.size ≠ 0 := fun h => hid (sizeNil.1 (by omega))
  have sz1 : (1 : Int) ≤ x.id.size := by omega
  have k1 : ¬ (9223372036854775807 : Int) < ((x.id.size - 1 : Nat) : Int) + ((⟨#[63]⟩ : ByteArray).size : Int) := by
    show ¬ (9223372036854775807 : Int) < ((x.id.size - 1 : Nat) : Int) + 1
    omega
  obtain ⟨i', hi'⟩ : ∃ i', i' = x.id.extract 1 x.id.size ++ ⟨#[63]⟩ := ⟨_, rfl⟩
  have szi : i'.size = x.id.size := by
    rw [hi', ByteArray.size_append, ByteArray.size_extract]
    show min x.id.size x.id.size - 1 + 1 = x.id.size
    omega
  have hL1 : Lg l [x] := .snoc .nil hx0
  have i26 := ag26_loop x hps (fun p hp => (pstP_0.1 hpp p hp).2) (en.map eEn) hg hlp en.isEmpty i' ((balL l ([] ++ [x])).map encB) ((((([] : List Ent) ++ [x])).map (·.id)).map encK) (([] ++ [x]).map eEn) bigL 0 x.ps [] rfl (by have := bigL_ge; omega) (by simpa using hps)
  by_cases hsame : i' = x.id
  · simp only [ledE, ledH, ledP, if_true] at hE hT hD hP0
    generalize (balL l en).map encB = M1 at *
    generalize (en.map (·.id)).map encK = M2 at *
    generalize en.map eEn = L at *
    generalize (balL l []).map encB = M0 at *
    generalize (trL l en).map ePs = T at *
    generalize hN1 : (balL l (([] : List Ent) ++ [x])).map encB = N1 at *
    generalize hN2 : ((([] : List Ent) ++ [x]).map (·.id)).map encK = N2 at *
    generalize hN3 : (([] : List Ent) ++ [x]).map eEn = N3 at *
    rw [hsame] at i26
    simp at i8 i13 hP0 hg i26
    simp [hf, hs, hn, i8, hE, i13, hT, hD, hS, hz, hlz, hg, hlp, hP0, hid, idNil, sz1, k1, ← hi', i26, hsame, awake51_run]
  · have hne : i' ≠ ByteArray.empty := fun h => sz0 (by rw [← szi, h]; rfl)
    obtain ⟨y, hy⟩ : ∃ y : Ent, y = ⟨i', x.t, x.ps.map negP⟩ := ⟨_, rfl⟩
    have hx1 : errP l [x] y = 0 := by rw [hy]; exact opp_ok hx0 hne (by omega) hsame
    have hz2 : trL l ([x] ++ [y]) = [] := trL_zero fun a => by rw [hy]; exact opp_bal x i' a
    have y1 : y.id = i' := by rw [hy]
    have y2 : y.t = x.t := by rw [hy]
    have y3 : y.ps = x.ps.map negP := by rw [hy]
    clear hy
    have hL2 : Lg l ([x] ++ [y]) := .snoc hL1 hx1
    have hP1 := post_L hA hL1 false y
    rw [hx1] at hP1
    have hT2 := ltrial_run hA ([x] ++ [y])
    rw [hz2] at hT2
    have hE2 := entsO_run (balL l ([x] ++ [y])) (([x] ++ [y]).map (·.id)) ([x] ++ [y]) false (by simp) (by simp [y3]; omega)
    have hl2 : ((([x] ++ [y] : List Ent).map eEn).length : Int) = 2 := by simp
    rw [List.nil_append] at hP0 i26
    simp only [ledE, ledH, ledP, if_true] at hE hT hD hP0 hP1 hT2 hE2
    generalize (balL l en).map encB = M1 at *
    generalize (en.map (·.id)).map encK = M2 at *
    generalize en.map eEn = L at *
    generalize (balL l []).map encB = M0 at *
    generalize (trL l en).map ePs = T at *
    generalize hN1 : (balL l [x]).map encB = N1 at *
    generalize hN2 : ([x].map (·.id)).map encK = N2 at *
    generalize hN3 : [x].map eEn = N3 at *
    generalize hR1 : (balL l ([x] ++ [y])).map encB = R1 at *
    generalize hR2 : (([x] ++ [y]).map (·.id)).map encK = R2 at *
    generalize hR3 : ([x] ++ [y]).map eEn = R3 at *
    clear hR1 hR2 hR3 hN1 hN2 hN3
    simp at i8 i13 hP0 hg i26 hE2
    simp [y1, y2, y3] at hP1
    simp [hf, hs, hn, i8, hE, i13, hT, hD, hS, hz, hlz, hg, hlp, hP0, hid, idNil, sz1, k1, ← hi', i26, hsame, hP1, hT2, hE2, hl2, awake51_run]
end Go.Proofs.YtgngoijehjphoaaDoor
