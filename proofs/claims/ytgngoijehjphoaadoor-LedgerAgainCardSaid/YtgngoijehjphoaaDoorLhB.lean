/-
  LedgerZero: the trial balance; the statement.
-/
import Derived.Test.YtgngoijehjphoaaDoorLhA
namespace Go.Proofs.YtgngoijehjphoaaDoor
set_option linter.unusedSimpArgs false
set_option linter.unusedVariables false
open Go Go.Abs
set_option maxHeartbeats 16000000
set_option maxRecDepth 100000
/-- A trial balance: amounts that are not 0, ascending. -/
theorem trL_get {accs : List ByteArray} {en : List Ent} {i : Nat} {q : Pst} (h : (trL accs en)[i]? = some q) : q.acc ∈ accs ∧ q.amt = balE q.acc en ∧ q.amt ≠ 0 := by
  have hm := List.mem_of_getElem? h
  unfold trL at hm
  obtain ⟨a, ha, rfl⟩ := List.mem_map.1 hm
  obtain ⟨h1, h2⟩ := List.mem_filter.1 ha
  exact ⟨(sortS_perm accs).mem_iff.1 h1, rfl, by simpa using h2⟩
theorem trL_lt {accs : List ByteArray} (hn : accs.Nodup) {en : List Ent} {i : Nat} {p q : Pst} (h0 : (trL accs en)[i]? = some p) (h1 : (trL accs en)[i + 1]? = some q) : bytesL p.acc < bytesL q.acc := by
  have hs : ((sortS accs).filter fun a => balE a en ≠ 0).Pairwise fun a b => bytesL a < bytesL b := by
    have h1 : (sortS accs).Pairwise fun a b => bytesL a ≤ bytesL b := sortS_sorted accs
    have h2 : (sortS accs).Pairwise fun a b => a ≠ b := ((sortS_perm accs).nodup_iff.2 hn)
    exact ((h1.and h2).imp (fun h => by
      rcases List.le_iff_lt_or_eq.1 h.1 with h' | h'
      · exact h'
      · exact absurd (bytesL_inj h') h.2)).filter _
  unfold trL at h0 h1
  rw [List.getElem?_map] at h0 h1
  simp only [Option.map_eq_some_iff] at h0 h1
  obtain ⟨a, ha, rfl⟩ := h0
  obtain ⟨b, hb, rfl⟩ := h1
  generalize (sortS accs).filter (fun a => balE a en ≠ 0) = l at *
  rw [List.pairwise_iff_getElem] at hs
  obtain ⟨ha1, rfl⟩ := List.getElem?_eq_some_iff.1 ha
  obtain ⟨hb1, rfl⟩ := List.getElem?_eq_some_iff.1 hb
  exact hs i (i + 1) ha1 hb1 (by omega)
theorem lt_facts {a b : ByteArray} (h : bytesL a < bytesL b) : Op.bytesLess b.toList a.toList = false ∧ ¬ b = a := by
  constructor
  · have : ¬ bytesL b < bytesL a := List.lt_asymm h
    rw [← ltS_iff] at this
    simpa [ltS] using this
  · rintro rfl
    exact List.lt_irrefl _ h
/-- The state in which the trial balance is looked at. -/
def tS (accs : List ByteArray) (en : List Ent) (fl : Bool) (s c : Int) (d16 : D) : St :=
  ⟨[(0, .any), (1, .any), (4, .any), (5, .ptr 28 0), (6, .any), (7, .any), (8, .any), (9, .own true ((trL accs en).map ePs)), (10, I s), (11, I c), (12, .any), (13, .any), (14, .any), (15, .any), (16, d16)],
    [(28, .box 56 [.mp 12800, .mp 12801, .row 12802]), (12800, .mp ((balL accs en).map encB)), (12801, .mp ((en.map (·.id)).map encK)), (12802, .row 41 3 fl (en.map eEn))]⟩
theorem z30_loop {accs : List ByteArray} (hA : Accs accs) {en : List Ent} (fl : Bool) (s c : Int) : ∀ (n i : Nat) (r : List Pst), (trL accs en).drop i = r → r.length < n →
    L_law51_LedgerZero 30 n (tS accs en fl s c (I i)) = some (.ex 8, ⟨[(0, .any), (1, .any), (4, .any), (5, .any), (6, .any), (7, .any), (8, .any), (9, .own true ((trL accs en).map ePs)), (10, I s), (11, I c), (12, .any), (13, .any), (14, .any), (15, .any), (16, .any)], []⟩) := by
  intro n
  induction n with
  | zero => intro i r hr hn; omega
  | succ n ih =>
    intro i r hr hn
    rw [L_law51_LedgerZero_succ, R_law51_LedgerZero_eq]
    cases r with
    | nil =>
      have h2 := dnG hr
      simp only [tS]
      generalize (balL accs en).map encB = M1 at *
      generalize (en.map (·.id)).map encK = M2 at *
      generalize en.map eEn = L at *
      simp [h2]
    | cons q r =>
      obtain ⟨h1, h3, hr', hi⟩ := dcG hr
      have hlA := hA.len
      have hlT := trL_len (accs := accs) (en := en)
      have hw := wrapN (n := i) (by omega)
      simp only [List.length_cons] at hn
      obtain ⟨g1, g2, g3⟩ := trL_get h1
      have hb := lbal_run accs en q.acc
      rw [if_pos (hasK_mem.2 g1), ← g2] at hb
      have ih' := ih (i + 1) r hr' (by omega)
      by_cases hz : i = 0
      · have h0 : ¬ 0 < i := by omega
        simp only [tS, ledE, Int.natCast_add, Int.cast_ofNat_Int] at ih' hb ⊢
        generalize (balL accs en).map encB = M1 at *
        generalize (en.map (·.id)).map encK = M2 at *
        generalize en.map eEn = L at *
        generalize trL accs en = T at *
        simp [h1, h3, hb, g3, hw, h0]
        simpa using ih'
      · obtain ⟨p, hp⟩ : ∃ p, (trL accs en)[i - 1]? = some p := ⟨_, List.getElem?_eq_getElem (by omega)⟩
        obtain ⟨k1, k2⟩ := lt_facts (trL_lt hA.nd hp (by rw [show i - 1 + 1 = i by omega]; exact h1))
        have hwp := wrapP (n := i) hz (by omega)
        have h0 : 0 < i := by omega
        have h4 : ((i - 1 : Nat) : Int) < (trL accs en).length := by omega
        simp only [tS, ledE, Int.natCast_add, Int.cast_ofNat_Int] at ih' hb ⊢
        generalize (balL accs en).map encB = M1 at *
        generalize (en.map (·.id)).map encK = M2 at *
        generalize en.map eEn = L at *
        generalize trL accs en = T at *
        simp [h1, h3, hb, g3, hw, h0, hwp, hp, h4, k1, k2]
        simpa using ih'
theorem zero_law (l : List ByteArray) (ens : List Ent) (hl : l.length ≤ 9223372036854775807) (hens : ens.length ≤ 9223372036854775807) : F_law51_LedgerZero [.sl (l.map eNm), .sl (ens.map eEn)] = some (B true) := by
  rw [F_law51_LedgerZero_eq]
  have hf := few_run l hl
  have hs := short_run ens hens
  cases h0 : fewM l
  · simp [h0] at hf
    simp [hf, awake51_run]
  simp [h0] at hf
  cases h1 : shortM ens
  · simp [h1] at hs
    simp [hf, hs, awake51_run]
  simp [h1] at hs
  by_cases hm : mkE l = 0
  · have hn := newGood_run l hm
    have hA := accs_of hm (fun a ha => by simp [fewM] at h0; have := few100_mem h0.1 a ha; omega)
    have hl20 : ens.length ≤ 20 := by simp [shortM] at h1; omega
    obtain ⟨fl, hz⟩ := zpost_loop hA ens (by omega) bigL 0 ens [] true .nil rfl (by have := bigL_ge; omega)
    have hL := Lg.all (r := ens) (Lg.nil (accs := l))
    generalize postAll l [] ens = en at *
    have ht := ltrial_run hA en
    have he := entsO_run (balL l en) (en.map (·.id)) en fl (by have := hL.len; omega) (fun x hx => by have := hL.psl x hx; omega)
    have h13 := z13_loop hA hL fl en.isEmpty ((trL l en).map ePs) bigL 0 l 0 0 0 rfl rfl (by have := bigL_ge; have := hA.len; omega) (by have := hA.len; omega)
    have h30 := z30_loop hA (en := en) fl 0 ((trL l en).length) bigL 0 (trL l en) rfl (by have := bigL_ge; have := hA.len; have := trL_len (accs := l) (en := en); omega)
    rw [hL.zero hA.nd, cnt_trL, Nat.zero_add] at h13
    simp only [ledE, ledH, zS, tS] at ht he h13 h30
    generalize (balL l en).map encB = M1 at *
    generalize (en.map (·.id)).map encK = M2 at *
    generalize en.map eEn = L at *
    have hT : ((trL l en).map ePs).length = (trL l en).length := by simp
    generalize (trL l en).map ePs = T at *
    rw [← hT] at h13 h30
    simp at hz h13 h30
    simp [hf, hs, hn, hz, ht, he, h13, h30, awake51_run]
  · have hn := newBad_run l hm
    simp [hf, hs, hn, hm, awake51_run]
end Go.Proofs.YtgngoijehjphoaaDoor
