/-
  The statements' helpers, run abstractly: few accounts, short entries, a ledger that is the reference's.
-/
import Derived.Test.YtgngoijehjphoaaDoorLgS
namespace Go.Proofs.YtgngoijehjphoaaDoor
set_option linter.unusedSimpArgs false
set_option linter.unusedVariables false
open Go Go.Abs
set_option maxHeartbeats 8000000
set_option maxRecDepth 100000
/-! ### The trial balance -/
def trL (accs : List ByteArray) (en : List Ent) : List Pst := ((sortS accs).filter fun a => balE a en ≠ 0).map fun a => ⟨a, balE a en⟩
theorem insP_map (f : ByteArray → Int) (a : ByteArray) : ∀ l : List ByteArray, insP ⟨a, f a⟩ (l.map fun a => ⟨a, f a⟩) = (insL a l).map fun a => ⟨a, f a⟩
  | [] => rfl
  | x :: r => by
    simp only [List.map_cons, insP, insL, insP_map f a r]
    split <;> simp
theorem foldP_map (f : ByteArray → Int) : ∀ (accs out : List ByteArray), foldP f (out.map fun a => ⟨a, f a⟩) accs = (foldT f out accs).map fun a => ⟨a, f a⟩
  | [], out => rfl
  | a :: r, out => by
    simp only [foldP, foldT]
    by_cases h : f a = 0
    · rw [if_pos h, if_pos h, foldP_map f r out]
    · rw [if_neg h, if_neg h, insP_map, foldP_map f r]
theorem foldP_L (accs : List ByteArray) (en : List Ent) : foldP (fun a => balE a en) [] accs = trL accs en := by
  have h := foldP_map (fun a => balE a en) accs []
  rw [List.map_nil] at h
  rw [h, foldT_sort]
  rfl
theorem balO_getD {accs : List ByteArray} {en : List Ent} {a : ByteArray} (h : a ∈ accs) : (balO a (balL accs en)).getD 0 = balE a en := by
  rw [balL, balO_L, if_pos (hasK_mem.2 h)]
  rfl
theorem trR_filter {accs : List ByteArray} {en : List Ent} : ∀ {l : List ByteArray}, (∀ a ∈ l, a ∈ accs) → trR (balL accs en) l = (l.filter fun a => balE a en ≠ 0).map fun a => ⟨a, balE a en⟩
  | [], _ => rfl
  | a :: r, h => by
    have ih := trR_filter (en := en) (l := r) (fun b hb => h b (by simp [hb]))
    simp only [trR, balO_getD (h a (by simp))]
    by_cases h0 : balE a en = 0
    · rw [if_pos h0, ih, List.filter_cons_of_neg (by simp [h0])]
    · rw [if_neg h0, ih, List.filter_cons_of_pos (by simp [h0])]
      rfl
theorem keys_L (accs : List ByteArray) (en : List Ent) : (balL accs en).map (·.1) = accs := by
  simp [balL, Function.comp_def]
theorem trR_L (accs : List ByteArray) (en : List Ent) : trR (balL accs en) (sortS ((balL accs en).map (·.1))) = trL accs en := by
  rw [keys_L]
  exact trR_filter fun a ha => (sortS_perm accs).mem_iff.1 ha
theorem trL_len {accs : List ByteArray} {en : List Ent} : (trL accs en).length ≤ accs.length := by
  unfold trL
  rw [List.length_map]
  exact Nat.le_trans (List.length_filter_le _ _) (by rw [sortS_length]; exact Nat.le_refl _)
/-! ### A ledger's functions -/
theorem Lg.okE {accs : List ByteArray} (hA : Accs accs) {en : List Ent} (h : Lg accs en) : ∀ x ∈ en, OkE x := by
  intro x hx
  obtain ⟨p, _, h⟩ := h.prop hx
  obtain ⟨_, h2, _, h4, h5, _, _, h8, h9, _⟩ := errP_0 h
  have hp := pstP_0.1 h9
  refine ⟨by omega, h4, h5, by omega, fun q hq => hA.sz _ (hp q hq).1, fun q hq => ?_⟩
  have := outB_iff.1 (hp q hq).2
  omega
/-- A ledger that is only looked at. -/
abbrev ledE (accs : List ByteArray) (en : List Ent) : D := .elt [.mpv ((balL accs en).map encB), .mpv ((en.map (·.id)).map encK), .sl (en.map eEn)]
theorem lbal_run (accs : List ByteArray) (en : List Ent) (a : ByteArray) : F_ledger_Ledger_Balance [ledE accs en, S a] = some (I (if hasK a accs = true then balE a en else 0)) := by
  have h := balance_run (balL accs en) ((en.map (·.id)).map encK) (en.map eEn) a
  rw [h, balL, balO_L]
  split <;> rfl
theorem lents_run {accs : List ByteArray} {en : List Ent} (h : Lg accs en) : F_ledger_Ledger_Entries [ledE accs en] = some (.own en.isEmpty (en.map eEn)) := by
  rw [ents_run (balL accs en) (en.map (·.id)) en (by have := h.len; omega) (fun x hx => by have := h.psl x hx; omega)]
theorem ltrial_run {accs : List ByteArray} (hA : Accs accs) (en : List Ent) : F_ledger_Ledger_Trial [ledE accs en] = some (.own true ((trL accs en).map ePs)) := by
  have h := trial_run (balL accs en) (en.map (·.id)) en (fun x hx => by
    obtain ⟨a, ha, rfl⟩ := List.mem_map.1 hx
    exact hA.sz a ha) (by have := hA.len; simpa [balL] using this)
  rw [trR_L] at h
  rw [h]
theorem ldig_run {accs : List ByteArray} (hA : Accs accs) {en : List Ent} (h : Lg accs en) : F_ledger_Ledger_Digest [ledE accs en] = some (.x (.int .u64 (digM 0 en))) := by
  rw [dig_run (balL accs en) (en.map (·.id)) en (by have := h.len; omega) (h.okE hA)]
/-- The reference's ledger. -/
abbrev ledR (accs : List ByteArray) (en : List Ent) : D := .agg [.sl (accs.map eNm), .sl (en.map eEn)]
theorem rbal_run (accs : List ByteArray) {en : List Ent} (h : Lg accs en) (a : ByteArray) : F_ref51_L_Balance [ledR accs en, S a] = some (I (balE a en)) := by
  have := balR_run accs en (by have := h.len; omega) (fun x hx => by have := h.psl x hx; omega) a
  rw [h.balW] at this
  rw [this]
theorem rents_L (accs : List ByteArray) {en : List Ent} (h : Lg accs en) : F_ref51_L_Entries [ledR accs en] = some (.own en.isEmpty (en.map eEn)) := by
  rw [rents_run (accs.map eNm) en (by have := h.len; omega) (fun x hx => by have := h.psl x hx; omega)]
theorem rtrial_L {accs : List ByteArray} (hA : Accs accs) {en : List Ent} (h : Lg accs en) : F_ref51_L_Trial [ledR accs en] = some (.own true ((trL accs en).map ePs)) := by
  have := rtrial_run accs en (fun a => balE a en) (fun a => rbal_run accs h a) hA.len
  rw [foldP_L] at this
  rw [this]
theorem rdig_L {accs : List ByteArray} (hA : Accs accs) {en : List Ent} (h : Lg accs en) : F_ref51_L_Digest [ledR accs en] = some (.x (.int .u64 (digM 0 en))) := by
  rw [digR_run accs en (by have := h.len; omega) (h.okE hA)]
/-! ### Few accounts, short entries -/
def few100 : List ByteArray → Bool
  | [] => true
  | a :: r => if 100 < (a.size : Int) then false else few100 r
def fewM (l : List ByteArray) : Bool := few100 l && decide ((l.length : Int) ≤ 80)
theorem few_loop (l : List ByteArray) (hl : l.length ≤ 9223372036854775807) : ∀ (n i : Nat) (r : List ByteArray), l.drop i = r → r.length < n →
    L_law51_few 2 n ⟨[(0, .sl (l.map eNm)), (2, .any), (3, I i)], []⟩ = if few100 r = true then some (.ex 0, ⟨[(0, .sl (l.map eNm)), (2, .any), (3, .any)], []⟩) else some (.ret, ⟨[(0, .any), (2, B false), (3, .any)], []⟩) := by
  intro n
  induction n with
  | zero => intro i r hr hn; omega
  | succ n ih =>
    intro i r hr hn
    rw [L_law51_few_succ, R_law51_few_eq]
    cases r with
    | nil =>
      have h2 := dnG hr
      simp [h2, few100]
    | cons a r =>
      obtain ⟨h1, h3, hr', hi⟩ := dcG hr
      have hw := wrapN (n := i) (by omega)
      simp only [List.length_cons] at hn
      have ih' := ih (i + 1) r hr' (by omega)
      simp only [Int.natCast_add, Int.cast_ofNat_Int] at ih'
      by_cases hc : 100 < (a.size : Int)
      · simp [h1, h3, few100, hc]
      · simp [h1, h3, few100, hc, hw]
        simpa using ih'
theorem few_run (l : List ByteArray) (hl : l.length ≤ 9223372036854775807) : F_law51_few [.sl (l.map eNm)] = some (B (fewM l)) := by
  rw [F_law51_few_eq]
  have ih := few_loop l hl bigL 0 l rfl (by have := bigL_ge; omega)
  simp at ih
  cases h : few100 l
  · simp [h] at ih
    simp [ih, fewM, h]
  · simp [h] at ih
    simp [ih, fewM, h]
theorem few100_mem : ∀ {l : List ByteArray}, few100 l = true → ∀ a ∈ l, a.size ≤ 100
  | [], _, a, ha => by cases ha
  | x :: r, h, a, ha => by
    simp only [few100] at h
    split at h
    · cases h
    · rcases List.mem_cons.1 ha with rfl | ha
      · omega
      · exact few100_mem h a ha
def acc100 : List Pst → Bool
  | [] => true
  | p :: r => if 100 < (p.acc.size : Int) then false else acc100 r
def short100 : List Ent → Bool
  | [] => true
  | x :: r => if (x.ps.length : Int) ≤ 40 then if 100 < (x.id.size : Int) then false else if acc100 x.ps = true then short100 r else false else false
def shortM (l : List Ent) : Bool := short100 l && decide ((l.length : Int) ≤ 20)
theorem shortP_loop (l : List Ent) (i : Nat) (x : Ent) (hi : (i : Int) < l.length) (h1 : l[i]? = some x) (hx : x.ps.length ≤ 1000) : ∀ (n k : Nat) (r : List Pst), x.ps.drop k = r → r.length < n →
    L_law51_short 7 n ⟨[(0, .sl (l.map eEn)), (2, .any), (3, I i), (4, I k)], []⟩ = if acc100 r = true then some (.ex 2, ⟨[(0, .sl (l.map eEn)), (2, .any), (3, I i), (4, .any)], []⟩) else some (.ret, ⟨[(0, .any), (2, B false), (3, .any), (4, .any)], []⟩) := by
  intro n
  induction n with
  | zero => intro k r hr hn; omega
  | succ n ih =>
    intro k r hr hn
    rw [L_law51_short_succ, R_law51_short_eq]
    cases r with
    | nil =>
      have h2 := dnG hr
      simp [h1, hi, h2, acc100]
    | cons p r =>
      obtain ⟨k1, k3, hr', hk⟩ := dcG hr
      have hw := wrapN (n := k) (by omega)
      simp only [List.length_cons] at hn
      have ih' := ih (k + 1) r hr' (by omega)
      simp only [Int.natCast_add, Int.cast_ofNat_Int] at ih'
      by_cases hc : 100 < (p.acc.size : Int)
      · simp [h1, hi, k1, k3, acc100, hc]
      · simp [h1, hi, k1, k3, acc100, hc, hw]
        simpa using ih'
theorem short_loop (l : List Ent) (hl : l.length ≤ 9223372036854775807) : ∀ (n i : Nat) (r : List Ent), l.drop i = r → r.length < n →
    L_law51_short 2 n ⟨[(0, .sl (l.map eEn)), (2, .any), (3, I i), (4, .any)], []⟩ = if short100 r = true then some (.ex 0, ⟨[(0, .sl (l.map eEn)), (2, .any), (3, .any), (4, .any)], []⟩) else some (.ret, ⟨[(0, .any), (2, B false), (3, .any), (4, .any)], []⟩) := by
  intro n
  induction n with
  | zero => intro i r hr hn; omega
  | succ n ih =>
    intro i r hr hn
    rw [L_law51_short_succ, R_law51_short_eq]
    cases r with
    | nil =>
      have h2 := dnG hr
      simp [h2, short100]
    | cons x r =>
      obtain ⟨h1, h3, hr', hi⟩ := dcG hr
      have hw := wrapN (n := i) (by omega)
      simp only [List.length_cons] at hn
      have ih' := ih (i + 1) r hr' (by omega)
      simp only [Int.natCast_add, Int.cast_ofNat_Int] at ih'
      by_cases c1 : (x.ps.length : Int) ≤ 40
      · by_cases c2 : 100 < (x.id.size : Int)
        · simp [h1, h3, short100, c1, c2]
        · have hP := shortP_loop l i x h3 h1 (by omega) bigL 0 x.ps rfl (by have := bigL_ge; omega)
          simp at hP
          cases c3 : acc100 x.ps
          · simp [c3] at hP
            simp [h1, h3, short100, c1, c2, c3, hP]
          · simp [c3] at hP
            simp [h1, h3, short100, c1, c2, c3, hP, hw]
            simpa using ih'
      · simp [h1, h3, short100, c1]
theorem short_run (l : List Ent) (hl : l.length ≤ 9223372036854775807) : F_law51_short [.sl (l.map eEn)] = some (B (shortM l)) := by
  rw [F_law51_short_eq]
  have ih := short_loop l hl bigL 0 l rfl (by have := bigL_ge; omega)
  simp at ih
  cases h : short100 l
  · simp [h] at ih
    simp [ih, shortM, h]
  · simp [h] at ih
    simp [ih, shortM, h]
/-! ### A ledger that is the reference's -/
theorem is_loop {accs : List ByteArray} (hA : Accs accs) {en : List Ent} (h : Lg accs en) : ∀ (n i : Nat) (r : List ByteArray), accs.drop i = r → r.length < n →
    L_law51_is 2 n ⟨[(0, ledE accs en), (1, .any), (2, .sl (accs.map eNm)), (4, .ptr 4 0), (6, .any), (7, I i)], [(4, .box 31 [.sl (accs.map eNm), .sl (en.map eEn)])]⟩ =
      some (.ex 0, ⟨[(0, ledE accs en), (1, .any), (2, .any), (4, .ptr 4 0), (6, .any), (7, .any)], [(4, .box 31 [.sl (accs.map eNm), .sl (en.map eEn)])]⟩) := by
  intro n
  induction n with
  | zero => intro i r hr hn; omega
  | succ n ih =>
    intro i r hr hn
    rw [L_law51_is_succ, R_law51_is_eq]
    cases r with
    | nil =>
      have h2 := dnG hr
      simp [h2]
    | cons a r =>
      obtain ⟨h1, h3, hr', hi⟩ := dcG hr
      have hl := hA.len
      have hw := wrapN (n := i) (by omega)
      simp only [List.length_cons] at hn
      have ih' := ih (i + 1) r hr' (by omega)
      simp only [Int.natCast_add, Int.cast_ofNat_Int] at ih'
      have b1 := lbal_run accs en a
      rw [if_pos (hasK_mem.2 (List.mem_of_getElem? h1))] at b1
      have b2 := rbal_run accs h a
      simp only [ledE, ledR] at b1 b2 ⊢
      simp only [ledE] at ih'
      generalize (balL accs en).map encB = M1 at *
      generalize (en.map (·.id)).map encK = M2 at *
      generalize en.map eEn = L at *
      simp [h1, h3, b1, b2, hw]
      simpa using ih'
theorem is_run {accs : List ByteArray} (hA : Accs accs) {en : List Ent} (h : Lg accs en) : F_law51_is [ledE accs en, ledR accs en, .sl (accs.map eNm)] = some (B true) := by
  rw [F_law51_is_eq]
  have ih := is_loop hA h bigL 0 accs rfl (by have := bigL_ge; have := hA.len; omega)
  have a1 := lents_run h
  have a2 := rents_L accs h
  have a3 := sameE_run en (by have := h.len; omega) (fun x hx => by have := h.psl x hx; omega)
  have a4 := ltrial_run hA en
  have a5 := rtrial_L hA h
  have a6 := sameP_run (trL accs en) (by have := trL_len (accs := accs) (en := en); have := hA.len; omega)
  have a7 := ldig_run hA h
  have a8 := rdig_L hA h
  simp only [ledE, ledR] at *
  generalize (balL accs en).map encB = M1 at *
  generalize (en.map (·.id)).map encK = M2 at *
  generalize en.map eEn = L at *
  generalize (trL accs en).map ePs = T at *
  simp at ih
  simp [ih, a1, a2, a3, a4, a5, a6, a7, a8]
end Go.Proofs.YtgngoijehjphoaaDoor
