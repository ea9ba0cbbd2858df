/-
  KilnAlone in plain words: a board dries as if it were alone, as long as the fans run.
-/
import Derived.Test.YthgamgdcjgbmnaaDoorKlP
namespace Go.Proofs.YthgamgdcjgbmnaaDoor
set_option linter.unusedSimpArgs false
set_option linter.unusedVariables false
open Go Go.Abs
set_option maxHeartbeats 2000000
set_option maxRecDepth 100000
theorem inLm_iff (v : Int) : ∀ l : List Int, inL v l = true ↔ v ∈ l
  | [] => by simp [inL]
  | x :: r => by
    have ih := inLm_iff v r
    unfold inL
    by_cases h : v = x
    · simp [h]
    · simp [h, ih]
/-- Faults from the last to the first, each twice. -/
def backL (f : List Int) : List Int := f.reverse.flatMap fun x => [x, x]
theorem inL_back (v : Int) (f : List Int) : inL v (backL f) = inL v f := by
  rw [Bool.eq_iff_iff, inLm_iff, inLm_iff]
  simp [backL]
theorem nextT_back (a b r : Int) (f : List Int) : nextT a b r (backL f) = nextT a b r f := by
  unfold nextT goalT
  rw [inL_back]
theorem nextD_back (a b r : Int) (f : List Int) : nextD a b r (backL f) = nextD a b r f := by
  unfold nextD goalD
  rw [inL_back]
/-- A kiln with one of the boards of another kiln. -/
structure Al (k o : Kl) (i : Nat) : Prop where
  ramp : o.ramp = k.ramp
  stages : o.stages = k.stages
  w : o.w = k.w
  items : ∃ x, k.items[i]? = some x ∧ o.items = [x]
  t : o.t = k.t
  d : o.d = k.d
  held : k.held = 0
theorem steep_one {m : Int} {w : Spc} {t d : Int} : ∀ {l : List Itm}, steepL m (dryL w t d true l) l = false → ∀ x ∈ l, steepL m (dryL w t d true [x]) [x] = false
  | [], _, x, hx => by cases hx
  | y :: r, h, x, hx => by
    simp only [dryL, steepL] at h ⊢
    split at h
    · cases h
    · rename_i hn
      rcases List.mem_cons.1 hx with rfl | hx
      · rw [if_neg hn]
      · have := steep_one h x hx
        simpa only [dryL, steepL] using this
theorem dryL_get {w : Spc} {t d : Int} {fan : Bool} : ∀ {l : List Itm} {i : Nat} {x : Itm}, l[i]? = some x → (dryL w t d fan l)[i]? = some ⟨x.th, tick x.cel w x.th t d fan⟩
  | y :: r, 0, x, h => by
    simp at h
    subst h
    rfl
  | y :: r, i + 1, x, h => by
    simp only [dryL, List.getElem?_cons_succ] at h ⊢
    exact dryL_get h
theorem alone_step {k o : Kl} {i : Nat} (h : Al k o i) (hs : o.stage = k.stage) (f : List Int) (hh : ¬ 0 < (stepK k f).held) : Al (stepK k f) (stepK o (backL f)) i := by
  obtain ⟨h1, h2, h3, ⟨x, hx, h4⟩, h5, h6, h7⟩ := h
  have eS : stgK o = stgK k := by unfold stgK; rw [h2, hs]
  have eT : tgtT o = tgtT k := by unfold tgtT; rw [eS, h3]
  have eD : tgtD o = tgtD k := by unfold tgtD; rw [eS, h3]
  by_cases hd : k.stage = k.stages.length
  · have e1 : stepK k f = k := by unfold stepK; rw [if_pos hd]
    have e2 : stepK o (backL f) = o := by unfold stepK; rw [if_pos (by rw [hs, h2]; exact hd)]
    rw [e1, e2]
    exact ⟨h1, h2, h3, ⟨x, hx, h4⟩, h5, h6, h7⟩
  · have e1 : stepK k f = tickK k f := by unfold stepK; rw [if_neg hd]
    have e2 : stepK o (backL f) = tickK o (backL f) := by unfold stepK; rw [if_neg (by rw [hs, h2]; exact hd)]
    rw [e1] at hh ⊢
    rw [e2]
    have e3 : tickK o (backL f) = tickC o (nextT k.t (tgtT k) k.ramp f) (nextD k.d (tgtD k) k.ramp f) (inL 2 f) := by
      unfold tickK
      rw [nextT_back, nextD_back, inL_back, eT, eD, h1, h5, h6]
    rw [e3]
    unfold tickK at hh ⊢
    generalize nextT k.t (tgtT k) k.ramp f = t at *
    generalize nextD k.d (tgtD k) k.ramp f = d at *
    generalize inL 2 f = st at *
    have hno : holdK k t d st = false := by
      cases hk : holdK k t d st with
      | false => rfl
      | true =>
        exfalso
        apply hh
        show 0 < (if holdK k t d st = true then IntKind.i64.wrap (k.held + 1) else k.held)
        rw [hk, if_pos rfl, h7]
        decide
    have hheld : (tickC k t d st).held = 0 := by
      show (if holdK k t d st = true then IntKind.i64.wrap (k.held + 1) else k.held) = 0
      rw [hno, if_neg (by decide)]
      exact h7
    refine ⟨h1, h2, h3, ⟨⟨x.th, tick x.cel k.w x.th t d (!st)⟩, ?_, ?_⟩, rfl, rfl, hheld⟩
    · show (itsK k t d st)[i]? = _
      unfold itsK
      unfold holdK at hno
      cases st
      · simp only [Bool.not_false, Bool.true_and] at hno ⊢
        rw [hno]
        exact dryL_get hx
      · exact dryL_get hx
    · show itsK o t d st = _
      unfold itsK
      unfold holdK at hno
      rw [h4, h3]
      cases st
      · simp only [Bool.not_false, Bool.true_and] at hno ⊢
        rw [steep_one hno x (List.mem_of_getElem? hx)]
        rfl
      · rfl
theorem alone_new {nm : ByteArray} {ramp : Int} {g : List Stg} {w : Spc} {l : List Itm} {i : Nat} {x : Itm} (hx : l[i]? = some x) : Al (newK nm ramp g w l) (newK nm ramp g w [x]) i := ⟨rfl, rfl, rfl, ⟨x, hx, rfl⟩, rfl, rfl, rfl⟩
theorem checkK_one {nm : ByteArray} {ramp : Int} {g : List Stg} {w : Spc} {l : List Itm} (h : checkK nm ramp g w l = 0) {x : Itm} (hx : x ∈ l) : checkK nm ramp g w [x] = 0 := by
  unfold checkK at h ⊢
  split at h
  · rename_i h1
    rw [if_pos h1]
    split at h
    · rename_i h2
      rw [if_pos h2]
      split at h
      · omega
      · split at h
        · omega
        · have := checkT_iff l h x hx
          simp [checkT, this.2]
          omega
    · rename_i h2; exact absurd h h2
  · rename_i h1; exact absurd h h1
end Go.Proofs.YthgamgdcjgbmnaaDoor
