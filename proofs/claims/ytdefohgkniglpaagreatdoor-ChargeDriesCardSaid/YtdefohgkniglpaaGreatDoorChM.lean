/-
  A charge in plain words: boards, faults, and a run of a kiln.
-/
import Derived.Test.YtdefohgkniglpaaGreatDoorKlP
import Derived.Test.YtdefohgkniglpaaGreatDoorAbs3
namespace Go.Proofs.YtdefohgkniglpaaGreatDoor
set_option linter.unusedSimpArgs false
set_option linter.unusedVariables false
open Go Go.Abs
set_option maxHeartbeats 2000000
set_option maxRecDepth 100000
/-- A defect. -/
structure Dfc where
  kind : Int
  xa : Int
  xb : Int
  ya : Int
  yb : Int
  za : Int
  zb : Int
def eDf (x : Dfc) : List D := [I x.kind, I x.xa, I x.xb, I x.ya, I x.yb, I x.za, I x.zb]
@[simp] theorem eDf_eq (x : Dfc) : eDf x = [I x.kind, I x.xa, I x.xb, I x.ya, I x.yb, I x.za, I x.zb] := rfl
/-- A board. -/
structure Bd where
  id : ByteArray
  log : ByteArray
  sp : ByteArray
  prod : Int
  xa : Int
  xb : Int
  ya : Int
  yb : Int
  za : Int
  zb : Int
  vol : Int
  dfs : List Dfc
  wane : Int
  cel : Cel
  dried : Bool
  grade : Int
def eBd (b : Bd) : List D := [S b.id, S b.log, S b.sp, I b.prod, I b.xa, I b.xb, I b.ya, I b.yb, I b.za, I b.zb, I b.vol, .sl (b.dfs.map eDf), I b.wane, I b.cel.s, I b.cel.c, I b.cel.st, B b.dried, I b.grade]
@[simp] theorem eBd_eq (b : Bd) : eBd b = [S b.id, S b.log, S b.sp, I b.prod, I b.xa, I b.xb, I b.ya, I b.yb, I b.za, I b.zb, I b.vol, .sl (b.dfs.map eDf), I b.wane, I b.cel.s, I b.cel.c, I b.cel.st, B b.dried, I b.grade] := rfl
/-- A fault. -/
structure Flt where
  kind : Int
  a : Int
  b : Int
def eFl (x : Flt) : List D := [I x.kind, I x.a, I x.b]
@[simp] theorem eFl_eq (x : Flt) : eFl x = [I x.kind, I x.a, I x.b] := rfl
/-- A charge. -/
structure Gv where
  l : List Bd
  w : Spc
  nm : ByteArray
  ramp : Int
  sg : List Stg
  fs : List Flt
  ticks : Int
def eGv (g : Gv) : List D := [.sl (g.l.map eBd), S g.w.name, I g.w.green, I g.w.fast, I g.w.slow, I g.w.safe, I g.w.grad, I g.w.crack, I g.w.temp, I g.w.dep, I g.w.dens, I g.w.stiff, I g.w.loss, I g.w.shrink, S g.nm, I g.ramp, .sl (g.sg.map eSg), .sl (g.fs.map eFl), I g.ticks]
@[simp] theorem eGv_eq (g : Gv) : eGv g = [.sl (g.l.map eBd), S g.w.name, I g.w.green, I g.w.fast, I g.w.slow, I g.w.safe, I g.w.grad, I g.w.crack, I g.w.temp, I g.w.dep, I g.w.dens, I g.w.stiff, I g.w.loss, I g.w.shrink, S g.nm, I g.ramp, .sl (g.sg.map eSg), .sl (g.fs.map eFl), I g.ticks] := rfl
/-- The number of integers of a span. -/
def lenS (a b : Int) : Int := if b ≤ a then 0 else if 9223372036854775807 < b - a then 9223372036854775807 else b - a
def thk (b : Bd) : Int := if lenS b.ya b.yb < lenS b.xa b.xb then lenS b.ya b.yb else lenS b.xa b.xb
/-- The first error of boards. -/
def checkB (w : ByteArray) : List Bd → Int
  | [] => 0
  | b :: r => if b.sp = w then if b.dried = true then 14 else if checkM b.cel = 0 then if thk b < 1 then 9 else if 600 < thk b then 9 else checkB w r else checkM b.cel else 24
/-- The error of a charge. -/
def checkCh (l : List Bd) (w : Spc) (nm : ByteArray) (ramp : Int) (sg : List Stg) : Int :=
  if (l.length : Int) = 0 then 3 else if 1024 < (l.length : Int) then 4 else if checkB w.name l = 0 then if checkSg nm ramp sg = 0 then checkW w else checkSg nm ramp sg else checkB w.name l
/-- The first error of faults. -/
def checkF : List Flt → Int
  | [] => 0
  | f :: r => if f.kind < 1 then 10 else if 3 < f.kind then 10 else if f.a < 0 then 9 else if f.b ≤ f.a then 9 else if 20000 < f.b then 9 else checkF r
def itemB (b : Bd) : Itm := ⟨thk b, b.cel⟩
/-- The kinds of the faults that last at a tick. -/
def kinds (t : Int) : List Flt → List Int
  | [] => []
  | f :: r => if f.a ≤ t then if t < f.b then f.kind :: kinds t r else kinds t r else kinds t r
def atM (l : List Flt) (t : Int) : List Int := compactI (sortI (kinds t l))
/-- The greatest gradient, at least s. -/
def stp (s : Int) : List Itm → Int
  | [] => s
  | x :: r => stp (if s < grad x.cel then grad x.cel else s) r
def steepM : List Itm → Int
  | [] => 0
  | x :: r => stp (grad x.cel) r
/-- A run: the kiln, and what was the greatest. -/
structure Rn where
  k : Kl
  a : Int
  b : Int
  g : Int
def mx (a b : Int) : Int := if a < b then b else a
def goR (fs : List Flt) (t : Nat) (r : Rn) : Rn := ⟨tickK r.k (atM fs t), mx r.a (tickK r.k (atM fs t)).t, mx r.b (tickK r.k (atM fs t)).d, mx r.g (steepM (tickK r.k (atM fs t)).items)⟩
def runM (fs : List Flt) : Nat → Nat → Rn → Rn
  | 0, _, r => r
  | n + 1, t, r => if doneK r.k = true then r else runM fs n (t + 1) (goR fs t r)
def firstR (k : Kl) : Rn := ⟨k, k.t, k.d, steepM k.items⟩
def driedM : List Bd → List Itm → List Bd
  | b :: l, x :: r => ⟨b.id, b.log, b.sp, b.prod, b.xa, b.xb, b.ya, b.yb, b.za, b.zb, b.vol, b.dfs, b.wane, x.cel, true, b.grade⟩ :: driedM l r
  | _, _ => []
/-- The error of a run. -/
def errD (g : Gv) : Int := if checkCh g.l g.w g.nm g.ramp g.sg = 0 then if g.ticks < 0 then 9 else if 20000 < g.ticks then 9 else checkF g.fs else checkCh g.l g.w g.nm g.ramp g.sg
def kil (g : Gv) : Kl := newK g.nm g.ramp g.sg g.w (g.l.map itemB)
def rnM (g : Gv) : Rn := runM g.fs g.ticks.toNat 0 (firstR (kil g))
def outB (g : Gv) : List Bd := driedM g.l (rnM g).k.items
def eRn (r : Rn) : List D := [I r.k.ticks, I r.k.held, I r.k.stage, I r.a, I r.b, I r.g]
@[simp] theorem eRn_eq (r : Rn) : eRn r = [I r.k.ticks, I r.k.held, I r.k.stage, I r.a, I r.b, I r.g] := rfl
/-! ### What is known of a run -/
theorem checkB_item {w : ByteArray} : ∀ {l : List Bd}, checkB w l = 0 → checkT (l.map itemB) = 0 ∧ ∀ b ∈ l, b.sp = w ∧ b.dried = false ∧ checkM b.cel = 0
  | [], _ => ⟨rfl, by simp⟩
  | b :: r, h => by
    unfold checkB at h
    split at h
    · rename_i h0
      split at h
      · simp at h
      · rename_i h1
        split at h
        · rename_i h2
          split at h
          · simp at h
          · split at h
            · simp at h
            · rename_i h3 h4
              obtain ⟨i1, i2⟩ := checkB_item h
              refine ⟨?_, ?_⟩
              · show checkT (itemB b :: r.map itemB) = 0
                unfold checkT
                rw [if_neg (show ¬ (itemB b).th < 1 from h3), if_neg (show ¬ 600 < (itemB b).th from h4), if_pos (show checkM (itemB b).cel = 0 from h2)]
                exact i1
              · intro x hx
                rcases List.mem_cons.1 hx with rfl | hx
                · exact ⟨h0, by simpa using h1, h2⟩
                · exact i2 x hx
        · rename_i h2; exact absurd h h2
    · simp at h
theorem checkCh_new {l : List Bd} {w : Spc} {nm : ByteArray} {ramp : Int} {sg : List Stg} (h : checkCh l w nm ramp sg = 0) : checkK nm ramp sg w (l.map itemB) = 0 ∧ (0 < l.length ∧ l.length ≤ 1024) ∧ ∀ b ∈ l, b.sp = w.name ∧ b.dried = false ∧ checkM b.cel = 0 := by
  unfold checkCh at h
  split at h
  · simp at h
  · split at h
    · simp at h
    · rename_i h0 h1
      split at h
      · rename_i h2
        split at h
        · rename_i h3
          obtain ⟨i1, i2⟩ := checkB_item h2
          refine ⟨?_, by omega, i2⟩
          unfold checkK
          rw [if_pos h3, if_pos h, List.length_map, if_neg h0, if_neg h1]
          exact i1
        · rename_i h3; exact absurd h h3
      · rename_i h2; exact absurd h h2
theorem errD_ok {g : Gv} (h : errD g = 0) : checkCh g.l g.w g.nm g.ramp g.sg = 0 ∧ (0 ≤ g.ticks ∧ g.ticks ≤ 20000) ∧ checkF g.fs = 0 := by
  unfold errD at h
  split at h
  · rename_i h0
    split at h
    · simp at h
    · split at h
      · simp at h
      · exact ⟨h0, by omega, h⟩
  · rename_i h0; exact absurd h h0
theorem inv_kil {g : Gv} (h : errD g = 0) : InvK (kil g) := inv_new (checkCh_new (errD_ok h).1).1
theorem runM_inv {fs : List Flt} {p : Rn → Prop} (hp : ∀ t r, InvK r.k → p r → r.k.stage < r.k.stages.length → p (goR fs t r)) : ∀ (n t : Nat) (r : Rn), InvK r.k → p r → InvK (runM fs n t r).k ∧ p (runM fs n t r)
  | 0, _, r, hi, h => ⟨hi, h⟩
  | n + 1, t, r, hi, h => by
    unfold runM
    split
    · exact ⟨hi, h⟩
    · rename_i hd
      have hs : r.k.stage < r.k.stages.length := by
        have := hi.stage
        simp [doneK] at hd
        omega
      exact runM_inv hp n (t + 1) (goR fs t r) (inv_tick hi hs _) (hp t r hi h hs)
theorem tick_len (k : Kl) (f : List Int) : (tickK k f).items.length = k.items.length := by simp [tickK, tickC, itsK]
theorem run_len {fs : List Flt} (n t : Nat) (r : Rn) (hi : InvK r.k) : (runM fs n t r).k.items.length = r.k.items.length :=
  (runM_inv (p := fun q => q.k.items.length = r.k.items.length) (fun t q _ h _ => by show (tickK q.k _).items.length = _; rw [tick_len]; exact h) n t r hi rfl).2
theorem run_same {fs : List Flt} (n t : Nat) (r : Rn) (hi : InvK r.k) : (runM fs n t r).k.stages = r.k.stages ∧ (runM fs n t r).k.w = r.k.w :=
  (runM_inv (p := fun q => q.k.stages = r.k.stages ∧ q.k.w = r.k.w) (fun t q _ h _ => h) n t r hi ⟨rfl, rfl⟩).2
theorem rnM_inv {g : Gv} (h : errD g = 0) : InvK (rnM g).k := (runM_inv (p := fun _ => True) (fun _ _ _ _ _ => trivial) _ _ (firstR (kil g)) (inv_kil h) trivial).1
theorem rnM_len {g : Gv} (h : errD g = 0) : (rnM g).k.items.length = g.l.length := by
  have := run_len (fs := g.fs) g.ticks.toNat 0 (firstR (kil g)) (inv_kil h)
  rw [rnM, this]
  simp [firstR, kil, newK]
theorem driedM_len : ∀ (l : List Bd) (r : List Itm), l.length = r.length → (driedM l r).length = l.length
  | [], [], _ => rfl
  | b :: l, x :: r, h => by simp [driedM, driedM_len l r (by simpa using h)]
end Go.Proofs.YtdefohgkniglpaaGreatDoor
