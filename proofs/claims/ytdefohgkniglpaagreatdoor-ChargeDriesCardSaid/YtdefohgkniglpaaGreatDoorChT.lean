/-
  The inputs of the chapter's statements.
-/
import Derived.Test.YtdefohgkniglpaaGreatDoorCvV
import Derived.Test.YtdefohgkniglpaaGreatDoorChM
namespace Go.Proofs.YtdefohgkniglpaaGreatDoor
set_option linter.unusedSimpArgs false
set_option linter.unusedVariables false
open Go Go.Abs
set_option maxRecDepth 100000
def i64 (n : Int) : Prop := -9223372036854775808 ≤ n ∧ n ≤ 9223372036854775807
/-- What is known of a board. -/
def okBd (b : Bd) : Prop := (i64 b.xa ∧ i64 b.xb) ∧ (i64 b.ya ∧ i64 b.yb) ∧ b.dfs.length ≤ 9223372036854775807
structure okGv (g : Gv) : Prop where
  l : g.l.length ≤ 9223372036854775807
  b : ∀ b ∈ g.l, okBd b
  sg : g.sg.length ≤ 9223372036854775807
  fs : g.fs.length ≤ 9223372036854775807
  ticks : i64 g.ticks
theorem tyStg {n : Nat} {cs : List D} (h : TyC Tryz.prog n 85 cs) : ∃ x : Stg, cs = eSg x ∧ True := by
  obtain ⟨hl, m, h⟩ := TyC.struct Tryz.underlying85 h
  rw [co85] at hl
  match cs, hl with
  | [y0, y1, y2, y3], _ =>
    simp at h
    obtain ⟨h_0, h_1, h_2, h_3⟩ := h
    obtain ⟨a0, e0, b0⟩ := tyInt h_0
    obtain ⟨a1, e1, b1⟩ := tyInt h_1
    obtain ⟨a2, e2, b2⟩ := tyInt h_2
    obtain ⟨a3, e3, b3⟩ := tyInt h_3
    injection e0 with e0; injection e1 with e1; injection e2 with e2; injection e3 with e3
    exact ⟨⟨a0, a1, a2, a3⟩, by rw [e0, e1, e2, e3]; rfl, trivial⟩
theorem tyDfc {n : Nat} {cs : List D} (h : TyC Tryz.prog n 115 cs) : ∃ x : Dfc, cs = eDf x ∧ True := by
  obtain ⟨hl, m, h⟩ := TyC.struct Tryz.underlying115 h
  rw [co115] at hl
  match cs, hl with
  | [y0, y1, y2, y3, y4, y5, y6], _ =>
    simp at h
    obtain ⟨h_0, h_1⟩ := h
    obtain ⟨a0, e0, b0⟩ := tyInt h_0
    obtain ⟨_, _, h_1⟩ := TyC.struct Tryz.underlying52 h_1
    simp at h_1
    obtain ⟨h_1_0, h_1_1, h_1_2⟩ := h_1
    obtain ⟨_, _, h_1_0⟩ := TyC.struct Tryz.underlying50 h_1_0
    simp at h_1_0
    obtain ⟨h_1_0_0, h_1_0_1⟩ := h_1_0
    obtain ⟨a1, e1, b1⟩ := tyInt h_1_0_0
    obtain ⟨a2, e2, b2⟩ := tyInt h_1_0_1
    obtain ⟨_, _, h_1_1⟩ := TyC.struct Tryz.underlying50 h_1_1
    simp at h_1_1
    obtain ⟨h_1_1_0, h_1_1_1⟩ := h_1_1
    obtain ⟨a3, e3, b3⟩ := tyInt h_1_1_0
    obtain ⟨a4, e4, b4⟩ := tyInt h_1_1_1
    obtain ⟨_, _, h_1_2⟩ := TyC.struct Tryz.underlying50 h_1_2
    simp at h_1_2
    obtain ⟨h_1_2_0, h_1_2_1⟩ := h_1_2
    obtain ⟨a5, e5, b5⟩ := tyInt h_1_2_0
    obtain ⟨a6, e6, b6⟩ := tyInt h_1_2_1
    injection e0 with e0; injection e1 with e1; injection e2 with e2; injection e3 with e3; injection e4 with e4; injection e5 with e5; injection e6 with e6
    exact ⟨⟨a0, a1, a2, a3, a4, a5, a6⟩, by rw [e0, e1, e2, e3, e4, e5, e6]; rfl, trivial⟩
theorem tyFlt {n : Nat} {cs : List D} (h : TyC Tryz.prog n 62 cs) : ∃ x : Flt, cs = eFl x ∧ True := by
  obtain ⟨hl, m, h⟩ := TyC.struct Tryz.underlying62 h
  rw [co62] at hl
  match cs, hl with
  | [y0, y1, y2], _ =>
    simp at h
    obtain ⟨h_0, h_1, h_2⟩ := h
    obtain ⟨a0, e0, b0⟩ := tyInt h_0
    obtain ⟨a1, e1, b1⟩ := tyInt h_1
    obtain ⟨a2, e2, b2⟩ := tyInt h_2
    injection e0 with e0; injection e1 with e1; injection e2 with e2
    exact ⟨⟨a0, a1, a2⟩, by rw [e0, e1, e2]; rfl, trivial⟩
theorem tyBd {n : Nat} {cs : List D} (h : TyC Tryz.prog n 57 cs) : ∃ x : Bd, cs = eBd x ∧ okBd x := by
  obtain ⟨hl, m, h⟩ := TyC.struct Tryz.underlying57 h
  rw [co57] at hl
  match cs, hl with
  | [y0, y1, y2, y3, y4, y5, y6, y7, y8, y9, y10, y11, y12, y13, y14, y15, y16, y17], _ =>
    simp at h
    obtain ⟨h_0, h_1, h_2, h_3, h_4, h_5, h_6, h_7, h_8, h_9, h_10⟩ := h
    obtain ⟨a0, e0, b0⟩ := TyC.string Tryz.underlying9 h_0
    obtain ⟨a1, e1, b1⟩ := TyC.string Tryz.underlying9 h_1
    obtain ⟨a2, e2, b2⟩ := TyC.string Tryz.underlying9 h_2
    obtain ⟨a3, e3, b3⟩ := tyInt h_3
    obtain ⟨_, _, h_4⟩ := TyC.struct Tryz.underlying52 h_4
    simp at h_4
    obtain ⟨h_4_0, h_4_1, h_4_2⟩ := h_4
    obtain ⟨_, _, h_4_0⟩ := TyC.struct Tryz.underlying50 h_4_0
    simp at h_4_0
    obtain ⟨h_4_0_0, h_4_0_1⟩ := h_4_0
    obtain ⟨a4, e4, b4⟩ := tyInt h_4_0_0
    obtain ⟨a5, e5, b5⟩ := tyInt h_4_0_1
    obtain ⟨_, _, h_4_1⟩ := TyC.struct Tryz.underlying50 h_4_1
    simp at h_4_1
    obtain ⟨h_4_1_0, h_4_1_1⟩ := h_4_1
    obtain ⟨a6, e6, b6⟩ := tyInt h_4_1_0
    obtain ⟨a7, e7, b7⟩ := tyInt h_4_1_1
    obtain ⟨_, _, h_4_2⟩ := TyC.struct Tryz.underlying50 h_4_2
    simp at h_4_2
    obtain ⟨h_4_2_0, h_4_2_1⟩ := h_4_2
    obtain ⟨a8, e8, b8⟩ := tyInt h_4_2_0
    obtain ⟨a9, e9, b9⟩ := tyInt h_4_2_1
    obtain ⟨a10, e10, b10⟩ := tyInt h_5
    obtain ⟨s11, m11, e11, l11, x11'⟩ := TyC.slice Tryz.underlying53 h_6
    obtain ⟨a11, rfl, b11⟩ := rows_of s11 (fun x hx' => tyDfc (x11' x hx'))
    obtain ⟨a12, e12, b12⟩ := tyInt h_7
    obtain ⟨_, _, h_8⟩ := TyC.struct Tryz.underlying55 h_8
    simp at h_8
    obtain ⟨h_8_0, h_8_1, h_8_2⟩ := h_8
    obtain ⟨a13, e13, b13⟩ := tyInt h_8_0
    obtain ⟨a14, e14, b14⟩ := tyInt h_8_1
    obtain ⟨a15, e15, b15⟩ := tyInt h_8_2
    obtain ⟨a16, e16⟩ := TyC.bool Tryz.underlying4 h_9
    obtain ⟨a17, e17, b17⟩ := tyInt h_10
    injection e0 with e0; injection e1 with e1; injection e2 with e2; injection e3 with e3; injection e4 with e4; injection e5 with e5; injection e6 with e6; injection e7 with e7; injection e8 with e8; injection e9 with e9; injection e10 with e10; injection e11 with e11; injection e12 with e12; injection e13 with e13; injection e14 with e14; injection e15 with e15; injection e16 with e16; injection e17 with e17
    exact ⟨⟨a0, a1, a2, a3, a4, a5, a6, a7, a8, a9, a10, a11, a12, ⟨a13, a14, a15⟩, a16, a17⟩, by rw [e0, e1, e2, e3, e4, e5, e6, e7, e8, e9, e10, e11, e12, e13, e14, e15, e16, e17]; rfl, ⟨⟨b4, b5⟩, ⟨b6, b7⟩, by simpa using l11⟩⟩
theorem tyGv {d : D} (h : TyV Tryz.prog 30 d) : ∃ x : Gv, d = .agg (eGv x) ∧ okGv x := by
  obtain ⟨n, cs, rfl, hc⟩ := TyV.agg ag30 h; clear h
  obtain ⟨hl, m, h⟩ := TyC.struct Tryz.underlying30 hc
  rw [co30] at hl
  match cs, hl with
  | [y0, y1, y2, y3, y4, y5, y6, y7, y8, y9, y10, y11, y12, y13, y14, y15, y16, y17, y18], _ =>
    simp at h
    obtain ⟨h_0, h_1, h_2, h_3, h_4⟩ := h
    obtain ⟨s0, m0, e0, l0, x0'⟩ := TyC.slice Tryz.underlying22 h_0
    obtain ⟨a0, rfl, b0⟩ := rows_of s0 (fun x hx' => tyBd (x0' x hx'))
    obtain ⟨_, _, h_1⟩ := TyC.struct Tryz.underlying24 h_1
    simp at h_1
    obtain ⟨h_1_0, h_1_1, h_1_2, h_1_3, h_1_4, h_1_5, h_1_6, h_1_7, h_1_8, h_1_9, h_1_10, h_1_11, h_1_12⟩ := h_1
    obtain ⟨a1, e1, b1⟩ := TyC.string Tryz.underlying9 h_1_0
    obtain ⟨a2, e2, b2⟩ := tyInt h_1_1
    obtain ⟨a3, e3, b3⟩ := tyInt h_1_2
    obtain ⟨a4, e4, b4⟩ := tyInt h_1_3
    obtain ⟨a5, e5, b5⟩ := tyInt h_1_4
    obtain ⟨a6, e6, b6⟩ := tyInt h_1_5
    obtain ⟨a7, e7, b7⟩ := tyInt h_1_6
    obtain ⟨a8, e8, b8⟩ := tyInt h_1_7
    obtain ⟨a9, e9, b9⟩ := tyInt h_1_8
    obtain ⟨a10, e10, b10⟩ := tyInt h_1_9
    obtain ⟨a11, e11, b11⟩ := tyInt h_1_10
    obtain ⟨a12, e12, b12⟩ := tyInt h_1_11
    obtain ⟨a13, e13, b13⟩ := tyInt h_1_12
    obtain ⟨_, _, h_2⟩ := TyC.struct Tryz.underlying27 h_2
    simp at h_2
    obtain ⟨h_2_0, h_2_1, h_2_2⟩ := h_2
    obtain ⟨a14, e14, b14⟩ := TyC.string Tryz.underlying9 h_2_0
    obtain ⟨a15, e15, b15⟩ := tyInt h_2_1
    obtain ⟨s16, m16, e16, l16, x16'⟩ := TyC.slice Tryz.underlying25 h_2_2
    obtain ⟨a16, rfl, b16⟩ := rows_of s16 (fun x hx' => tyStg (x16' x hx'))
    obtain ⟨s17, m17, e17, l17, x17'⟩ := TyC.slice Tryz.underlying28 h_3
    obtain ⟨a17, rfl, b17⟩ := rows_of s17 (fun x hx' => tyFlt (x17' x hx'))
    obtain ⟨a18, e18, b18⟩ := tyInt h_4
    injection e0 with e0; injection e1 with e1; injection e2 with e2; injection e3 with e3; injection e4 with e4; injection e5 with e5; injection e6 with e6; injection e7 with e7; injection e8 with e8; injection e9 with e9; injection e10 with e10; injection e11 with e11; injection e12 with e12; injection e13 with e13; injection e14 with e14; injection e15 with e15; injection e16 with e16; injection e17 with e17; injection e18 with e18
    exact ⟨⟨a0, ⟨a1, a2, a3, a4, a5, a6, a7, a8, a9, a10, a11, a12, a13⟩, a14, a15, a16, a17, a18⟩, by rw [e0, e1, e2, e3, e4, e5, e6, e7, e8, e9, e10, e11, e12, e13, e14, e15, e16, e17, e18]; rfl, ⟨by simpa using l0, b0, by simpa using l16, by simpa using l17, b18⟩⟩
theorem tyFlts {d : D} (h : TyV Tryz.prog 28 d) : ∃ l : List Flt, d = .sl (l.map eFl) ∧ l.length ≤ 9223372036854775807 := by
  obtain ⟨n, h⟩ := TyV.cell ag28 h
  obtain ⟨es, m, e, hl, hx⟩ := TyC.slice Tryz.underlying28 h
  obtain ⟨l, rfl, _⟩ := rows_of es (fun x hx' => tyFlt (hx x hx'))
  injection e with e
  exact ⟨l, e, by simpa using hl⟩
end Go.Proofs.YtdefohgkniglpaaGreatDoor
