/-
  The inputs of the chapter's statements.
-/
import Derived.Test.YtjhlidaikegelaaGreatCvV
import Derived.Test.YtjhlidaikegelaaGreatFtU
namespace Go.Proofs.YtjhlidaikegelaaGreat
set_option linter.unusedSimpArgs false
set_option linter.unusedVariables false
open Go Go.Abs
set_option maxRecDepth 100000
/-- What is known of a product. -/
def okPd (p : Pd) : Prop := p.lens.length ≤ 9223372036854775807 ∧ p.prs.length ≤ 9223372036854775807
structure okGd (g : Gd) : Prop where
  d : g.b.dfs.length ≤ 9223372036854775807
  ps : g.ps.length ≤ 9223372036854775807
theorem tyDfc {n : Nat} {cs : List D} (h : TyC Tryz.prog n 67 cs) : ∃ x : Dfc, cs = eDf x ∧ True := by
  obtain ⟨hl, m, h⟩ := TyC.struct Tryz.underlying67 h
  rw [co67] at hl
  match cs, hl with
  | [y0, y1, y2, y3, y4, y5, y6], _ =>
    simp at h
    obtain ⟨h_0, h_1⟩ := h
    obtain ⟨a0, e0, b0⟩ := tyInt h_0
    obtain ⟨_, _, h_1⟩ := TyC.struct Tryz.underlying25 h_1
    simp at h_1
    obtain ⟨h_1_0, h_1_1, h_1_2⟩ := h_1
    obtain ⟨_, _, h_1_0⟩ := TyC.struct Tryz.underlying23 h_1_0
    simp at h_1_0
    obtain ⟨h_1_0_0, h_1_0_1⟩ := h_1_0
    obtain ⟨a1, e1, b1⟩ := tyInt h_1_0_0
    obtain ⟨a2, e2, b2⟩ := tyInt h_1_0_1
    obtain ⟨_, _, h_1_1⟩ := TyC.struct Tryz.underlying23 h_1_1
    simp at h_1_1
    obtain ⟨h_1_1_0, h_1_1_1⟩ := h_1_1
    obtain ⟨a3, e3, b3⟩ := tyInt h_1_1_0
    obtain ⟨a4, e4, b4⟩ := tyInt h_1_1_1
    obtain ⟨_, _, h_1_2⟩ := TyC.struct Tryz.underlying23 h_1_2
    simp at h_1_2
    obtain ⟨h_1_2_0, h_1_2_1⟩ := h_1_2
    obtain ⟨a5, e5, b5⟩ := tyInt h_1_2_0
    obtain ⟨a6, e6, b6⟩ := tyInt h_1_2_1
    injection e0 with e0; injection e1 with e1; injection e2 with e2; injection e3 with e3; injection e4 with e4; injection e5 with e5; injection e6 with e6
    exact ⟨⟨a0, a1, a2, a3, a4, a5, a6⟩, by rw [e0, e1, e2, e3, e4, e5, e6]; rfl, trivial⟩
theorem tyPd {n : Nat} {cs : List D} (h : TyC Tryz.prog n 58 cs) : ∃ x : Pd, cs = ePd x ∧ True := by
  obtain ⟨hl, m, h⟩ := TyC.struct Tryz.underlying58 h
  rw [co58] at hl
  match cs, hl with
  | [y0, y1, y2, y3, y4, y5, y6], _ =>
    simp at h
    obtain ⟨h_0, h_1, h_2, h_3, h_4, h_5, h_6⟩ := h
    obtain ⟨a0, e0, b0⟩ := TyC.string Tryz.underlying9 h_0
    obtain ⟨a1, e1, b1⟩ := tyInt h_1
    obtain ⟨a2, e2, b2⟩ := tyInt h_2
    obtain ⟨a3, e3, b3⟩ := tyInt h_3
    obtain ⟨a4, e4, b4⟩ := tyInt h_4
    obtain ⟨s5, m5, e5, l5, x5'⟩ := TyC.slice Tryz.underlying56 h_5
    obtain ⟨a5, rfl, b5⟩ := rows_of s5 (fun x hx' => tyInt (x5' x hx'))
    obtain ⟨s6, m6, e6, l6, x6'⟩ := TyC.slice Tryz.underlying56 h_6
    obtain ⟨a6, rfl, b6⟩ := rows_of s6 (fun x hx' => tyInt (x6' x hx'))
    injection e0 with e0; injection e1 with e1; injection e2 with e2; injection e3 with e3; injection e4 with e4; injection e5 with e5; injection e6 with e6
    exact ⟨⟨a0, a1, a2, a3, a4, a5, a6⟩, by rw [e0, e1, e2, e3, e4, e5, e6]; rfl, trivial⟩
theorem tyGd {d : D} (h : TyV Tryz.prog 35 d) : ∃ x : Gd, d = .agg (eGd x) ∧ okGd x := by
  obtain ⟨n, cs, rfl, hc⟩ := TyV.agg ag35 h; clear h
  obtain ⟨hl, m, h⟩ := TyC.struct Tryz.underlying35 hc
  rw [co35] at hl
  match cs, hl with
  | [y0, y1, y2, y3, y4, y5, y6, y7, y8, y9, y10, y11, y12, y13, y14, y15, y16, y17, y18, y19, y20, y21, y22, y23, y24, y25, y26, y27, y28, y29, y30, y31], _ =>
    simp at h
    obtain ⟨h_0, h_1, h_2⟩ := h
    obtain ⟨_, _, h_0⟩ := TyC.struct Tryz.underlying30 h_0
    simp at h_0
    obtain ⟨h_0_0, h_0_1, h_0_2, h_0_3, h_0_4, h_0_5, h_0_6, h_0_7, h_0_8, h_0_9, h_0_10⟩ := h_0
    obtain ⟨a0, e0, b0⟩ := TyC.string Tryz.underlying9 h_0_0
    obtain ⟨a1, e1, b1⟩ := TyC.string Tryz.underlying9 h_0_1
    obtain ⟨a2, e2, b2⟩ := TyC.string Tryz.underlying9 h_0_2
    obtain ⟨a3, e3, b3⟩ := tyInt h_0_3
    obtain ⟨_, _, h_0_4⟩ := TyC.struct Tryz.underlying25 h_0_4
    simp at h_0_4
    obtain ⟨h_0_4_0, h_0_4_1, h_0_4_2⟩ := h_0_4
    obtain ⟨_, _, h_0_4_0⟩ := TyC.struct Tryz.underlying23 h_0_4_0
    simp at h_0_4_0
    obtain ⟨h_0_4_0_0, h_0_4_0_1⟩ := h_0_4_0
    obtain ⟨a4, e4, b4⟩ := tyInt h_0_4_0_0
    obtain ⟨a5, e5, b5⟩ := tyInt h_0_4_0_1
    obtain ⟨_, _, h_0_4_1⟩ := TyC.struct Tryz.underlying23 h_0_4_1
    simp at h_0_4_1
    obtain ⟨h_0_4_1_0, h_0_4_1_1⟩ := h_0_4_1
    obtain ⟨a6, e6, b6⟩ := tyInt h_0_4_1_0
    obtain ⟨a7, e7, b7⟩ := tyInt h_0_4_1_1
    obtain ⟨_, _, h_0_4_2⟩ := TyC.struct Tryz.underlying23 h_0_4_2
    simp at h_0_4_2
    obtain ⟨h_0_4_2_0, h_0_4_2_1⟩ := h_0_4_2
    obtain ⟨a8, e8, b8⟩ := tyInt h_0_4_2_0
    obtain ⟨a9, e9, b9⟩ := tyInt h_0_4_2_1
    obtain ⟨a10, e10, b10⟩ := tyInt h_0_5
    obtain ⟨s11, m11, e11, l11, x11'⟩ := TyC.slice Tryz.underlying26 h_0_6
    obtain ⟨a11, rfl, b11⟩ := rows_of s11 (fun x hx' => tyDfc (x11' x hx'))
    obtain ⟨a12, e12, b12⟩ := tyInt h_0_7
    obtain ⟨_, _, h_0_8⟩ := TyC.struct Tryz.underlying28 h_0_8
    simp at h_0_8
    obtain ⟨h_0_8_0, h_0_8_1, h_0_8_2⟩ := h_0_8
    obtain ⟨a13, e13, b13⟩ := tyInt h_0_8_0
    obtain ⟨a14, e14, b14⟩ := tyInt h_0_8_1
    obtain ⟨a15, e15, b15⟩ := tyInt h_0_8_2
    obtain ⟨a16, e16⟩ := TyC.bool Tryz.underlying4 h_0_9
    obtain ⟨a17, e17, b17⟩ := tyInt h_0_10
    obtain ⟨s18, m18, e18, l18, x18'⟩ := TyC.slice Tryz.underlying31 h_1
    obtain ⟨a18, rfl, b18⟩ := rows_of s18 (fun x hx' => tyPd (x18' x hx'))
    obtain ⟨_, _, h_2⟩ := TyC.struct Tryz.underlying33 h_2
    simp at h_2
    obtain ⟨h_2_0, h_2_1, h_2_2, h_2_3, h_2_4, h_2_5, h_2_6, h_2_7, h_2_8, h_2_9, h_2_10, h_2_11, h_2_12⟩ := h_2
    obtain ⟨a19, e19, b19⟩ := TyC.string Tryz.underlying9 h_2_0
    obtain ⟨a20, e20, b20⟩ := tyInt h_2_1
    obtain ⟨a21, e21, b21⟩ := tyInt h_2_2
    obtain ⟨a22, e22, b22⟩ := tyInt h_2_3
    obtain ⟨a23, e23, b23⟩ := tyInt h_2_4
    obtain ⟨a24, e24, b24⟩ := tyInt h_2_5
    obtain ⟨a25, e25, b25⟩ := tyInt h_2_6
    obtain ⟨a26, e26, b26⟩ := tyInt h_2_7
    obtain ⟨a27, e27, b27⟩ := tyInt h_2_8
    obtain ⟨a28, e28, b28⟩ := tyInt h_2_9
    obtain ⟨a29, e29, b29⟩ := tyInt h_2_10
    obtain ⟨a30, e30, b30⟩ := tyInt h_2_11
    obtain ⟨a31, e31, b31⟩ := tyInt h_2_12
    injection e0 with e0; injection e1 with e1; injection e2 with e2; injection e3 with e3; injection e4 with e4; injection e5 with e5; injection e6 with e6; injection e7 with e7; injection e8 with e8; injection e9 with e9; injection e10 with e10; injection e11 with e11; injection e12 with e12; injection e13 with e13; injection e14 with e14; injection e15 with e15; injection e16 with e16; injection e17 with e17; injection e18 with e18; injection e19 with e19; injection e20 with e20; injection e21 with e21; injection e22 with e22; injection e23 with e23; injection e24 with e24; injection e25 with e25; injection e26 with e26; injection e27 with e27; injection e28 with e28; injection e29 with e29; injection e30 with e30; injection e31 with e31
    exact ⟨⟨⟨a0, a1, a2, a3, a4, a5, a6, a7, a8, a9, a10, a11, a12, ⟨a13, a14, a15⟩, a16, a17⟩, a18, ⟨a19, a20, a21, a22, a23, a24, a25, a26, a27, a28, a29, a30, a31⟩⟩, by rw [e0, e1, e2, e3, e4, e5, e6, e7, e8, e9, e10, e11, e12, e13, e14, e15, e16, e17, e18, e19, e20, e21, e22, e23, e24, e25, e26, e27, e28, e29, e30, e31]; rfl, ⟨by simpa using l11, by simpa using l18⟩⟩
theorem tyFt {n : Nat} {cs : List D} (h : TyC Tryz.prog n 51 cs) : ∃ x : ByteArray × Int, cs = eFt x ∧ True := by
  obtain ⟨hl, m, h⟩ := TyC.struct Tryz.underlying51 h
  rw [co51] at hl
  match cs, hl with
  | [y0, y1], _ =>
    simp at h
    obtain ⟨h_0, h_1⟩ := h
    obtain ⟨a0, e0, b0⟩ := TyC.string Tryz.underlying9 h_0
    obtain ⟨a1, e1, b1⟩ := tyInt h_1
    injection e0 with e0; injection e1 with e1
    exact ⟨⟨a0, a1⟩, by rw [e0, e1]; rfl, trivial⟩
theorem tyFts {d : D} (h : TyV Tryz.prog 39 d) : ∃ l : List (ByteArray × Int), d = .sl (l.map eFt) ∧ l.length ≤ 9223372036854775807 := by
  obtain ⟨n, h⟩ := TyV.cell ag39 h
  obtain ⟨es, m, e, hl, hx⟩ := TyC.slice Tryz.underlying39 h
  obtain ⟨l, rfl, _⟩ := rows_of es (fun x hx' => tyFt (hx x hx'))
  injection e with e
  exact ⟨l, e, by simpa using hl⟩
theorem tyStr {d : D} (h : TyV Tryz.prog 9 d) : ∃ s : ByteArray, d = S s := by
  obtain ⟨n, h⟩ := TyV.cell ag9 h
  obtain ⟨s, e, _⟩ := TyC.string Tryz.underlying9 h
  injection e with e
  exact ⟨s, e⟩
end Go.Proofs.YtjhlidaikegelaaGreat
