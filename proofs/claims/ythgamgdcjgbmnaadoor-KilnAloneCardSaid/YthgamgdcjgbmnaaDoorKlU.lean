/-
  The inputs of the chapter's statements.
-/
import Derived.Test.YthgamgdcjgbmnaaDoorCvV
import Derived.Test.YthgamgdcjgbmnaaDoorKlH
namespace Go.Proofs.YthgamgdcjgbmnaaDoor
set_option linter.unusedSimpArgs false
set_option linter.unusedVariables false
open Go Go.Abs
set_option maxRecDepth 100000
theorem tyStg {n : Nat} {cs : List D} (h : TyC Tryd.prog n 65 cs) : ∃ x : Stg, cs = eSg x ∧ True := by
  obtain ⟨hl, m, h⟩ := TyC.struct Tryd.underlying65 h
  rw [co65] at hl
  match cs, hl with
  | [x0, x1, x2, x3], _ =>
    simp at h
    obtain ⟨h0, h1, h2, h3⟩ := h
    obtain ⟨a0, e0, _⟩ := tyInt h0
    obtain ⟨a1, e1, _⟩ := tyInt h1
    obtain ⟨a2, e2, _⟩ := tyInt h2
    obtain ⟨a3, e3, _⟩ := tyInt h3
    injection e0 with e0; injection e1 with e1; injection e2 with e2; injection e3 with e3
    exact ⟨⟨a0, a1, a2, a3⟩, by rw [e0, e1, e2, e3]; rfl, trivial⟩
theorem tyItm {n : Nat} {cs : List D} (h : TyC Tryd.prog n 54 cs) : ∃ x : Itm, cs = eT x ∧ True := by
  obtain ⟨hl, m, h⟩ := TyC.struct Tryd.underlying54 h
  rw [co54] at hl
  match cs, hl with
  | [x0, x1, x2, x3], _ =>
    simp at h
    obtain ⟨h0, h1⟩ := h
    obtain ⟨a0, e0, _⟩ := tyInt h0
    obtain ⟨_, m', k⟩ := TyC.struct Tryd.underlying51 h1
    simp at k
    obtain ⟨k1, k2, k3⟩ := k
    obtain ⟨a1, e1, _⟩ := tyInt k1
    obtain ⟨a2, e2, _⟩ := tyInt k2
    obtain ⟨a3, e3, _⟩ := tyInt k3
    injection e0 with e0; injection e1 with e1; injection e2 with e2; injection e3 with e3
    exact ⟨⟨a0, ⟨a1, a2, a3⟩⟩, by rw [e0, e1, e2, e3]; rfl, trivial⟩
theorem tySpc {n : Nat} {cs : List D} (h : TyC Tryd.prog n 26 cs) : ∃ w : Spc, cs = eS w := by
  obtain ⟨hl, m, h⟩ := TyC.struct Tryd.underlying26 h
  rw [co26] at hl
  match cs, hl with
  | [x0, x1, x2, x3, x4, x5, x6, x7, x8, x9, x10, x11, x12], _ =>
    simp at h
    obtain ⟨h0, h1, h2, h3, h4, h5, h6, h7, h8, h9, h10, h11, h12⟩ := h
    obtain ⟨a0, e0, hs⟩ := TyC.string Tryd.underlying9 h0
    obtain ⟨a1, e1, _⟩ := tyInt h1
    obtain ⟨a2, e2, _⟩ := tyInt h2
    obtain ⟨a3, e3, _⟩ := tyInt h3
    obtain ⟨a4, e4, _⟩ := tyInt h4
    obtain ⟨a5, e5, _⟩ := tyInt h5
    obtain ⟨a6, e6, _⟩ := tyInt h6
    obtain ⟨a7, e7, _⟩ := tyInt h7
    obtain ⟨a8, e8, _⟩ := tyInt h8
    obtain ⟨a9, e9, _⟩ := tyInt h9
    obtain ⟨a10, e10, _⟩ := tyInt h10
    obtain ⟨a11, e11, _⟩ := tyInt h11
    obtain ⟨a12, e12, _⟩ := tyInt h12
    injection e0 with e0; injection e1 with e1; injection e2 with e2; injection e3 with e3; injection e4 with e4; injection e5 with e5; injection e6 with e6
    injection e7 with e7; injection e8 with e8; injection e9 with e9; injection e10 with e10; injection e11 with e11; injection e12 with e12
    exact ⟨⟨a0, a1, a2, a3, a4, a5, a6, a7, a8, a9, a10, a11, a12⟩, by rw [e0, e1, e2, e3, e4, e5, e6, e7, e8, e9, e10, e11, e12]; rfl⟩
theorem tyCase {d : D} (h : TyV Tryd.prog 29 d) : ∃ (nm : ByteArray) (ramp : Int) (g : List Stg) (w : Spc) (l : List Itm), d = .agg (eCase nm ramp g w l) := by
  obtain ⟨n, cs, rfl, hc⟩ := TyV.agg ag29 h; clear h
  obtain ⟨hl, m, h⟩ := TyC.struct Tryd.underlying29 hc
  rw [co29] at hl
  match cs, hl with
  | [x0, x1, x2, x3, x4, x5, x6, x7, x8, x9, x10, x11, x12, x13, x14, x15, x16], _ =>
    simp at h
    obtain ⟨h0, h1, h2⟩ := h
    obtain ⟨_, m', k⟩ := TyC.struct Tryd.underlying24 h0
    simp at k
    obtain ⟨k0, k1, k2⟩ := k
    obtain ⟨nm, e0, _⟩ := TyC.string Tryd.underlying9 k0
    obtain ⟨ramp, e1, _⟩ := tyInt k1
    obtain ⟨es, m2, e2, _, hx⟩ := TyC.slice Tryd.underlying22 k2
    obtain ⟨g, rfl, _⟩ := rows_of es (fun x hx' => tyStg (hx x hx'))
    obtain ⟨w, ew⟩ := tySpc h1
    obtain ⟨es', m3, e3, _, hx'⟩ := TyC.slice Tryd.underlying27 h2
    obtain ⟨l, rfl, _⟩ := rows_of es' (fun x h => tyItm (hx' x h))
    refine ⟨nm, ramp, g, w, l, ?_⟩
    simp only [eS_eq, List.cons.injEq, and_true] at ew
    injection e0 with e0; injection e1 with e1; injection e2 with e2; injection e3 with e3
    obtain ⟨rfl, rfl, rfl, rfl, rfl, rfl, rfl, rfl, rfl, rfl, rfl, rfl, rfl⟩ := ew
    rw [e0, e1, e2, e3]
    rfl
theorem tyIntsV {d : D} (h : TyV Tryd.prog 46 d) : ∃ l : List Int, d = .sl (l.map eI) ∧ l.length ≤ 9223372036854775807 := by
  obtain ⟨n, h⟩ := TyV.cell ag46 h
  obtain ⟨l, e, hl, _⟩ := tyInts h
  injection e with e
  exact ⟨l, e, hl⟩
theorem tyFaults {d : D} (h : TyV Tryd.prog 43 d) : ∃ l : List (List Int), d = .sl (l.map eF) ∧ l.length ≤ 9223372036854775807 ∧ ∀ f ∈ l, f.length ≤ 9223372036854775807 := by
  obtain ⟨n, h⟩ := TyV.cell ag43 h
  obtain ⟨es, m, e, hl, hx⟩ := TyC.slice Tryd.underlying43 h
  obtain ⟨l, rfl, hp⟩ := rows_of (enc := eF) (p := fun f => f.length ≤ 9223372036854775807) es (fun x hx' => by
    obtain ⟨a, e, ha, _⟩ := tyInts (hx x hx')
    exact ⟨a, e, ha⟩)
  injection e with e
  exact ⟨l, e, by simpa using hl, hp⟩
end Go.Proofs.YthgamgdcjgbmnaaDoor
