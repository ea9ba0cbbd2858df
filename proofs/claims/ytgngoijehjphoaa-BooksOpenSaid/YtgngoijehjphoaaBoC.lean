/-
  The postings of a movement and an entry's Id, run abstractly; plain laws of movements.
-/
import Derived.Test.YtgngoijehjphoaaBoB
namespace Go.Proofs.Ytgngoijehjphoaa
set_option linter.unusedSimpArgs false
set_option linter.unusedVariables false
open Go Go.Abs
set_option maxHeartbeats 8000000
set_option maxRecDepth 100000
structure Mov where
  k : Int
  dry : Bool
  a : Int
  b : Int
  c : Int
def eMv (x : Mov) : List D := [.x (.int .u8 x.k), B x.dry, .x (.int .u32 x.a), .x (.int .u32 x.b), .x (.int .u32 x.c)]
@[simp] theorem eMv_eq (x : Mov) : eMv x = [.x (.int .u8 x.k), B x.dry, .x (.int .u32 x.a), .x (.int .u32 x.b), .x (.int .u32 x.c)] := rfl
structure Mov.Ok (x : Mov) : Prop where
  a0 : 0 ≤ x.a
  a1 : x.a ≤ 4294967295
  b0 : 0 ≤ x.b
  b1 : x.b ≤ 4294967295
  c0 : 0 ≤ x.c
  c1 : x.c ≤ 4294967295
/-- What a movement moves. -/
def mvV (x : Mov) : List Int :=
  if x.k = 0 then [-x.a, x.a, 0, 0, 0, 0, 0, 0] else if x.k = 1 then [0, -(x.a + x.b + x.c), x.a, 0, x.b, x.c, 0, 0] else if x.k = 2 then [0, 0, -x.a, x.a, 0, 0, 0, 0] else
  if x.k = 3 then cutV x.dry x.b x.c else if x.k = 4 then [0, 0, 0, -x.a, 0, 0, x.a, 0] else [0, 0, 0, 0, -x.a, -x.b, 0, x.a + x.b]
theorem movP_run (x : Mov) (h : x.Ok) : F_law52_postings [.agg (eMv x)] = some (.own true ((mv (mvV x)).map ePs)) := by
  rw [F_law52_postings_eq]
  obtain ⟨a0, a1, b0, b1, c0, c1⟩ := h
  have w1 := wrap64 (n := x.a) (by omega) (by omega)
  have w2 := wrap64 (n := x.b) (by omega) (by omega)
  have w3 := wrap64 (n := x.c) (by omega) (by omega)
  unfold mvV
  by_cases k0 : x.k = 0
  · have h1 := scanned_run (a := x.a) (by omega) (by omega)
    simp [w1, w2, w3, k0, h1]
  by_cases k1 : x.k = 1
  · have h1 := sawn_run (l := x.a + x.b + x.c) (b := x.a) (c := x.b) (d := x.c) (v := 0) (by omega) (by omega) (by omega) (by omega) (by omega) (by omega) (by omega) (by omega)
    rw [if_pos rfl] at h1
    have w4 := wrap64 (n := x.a + x.b) (by omega) (by omega)
    have w5 := wrap64 (n := x.a + x.b + x.c) (by omega) (by omega)
    simp [w1, w2, w3, w4, w5, k1, h1]
  by_cases k2 : x.k = 2
  · have h1 := dried_run (a := x.a) (by omega) (by omega)
    simp [w1, w2, w3, k2, h1]
  by_cases k3 : x.k = 3
  · have h1 := recut_run x.dry (a := x.a) (b := x.b) (c := x.c) (by omega) (by omega) (by omega) (by omega) (by omega) (by omega)
    simp [w1, w2, w3, k3, h1]
  by_cases k4 : x.k = 4
  · have h1 := shipped_run (a := x.a) (by omega) (by omega)
    simp [w1, w2, w3, k4, h1]
  · have h1 := sold_run (a := x.a) (b := x.b) (by omega) (by omega) (by omega) (by omega)
    simp [w1, w2, w3, k0, k1, k2, k3, k4, h1]
def idB (i : Nat) : ByteArray := ⟨#[101, UInt8.ofNat (97 + i / 26), UInt8.ofNat (97 + i % 26)]⟩
theorem id_run (i : Nat) (hi : i < 60) : F_law52_id [I i] = some (S (idB i)) := by
  rw [F_law52_id_eq]
  have w1 : IntKind.i64.wrap ((i : Int) / 26) = (i : Int) / 26 := wrap64 (by omega) (by omega)
  have t : (i : Int).tmod 26 = (i : Int) % 26 := rfl
  have w2 : IntKind.i64.wrap (97 + (i : Int) / 26) = 97 + (i : Int) / 26 := wrap64 (by omega) (by omega)
  have w3 : IntKind.i64.wrap (97 + (i : Int) % 26) = 97 + (i : Int) % 26 := wrap64 (by omega) (by omega)
  have w4 : IntKind.u8.wrap (97 + (i : Int) / 26) = 97 + (i : Int) / 26 := by rw [IntKind.wrap_u8]; omega
  have w5 : IntKind.u8.wrap (97 + (i : Int) % 26) = 97 + (i : Int) % 26 := by rw [IntKind.wrap_u8]; omega
  have n1 : (97 + (i : Int) / 26).toNat = 97 + i / 26 := by omega
  have n2 : (97 + (i : Int) % 26).toNat = 97 + i % 26 := by omega
  have sz : ∀ a b : UInt8, ¬ (9223372036854775807 : Int) < ((⟨#[101]⟩ : ByteArray).size : Int) + ((⟨#[a, b]⟩ : ByteArray).size : Int) := by
    intro a b
    show ¬ (9223372036854775807 : Int) < 1 + 2
    omega
  have e : (⟨#[101]⟩ : ByteArray) ++ ⟨#[UInt8.ofNat (97 + i / 26), UInt8.ofNat (97 + i % 26)]⟩ = idB i := by
    unfold idB
    apply ByteArray.ext
    simp
  simp [w1, t, w2, w3, w4, w5, n1, n2, sz]
  simpa using e
theorem idB_inj : ∀ i < 60, ∀ j < 60, idB i = idB j → i = j := by decide +kernel
theorem idB_size (i : Nat) : (idB i).size = 3 := rfl
/-! ### Plain laws -/
theorem nzP_mem {p : Pst} : ∀ {z : List (ByteArray × Int)}, p ∈ nzP z → (p.acc, p.amt) ∈ z
  | [], h => by cases h
  | q :: r, h => by
    simp only [nzP] at h
    split at h
    · exact List.mem_cons_of_mem _ (nzP_mem h)
    · rcases List.mem_cons.1 h with rfl | h
      · exact List.mem_cons_self
      · exact List.mem_cons_of_mem _ (nzP_mem h)
theorem nzP_len : ∀ z : List (ByteArray × Int), (nzP z).length ≤ z.length
  | [] => Nat.le_refl _
  | q :: r => by
    have := nzP_len r
    simp only [nzP]
    split <;> simp <;> omega
theorem totS_nz : ∀ z : List (ByteArray × Int), totS (nzP z) = (z.map (·.2)).sum
  | [] => rfl
  | q :: r => by
    simp only [nzP, List.map_cons, List.sum_cons, ← totS_nz r]
    split
    · rename_i h; rw [h]; omega
    · simp only [totS]
theorem sumP_bnd {a : ByteArray} {M : Int} : ∀ {ps : List Pst}, (∀ p ∈ ps, -M ≤ p.amt ∧ p.amt ≤ M) → 0 ≤ M → -(M * (ps.length : Int)) ≤ sumP a ps ∧ sumP a ps ≤ M * (ps.length : Int)
  | [], _, _ => by simp [sumP]
  | p :: r, h, hM => by
    have ih := sumP_bnd (a := a) (ps := r) (fun q hq => h q (by simp [hq])) hM
    have hp := h p (by simp)
    simp only [sumP, List.length_cons, Int.natCast_add, Int.mul_add]
    split <;> simp <;> omega
theorem mvV_len (x : Mov) : (mvV x).length = 8 := by
  unfold mvV cutV
  repeat' split
  all_goals rfl
theorem mvV_ok (x : Mov) (h : x.Ok) : (mvV x).sum = 0 ∧ ∀ v ∈ mvV x, -17179869184 ≤ v ∧ v ≤ 17179869184 := by
  obtain ⟨a0, a1, b0, b1, c0, c1⟩ := h
  unfold mvV cutV
  repeat' split
  all_goals
    refine ⟨by simp; try omega, fun v hv => ?_⟩
    simp at hv
    omega
/-- A movement's postings. -/
structure MvOk (ps : List Pst) : Prop where
  acc : ∀ p ∈ ps, p.acc ∈ acc8
  amt : ∀ p ∈ ps, -17179869184 ≤ p.amt ∧ p.amt ≤ 17179869184
  len : ps.length ≤ 8
  tot : totS ps = 0
theorem mv_ok (x : Mov) (h : x.Ok) : MvOk (mv (mvV x)) := by
  obtain ⟨h1, h2⟩ := mvV_ok x h
  have hz : (acc8.zip (mvV x)).length = 8 := by simp [acc8_len, mvV_len]
  refine ⟨fun p hp => (List.of_mem_zip (nzP_mem hp)).1, fun p hp => h2 _ (List.of_mem_zip (nzP_mem hp)).2, by have := nzP_len (acc8.zip (mvV x)); unfold mv; omega, ?_⟩
  unfold mv
  rw [totS_nz, List.map_snd_zip (by simp [acc8_len, mvV_len])]
  exact h1
end Go.Proofs.Ytgngoijehjphoaa
