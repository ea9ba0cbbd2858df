/-
  Functions of the library as contracts: strconv.Itoa, strings.Join.
-/
import Derived.Test.YtgngoijehjphoaaDoorAbs4
import Derived.Lib.ItoaNum
import Derived.Lib.LaidTab
import Derived.Lib.Join
namespace Go.Abs
set_option linter.unusedSimpArgs false
set_option linter.unusedVariables false
open Go Go.RowKit

/-- The decimal numeral. -/
def itoaS (n : Int) : ByteArray := ⟨(Lib.itoa n).toArray⟩
/-- The strings one after another, with a separator. -/
def joinS (l : List ByteArray) (sep : ByteArray) : ByteArray := ⟨(Lib.join (l.map (·.data.toList)) sep.data.toList).toArray⟩
/-- The table of the powers of ten. -/
def powD : List D := Lib.pow10Tab.map fun z => .x (.int .u64 z)

noncomputable def F_itoa (ds : List D) : Option D := match ds with
  | [.x (.int .i64 n)] => if -9223372036854775808 ≤ n ∧ n ≤ 9223372036854775807 then some (.x (.string (itoaS n))) else none
  | _ => none
theorem F_itoa_eq (n : Int) (h0 : -9223372036854775808 ≤ n) (h1 : n ≤ 9223372036854775807) : F_itoa [.x (.int .i64 n)] = some (.x (.string (itoaS n))) := by
  simp only [F_itoa, if_pos (And.intro h0 h1)]
noncomputable def F_join (ds : List D) : Option D := match ds with
  | [.sl es, .x (.string sep)] => match strsOf es with
    | some l => if l.length ≤ 140737488355328 ∧ (joinS l sep).size ≤ 140737488355328 then some (.x (.string (joinS l sep))) else none
    | none => none
  | _ => none
theorem F_join_eq (l : List ByteArray) (sep : ByteArray) (h : l.length ≤ 140737488355328) (h2 : (joinS l sep).size ≤ 140737488355328) : F_join [.sl (l.map eS), .x (.string sep)] = some (.x (.string (joinS l sep))) := by
  simp only [F_join, strsOf_map, if_pos (And.intro h h2)]

section
variable {P : Program} {G : Nat → Option (List D)} {f : FuncId}

theorem tab_of {w : World} {ok fr : Nat → Prop} {g : Nat} {name : String} {k : IntKind} {zs : List Int} (hg : P.globalNamed name = some g) (h : GlobAt w ok fr g (zs.map fun z => .x (.int k z))) : Lib.TabIs P w name k zs := by
  obtain ⟨o, t, m, e1, e2⟩ := h.all
  unfold Lib.TabIs World.var?
  simp only [hg, Option.bind_some, e1]
  congr 1
  rw [List.length_map] at e2
  have hrep := h.rep
  cases hrep with
  | elt hb hlt hic hcell hrep =>
    apply Array.ext
    · simp [e2]
    · intro i h1 h2
      have hi : i < zs.length := by omega
      have e : (Addr.mk g 0 none).add i = ⟨g, i, none⟩ := by simp [Addr.add]; exact fun h => h.symm
      have hc : w.cell? ((Addr.mk g 0 none).add i) = some o[i] := by
        rw [e]
        simp [World.cell?, e1, h1]
      have := hrep i (.x (.int k zs[i])) o[i] (by simp [hi]) hc
      generalize ho : o[i] = u at this
      cases this
      simp

open Go.Sort in
theorem C_itoa_of (hent : ∀ (args : Array Value) (w : World), (callFunc f args).run P w = .ok (.enter f args) w) {g : Nat} (hg : P.globalNamed "internal/strconv.uint64pow10" = some g) (hG : G g = some powD)
    (hitoa : ∀ (n : Int), -9223372036854775808 ≤ n → n ≤ 9223372036854775807 → ∀ (w : World), Lib.TabIs P w "internal/strconv.uint64pow10" .u64 Lib.pow10Tab →
      Calls P f #[.int .i64 n] w fun e w' => e = .returned (.string ⟨(Lib.itoa n).toArray⟩) ∧ ∃ k os, w' = grow (w.drewN k) os)
    (ds : List D) (r : D) (h : F_itoa ds = some r) : Contract P G f ds r := by
  unfold F_itoa at h
  split at h
  · rename_i n
    split at h
    · rename_i hb
      cases h
      refine ⟨hent, fun w ok args hglob hargs => ?_⟩
      have ha : args = #[.int .i64 n] := by
        obtain ⟨hl, hc⟩ := hargs
        match args, hl with
        | ⟨[u]⟩, _ =>
          have := hc 0 u _ rfl rfl
          cases this
          rfl
      subst ha
      refine (hitoa n hb.1 hb.2 w (tab_of hg (hglob g _ hG))).mono ?_
      rintro e w' ⟨rfl, k, os, rfl⟩
      refine ⟨_, rfl, ⟨rfl, rfl, rfl, by simp [grow, World.drewN], fun j hj => ?_⟩, .x _⟩
      simp [grow, World.drewN, Array.getElem?_append_left hj]
    · cases h
  · cases h

theorem C_join_of (hent : ∀ (args : Array Value) (w : World), (callFunc f args).run P w = .ok (.enter f args) w)
    (hjoin : ∀ (bk o c : Nat) (xs : List ByteArray) (sep : ByteArray) (w : World), (∀ (j : Nat) x, xs[j]? = some x → w.cell? ⟨bk, o + j, none⟩ = some (.string x)) →
      bk < w.heap.size → xs.length ≤ 140737488355328 → xs.length ≤ c → (Lib.join (xs.map (·.data.toList)) sep.data.toList).length ≤ 140737488355328 →
      Calls P f #[.slice (some ⟨bk, o, none⟩) xs.length c, .string sep] w fun e w' => e = .returned (.string ⟨(Lib.join (xs.map (·.data.toList)) sep.data.toList).toArray⟩) ∧ Below w.heap.size w w')
    (hnone : ∀ (a : Option Addr) (c : Nat) (sep : ByteArray) (w : World), Calls P f #[.slice a 0 c, .string sep] w fun e w' => e = .returned (.string ⟨#[]⟩) ∧ w' = w)
    (ds : List D) (r : D) (h : F_join ds = some r) : Contract P G f ds r := by
  unfold F_join at h
  split at h
  · rename_i es sep
    split at h
    · rename_i l hl
      split at h
      · rename_i hb
        cases h
        rw [strsOf_some hl]
        refine ⟨hent, fun w ok args hglob hargs => ?_⟩
        obtain ⟨hlen, hc⟩ := hargs
        match args, hlen, hc with
        | ⟨[u1, u2]⟩, _, hc =>
          have h2 := hc 1 u2 _ rfl rfl
          cases h2
          have h1 := hc 0 u1 _ rfl rfl
          generalize hes : l.map eS = es' at h1
          have none_case : l = [] → ∀ (A : Option Addr) (c : Nat), u1 = .slice A 0 c → Calls P f ⟨[u1, .string sep]⟩ w fun e w' => ∃ v, e = .returned v ∧ Ext w w' ∧ RepI w' (fun b => ok b ∨ w.heap.size ≤ b) (fun b => w.heap.size ≤ b) v (.x (.string (joinS l sep))) := by
            rintro rfl A c rfl
            refine (hnone A c sep w).mono ?_
            rintro e w' ⟨rfl, rfl⟩
            exact ⟨_, rfl, Below.refl _ _, .x _⟩
          cases h1 with
          | sl0 A c => exact none_case (by cases l with | nil => rfl | cons x r => simp at hes) A c rfl
          | @sl a c sz _ hb' hlt hcap hic hsz hcell hrep =>
            subst hes
            match l, hl, hb, hcap, hsz, hcell, hrep, none_case with
            | [], _, _, _, _, _, _, none_case => exact none_case rfl (some a) c rfl
            | x :: r, hl, hb, hcap, hsz, hcell, hrep, _ =>
              have hs1 : sz = 1 := by have := hsz (eS x) (by simp); simpa using this.symm
              subst hs1
              obtain ⟨bk, o, sp⟩ := a
              have hsp : sp = none := by
                obtain ⟨u, hu, _⟩ := hcell 0 0 (by simp) (by omega)
                simp only [Addr.add, World.cell?] at hu
                split at hu
                · cases sp with
                  | none => rfl
                  | some s => simp at hu
                · cases hu
              subst hsp
              have hx : (List.map eS (x :: r)).length = (x :: r).length := by simp
              rw [hx]
              refine (hjoin bk o c (x :: r) sep w (fun j y hy => ?_) hlt hb.1 (by simpa using hcap) (by have := hb.2; simpa [joinS, ByteArray.size] using this)).mono ?_
              · have hj : j < (x :: r).length := (List.getElem?_eq_some_iff.1 hy).1
                obtain ⟨u, hu, _⟩ := hcell j 0 (by simpa using hj) (by omega)
                have e : (Addr.mk bk o none).add (j * 1 + 0) = ⟨bk, o + j, none⟩ := by simp [Addr.add]; try (intro h; omega)
                have := hrep j (eS y) 0 (.x (.string y)) u (by rw [List.getElem?_map, hy]; rfl) rfl hu
                rw [e] at hu
                cases this
                exact hu
              · rintro e w' ⟨rfl, hbl⟩
                exact ⟨_, rfl, hbl, .x _⟩
      · cases h
    · cases h
  · cases h
end
end Go.Abs
