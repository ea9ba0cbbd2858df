/-
  The abstract operations that touch no memory of the call's own, each shown to give what the model gives: arithmetic, comparisons, parts of values, addresses, loads, slices.
-/
import Derived.Test.YthgamgdcjgbmnaaGreatDoorAbsA
import Derived.Laws.StructEq
namespace Go.Abs
set_option linter.unusedSimpArgs false
set_option linter.unusedVariables false
open Go Go.RowKit

def ofV1 : Value → D
  | .slice none 0 0 => .emp
  | v => .x v
def ofV : Value → D
  | .agg cs => .agg (cs.toList.map ofV1)
  | v => ofV1 v

def ev (ρ : Nat → D) : Operand → D
  | .tmp t => ρ t
  | .const v => ofV v
  | .global g => .x (.pointer (some ⟨g, 0, none⟩))
  | .func f => .x (.func (.func f) #[] #[])

def cellsD : D → List D
  | .agg cs => cs
  | d => [d]
def one : D → Bool
  | .x v => v.oneCell'
  | .emp => true
  | .sl _ => true
  | .own _ _ => true
  | .elt _ => true
  | .ptr _ _ => true
  | .row _ => true
  | .rel _ _ _ _ => true
  | .bsl _ _ _ _ => true
  | .mp _ => true
  | .mpv _ => true
  | .cap0 => true
  | _ => false

def szT (P : Program) (t : TypeId) : Option Nat := (P.info? t).map (·.size)
def aggT (P : Program) (t : TypeId) : Option Bool :=
  match P.underlying t with
  | some (.struct _) => some true
  | some (.array _ _) => some true
  | some _ => some false
  | none => none
def partD (P : Program) (t : TypeId) (cs : List D) (off : Nat) : Option D :=
  match aggT P t, szT P t with
  | some true, some n => if off + n ≤ cs.length then some (.agg ((cs.drop off).take n)) else none
  | some false, _ => cs[off]?
  | _, _ => none
def zeroD (P : Program) (t : TypeId) : Option (List D) :=
  match P.info? t with
  | some i => match i.zero with
    | some z => some (z.cells.toList.map ofV1)
    | none => none
  | none => none

section
variable {P : Program} {w : World} {B : Nat} {ι : Inj}

theorem rep_ofV1 (v : Value) (ok fr : Nat → Prop) : RepI w ok fr v (ofV1 v) := by
  unfold ofV1
  split
  · exact .emp
  · exact .x _
theorem rep_ofV (v : Value) : Rep w B ι v (ofV v) := by
  unfold ofV
  split
  · rename_i cs
    refine .inr (.inl ⟨_, rfl, cs, rfl, by simp, fun i c d h1 h2 => ?_⟩)
    rw [List.getElem?_map, Array.getElem?_toList, h1] at h2
    simp only [Option.map_some, Option.some.injEq] at h2
    subst h2
    exact .inl (rep_ofV1 c _ _)
  · exact .inl (.inl (rep_ofV1 v _ _))
theorem Rel.ev {N : Nat} {w0 : Bs} {ρ : Nat → D} {η : Nat → Option O} {a : Act} (h : Rel N B w0 ι ρ η a w) (x : Operand) : Rep w B ι (a.eval x) (ev ρ x) := by
  cases x with
  | tmp t => exact h.tmp t
  | const v => exact rep_ofV v
  | global g => exact .inl (.inl (.x _))
  | func f => exact .inl (.inl (.x _))

theorem Rep.x_inv {v u : Value} (h : Rep w B ι v (.x u)) : v = u := by
  rcases h with (h | h) | ⟨ds, h, _⟩ | ⟨ds, h, _⟩
  · cases h; rfl
  · exact h.elim
  · cases h
  · cases h
theorem Rep1.x_inv {v u : Value} (h : Rep1 w B ι v (.x u)) : v = u := Rep.x_inv (.inl h)
theorem Rep.agg_inv {v : Value} {ds : List D} (h : Rep w B ι v (.agg ds)) : RepA w B ι v ds := by
  rcases h with (h | h) | ⟨ds', h, h'⟩ | ⟨ds', h, _⟩
  · cases h with
    | agg hl hc => exact ⟨_, rfl, hl, fun i c d h1 h2 => .inl (hc i c d h1 h2)⟩
  · exact h.elim
  · cases h; exact h'
  · cases h
theorem Rep.tup_inv {v : Value} {ds : List D} (h : Rep w B ι v (.tup ds)) : RepT w B ι v ds := by
  rcases h with (h | h) | ⟨ds', h, _⟩ | ⟨ds', h, h'⟩
  · cases h with
    | tup hl hc => exact ⟨_, rfl, hl, fun i c d h1 h2 => .inl (.inl (hc i c d h1 h2))⟩
  · exact h.elim
  · cases h
  · cases h; exact h'
theorem Rep.one_inv {v : Value} {d : D} (h : Rep w B ι v d) (hd : ∀ ds, d ≠ .agg ds) (ht : ∀ ds, d ≠ .tup ds := by intro ds e; cases e) : Rep1 w B ι v d := by
  rcases h with h | ⟨ds, e, _⟩ | ⟨ds, e, _⟩
  · exact h
  · exact absurd e (hd ds)
  · exact absurd e (ht ds)
theorem Rep1.one {v : Value} {d : D} (h : Rep1 w B ι v d) (h1 : one d = true) : v.oneCell' = true := by
  rcases h with h | h
  · cases h <;> first | exact h1 | rfl | cases h1
  · cases d <;> simp only [Ref] at h
    case ptr => obtain ⟨b, _, rfl⟩ := h; rfl
    case row => obtain ⟨_, A, n, c, rfl⟩ := h; rfl
    case rel => obtain ⟨b, n, c, _, rfl⟩ := h; rfl
    case bsl => obtain ⟨b, c, _, rfl, _⟩ := h; rfl
    case clo => cases h1
    case mp => obtain ⟨_, r, rfl⟩ := h; rfl
theorem Rep.ptr_inv {v : Value} {id off : Nat} (h : Rep w B ι v (.ptr id off)) : ∃ b, ι id = some (.pointer (some ⟨b, 0, none⟩)) ∧ v = .pointer (some ⟨b, off, none⟩) := by
  rcases h with (h | h) | ⟨_, h, _⟩ | ⟨_, h, _⟩
  · cases h
  · exact h
  · cases h
  · cases h
theorem Rep.elt_ptr {v : Value} {cs : List D} (h : Rep w B ι v (.elt cs)) : ∃ A, v = .pointer (some A) := by
  rcases h with (h | h) | ⟨_, h, _⟩ | ⟨_, h, _⟩
  · cases h; exact ⟨_, rfl⟩
  · exact h.elim
  · cases h
  · cases h
theorem one_ne_agg {d : D} (h : one d = true) : ∀ ds, d ≠ .agg ds := by rintro ds rfl; cases h

theorem add_block (a : Addr) (n : Nat) : (a.add n).block = a.block := by unfold Addr.add; split <;> rfl
theorem add_add' (a : Addr) (i j : Nat) : (a.add i).add j = a.add (i + j) := by
  unfold Addr.add
  by_cases hi : i = 0 <;> by_cases hj : j = 0 <;> simp [hi, hj, Nat.add_assoc]

theorem run_sizeOf {t : TypeId} {n : Nat} (h : szT P t = some n) : (Go.sizeOf t).run P w = .ok n w := by
  unfold szT at h
  simp only [Option.map_eq_some_iff] at h
  obtain ⟨i, hi, rfl⟩ := h
  simp [Go.sizeOf, typeInfo, hi]
theorem run_isAgg {t : TypeId} {b : Bool} (h : aggT P t = some b) : (isAgg t).run P w = .ok b w := by
  unfold aggT at h
  split at h <;> rename_i hu <;> first | cases h | skip
  · simp [isAgg, run_underlying hu]
  · simp [isAgg, run_underlying hu]
  · rename_i d hs ha
    unfold isAgg
    rw [Sem.run_bind, run_underlying hu]
    simp only [Result.andThen_ok]
    cases d <;> simp_all
theorem aggT_false {t : TypeId} (h : aggT P t = some false) : ∃ d, P.underlying t = some d := by
  unfold aggT at h
  split at h <;> rename_i hu <;> first | cases h | exact ⟨_, hu⟩
  exact ⟨_, hu⟩

/-- Cells of an array against abstract cells. -/
def CellsRel (R : Value → D → Prop) (cs : Array Value) (ds : List D) : Prop := cs.size = ds.length ∧ ∀ (i : Nat) (c : Value) (d : D), cs[i]? = some c → ds[i]? = some d → R c d

theorem part_sound {t : TypeId} {cs : Array Value} {ds : List D} {off : Nat} {d : D} (hc : CellsRel (Rep1 w B ι) cs ds) (h : partD P t ds off = some d) :
    ∃ v, (part t cs off).run P w = .ok v w ∧ Rep w B ι v d := by
  unfold partD at h
  split at h
  · rename_i n ha hs
    split at h
    · rename_i hle
      cases h
      refine ⟨.agg (cs.extract off (off + n)), by simp [part, run_isAgg ha, run_sizeOf hs], .inr (.inl ⟨_, rfl, _, rfl, ?_, fun i c d h1 h2 => ?_⟩)⟩
      · have := hc.1
        simp
        omega
      · have hi : i < n := by
          have := (List.getElem?_eq_some_iff.1 h2).1
          simp at this
          omega
        rw [List.getElem?_take_of_lt hi, List.getElem?_drop] at h2
        rw [Array.getElem?_extract] at h1
        have hcs := hc.1
        rw [if_pos (by omega)] at h1
        exact hc.2 (off + i) c d h1 h2
    · cases h
  · rename_i ha
    have hlt := (List.getElem?_eq_some_iff.1 h).1
    have hcs := hc.1
    have hget : cs[off]? = some (cs[off]'(by omega)) := Array.getElem?_eq_getElem (by omega)
    exact ⟨_, by simp [part, run_isAgg ha, hget], .inl (hc.2 off _ d hget h)⟩
  · cases h

/-! ### Comparison -/
def eqFs (P : Program) (cmp : TypeId → D → D → Option Bool) (xs ys : List D) : List Field → Option Bool
  | [] => some true
  | f :: fs =>
    if f.name = "_" then eqFs P cmp xs ys fs
    else match partD P f.type xs f.offset, partD P f.type ys f.offset with
      | some a, some b => match cmp f.type a b, eqFs P cmp xs ys fs with
        | some r, some s => some (r && s)
        | _, _ => none
      | _, _ => none
def eqD (P : Program) : Nat → TypeId → D → D → Option Bool
  | 0, _, _, _ => none
  | n + 1, t, x, y =>
    match P.underlying t, x, y with
    | some .bool, .x (.bool a), .x (.bool b) => some (a == b)
    | some (.int _), .x (.int k a), .x (.int k' b) => if k = k' then some (a == b) else none
    | some .string, .x (.string a), .x (.string b) => some (a.toList == b.toList)
    | some (.struct fs), .agg xs, .agg ys => if P.stoodInHeld t then none else eqFs P (eqD P n) xs ys fs.toList
    | some (.pointer _), .x (.pointer none), .x (.pointer none) => some true
    | some (.pointer _), .ptr _ _, .x (.pointer none) => some false
    | some (.pointer _), .x (.pointer none), .ptr _ _ => some false
    | some (.pointer _), .elt _, .x (.pointer none) => some false
    | some (.pointer _), .x (.pointer none), .elt _ => some false
    | some (.slice _), .emp, .emp => some true
    | some (.slice _), .sl es, .emp => if 0 < es.length then some false else none
    | some (.slice _), .own _ es, .emp => if 0 < es.length then some false else none
    | some (.slice _), .x (.slice A _ _), .emp => some A.isNone
    | _, _, _ => none

theorem eqFs_sound {cmp : TypeId → D → D → Option Bool} {d : Nat} (hcmp : ∀ t x y r vx vy, cmp t x y = some r → Rep w B ι vx x → Rep w B ι vy y → (Op.equalIn d t vx vy).run P w = .ok r w)
    {xs ys : List D} {cx cy : Array Value} (hx : CellsRel (Rep1 w B ι) cx xs) (hy : CellsRel (Rep1 w B ι) cy ys) :
    ∀ (fs : List Field) (r : Bool), eqFs P cmp xs ys fs = some r → (Op.eqFields d cx cy fs).run P w = .ok r w
  | [], r, h => by cases h; simp [Op.eqFields]
  | f :: fs, r, h => by
    unfold eqFs at h
    split at h
    · rename_i hn
      simp only [Op.eqFields, hn, ne_eq, not_true_eq_false, if_false]
      exact eqFs_sound hcmp hx hy fs r h
    · rename_i hn
      split at h
      · rename_i a b ha hb
        split at h
        · rename_i r1 r2 h1 h2
          cases h
          obtain ⟨va, hva, ra⟩ := part_sound hx ha
          obtain ⟨vb, hvb, rb⟩ := part_sound hy hb
          have e := hcmp f.type a b r1 va vb h1 ra rb
          have ih := eqFs_sound hcmp hx hy fs r2 h2
          simp only [Op.eqFields, hn, ne_eq, not_false_eq_true, if_true, Sem.run_bind, hva, hvb, Result.andThen_ok, e]
          cases r1
          · simp
          · simpa using ih
        · cases h
      · cases h

theorem Rep.emp_inv {v : Value} (h : Rep w B ι v .emp) : v = .slice none 0 0 := by
  have h := (h.one_inv (fun _ e => by cases e)).resolve_right (fun h => h.elim)
  cases h
  rfl
theorem Rep.sl_inv {v : Value} {es : List (List D)} (h : Rep w B ι v (.sl es)) : ∃ A n c, v = .slice A n c ∧ (0 < es.length → ∃ a, A = some a) := by
  have h := (h.one_inv (fun _ e => by cases e)).resolve_right (fun h => h.elim)
  cases h with
  | sl0 A c => exact ⟨A, 0, c, rfl, fun h => by simp at h⟩
  | sl => exact ⟨_, _, _, rfl, fun _ => ⟨_, rfl⟩⟩
theorem Rep.own_inv {v : Value} {fl : Bool} {es : List (List D)} (h : Rep w B ι v (.own fl es)) : ∃ A n c, v = .slice A n c ∧ (0 < es.length → ∃ a, A = some a) := by
  have h := (h.one_inv (fun _ e => by cases e)).resolve_right (fun h => h.elim)
  cases h with
  | own0 A c => exact ⟨A, 0, c, rfl, fun h => by simp at h⟩
  | own => exact ⟨_, _, _, rfl, fun _ => ⟨_, rfl⟩⟩
theorem eqD_sound : ∀ (n d : Nat) (t : TypeId) (x y : D) (r : Bool) (vx vy : Value), eqD P n t x y = some r → n ≤ d → Rep w B ι vx x → Rep w B ι vy y →
    (Op.equalIn d t vx vy).run P w = .ok r w
  | 0, _, _, _, _, _, _, _, h, _, _, _ => by cases h
  | n + 1, 0, _, _, _, _, _, _, _, h, _, _ => by omega
  | n + 1, d + 1, t, x, y, r, vx, vy, h, hnd, hx, hy => by
    unfold eqD at h
    split at h
    · rename_i a b hu
      cases h
      rw [hx.x_inv, hy.x_inv]
      exact run_equalIn_bool w d t a b hu
    · rename_i k0 k a k' b hu
      split at h
      · rename_i hk
        cases h
        subst hk
        rw [hx.x_inv, hy.x_inv]
        exact run_equalIn_int w d t k k0 a b hu
      · cases h
    · rename_i a b hu
      cases h
      rw [hx.x_inv, hy.x_inv]
      exact run_equalIn_string w d t a b hu
    · rename_i fs xs ys hu
      split at h
      · cases h
      · rename_i hp
        obtain ⟨cx, rfl, hcx⟩ := hx.agg_inv
        obtain ⟨cy, rfl, hcy⟩ := hy.agg_inv
        have hf : P.fieldsOf t = fs := by simp [Program.fieldsOf, hu]
        rw [run_equalIn_struct w d t cx cy (by rw [hf]; exact hu) (by simpa using hp), hf]
        exact eqFs_sound (fun t x y r vx vy h hx hy => eqD_sound n d t x y r vx vy h (by omega) hx hy) hcx hcy fs.toList r h
    · rename_i e hu
      cases h
      rw [hx.x_inv, hy.x_inv]
      simp [Op.equalIn, run_underlying hu]
    · rename_i e id off hu
      cases h
      rw [hy.x_inv]
      obtain ⟨b, _, rfl⟩ := hx.ptr_inv
      simp [Op.equalIn, run_underlying hu]
    · rename_i e id off hu
      cases h
      rw [hx.x_inv]
      obtain ⟨b, _, rfl⟩ := hy.ptr_inv
      simp [Op.equalIn, run_underlying hu]
    · rename_i e cs hu
      cases h
      rw [hy.x_inv]
      obtain ⟨A, rfl⟩ := hx.elt_ptr
      simp [Op.equalIn, run_underlying hu]
    · rename_i e cs hu
      cases h
      rw [hx.x_inv]
      obtain ⟨A, rfl⟩ := hy.elt_ptr
      simp [Op.equalIn, run_underlying hu]
    · rename_i e hu
      cases h
      rw [hx.emp_inv, hy.emp_inv]
      simp [Op.equalIn, run_underlying hu]
    · rename_i e es hu
      split at h
      · rename_i hl
        cases h
        obtain ⟨A, n, c, rfl, ha⟩ := hx.sl_inv
        obtain ⟨a, rfl⟩ := ha hl
        rw [hy.emp_inv]
        simp [Op.equalIn, run_underlying hu]
      · cases h
    · rename_i e fl es hu
      split at h
      · rename_i hl
        cases h
        obtain ⟨A, n, c, rfl, ha⟩ := hx.own_inv
        obtain ⟨a, rfl⟩ := ha hl
        rw [hy.emp_inv]
        simp [Op.equalIn, run_underlying hu]
      · cases h
    · rename_i e A n c hu
      cases h
      rw [hx.x_inv, hy.emp_inv]
      cases A <;> simp [Op.equalIn, run_underlying hu]
    · cases h

/-! ### Binary operators -/
def intBin (op : BinOp) (k : IntKind) (a b : Int) : Option D :=
  match op with
  | .add => some (.x (.int k (k.wrap (a + b))))
  | .sub => some (.x (.int k (k.wrap (a - b))))
  | .mul => some (.x (.int k (k.wrap (a * b))))
  | .quo => if b = 0 then none else some (.x (.int k (k.wrap (a.tdiv b))))
  | .rem => if b = 0 then none else some (.x (.int k (a.tmod b)))
  | .and => some (.x (.int k (bits .and k a b)))
  | .or => some (.x (.int k (bits .or k a b)))
  | .xor => some (.x (.int k (bits .xor k a b)))
  | .eql => some (.x (.bool (a == b)))
  | .neq => some (.x (.bool (a != b)))
  | .lss => some (.x (.bool (decide (a < b))))
  | .leq => some (.x (.bool (decide (a ≤ b))))
  | .gtr => some (.x (.bool (decide (b < a))))
  | .geq => some (.x (.bool (decide (b ≤ a))))
  | _ => none
def strBin (op : BinOp) (a b : ByteArray) : Option D :=
  match op with
  | .add => if ((a.size + b.size : Nat) : Int) > IntKind.i64.max then none else some (.x (.string (a ++ b)))
  | .eql => some (.x (.bool (a.toList == b.toList)))
  | .neq => some (.x (.bool (!(a.toList == b.toList))))
  | .lss => some (.x (.bool (Op.bytesLess a.toList b.toList)))
  | .leq => some (.x (.bool (Op.bytesLess a.toList b.toList || a.toList == b.toList)))
  | .gtr => some (.x (.bool (!(Op.bytesLess a.toList b.toList || a.toList == b.toList))))
  | .geq => some (.x (.bool (!Op.bytesLess a.toList b.toList)))
  | _ => none
def guardT (P : Program) (t : TypeId) : D → D → Bool
  | .agg _, .agg _ => !P.eqGuardType P.depth t
  | .x (.bool _), _ => true
  | .x (.pointer _), _ => true
  | .ptr _ _, _ => true
  | .elt _, _ => true
  | .emp, _ => true
  | .sl _, _ => true
  | .own _ _, _ => true
  | .x (.slice _ _ _), _ => true
  | _, _ => false
def binD (P : Program) (op : BinOp) (t : TypeId) (x y : D) : Option D :=
  match x, y with
  | .x (.int k a), .x (.int k' b) =>
    match op with
    | .shl => if 0 ≤ b ∧ b ≤ k.bits then some (.x (.int k (k.wrap (a * 2 ^ b.toNat)))) else none
    | .shr => if 0 ≤ b ∧ b ≤ k.bits then some (.x (.int k (a / 2 ^ b.toNat))) else none
    | op => if k = k' then intBin op k a b else none
  | .x (.string a), .x (.string b) => strBin op a b
  | x, y =>
    if guardT P t x y then
      match op with
      | .eql => (eqD P 8 t x y).map fun r => .x (.bool r)
      | .neq => (eqD P 8 t x y).map fun r => .x (.bool !r)
      | _ => none
    else none

theorem intBin_sound {op : BinOp} {k : IntKind} {a b : Int} {d : D} (h : intBin op k a b = some d) (t : TypeId) (x y : Operand) :
    ∃ v, (do eqGuard op t x y (.int k a) (.int k b); binOp op t (.int k a) (.int k b) : Sem Value).run P w = .ok v w ∧ d = .x v := by
  cases op <;> simp only [intBin] at h <;> first
    | (cases h; done)
    | (cases h; exact ⟨_, by simp [eqGuard_at_int, binOp, Op.intArith, Op.intCmp, Op.intBits, bits], rfl⟩)
    | (split at h
       · cases h
       · cases h; exact ⟨_, by simp [eqGuard_at_int, binOp, Op.intDiv, *], rfl⟩)

theorem strBin_sound {op : BinOp} {a b : ByteArray} {d : D} (h : strBin op a b = some d) (t : TypeId) (x y : Operand) :
    ∃ v, (do eqGuard op t x y (.string a) (.string b); binOp op t (.string a) (.string b) : Sem Value).run P w = .ok v w ∧ d = .x v := by
  cases op <;> simp only [strBin] at h <;> first
    | (cases h; done)
    | (cases h; exact ⟨_, by simp [eqGuard_at_string, binOp, Op.stringOp], rfl⟩)
    | (split at h
       · cases h
       · rename_i hn
         cases h
         exact ⟨_, by simp only [eqGuard_at_string, binOp, Op.stringOp, if_neg hn, Sem.run_bind, Sem.run_pure, Result.andThen_ok], rfl⟩)

theorem eqOp_run {t : TypeId} {vx vy : Value} {r : Bool} (h : (Op.equalIn 10000 t vx vy).run P w = .ok r w)
    (hi : ∀ k a k' b, ¬ (vx = .int k a ∧ vy = .int k' b)) (hf : ∀ k a k' b, ¬ (vx = .float k a ∧ vy = .float k' b)) (hc : ∀ k a b k' c d, ¬ (vx = .complex k a b ∧ vy = .complex k' c d)) (hs : ∀ a b, ¬ (vx = .string a ∧ vy = .string b)) :
    (binOp .eql t vx vy).run P w = .ok (.bool r) w ∧ (binOp .neq t vx vy).run P w = .ok (.bool !r) w := by
  have h' : (Op.equal t vx vy).run P w = .ok r w := h
  constructor
  · cases vx <;> cases vy <;> simp only [binOp] <;> first
      | exact absurd ⟨rfl, rfl⟩ (hi _ _ _ _)
      | exact absurd ⟨rfl, rfl⟩ (hf _ _ _ _)
      | exact absurd ⟨rfl, rfl⟩ (hc _ _ _ _ _ _)
      | exact absurd ⟨rfl, rfl⟩ (hs _ _)
      | simp [h']
  · cases vx <;> cases vy <;> simp only [binOp] <;> first
      | exact absurd ⟨rfl, rfl⟩ (hi _ _ _ _)
      | exact absurd ⟨rfl, rfl⟩ (hf _ _ _ _)
      | exact absurd ⟨rfl, rfl⟩ (hc _ _ _ _ _ _)
      | exact absurd ⟨rfl, rfl⟩ (hs _ _)
      | simp [h']

theorem guard_run {op : BinOp} {t : TypeId} {dx dy : D} {vx vy : Value} (h : guardT P t dx dy = true) (hx : Rep w B ι vx dx) (hy : Rep w B ι vy dy) (x y : Operand) :
    (eqGuard op t x y vx vy).run P w = .ok () w ∧ (∀ k a k' b, ¬ (vx = .int k a ∧ vy = .int k' b)) ∧ (∀ k a k' b, ¬ (vx = .float k a ∧ vy = .float k' b)) ∧ (∀ k a b k' c d, ¬ (vx = .complex k a b ∧ vy = .complex k' c d)) ∧ (∀ a b, ¬ (vx = .string a ∧ vy = .string b)) := by
  unfold guardT at h
  split at h
  · obtain ⟨cx, rfl, _⟩ := hx.agg_inv
    obtain ⟨cy, rfl, _⟩ := hy.agg_inv
    exact ⟨run_eqGuard_agg w op t x y cx cy (by simpa using h), by simp, by simp, by simp, by simp⟩
  · rw [hx.x_inv]
    exact ⟨by simp [eqGuard_at_bool], by simp, by simp, by simp, by simp⟩
  · rw [hx.x_inv]
    exact ⟨by simp [eqGuard_at_pointer], by simp, by simp, by simp, by simp⟩
  · obtain ⟨b, _, rfl⟩ := hx.ptr_inv
    exact ⟨by simp [eqGuard_at_pointer], by simp, by simp, by simp, by simp⟩
  · obtain ⟨A, rfl⟩ := hx.elt_ptr
    exact ⟨by simp [eqGuard_at_pointer], by simp, by simp, by simp, by simp⟩
  · rw [hx.emp_inv]
    exact ⟨by simp [eqGuard_at_slice], by simp, by simp, by simp, by simp⟩
  · obtain ⟨A, n, c, rfl, _⟩ := hx.sl_inv
    exact ⟨by simp [eqGuard_at_slice], by simp, by simp, by simp, by simp⟩
  · obtain ⟨A, n, c, rfl, _⟩ := hx.own_inv
    exact ⟨by simp [eqGuard_at_slice], by simp, by simp, by simp, by simp⟩
  · rw [hx.x_inv]
    exact ⟨by simp [eqGuard_at_slice], by simp, by simp, by simp, by simp⟩
  · cases h

theorem bin_sound {op : BinOp} {t : TypeId} {dx dy d : D} {vx vy : Value} (h : binD P op t dx dy = some d) (hx : Rep w B ι vx dx) (hy : Rep w B ι vy dy) (x y : Operand) :
    ∃ v, (do eqGuard op t x y vx vy; binOp op t vx vy : Sem Value).run P w = .ok v w ∧ Rep w B ι v d := by
  unfold binD at h
  split at h
  · rename_i k a k' b
    rw [hx.x_inv, hy.x_inv]
    split at h
    · split at h
      · rename_i hb
        cases h
        exact ⟨_, by simp [eqGuard_at_int, binOp, shift_shl k k' a b hb.1 hb.2], .inl (.inl (.x _))⟩
      · cases h
    · split at h
      · rename_i hb
        cases h
        exact ⟨_, by simp [eqGuard_at_int, binOp, shift_shr k k' a b hb.1 hb.2], .inl (.inl (.x _))⟩
      · cases h
    · split at h
      · rename_i hk
        subst hk
        obtain ⟨v, hv, rfl⟩ := intBin_sound h t x y
        exact ⟨v, hv, .inl (.inl (.x _))⟩
      · cases h
  · rw [hx.x_inv, hy.x_inv]
    obtain ⟨v, hv, rfl⟩ := strBin_sound h t x y
    exact ⟨v, hv, .inl (.inl (.x _))⟩
  · split at h
    · rename_i hg
      obtain ⟨g1, g2, g3, g4, g5⟩ := guard_run (op := op) hg hx hy x y
      split at h
      · simp only [Option.map_eq_some_iff] at h
        obtain ⟨r, hr, rfl⟩ := h
        have := (eqOp_run (eqD_sound 8 10000 t dx dy r vx vy hr (by omega) hx hy) g2 g3 g4 g5).1
        exact ⟨_, by rw [Sem.run_bind, g1]; exact this, .inl (.inl (.x _))⟩
      · simp only [Option.map_eq_some_iff] at h
        obtain ⟨r, hr, rfl⟩ := h
        have := (eqOp_run (eqD_sound 8 10000 t dx dy r vx vy hr (by omega) hx hy) g2 g3 g4 g5).2
        exact ⟨_, by rw [Sem.run_bind, g1]; exact this, .inl (.inl (.x _))⟩
      · cases h
    · cases h

def unD (op : UnOp) : D → Option D
  | .x (.int k n) => match op with
    | .neg => some (.x (.int k (k.wrap (0 - n))))
    | _ => none
  | .x (.bool b) => match op with
    | .not => some (.x (.bool !b))
    | _ => none
  | _ => none
theorem un_sound {op : UnOp} {dx d : D} {vx : Value} (h : unD op dx = some d) (hx : Rep w B ι vx dx) : ∃ v, (Op.unary op vx).run P w = .ok v w ∧ Rep w B ι v d := by
  unfold unD at h
  split at h
  · rw [hx.x_inv]
    split at h
    · cases h; exact ⟨_, by simp [Op.unary, Op.intArith], .inl (.inl (.x _))⟩
    · cases h
  · rw [hx.x_inv]
    split at h
    · cases h; exact ⟨_, by simp [Op.unary], .inl (.inl (.x _))⟩
    · cases h
  · cases h

def convD (P : Program) (s t : TypeId) (x : D) : Option D :=
  match P.underlying s, P.underlying t, x with
  | some _, some (.int k), .x (.int _ n) => some (.x (.int k (k.wrap n)))
  | some _, some .string, .x (.string a) => some (.x (.string a))
  | _, _, _ => none
theorem conv_sound {s t : TypeId} {dx d : D} {vx : Value} (h : convD P s t dx = some d) (hx : Rep w B ι vx dx) : ∃ v, (convert s t vx).run P w = .ok v w ∧ Rep w B ι v d := by
  unfold convD at h
  split at h
  · rename_i hs ht
    cases h
    rw [hx.x_inv]
    exact ⟨_, by simp [convert, run_underlying hs, run_underlying ht, Conv.intToInt], .inl (.inl (.x _))⟩
  · rename_i hs ht
    cases h
    rw [hx.x_inv]
    exact ⟨_, by simp [convert, run_underlying hs, run_underlying ht], .inl (.inl (.x _))⟩
  · cases h

end
end Go.Abs
