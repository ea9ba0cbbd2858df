/-
  Functions of the library on maps whose keys are strings, as contracts: maps.Copy, maps.Keys, slices.Sorted at keys.
-/
import Derived.Test.YtgngoijehjphoaaAbs4
import Derived.Lib.SlMapMerge
import Derived.Sort.KeysCollected
namespace Go.Abs
set_option linter.unusedSimpArgs false
set_option linter.unusedVariables false
open Go Go.RowKit Go.WideShapes

/-- Whole values as they stand, read as data. -/
def RV (v : Value) : Option (DataW Value × List MemPlace) := some (.held v, [])
def litOf : Value → Lit
  | .string s => .string s.data.toList
  | _ => .bool false
def rgV (e : Value × Value) : Lit × DataW Value := (litOf e.1, .held e.2)
def dec (p : Lit × DataW Value) : Value × Value :=
  (match p.1 with | .string l => .string ⟨l.toArray⟩ | _ => .bool false, match p.2 with | .held v => v | _ => .bool false)
/-- Keys that are strings, none too long. -/
def allK : Es → Bool
  | [] => true
  | (.string s, _) :: r => decide (s.size ≤ maxLen) && allK r
  | _ => false
theorem allK_iff : ∀ es : Es, allK es = true ↔ ∀ e ∈ es, ∃ s, e.1 = .string s ∧ s.size ≤ maxLen
  | [] => by simp [allK]
  | (c, v) :: r => by
    have ih := allK_iff r
    cases c <;> simp [allK, ih]
theorem allK_S {es : Es} (h : allK es = true) : allS es = true := (allS_iff es).2 fun e he => let ⟨s, h1, _⟩ := (allK_iff es).1 h e he; ⟨s, h1⟩
theorem dec_rgV {e : Value × Value} (h : ∃ s, e.1 = .string s) : dec (rgV e) = e := by
  obtain ⟨k, v⟩ := e
  obtain ⟨s, hs⟩ := h
  simp only at hs
  subst hs
  rfl
theorem map_dec {es : Es} (h : allS es = true) : (es.map rgV).map dec = es := by
  rw [List.map_map]
  conv => rhs; rw [← List.map_id es]
  exact List.map_congr_left fun e he => dec_rgV ((allS_iff es).1 h e he)
theorem rgV_perm {es es' : Es} (h : allS es = true) (h' : allS es' = true) (hp : (es.map rgV).Perm (es'.map rgV)) : es.Perm es' := by
  have := hp.map dec
  rwa [map_dec h, map_dec h'] at this

/-! ### Entries laid into a map -/
def mergeM (es : Es) : Es → Es
  | [] => es
  | (.string k, v) :: r => mergeM (putM k v es) r
  | _ :: r => mergeM es r
def isKey (k : ByteArray) (e : Value × Value) : Bool := match e.1 with
  | .string s => decide (k = s)
  | _ => false
theorem putM_filter (k : ByteArray) (v : Value) : ∀ es : Es, keysNd es → (putM k v es).Perm ((.string k, v) :: es.filter fun e => !isKey k e)
  | [], _ => .refl _
  | (c, u) :: r, hn => by
    obtain ⟨h1, h2⟩ := List.pairwise_cons.1 hn
    have ih := putM_filter k v r h2
    have other : isKey k (c, u) = false → ((c, u) :: putM k v r).Perm ((.string k, v) :: ((c, u) :: r).filter fun e => !isKey k e) := fun hk => by
      rw [List.filter_cons_of_pos (by simp [hk])]
      exact (ih.cons _).trans (.swap _ _ _)
    cases c <;> simp only [putM] <;> first
      | exact other rfl
      | skip
    rename_i s
    split
    · rename_i e
      subst e
      have hf : r.filter (fun e => !isKey k e) = r := List.filter_eq_self.2 fun e he => by
        have := h1 e he
        obtain ⟨c, w⟩ := e
        cases c <;> simp only [isKey, Bool.not_eq_true', decide_eq_false_iff_not] <;> try rfl
        rintro rfl
        exact this rfl
      rw [List.filter_cons_of_neg (by simp [isKey]), hf]
    · rename_i hne
      exact other (by simp [isKey, hne])
theorem putM_nd {k : ByteArray} {v : Value} {es : Es} (h : keysNd es) : keysNd (putM k v es) := by
  rw [keysNd_perm (putM_filter k v es h)]
  refine List.pairwise_cons.2 ⟨fun e he => ?_, List.Pairwise.filter _ h⟩
  have := (List.mem_filter.1 he).2
  rintro e1
  simp [isKey, ← e1] at this
theorem putM_allS {k : ByteArray} {v : Value} {es : Es} (hn : keysNd es) (h : allS es = true) : allS (putM k v es) = true := by
  rw [allS_perm (putM_filter k v es hn), allS_iff]
  rintro e he
  rcases List.mem_cons.1 he with rfl | he
  · exact ⟨k, rfl⟩
  · exact (allS_iff es).1 h e (List.mem_filter.1 he).1
theorem putM_comm {k1 k2 : ByteArray} {v1 v2 : Value} {es : Es} (h : keysNd es) (hne : k1 ≠ k2) : (putM k1 v1 (putM k2 v2 es)).Perm (putM k2 v2 (putM k1 v1 es)) := by
  have key : ∀ (a b : ByteArray) (x y : Value), a ≠ b → (putM a x (putM b y es)).Perm ((.string a, x) :: (.string b, y) :: (es.filter fun e => !isKey b e).filter fun e => !isKey a e) := fun a b x y hab => by
    refine (putM_filter a x _ (putM_nd h)).trans (.cons _ ?_)
    refine ((putM_filter b y es h).filter _).trans ?_
    rw [List.filter_cons_of_pos (by simp [isKey, hab])]
  refine (key k1 k2 v1 v2 hne).trans ((List.Perm.swap _ _ _).trans ?_)
  refine List.Perm.trans ?_ (key k2 k1 v2 v1 (Ne.symm hne)).symm
  rw [List.filter_filter, List.filter_filter]
  refine .cons _ (.cons _ ?_)
  have : (fun e => !isKey k1 e && !isKey k2 e) = fun e => !isKey k2 e && !isKey k1 e := funext fun e => Bool.and_comm _ _
  rw [this]
theorem mergeM_left {fs : Es} : ∀ {es es' : Es}, es.Perm es' → keysNd es → (mergeM es fs).Perm (mergeM es' fs) := by
  induction fs with
  | nil => intro es es' h _; exact h
  | cons e r ih =>
    intro es es' h hn
    obtain ⟨c, v⟩ := e
    cases c <;> simp only [mergeM] <;> first
      | exact ih h hn
      | exact ih (putM_perm _ _ h hn) (putM_nd hn)
theorem mergeM_right {fs fs' : Es} (h : fs.Perm fs') : ∀ {es : Es}, keysNd es → keysNd fs → (mergeM es fs).Perm (mergeM es fs') := by
  induction h with
  | nil => intro es _ _; exact .refl _
  | cons x _ ih =>
    intro es hn hf
    have hf' := (List.pairwise_cons.1 hf).2
    obtain ⟨c, v⟩ := x
    cases c <;> simp only [mergeM] <;> first
      | exact ih hn hf'
      | exact ih (putM_nd hn) hf'
  | swap x y l =>
    intro es hn hf
    have hne : y.1 ≠ x.1 := (List.pairwise_cons.1 hf).1 x (by simp)
    obtain ⟨c, v⟩ := x
    obtain ⟨c', v'⟩ := y
    cases c <;> cases c' <;> simp only [mergeM] <;> first
      | exact .refl _
      | skip
    exact mergeM_left (putM_comm hn (fun e => hne (by rw [e]))) (putM_nd (putM_nd hn))
  | trans h1 _ ih1 ih2 =>
    intro es hn hf
    exact (ih1 hn hf).trans (ih2 hn ((keysNd_perm h1).1 hf))
theorem mergeM_allS {fs : Es} : ∀ {es : Es}, keysNd es → allS es = true → allS (mergeM es fs) = true := by
  induction fs with
  | nil => intro es _ h; exact h
  | cons e r ih =>
    intro es hn h
    obtain ⟨c, v⟩ := e
    cases c <;> simp only [mergeM] <;> first
      | exact ih hn h
      | exact ih (putM_nd hn) (putM_allS hn h)

/-! ### A map in memory, read as data -/
def Rd (D : DataW Value) (es : Es) : Prop := ∃ L, D = .map L ∧ L.Perm (es.map rgV)
theorem rd_put {D : DataW Value} {es : Es} (h : Rd D es) (hn : keysNd es) (ha : allS es = true) (k : ByteArray) (v : Value) : Rd (D.put (.string k.data.toList) (.held v)) (putM k v es) := by
  obtain ⟨L, rfl, hL⟩ := h
  refine ⟨_, rfl, (insert_perm _ _).trans ?_⟩
  refine List.Perm.trans ?_ ((putM_filter k v es hn).map rgV).symm
  rw [List.map_cons]
  refine .cons _ ((hL.filter _).trans ?_)
  rw [List.filter_map]
  have e : es.filter ((fun p : Lit × DataW Value => !p.1.sameKey (.string k.data.toList)) ∘ rgV) = es.filter fun e => !isKey k e := by
    refine List.filter_congr fun e he => ?_
    obtain ⟨s, hs⟩ := (allS_iff es).1 ha e he
    simp only [Function.comp, rgV, litOf, hs, Lit.sameKey, isKey]
    congr 1
    rw [Bool.eq_iff_iff, beq_iff_eq, decide_eq_true_iff]
    constructor
    · intro h
      cases k; cases s
      simp at h
      rw [h]
    · rintro rfl; rfl
  rw [e]
theorem rd_fold {fs : Es} : ∀ {D : DataW Value} {es : Es}, Rd D es → keysNd es → allS es = true → allS fs = true → Rd ((fs.map rgV).foldl (fun D p => D.put p.1 p.2) D) (mergeM es fs) := by
  induction fs with
  | nil => intro D es h _ _ _; exact h
  | cons e r ih =>
    intro D es h hn ha hf
    obtain ⟨c, v⟩ := e
    cases c <;> simp only [allS] at hf <;> first
      | cases hf
      | skip
    simp only [List.map_cons, List.foldl_cons, mergeM]
    exact ih (rd_put h hn ha _ v) (putM_nd hn) (putM_allS hn ha) hf
theorem rd_merge {D E : DataW Value} {es fs : Es} (h : Rd D es) (hf : Rd E fs) (hn : keysNd es) (ha : allS es = true) (hnf : keysNd fs) (haf : allS fs = true) : Rd (Lib.mergeD D E) (mergeM es fs) := by
  obtain ⟨L, rfl, hL⟩ := hf
  have h1 : (L.map dec).Perm fs := by
    have := hL.map dec
    rwa [map_dec haf] at this
  have ha1 : allS (L.map dec) = true := by rw [allS_perm h1]; exact haf
  have h2 : (L.map dec).map rgV = L := by
    rw [List.map_map]
    conv => rhs; rw [← List.map_id L]
    refine List.map_congr_left fun p hp => ?_
    obtain ⟨e, he, rfl⟩ := List.mem_map.1 (hL.mem_iff.1 hp)
    simp only [Function.comp, dec_rgV ((allS_iff fs).1 haf e he), id]
  have h3 := rd_fold h hn ha ha1
  rw [h2] at h3
  obtain ⟨L', e, hL'⟩ := h3
  exact ⟨L', e, hL'.trans ((mergeM_right h1 hn ((keysNd_perm h1).2 hnf)).map rgV)⟩

section
variable {P : Program} {kt : TypeId} {w : World} {b : Nat}
theorem keyOf_string (hk : P.underlying kt = some .string) (v : Value) : keyOf P kt v = mapKey P kt v := by simp only [keyOf, hk]
theorem own_of (hk : P.underlying kt = some .string) {ms : Array MapEntry} {ck : Nat} {es : Es} (hb : w.heap[b]? = some (.map ms ck)) (hm : MapAt ms ck es) (ha : allK es = true) (hl : es.length ≤ maxLen) :
    ∃ D, w.ownsMap P kt RV b es.length D ∧ Rd D es ∧ Maps.size D = es.length := by
  have hlen : ms.size = es.length := by rw [← hm.1.length_eq]; simp
  have hrd : ∀ x ∈ ms.toList, WideElems.rd P kt RV x = some (rgV (x.key, x.val)) := by
    intro x hx
    obtain ⟨s, hs, hsz⟩ := (allK_iff es).1 ha (x.key, x.val) (hm.1.mem_iff.1 (List.mem_map.2 ⟨x, hx, rfl⟩))
    simp only at hs
    simp [WideElems.rd, keyOf_string hk, mapKey, hk, hs, hsz, RV, rgV, litOf]
  have hmap : ms.toList.map (WideElems.rg P kt RV) = (pairs ms).map rgV := by
    unfold pairs
    rw [List.map_map]
    exact List.map_congr_left fun x hx => WideElems.rg_of (hrd x hx)
  refine ⟨_, ⟨ms, ck, hb, ⟨by omega, hm.2, fun x hx => ⟨_, hrd x hx⟩⟩, by omega, rfl⟩, ⟨_, rfl, ?_⟩, ?_⟩
  · rw [hmap]
    exact (sorted_perm _).trans (hm.1.map rgV)
  · simp [Maps.size, length_sorted, hlen]
theorem at_of (hk : P.underlying kt = some .string) {D : DataW Value} {n : Nat} {es : Es} (h : w.ownsMap P kt RV b n D) (hr : Rd D es) (ha : allS es = true) : ∃ ms ck, w.heap[b]? = some (.map ms ck) ∧ MapAt ms ck es := by
  obtain ⟨ms, ck, hb, F, _, rfl⟩ := h
  obtain ⟨L, e, hL⟩ := hr
  cases e
  have hk1 : ∀ x ∈ ms.toList, ∃ s, x.key = .string s ∧ WideElems.rg P kt RV x = rgV (x.key, x.val) := by
    intro x hx
    obtain ⟨⟨y1, y2⟩, hy⟩ := F.reads x hx
    have h1 := WideElems.rd_key hy
    simp only at h1
    rw [keyOf_string hk] at h1
    obtain ⟨z, hz, hz2⟩ := WideElems.rd_val hy
    cases hz
    rw [WideElems.rg_of hy]
    obtain ⟨key, val, born⟩ := x
    cases key <;> simp only [mapKey, hk] at h1 <;> first | cases h1 | skip
    rename_i s
    split at h1
    · cases h1
      refine ⟨s, rfl, ?_⟩
      simp only at hz2
      subst hz2
      rfl
    · cases h1
  have hmap : ms.toList.map (WideElems.rg P kt RV) = (pairs ms).map rgV := by
    unfold pairs
    rw [List.map_map]
    exact List.map_congr_left fun x hx => (hk1 x hx).choose_spec.2
  rw [hmap] at hL
  refine ⟨ms, ck, hb, rgV_perm ?_ ha (((sorted_perm _).symm).trans hL), F.stamped⟩
  rw [allS_iff]
  intro e he
  obtain ⟨x, hx, rfl⟩ := List.mem_map.1 he
  obtain ⟨s, hs, _⟩ := hk1 x hx
  exact ⟨s, hs⟩
end

section
variable {P : Program} {G : Nat → Option (List D)} {f g : FuncId} {kt : TypeId}
/-- maps.Copy. -/
noncomputable def E_copy (hs : List (Nat × O)) (ds : List D) : Option (D × List (Nat × O)) := match hs, ds with
  | [(1000, .mp es)], [.mp 1000, .mpv fs] => if allK es = true ∧ allK fs = true ∧ es.length + fs.length ≤ maxLen then some (.tup [], [(1000, .mp (mergeM es fs))]) else none
  | _, _ => none
theorem CE_copy_of (hent : ∀ (args : Array Value) (w : World), (callFunc f args).run P w = .ok (.enter f args) w) (hk : P.underlying kt = some .string)
    (hcopy : ∀ (bd bs nd ns : Nat) (Dd Ds : DataW Value) (w : World), w.ownsMap P kt RV bd nd Dd → w.ownsMap P kt RV bs ns Ds → bd ≠ bs → nd + Maps.size Ds ≤ maxLen →
      Calls P f #[.map (some bd), .map (some bs)] w fun e w' => e = .returned (.tuple #[]) ∧ w'.ownsMap P kt RV bd (nd + Maps.size Ds) (Lib.mergeD Dd Ds) ∧ w'.ownsMap P kt RV bs ns Ds ∧ w.grownBy w' (some bd))
    (hs : List (Nat × O)) (ds : List D) (r : D) (hs' : List (Nat × O)) (h : E_copy hs ds = some (r, hs')) : ContractE P G f hs ds r hs' := by
  unfold E_copy at h
  split at h
  · rename_i es fs
    split at h
    · rename_i hc
      obtain ⟨ha, haf, hlen⟩ := hc
      cases h
      refine ⟨hent, fun w ι args hobjs hglob hargs => ?_⟩
      obtain ⟨v, hv, r, ms, ck, rfl, hw, hh, hm⟩ := hobjs.obj 1000 _ rfl
      obtain ⟨b2, ms2, ck2, hargs', hok2, hh2, hm2⟩ : ∃ b2 ms2 ck2, args = #[.map (some r), .map (some b2)] ∧ okB ι b2 ∧ w.heap[b2]? = some (.map ms2 ck2) ∧ MapAt ms2 ck2 fs := by
        obtain ⟨hl, hc⟩ := hargs
        match args, hl with
        | ⟨[u1, u2]⟩, _ =>
          have h1 := mp_inv (hc 0 u1 _ rfl rfl)
          rw [hv] at h1
          cases h1
          have h2 := (hc 1 u2 _ rfl rfl).one_inv (fun _ e => by cases e)
          rcases h2 with h2 | h2
          · cases h2 with
            | mpv hb hh2 hm2 => exact ⟨_, _, _, rfl, hb, hh2, hm2⟩
          · exact h2.elim
      subst hargs'
      have hne : r ≠ b2 := fun e => hok2.2 1000 _ hv (by rw [e]; rfl)
      obtain ⟨Dd, hd, rd, hsd⟩ := own_of hk hh hm ha (by omega)
      obtain ⟨Ds, hs, rs, hss⟩ := own_of hk hh2 hm2 haf (by omega)
      refine (hcopy r b2 _ _ Dd Ds w hd hs hne (by rw [hss]; exact hlen)).mono ?_
      rintro en w' ⟨he, ho, _, hg⟩
      obtain ⟨ms', ck', hh', hm'⟩ := at_of hk ho (rd_merge rd rs hm.nd (allK_S ha) hm2.nd (allK_S haf)) (mergeM_allS hm.nd (allK_S ha))
      refine ⟨_, ι, he, (BelowZ.refl _ _ w).grown hg (Nat.le_refl _) (fun k hk => by cases hk; exact hw), rfl, rfl, ⟨fun id o ho' => ?_, fun id u hu => ?_, hobjs.inj, hobjs.fresh⟩, .inr (.inr ⟨_, rfl, #[], rfl, rfl, fun i c d h => by simp at h⟩), fun id u hu _ _ => .inr hu⟩
      · simp only [getH] at ho'
        split at ho'
        · rename_i e; subst e; cases ho'
          exact ⟨_, hv, r, ms', ck', rfl, hw, hh', hm'⟩
        · cases ho'
      · obtain ⟨o, ho'⟩ := hobjs.dom id u hu
        simp only [getH] at ho' ⊢
        split at ho'
        · rename_i e; subst e; exact ⟨_, if_pos rfl⟩
        · cases ho'
    · cases h
  · cases h
/-- maps.Keys: an iterator. -/
def F_keys (g : FuncId) (ds : List D) : Option D := match ds with
  | [.mpv es] => some (.fnm g es)
  | _ => none
theorem C_keys_of (hent : ∀ (args : Array Value) (w : World), (callFunc f args).run P w = .ok (.enter f args) w) {t : TypeId}
    (hkeys : ∀ (b : Nat) (w : World), Calls P f #[.map (some b)] w fun e w' => e = .returned (.func (.func g) #[] #[.pointer (some ⟨w.heap.size, 0, none⟩)]) ∧ w' = w.alloc (.cells #[.map (some b)] t))
    (ds : List D) (r : D) (h : F_keys g ds = some r) : Contract P G f ds r := by
  unfold F_keys at h
  split at h
  · rename_i es
    cases h
    refine ⟨hent, fun w ok args hglob hargs => ?_⟩
    obtain ⟨hl, hc⟩ := hargs
    match args, hl with
    | ⟨[u]⟩, _ =>
      have h1 := hc 0 u _ rfl rfl
      cases h1 with
      | @mpv b ms ck _ hb hh hm =>
        refine (hkeys b w).mono ?_
        rintro e w' ⟨rfl, rfl⟩
        have hlt := (Array.getElem?_eq_some_iff.1 hh).1
        exact ⟨_, rfl, ext_alloc w _, .fnm (.inr (Nat.le_refl _)) (.inl hb) (heap_alloc_new w _) (by rw [heap_alloc_old w _ hlt]; exact hh) hm⟩
  · cases h
def keysL : Es → List ByteArray
  | [] => []
  | (.string s, _) :: r => s :: keysL r
  | _ :: r => keysL r
theorem strKeys_rd {D : DataW Value} {es : Es} (h : Rd D es) (ha : allS es = true) : (strKeys D).Perm ((keysL es).map bytesL) := by
  obtain ⟨L, rfl, hL⟩ := h
  refine (hL.map _).trans ?_
  rw [List.map_map]
  clear hL
  have : ∀ es : Es, allS es = true → es.map ((fun p : Lit × DataW Value => strOf p.1) ∘ rgV) = (keysL es).map bytesL := by
    intro es
    induction es with
    | nil => intro _; rfl
    | cons e r ih =>
      obtain ⟨c, v⟩ := e
      intro ha
      cases c <;> simp only [allS] at ha <;> first | cases ha | skip
      simp only [List.map_cons, keysL, ih ha]
      rfl
  rw [this es ha]
/-- A new row of strings. -/
theorem own_rows {w : World} {B : Nat} {v : Value} {l : List ByteArray} {t : TypeId} {ok fr : Nat → Prop} (h : w.ownsRow B t 1 v l.length (l.map Value.string)) (hfr : ∀ b, B ≤ b → fr b) : RepI w ok fr v (.own true (l.map eS)) := by
  rcases h.2 with ⟨rfl, h0⟩ | ⟨g, cap, cur, rfl, hB, hh, hle, hmx, hcs, hxs⟩
  · have : l = [] := List.eq_nil_of_length_eq_zero (by simpa using h0)
    subst this
    exact .own0 _ _ _
  · have hcell : ∀ i s, l[i]? = some s → w.cell? ⟨g, i, none⟩ = some (.string s) := by
      intro i s hs
      have hi := (List.getElem?_eq_some_iff.1 hs).1
      have hx : (l.map Value.string)[i]? = some (.string s) := by rw [List.getElem?_map, hs]; rfl
      rw [← hxs, List.getElem?_take_of_lt (by simpa using hi), Array.getElem?_toList] at hx
      simp [World.cell?, hh, hx]
    have e : ∀ i, (Addr.mk g 0 none).add i = ⟨g, i, none⟩ := fun i => by simp [Addr.add]; exact fun h => h.symm
    have key : RepI w ok fr (.slice (some ⟨g, 0, none⟩) (l.map eS).length cap) (.own true (l.map eS)) := by
      refine .own (sz := 1) (hfr g hB) (Array.getElem?_eq_some_iff.1 hh).1 (by simpa using hle) ?_ ?_ ?_ ?_ ?_
      · intro x hx d hd
        obtain ⟨s, _, rfl⟩ := List.mem_map.1 hx
        simp at hd; subst hd; rfl
      · intro x hx
        obtain ⟨s, _, rfl⟩ := List.mem_map.1 hx
        rfl
      · intro i j hi hj
        have hi' : i < l.length := by simpa using hi
        exact ⟨_, by rw [e, show i * 1 + j = i by omega]; exact hcell i _ (List.getElem?_eq_getElem hi'), rfl⟩
      · intro i x j d u hx hd hu
        rw [List.getElem?_map, Option.map_eq_some_iff] at hx
        obtain ⟨s, hs, rfl⟩ := hx
        cases j with
        | succ j => simp at hd
        | zero =>
          simp at hd
          subst hd
          rw [e, Nat.mul_one, Nat.add_zero, hcell i s hs] at hu
          cases hu
          exact .x _
      · intro _ x hx d hd
        obtain ⟨s, _, rfl⟩ := List.mem_map.1 hx
        simp at hd
        exact ⟨_, hd⟩
    rw [List.length_map] at key
    exact key
/-- slices.Sorted at the keys of a map. -/
noncomputable def F_sorted (g : FuncId) (ds : List D) : Option D := match ds with
  | [.fnm g' es] => if g' = g ∧ allK es = true ∧ es.length * 16 ≤ 140737488355328 then some (.own true ((sortS (keysL es)).map eS)) else none
  | _ => none
theorem C_sorted_of (hent : ∀ (args : Array Value) (w : World), (callFunc f args).run P w = .ok (.enter f args) w) (hk : P.underlying kt = some .string) {t : TypeId}
    (hsrt : ∀ (Bm b nn : Nat) (D0 : DataW Value) (w : World), Bm < w.heap.size → w.cell? ⟨Bm, 0, none⟩ = some (.map (some b)) → w.ownsMap P kt RV b nn D0 → Maps.size D0 ≤ maxLen → Maps.size D0 * 16 ≤ 140737488355328 →
      Calls P f #[.func (.func g) #[] #[.pointer (some ⟨Bm, 0, none⟩)]] w fun e w' => ∃ (v : Value) (ss : List (List UInt8)), e = .returned v ∧ ss.Perm (strKeys D0) ∧
        w'.ownsRow w.heap.size t 1 v ss.length ((ss.mergeSort (fun x y => decide (x ≤ y))).map Proofs.encStr) ∧ Below w.heap.size w w')
    (ds : List D) (r : D) (h : F_sorted g ds = some r) : Contract P G f ds r := by
  unfold F_sorted at h
  split at h
  · rename_i g' es
    split at h
    · rename_i hc
      obtain ⟨rfl, ha, hlen⟩ := hc
      cases h
      refine ⟨hent, fun w ok args hglob hargs => ?_⟩
      obtain ⟨hl, hc⟩ := hargs
      match args, hl with
      | ⟨[u]⟩, _ =>
        have h1 := hc 0 u _ rfl rfl
        cases h1 with
        | @fnm _ b r ms ck e _ hb hb2 hcl hh hm =>
          have hmx : es.length ≤ maxLen := by have : maxLen = 2 ^ 63 - 1 := rfl; omega
          obtain ⟨D0, ho, hr, hsz⟩ := own_of hk hh hm ha hmx
          refine (hsrt b r _ D0 w (Array.getElem?_eq_some_iff.1 hcl).1 (by simp [World.cell?, hcl]) ho (by omega) (by omega)).mono ?_
          rintro en w' ⟨v, ss, rfl, hp, hrow, hbl⟩
          refine ⟨v, rfl, hbl, ?_⟩
          have hp2 := hp.trans (strKeys_rd hr (allK_S ha))
          have e1 := mergeSort_of_perm hp2
          have e2 : (ss.mergeSort (fun x y => decide (x ≤ y))).map Proofs.encStr = (sortS (keysL es)).map Value.string := by
            rw [show (ss.mergeSort fun x y => decide (x ≤ y)) = ((keysL es).map bytesL).mergeSort fun x y => decide (x ≤ y) from e1]
            simp only [sortS, List.map_map]
            rfl
          rw [e2, show ss.length = (sortS (keysL es)).length by rw [sortS_length, hp2.length_eq, List.length_map]] at hrow
          exact own_rows hrow (fun b hb => hb)
    · cases h
  · cases h
end
end Go.Abs
