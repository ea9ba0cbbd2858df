/-
  The reference's Dry, and the statement Dries, run abstractly.
-/
import Derived.Test.YtdefohgkniglpaaGreatDoorChR
import Derived.Test.YtdefohgkniglpaaGreatDoorGenX
namespace Go.Proofs.YtdefohgkniglpaaGreatDoor
set_option linter.unusedSimpArgs false
set_option linter.unusedVariables false
open Go Go.Abs
set_option maxHeartbeats 16000000
set_option maxRecDepth 100000
theorem seen_loop (k : Kl) (q : Bool) (z : List D) (hz : z = [I 0, I 0, I 0, I 0, I 0, I 0]) (a b c d e : Int) (hl : k.items.length ≤ 1000000) : ∀ (n i : Nat) (r : List Itm) (s : Int), k.items.drop i = r → r.length < n →
    L_ref40_seen 5 n ⟨[(0, .any), (1, .any), (2, .ptr 2 0), (3, .ptr 3 0), (4, .ptr 4 0), (5, I i)], [(2, .box 41 [I a, I b, I c, I d, I e, I s]), (3, .box 75 (eK k)), (4, .box 41 z)]⟩ =
      some (.ex 0, ⟨[(0, .any), (1, .any), (2, .ptr 2 0), (3, .any), (4, .ptr 4 0), (5, .any)], [(2, .box 41 [I a, I b, I c, I d, I e, I (stp s r)]), (4, .box 41 z)]⟩)
  | 0, _, _, _, _, hn => by omega
  | n + 1, i, [], s, hr, hn => by
    subst hz
    rw [L_ref40_seen_succ, R_ref40_seen_eq]
    simp [dn hr, stp]
  | n + 1, i, x :: r, s, hr, hn => by
    obtain ⟨h1, h3, hr', hi⟩ := dc (enc := eT) hr
    have hw := wrapN (n := i) (by omega)
    have hg := rgrad_run x.cel
    have ih := seen_loop k q z hz a b c d e hl n (i + 1) r (if s < grad x.cel then grad x.cel else s) hr' (by simp at hn; omega)
    subst hz
    rw [L_ref40_seen_succ, R_ref40_seen_eq]
    simp at ih hg
    simp [h1, h3, hw, hg, ih, stp]
theorem seen_run (k : Kl) (h : k.items.length ≤ 1000000) (h0 : k.items ≠ []) (a b c d e g : Int) : F_ref40_seen [.agg [I a, I b, I c, I d, I e, I g], .agg (eK k)] = some (.agg [I k.ticks, I k.held, I k.stage, I (mx d k.t), I (mx e k.d), I (mx g (steepM k.items))]) := by
  rw [F_ref40_seen_eq]
  have ih := seen_loop k false _ rfl k.ticks k.held k.stage (mx d k.t) (mx e k.d) h bigL 0 k.items g rfl (by have := bigL_ge; omega)
  rw [stp_eq g h0] at ih
  generalize steepM k.items = st at *
  unfold mx at *
  simp at ih
  simp [ih]
theorem rdryI_loop (l : List Bd) (w : Spc) (nm : ByteArray) (ramp : Int) (g : List Stg) (fs : List Flt) (ticks : Int) (hl : l.length ≤ 1000000) (hok : ∀ b ∈ l, okBd b) : ∀ (n i : Nat) (r : List Bd) (a : List Itm), l.drop i = r → r.length < n → a.length ≤ i →
    L_ref40_DryX 11 n ⟨[(0, .sl (l.map eBd)), (1, .any), (2, .any), (3, .sl (fs.map eFl)), (4, I ticks), (6, .ptr 6 0), (7, .ptr 7 0), (10, .any), (11, .ptr 11 0), (12, .any), (13, .any), (14, .any), (15, .row 15), (16, I i), (17, .any), (18, .any), (19, .any), (20, .any), (21, .any), (22, .any), (23, .any)], [(6, .box 24 (eS w)), (7, .box 27 [S nm, I ramp, .sl (g.map eSg)]), (11, .box 41 [I 0, I 0, I 0, I 0, I 0, I 0]), (15, .row 73 4 true (a.map eT))]⟩ =
      some (.ex 0, ⟨[(0, .sl (l.map eBd)), (1, .any), (2, .any), (3, .sl (fs.map eFl)), (4, I ticks), (6, .ptr 6 0), (7, .ptr 7 0), (10, .any), (11, .ptr 11 0), (12, .any), (13, .any), (14, .any), (15, .row 15), (16, .any), (17, .any), (18, .any), (19, .any), (20, .any), (21, .any), (22, .any), (23, .any)], [(6, .box 24 (eS w)), (7, .box 27 [S nm, I ramp, .sl (g.map eSg)]), (11, .box 41 [I 0, I 0, I 0, I 0, I 0, I 0]), (15, .row 73 4 true ((a ++ r.map itemB).map eT))]⟩)
  | 0, _, _, _, _, hn, _ => by omega
  | n + 1, i, [], a, hr, hn, ha => by
    rw [L_ref40_DryX_succ, R_ref40_DryX_eq]
    simp [dn hr]
  | n + 1, i, x :: r, a, hr, hn, ha => by
    rw [L_ref40_DryX_succ, R_ref40_DryX_eq]
    obtain ⟨h1, h3, hr', hi⟩ := dc (enc := eBd) hr
    have hw := wrapN (n := i) (by omega)
    have ht := rthick_run (hok x (List.mem_of_mem_drop (hr ▸ List.mem_cons_self : x ∈ l.drop i)))
    have ih := rdryI_loop l w nm ramp g fs ticks hl hok n (i + 1) r (a ++ [itemB x]) hr' (by simp at hn; omega) (by simp; omega)
    have h2 : (a.length + 1) * 33 ≤ 140737488355328 := by omega
    have e : (a ++ [itemB x]) ++ r.map itemB = a ++ (x :: r).map itemB := by simp
    rw [e] at ih
    generalize a ++ (x :: r).map itemB = out at ih ⊢
    simp [itemB] at ih ht
    simp [h1, h3, hw, ht, h2, ih]
theorem rrun_loop (l : List Bd) (fs : List Flt) (hfs : fs.length ≤ 1000) (ticks : Int) : ∀ (n m t : Nat) (r : Rn) (q : Bool), (t : Int) + m = ticks → ticks ≤ 20000 → m < n → InvK r.k →
    ∃ q', L_ref40_DryX 19 n ⟨[(0, .sl (l.map eBd)), (1, .any), (2, .any), (3, .sl (fs.map eFl)), (4, I ticks), (6, .any), (7, .any), (10, .any), (11, .ptr 11 0), (12, .any), (13, .any), (14, .any), (15, .any), (16, .any), (17, .ptr 17 0), (18, .any), (19, .ptr 19 0), (20, I t), (21, .any), (22, .any), (23, .any)], [(11, .box 41 [I 0, I 0, I 0, I 0, I 0, I 0]), (17, .box 75 (cK r.k (.sl (r.k.stages.map eSg)) (slQ q (r.k.items.map eT)))), (19, .box 41 (eRn r))]⟩ =
      some (.ex 2, ⟨[(0, .sl (l.map eBd)), (1, .any), (2, .any), (3, .any), (4, .any), (6, .any), (7, .any), (10, .any), (11, .ptr 11 0), (12, .any), (13, .any), (14, .any), (15, .any), (16, .any), (17, .ptr 17 0), (18, .any), (19, .ptr 19 0), (20, .any), (21, .any), (22, .any), (23, .any)], [(11, .box 41 [I 0, I 0, I 0, I 0, I 0, I 0]), (17, .box 75 (cK (runM fs m t r).k (.sl (r.k.stages.map eSg)) (slQ q' ((runM fs m t r).k.items.map eT)))), (19, .box 41 (eRn (runM fs m t r)))]⟩)
  | 0, _, _, _, _, _, _, hn, _ => by omega
  | n + 1, 0, t, r, q, ht, hb, hn, iv => by
    refine ⟨q, ?_⟩
    rw [L_ref40_DryX_succ, R_ref40_DryX_eq]
    have h1 : ¬ (t : Int) < ticks := by omega
    unfold runM
    cases q <;> simp [h1]
  | n + 1, m + 1, t, r, q, ht, hb, hn, iv => by
    have h1 : (t : Int) < ticks := by omega
    have hd := rdone_run r.k
    have hw := wrapN (n := t) (by omega)
    have ivs := iv.stage
    by_cases a1 : doneK r.k = true
    · refine ⟨q, ?_⟩
      rw [L_ref40_DryX_succ, R_ref40_DryX_eq, runM_succ, if_pos a1]
      have a2 : decide (r.k.stages.length ≤ r.k.stage) = true := by
        simp [doneK] at a1
        simp
        omega
      rw [a2] at hd
      simp at hd
      cases q <;> simp [h1, hd]
    · have hs : r.k.stage < r.k.stages.length := by
        simp [doneK] at a1
        omega
      have st12 := iv.stages
      have hmany := iv.many
      have ha := frat_run fs t hfs
      have hal := atM_len fs t
      have hk := rtick'_run r.k (atM fs t) (by omega) hs (by omega) (by omega)
      have iv2 := inv_tick iv hs (atM fs t)
      have hm2 := iv2.many
      have sn := seen_run (tickK r.k (atM fs t)) (by omega) iv2.ne r.k.ticks r.k.held r.k.stage r.a r.b r.g
      obtain ⟨q', ih⟩ := rrun_loop l fs hfs ticks n m (t + 1) (goR fs t r) true (by omega) hb (by omega) iv2
      refine ⟨q', ?_⟩
      rw [L_ref40_DryX_succ, R_ref40_DryX_eq, runM_succ, if_neg a1]
      have a2 : decide (r.k.stages.length ≤ r.k.stage) = false := by
        simp
        omega
      rw [a2] at hd
      have e1 : (goR fs t r).k = tickK r.k (atM fs t) := rfl
      have e2 : (goR fs t r).a = mx r.a (tickK r.k (atM fs t)).t := rfl
      have e3 : (goR fs t r).b = mx r.b (tickK r.k (atM fs t)).d := rfl
      have e4 : (goR fs t r).g = mx r.g (steepM (tickK r.k (atM fs t)).items) := rfl
      have es : (tickK r.k (atM fs t)).stages = r.k.stages := rfl
      simp only [eRn_eq] at ih
      rw [e1, e2, e3, e4, es] at ih
      simp only [eK_eq, es] at sn
      generalize runM fs m (t + 1) (goR fs t r) = R at ih ⊢
      generalize (!decide (r.k.stages.length ≤ (tickK r.k (atM fs t)).stage)) = dd at hk
      generalize tickK r.k (atM fs t) = k' at *
      generalize steepM k'.items = g' at *
      generalize mx r.a k'.t = xa at *
      generalize mx r.b k'.d = xb at *
      generalize mx r.g g' = xg at *
      simp at hd hk sn ih
      cases q <;> simp [h1, hd, ha, hk, sn, hw, ih]
theorem rout_loop (l : List Bd) (k : Kl) (sg : List Stg) (q : Bool) (R : Rn) (hl : l.length = k.items.length) (hb : l.length ≤ 1000000) (hd : ∀ b ∈ l, b.dfs.length ≤ 1000000) : ∀ (n i : Nat) (r : List Bd) (s : List Itm) (a : List Bd) (fl : Bool), l.drop i = r → k.items.drop i = s → r.length < n → a.length = i →
    L_ref40_DryX 25 n ⟨[(0, .sl (l.map eBd)), (1, .any), (2, .any), (3, .any), (4, .any), (6, .any), (7, .any), (10, .any), (11, .ptr 11 0), (12, .any), (13, .any), (14, .any), (15, .any), (16, .any), (17, .ptr 17 0), (18, .any), (19, .ptr 19 0), (20, .any), (21, .row 21), (22, I i), (23, .any)], [(11, .box 41 [I 0, I 0, I 0, I 0, I 0, I 0]), (17, .box 75 (cK k (.sl (sg.map eSg)) (slQ q (k.items.map eT)))), (19, .box 41 (eRn R)), (21, .row 57 18 fl (a.map eBd))]⟩ =
      some (.ex 4, ⟨[(0, .any), (1, .any), (2, .any), (3, .any), (4, .any), (6, .any), (7, .any), (10, .any), (11, .ptr 11 0), (12, .any), (13, .any), (14, .any), (15, .any), (16, .any), (17, .any), (18, .any), (19, .ptr 19 0), (20, .any), (21, .row 21), (22, .any), (23, .any)], [(11, .box 41 [I 0, I 0, I 0, I 0, I 0, I 0]), (19, .box 41 (eRn R)), (21, .row 57 18 (fl && r.isEmpty) ((a ++ driedM r s).map eBd))]⟩)
  | 0, _, _, _, _, _, _, _, hn, _ => by omega
  | n + 1, i, [], s, a, fl, hr, hs, hn, ha => by
    rw [L_ref40_DryX_succ, R_ref40_DryX_eq]
    cases q <;> simp [dn hr, driedM]
  | n + 1, i, x :: r, [], a, fl, hr, hs, hn, ha => by
    have := List.drop_eq_nil_iff.1 hs
    obtain ⟨_, _, _, hi⟩ := dc (enc := eBd) hr
    omega
  | n + 1, i, x :: r, y :: s, a, fl, hr, hs, hn, ha => by
    rw [L_ref40_DryX_succ, R_ref40_DryX_eq]
    obtain ⟨h1, h3, hr', hi⟩ := dc (enc := eBd) hr
    obtain ⟨k1, k3, hs', ki⟩ := dc (enc := eT) hs
    have hw := wrapN (n := i) (by omega)
    have hx := hd x (List.mem_of_mem_drop (hr ▸ List.mem_cons_self : x ∈ l.drop i))
    have ih := rout_loop l k sg q R hl hb hd n (i + 1) r s (a ++ [⟨x.id, x.log, x.sp, x.prod, x.xa, x.xb, x.ya, x.yb, x.za, x.zb, x.vol, x.dfs, x.wane, y.cel, true, x.grade⟩]) false hr' hs' (by simp at hn; omega) (by simp [ha])
    have h2 : (a.length + 1) * 185 ≤ 140737488355328 := by omega
    have h5 : x.dfs.length * 57 ≤ 140737488355328 := by omega
    simp at ih
    cases q <;> simp at ih <;> simp [h1, h3, k1, k3, hw, h2, h5, ih, driedM]
theorem mx_self (a : Int) : mx a a = a := by simp [mx]
theorem rdryGood_run (g : Gv) (hl : g.l.length ≤ 1000000) (hok : ∀ b ∈ g.l, okBd b) (hd : ∀ b ∈ g.l, b.dfs.length ≤ 1000000) (hf : g.fs.length ≤ 1000) (h : errD g = 0) :
    F_ref40_DryX [.sl (g.l.map eBd), .agg (eS g.w), .agg [S g.nm, I g.ramp, .sl (g.sg.map eSg)], .sl (g.fs.map eFl), I g.ticks] = some (.tup [.own false ((outB g).map eBd), .agg (eRn (rnM g)), I 0]) := by
  obtain ⟨e1, e2, e3⟩ := errD_ok h
  obtain ⟨k1, k2, _⟩ := checkCh_new e1
  have h1 := rcheckCh_run g.l g.w g.nm g.ramp g.sg hl hok
  rw [e1] at h1
  have h2 := rfault_run g.fs (by omega)
  rw [e3] at h2
  have i11 := rdryI_loop g.l g.w g.nm g.ramp g.sg g.fs g.ticks hl hok bigL 0 g.l [] rfl (by have := bigL_ge; omega) (by simp)
  have hn := rnewGood_run g.nm g.ramp g.sg g.w (g.l.map itemB) k1
  have iv := inv_kil h
  obtain ⟨q, hr⟩ := rrun_loop g.l g.fs hf g.ticks bigL g.ticks.toNat 0 (firstR (kil g)) true (by omega) e2.2 (by have := bigL_ge; omega) iv
  have ei : runM g.fs g.ticks.toNat 0 (firstR (kil g)) = rnM g := rfl
  rw [ei] at hr
  have hlen := rnM_len h
  have i25 := rout_loop g.l (rnM g).k g.sg q (rnM g) hlen.symm hl hd bigL 0 g.l (rnM g).k.items [] true rfl rfl (by have := bigL_ge; omega) (by simp)
  have sn := fun gr => seen_run (kil g) (by simp [kil, newK]; omega) iv.ne 0 0 0 (kil g).t (kil g).d gr
  have a1 : ¬ g.ticks < 0 := by omega
  have a2 : ¬ 20000 < g.ticks := by omega
  cases hgl : g.l with
  | nil => rw [hgl] at k2; simp at k2
  | cons b0 rest =>
    have gd := rgrad_run b0.cel
    have hfirst : mx (grad b0.cel) (steepM (kil g).items) = steepM (kil g).items := by
      have : grad b0.cel ≤ steepM (kil g).items := (steep_le iv.ne).1 (Int.le_refl _) (itemB b0) (by simp [kil, newK, hgl])
      unfold mx
      split <;> omega
    have sn := sn (grad b0.cel)
    rw [mx_self, mx_self, hfirst] at sn
    have ee : g.l.isEmpty = false := by rw [hgl]; rfl
    rw [ee] at i25
    have oe : driedM g.l (rnM g).k.items = outB g := rfl
    rw [List.nil_append, oe] at i25
    have er : eRn (firstR (kil g)) = [I 0, I 0, I (0 : Nat), I (kil g).t, I (kil g).d, I (steepM (kil g).items)] := rfl
    rw [er] at hr
    have ek : (firstR (kil g)).k = kil g := rfl
    rw [ek] at hr
    rw [F_ref40_DryX_eq]
    generalize outB g = out at *
    generalize rnM g = R at *
    generalize steepM (kil g).items = stp0 at *
    clear hfirst er ek oe ei ee iv hlen
    have hE : EP_ref38_New [] [.agg [S g.nm, I g.ramp, .sl (g.sg.map eSg)], .agg (eS g.w), .sl ((g.l.map itemB).map eT)] = some (.tup [.agg (cK (newK g.nm g.ramp g.sg g.w (g.l.map itemB)) (.sl (g.sg.map eSg)) (.own true ((g.l.map itemB).map eT))), I 0], []) := by
      rw [EP_ref38_New_eq, if_pos (by simp [okA, isCell]), hn]
      rfl
    simp only [List.nil_append] at i11
    unfold kil at hr sn
    rw [hgl] at h1 i11 hE hr i25 sn
    clear hn
    generalize (b0 :: rest).map itemB = its at *
    simp [newK] at hE hr sn h1 i11 i25 gd
    cases q <;> simp at hr i25 <;> simp [h1, h2, a1, a2, i11, hE, sn, gd, hr, i25]
theorem rdryBad_run (g : Gv) (hl : g.l.length ≤ 1000000) (hok : ∀ b ∈ g.l, okBd b) (hf : g.fs.length ≤ 1000) (h : ¬ errD g = 0) :
    F_ref40_DryX [.sl (g.l.map eBd), .agg (eS g.w), .agg [S g.nm, I g.ramp, .sl (g.sg.map eSg)], .sl (g.fs.map eFl), I g.ticks] = some (.tup [.own true [], .agg [I 0, I 0, I 0, I 0, I 0, I 0], I (errD g)]) := by
  have h1 := rcheckCh_run g.l g.w g.nm g.ramp g.sg hl hok
  have h2 := rfault_run g.fs (by omega)
  rw [F_ref40_DryX_eq]
  unfold errD at h ⊢
  simp at h1
  by_cases a0 : checkCh g.l g.w g.nm g.ramp g.sg = 0
  · by_cases a1 : g.ticks < 0
    · simp [h1, a0, a1]
    · by_cases a2 : 20000 < g.ticks
      · simp [h1, a0, a1, a2]
      · have a3 : ¬ checkF g.fs = 0 := by simpa [a0, a1, a2] using h
        simp [h1, h2, a0, a1, a2, a3]
  · simp [h1, a0]
theorem dries_law (g : Gv) (ok : okGv g) : F_law40_ChargeDriesX [.agg (eGv g)] = some (B true) := by
  rw [F_law40_ChargeDriesX_eq]
  have hl := light_run g
  simp at hl
  cases hL : lightM g
  · rw [hL] at hl
    simp [hl, awake_run]
  · rw [hL] at hl
    obtain ⟨fw, h8, _⟩ := light_of hL
    have w1 := fw.l
    have w2 := fw.fs
    by_cases he : errD g = 0
    · have hd := ldryGood_run g ok fw he
      have rd := rdryGood_run g (by omega) ok.b (fun b hb => by have := fw.d b hb; omega) (by omega) he
      have hlen := rnM_len he
      have olen := driedM_len g.l (rnM g).k.items hlen.symm
      have sb := sameB_run (outB g) (by unfold outB; omega) (fun b hb => by
        have memd : ∀ {l : List Bd} {r : List Itm} {b : Bd}, b ∈ driedM l r → ∃ c ∈ l, b.dfs = c.dfs := by
          intro l
          induction l with
          | nil => intro r b hb; simp [driedM] at hb
          | cons c l ih =>
            intro r b hb
            cases r with
            | nil => simp [driedM] at hb
            | cons x r =>
              simp only [driedM, List.mem_cons] at hb
              rcases hb with rfl | hb
              · exact ⟨c, by simp, rfl⟩
              · obtain ⟨c', h1, e⟩ := ih hb
                exact ⟨c', by simp [h1], e⟩
        obtain ⟨c, hc, e⟩ := memd hb
        rw [e]
        have := fw.d c hc
        omega)
      have pl := plain_run (rnM g).k.ticks (rnM g).k.held (rnM g).k.stage (rnM g).a (rnM g).b (rnM g).g
      generalize outB g = out at *
      generalize rnM g = R at *
      simp at hd rd sb
      simp [hl, hd, rd, sb, pl, awake_run, eqD, eqFs]
    · have hd := ldryBad_run g ok fw he
      have rd := rdryBad_run g (by omega) ok.b (by omega) he
      have sb := sameB_run [] (by simp) (by simp)
      have pl := plain_run 0 0 0 0 0 0
      generalize errD g = er at *
      simp at hd rd sb
      simp [hl, hd, rd, sb, pl, he, awake_run, eqD, eqFs]
theorem chargeDries_abs (xs : List D) (h : TyArgs Tryz.prog Tryz.f4.params.toList xs) : Contract Tryz.prog gl 4 xs (.x (.bool true)) := by
  simp [TyArgs] at h
  obtain ⟨d, rfl, h1⟩ := h
  obtain ⟨g, rfl, ok⟩ := tyGv h1
  exact C_law40_ChargeDriesX _ _ (dries_law g ok)
end Go.Proofs.YtdefohgkniglpaaGreatDoor
