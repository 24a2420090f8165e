/-
  The interpreter: New and Run.
-/
import Derived.Test.Qxb6500562aGreatSmQ
namespace Go.Proofs.Qxb6500562aGreat
open Go.Den Go.Zip
set_option linter.unusedVariables false
set_option linter.unusedSimpArgs false
variable {w w' w1 w2 : World} {g : Nat} {inp : List Int} {O O' O1 O2 : Nat → Prop}

/-- The interpreter between two calls. -/
def ME (w : World) (g : Nat) (O : Nat → Prop) : Prop := ∃ ck ps lx h H Oh, Blk w g [.pointer (some ⟨ck, 0, none⟩), .pointer (some ⟨h, 0, none⟩)] ∧ Blk w ck [.pointer (some ⟨ps, 0, none⟩)] ∧ Blk w ps [.pointer (some ⟨lx, 0, none⟩)] ∧ HS w h H Oh ∧ ¬ Oh g ∧ ¬ Oh ck ∧ ¬ Oh ps ∧ O = fun b => b = g ∨ b = ck ∨ b = ps ∨ Oh b
theorem ME.frp {Q : Nat → Prop} (e : ME w g O) (F : FrP Q w w') (hn : ∀ b, O b → ¬ Q b) : ME w' g O := by
  obtain ⟨ck, ps, lx, h, H, Oh, b1, b2, b3, hs, n1, n2, n3, rfl⟩ := e
  exact ⟨ck, ps, lx, h, H, Oh, b1.frp F (hn _ (.inl rfl)), b2.frp F (hn _ (.inr (.inl rfl))), b3.frp F (hn _ (.inr (.inr (.inl rfl)))), hs.frp F fun b hb => hn _ (.inr (.inr (.inr hb))), n1, n2, n3, rfl⟩
theorem ME.lt {b : Nat} (e : ME w g O) (hb : O b) : b < w.heap.size := by
  obtain ⟨ck, ps, lx, h, H, Oh, b1, b2, b3, hs, n1, n2, n3, rfl⟩ := e
  rcases hb with rfl | rfl | rfl | hb
  · exact b1.lt
  · exact b2.lt
  · exact b3.lt
  · exact hs.lt _ hb
theorem ME.fr0 (e : ME w g O) (F : Fr 0 0 w w') : ME w' g O := e.frp (FrP.of0 F) fun _ _ h => h
theorem mnew_spec {K : Nat → World → Prop} (hK : ∀ w' g O, ME w' g O → (∀ b, O b → w.heap.size ≤ b) → Fr 0 0 w w' → K g w') : S.genm_New w K := by
  unfold S.genm_New S.checkm_New S.parsem_New S.lexm_New
  refine newB fun w1 c1 f1 s1 => newB fun w2 c2 f2 s2 => newB fun w3 c3 f3 s3 => HS.new fun w4 h Oh h4 f4 n4 => newB fun w5 c5 f5 s5 => ?_
  have z4 := f4.1.1
  refine hK w5 _ _ ⟨_, _, _, h, _, Oh, c5, (c3.fr f4 (by omega)).fr f5 (by omega), ((c2.fr f3 (by omega)).fr f4 (by omega)).fr f5 (by omega), h4.frp (FrP.of0 f5) (fun _ _ h => h), ?_, ?_, ?_, rfl⟩ ?_ ((((f1.trans f2).trans f3).trans f4).trans f5)
  · intro hh; have := h4.lt _ hh; omega
  · intro hh; have := n4 _ hh; omega
  · intro hh; have := n4 _ hh; omega
  · rintro b (rfl | rfl | rfl | hb)
    · omega
    · omega
    · omega
    · have := n4 _ hb; omega
theorem hPop_all (H : SH) : (hPop H (H.roots.length : Nat)).2.roots = [] := by
  unfold hPop
  rw [if_neg (by omega)]
  simp
theorem Src.fr0 {x : Sl} {vs : List Value} (h : Src w O x vs) (F : Fr 0 0 w w') : Src w' O x vs := h.gw (Gw.new F)
set_option maxHeartbeats 4000000 in
theorem mrun_spec {src : ByteArray} {input : Sl} {fuel : Int} {K : Int → Int → Int → Int → Sl → Int → World → Prop} (e : ME w g O) (hi : Src w O input (ints inp)) (hsz : src.size < 9223372036854775808) (fb : -9223372036854775808 ≤ fuel ∧ fuel < 9223372036854775808)
    (hK : ∀ w' O' x r, ME w' g O' → Gw O w O' w' → RunA src inp fuel r → OutS w.heap.size O' w' x r.out → r.out.length ≤ 1024 → K r.e r.pos r.en r.rv x r.fuel w') : S.genm_Engine_Run g src input fuel w K := by
  unfold S.genm_Engine_Run
  refine newB fun w1 c1 f1 s1 => ?_
  have hil : input.l = inp.length := by have := hi.1; simpa [ints] using this.symm
  have e1 := e.fr0 f1
  have hp1 : ¬ O w.heap.size := fun hb => by have := e.lt hb; omega
  have G1 : Gw O w O w1 := Gw.new f1
  generalize hpp : w.heap.size = p1 at *
  have fin : ∀ {a0 a1 : Int}, RunA src inp fuel ⟨a0, a1, 0, 0, [], fuel⟩ → ∀ {u : World} {vs : List Value}, ME u g O → Gw O w O u → Blk u p1 vs → vs.length = 6 →
      St1 u ⟨p1, 0, none⟩ (.int .i64 a0) fun w => St1 w ⟨p1, 1, none⟩ (.int .i64 a1) fun w => St1 w ⟨p1, 2, none⟩ (.int .i64 0) fun w => St1 w ⟨p1, 3, none⟩ (.int .i64 0) fun w => St1 w ⟨p1, 4, none⟩ (.slice none 0 0) fun w => St1 w ⟨p1, 5, none⟩ (.int .i64 fuel) fun w =>
      LdI .i64 w ⟨p1, 0, none⟩ fun x0 => LdI .i64 w ⟨p1, 1, none⟩ fun x1 => LdI .i64 w ⟨p1, 2, none⟩ fun x2 => LdI .i64 w ⟨p1, 3, none⟩ fun x3 => LdS w ⟨p1, 4, none⟩ fun x4 => LdI .i64 w ⟨p1, 5, none⟩ fun x5 => K x0 x1 x2 x3 x4 x5 w := by
    intro a0 a1 hr u vs eu Gu cu hl
    refine lay6 (a4 := nilS) cu hl fun u2 c2 f2 s2 => read6 (a4 := nilS) c2 ?_
    have F2 : FrP (fun b => b = p1) u u2 := FrP.of f2 fun b h1 h2 => by omega
    exact hK u2 O nilS ⟨a0, a1, 0, 0, [], fuel⟩ (eu.frp F2 fun b hb e => hp1 (e ▸ hb)) ⟨Gu.1.trans' F2 fun b e => .inr (by omega), Gu.2⟩ hr OutS.nil (by simp)
  by_cases h1 : 4096 < src.size
  · rw [if_pos (by simp only [decide_eq_true_eq]; omega)]
    exact fin (.inl ⟨h1, rfl⟩) e1 G1 c1 rfl
  rw [if_neg (by simp only [decide_eq_true_eq]; omega)]
  by_cases h2 : 128 < inp.length
  · rw [if_pos (by simp only [decide_eq_true_eq]; omega)]
    exact fin (.inr (.inl ⟨by omega, h2, rfl⟩)) e1 G1 c1 rfl
  rw [if_neg (by simp only [decide_eq_true_eq]; omega)]
  have e1' := e1
  obtain ⟨ck, ps, lx, h, H, Oh, bg, bc, bp, hs, n1, n2, n3, eO⟩ := e1'
  have sub : ∀ b, Oh b → O b := fun b hb => by rw [eO]; exact .inr (.inr (.inr hb))
  refine ldP bg rfl (mcheck_spec bc bp hsz fun nodes root terr tpos ty ref funcs main er pos w2 res F2 A2 o2 => ?_)
  refine newB fun w3 c3 f3 s3 => ?_
  refine set10 c3 rfl fun w4 c4 f4 => ?_
  have F24 : Fr 0 0 w2 w4 := (f3.any _ 1).trans f4 |>.fresh (Nat.le_refl _) 0 0
  have F14 : Fr 0 0 w1 w4 := F2.trans F24
  have e4 := e1.fr0 F14
  have o4 := o2.fr (w' := w4) (p := w2.heap.size) (n := 1) ((f3.any _ 1).trans f4) (Nat.le_refl _)
  have G4 : Gw O w O w4 := G1.trans (Gw.new F14)
  have c14 := c1.fr F14 (by omega)
  have w12 := F2.1.1
  have p1lt := c1.lt
  generalize hp4' : w2.heap.size = p4 at *
  refine ldI c4 rfl ?_
  cases res with
  | error q =>
    obtain ⟨_, _, _, _, _, _, _, _, rfl, rfl, hne⟩ := o4
    rw [if_pos (by simpa using hne)]
    refine ldI c4 rfl (ldI c4 rfl ?_)
    exact fin (.inr (.inr ⟨by omega, by omega, _, A2, rfl⟩)) e4 G4 c14 rfl
  | ok P =>
    obtain ⟨a1, a2, a3, a4, her, a6, a7, h200, b1, b2, b3, b4, m1, m2, m3, m4, q1, t1, q2, t2, q3, t3, q4, t4⟩ := o4
    rw [if_neg (by rw [her]; decide)]
    have pt := A2.pt
    have bg4 := bg.fr F14 (by omega)
    have bc4 := bc.fr F14 (by omega)
    have bp4 := bp.fr F14 (by omega)
    have hs4 := hs.frp (FrP.of0 F14) (fun _ _ h => h)
    refine ldP bg4 rfl (hs4.depth (ldP bg4 rfl (hs4.pop fun w5 Oh5 h5 G5 => ?_)))
    have h5 := h5.zero (hPop_all H)
    have ltO : ∀ b, Oh b → b < w1.heap.size := fun b hb => hs.lt b hb
    have nOh : ∀ b, ¬ Oh b → b < w4.heap.size → ¬ Oh5 b := fun b hb hl h' => (G5.2 b h').elim hb fun h'' => by omega
    have fresh4 : ∀ b, w1.heap.size ≤ b → ¬ Oh b := fun b hb h' => by have := ltO b h'; omega
    have k5 : ∀ {b : Nat} {vs : List Value}, Blk w4 b vs → ¬ Oh b → Blk w5 b vs := fun hb hn => hb.frp G5.1 hn
    have c5 := k5 c4 (fresh4 _ (by omega))
    have bg5 := k5 bg4 n1
    have bc5 := k5 bc4 n2
    have bp5 := k5 bp4 n3
    have c15 := k5 c14 (fun hh => hp1 (sub _ hh))
    have t1' := k5 t1 (fresh4 _ m1)
    have t2' := k5 t2 (fresh4 _ m2)
    have t3' := k5 t3 (fresh4 _ m3)
    have t4' := k5 t4 (fresh4 _ m4)
    have l1 := t1.lt; have l2 := t2.lt; have l3 := t3.lt; have l4 := t4.lt
    refine drew_ ?_
    unfold Hold
    have c5d := c5.drew
    have bg5d := bg5.drew
    refine ldS c5d rfl (ldI c5d rfl (ldI c5d rfl (ldI c5d rfl (ldS c5d rfl (ldS c5d rfl (ldS c5d rfl (ldI c5d rfl (ldI c5d rfl (ldI c5d rfl (ldS c5d rfl (ldP bg5d rfl ?_)))))))))))
    -- the input
    have hi4 : Src w4 O input (ints inp) := hi.gw G4
    have hi5 : Src w5 Oh5 input (ints inp) := (hi4.mono (O' := Oh) fun b _ hb => sub b hb).gw G5
    have hi5d : Src w5.drew Oh5 input (ints inp) := hi5.gw (Gw.new (Fr.refl 0 0 w5).drew)
    refine appC (OS.nil _ _) hi5d.cells (ints_ok _) rfl (by rw [hil]; simp only [Nat.zero_add]; omega) fun l54 w6 o6 l6 g6 F6 => ?_
    have F6' : FrP (fun _ => False) w5.drew w6 := F6.mono fun b hb => by simp [owns] at hb
    have k6 : ∀ {b : Nat} {vs : List Value}, Blk w5 b vs → Blk w6 b vs := fun hb => hb.drew.frp F6' id
    refine ⟨hold_same bg5d (k6 bg5), hold_same c5d (k6 c5), hold_same c5d (k6 c5), ?_⟩
    refine newB fun w7 c7 f7 s7 => ?_
    have k7 : ∀ {b : Nat} {vs : List Value}, Blk w5 b vs → Blk w7 b vs := fun hb => (k6 hb).fr f7 (by omega)
    have z45 := G5.1.1.1
    have z56 : w5.heap.size ≤ w6.heap.size := F6'.1.1
    refine ldI (k7 c5) (m := main) rfl ?_
    have hs6 : HS w6 h ⟨[], []⟩ Oh5 := h5.drew.frp F6' fun _ _ h => h
    have hs7 : HS w7 h ⟨[], []⟩ Oh5 := hs6.frp (FrP.of0 f7) fun _ _ h => h
    have lt6 : ∀ b, Oh5 b → b < w6.heap.size := fun b hb => hs6.lt b hb
    have own54 : ∀ b, owns l54 b → w5.heap.size ≤ b ∧ b < w6.heap.size := fun b hb => ⟨(g6.owns hb).elim (fun hh => by simp [owns] at hh) id, o6.lt hb⟩
    have o7 : OS w7 l54 (ints inp) 1 := by have := o6.frp (FrP.of0 f7) fun _ _ h => h; simpa using this
    have lt5 : ∀ b, Oh5 b → b < w5.heap.size := fun b hb => h5.lt b hb
    generalize hr : w6.heap.size = r at *
    generalize hv : Array.toList _ = vs at c7
    have hlv : vs.length = 18 := by rw [← hv]; rfl
    have ev : vs = tab 18 (fun i => vs.getD i (.bool false)) := tab_ext hlv fun i hi => by simp [List.getD, hlv, hi]
    rw [ev] at c7
    have nOr : ¬ Oh5 r := fun hh => by have := lt6 _ hh; omega
    have nn : ∀ b, b < w4.heap.size → ¬ Oh b → ¬ mO r nilS Oh5 b := fun b hb hn hh => by
      rcases hh with rfl | hh | hh
      · omega
      · simp [owns] at hh
      · exact nOh b hn hb hh
    have mx : MX w7 r ⟨P, h⟩ inp (fun i => vs.getD i (.bool false)) h ⟨[], []⟩ [] l54 nilS Oh5 b1 b2 b3 b4 :=
      { rc := c7, t4 := by rw [← hv, q2]; rfl, t5 := by rw [← hv, q3]; rfl, t6 := by rw [← hv, q4]; rfl, tt := by rw [← hv, q1]; rfl, n1 := k7 t1', n2 := k7 t2', n3 := k7 t3', n4 := k7 t4', l2 := pt.tl, l3 := pt.rl, ii := by rw [← hv]; rfl, oi := o7, ou := by rw [← hv]; rfl, oo := OS.nil _ _, ph := by rw [← hv]; rfl, hs := hs7, rh := nOr, sh := fun b hb => by simp [owns] at hb,
        nn := ⟨nn _ l1 (fresh4 _ m1), nn _ l2 (fresh4 _ m2), nn _ l3 (fresh4 _ m3), nn _ l4 (fresh4 _ m4)⟩, ni := fun b hb hh => by
          have := own54 b hb
          rcases hh with rfl | hh | hh
          · omega
          · simp [owns] at hh
          · have := lt5 b hh; omega
        ol := by simp, il := by omega, lo := by omega, li := fun b hb => (own54 b hb).2, hE := rfl }
    have rgo : RGo w7 r ⟨P, h⟩ inp 0 0 fuel [] ⟨[], []⟩ (mO r nilS Oh5) := ⟨_, _, _, _, _, _, _, _, _, mx, by rw [← hv]; rfl, by rw [← hv]; rfl, by rw [← hv]; rfl, by rw [← hv]; rfl, by omega, by omega, fb, rfl⟩
    rw [a4]
    refine main_run (P := ⟨P, h⟩) h200 pt rgo fun v w8 O8 s e8 fin8 G8 hm hc => ?_
    obtain ⟨gg, hp8, H8, si, so, Oh8, d1, d2, d3, d4, mx8, g13, g17, eO8⟩ := fin8
    have hE : hp8 = h := mx8.hE
    subst hE
    have np1 : ¬ Oh p1 := fun hh => hp1 (sub _ hh)
    have lg := bg4.lt; have lc := bc4.lt; have lp := bp4.lt; have lp1 := c14.lt
    have k8 : ∀ {b : Nat} {vs : List Value}, Blk w4 b vs → ¬ Oh b → Blk w8 b vs ∧ ¬ O8 b := fun hb hn => keepB (k7 (k5 hb hn)) (nn _ hb.lt hn) G8
    obtain ⟨bg8, ng8⟩ := k8 bg4 n1
    obtain ⟨bc8, nc8⟩ := k8 bc4 n2
    obtain ⟨bp8, nps8⟩ := k8 bp4 n3
    obtain ⟨c18, n18⟩ := k8 c14 np1
    have subO : ∀ b, Oh8 b → O8 b := fun b hb => by rw [eO8]; exact .inr (.inr hb)
    have me8 : ME w8 g (fun b => b = g ∨ b = ck ∨ b = ps ∨ Oh8 b) := ⟨ck, ps, lx, hp8, H8, Oh8, bg8, bc8, bp8, mx8.hs, fun hh => ng8 (subO _ hh), fun hh => nc8 (subO _ hh), fun hh => nps8 (subO _ hh), rfl⟩
    have n19 : ¬ (p1 = g ∨ p1 = ck ∨ p1 = ps ∨ Oh8 p1) := by
      rw [eO] at hp1
      rintro (hh | hh | hh | hh)
      · exact hp1 (.inl hh)
      · exact hp1 (.inr (.inl hh))
      · exact hp1 (.inr (.inr (.inl hh)))
      · exact n18 (subO _ hh)
    have z67 := f7.1.1
    have z78 := G8.1.1.1
    have Oh5w : ∀ b, Oh5 b → O b ∨ p1 ≤ b := fun b hb => (G5.2 b hb).elim (fun hh => .inl (sub _ hh)) fun hh => .inr (by omega)
    have F57 : FrP (fun _ => False) w5 w7 := ((FrP.of0 (Fr.refl 0 0 w5).drew).trans F6').trans (FrP.of0 f7)
    have G08 : Gw O w (fun b => b = g ∨ b = ck ∨ b = ps ∨ Oh8 b) w8 := by
      refine ⟨((G4.1.trans' G5.1 fun b hb => .inl (sub b hb)).trans' F57 fun b hb => hb.elim).trans' G8.1 fun b hb => ?_, ?_⟩
      · rcases hb with rfl | hb | hb
        · exact .inr (by omega)
        · simp [owns] at hb
        · rw [hpp]; exact Oh5w b hb
      · rintro b (hh | hh | hh | hh)
        · exact .inl (by rw [eO]; exact .inl hh)
        · exact .inl (by rw [eO]; exact .inr (.inl hh))
        · exact .inl (by rw [eO]; exact .inr (.inr (.inl hh)))
        · rw [hpp]
          rcases G8.2 b (subO b hh) with (rfl | h' | h') | h'
          · exact .inr (by omega)
          · simp [owns] at h'
          · exact Oh5w b h'
          · exact .inr (by omega)
    have c8 := mx8.rc
    refine ldS c8 (by rw [tab_get (by omega), mx8.ou]) ?_
    have hol := mx8.ol
    have osl : so.l = s.out.length := by have := mx8.oo.len; simpa [ints] using this.symm
    -- what is handed out
    have last : ∀ {u : World} {x : Sl} {ev : Int} {rv : Int}, Fr 0 0 w8 u → OutS w8.heap.size (fun b => b = g ∨ b = ck ∨ b = ps ∨ Oh8 b) u x s.out → s.en = ev → s.rv = rv →
        St1 u ⟨p1, 0, none⟩ (.int .i64 0) fun w => St1 w ⟨p1, 1, none⟩ (.int .i64 0) fun w => St1 w ⟨p1, 2, none⟩ (.int .i64 ev) fun w => St1 w ⟨p1, 3, none⟩ (.int .i64 rv) fun w => St1 w ⟨p1, 4, none⟩ (.slice x.a x.l x.c) fun w => St1 w ⟨p1, 5, none⟩ (.int .i64 s.fuel) fun w =>
        LdI .i64 w ⟨p1, 0, none⟩ fun x0 => LdI .i64 w ⟨p1, 1, none⟩ fun x1 => LdI .i64 w ⟨p1, 2, none⟩ fun x2 => LdI .i64 w ⟨p1, 3, none⟩ fun x3 => LdS w ⟨p1, 4, none⟩ fun x4 => LdI .i64 w ⟨p1, 5, none⟩ fun x5 => K x0 x1 x2 x3 x4 x5 w := by
      rintro u x _ _ Fu ho rfl rfl
      refine lay6 (c18.fr Fu (by omega)) rfl fun u2 c2 f2 s2 => read6 c2 ?_
      have F2 : FrP (fun b => b = p1) u u2 := FrP.of f2 fun b h1 h2 => by omega
      have zu := Fu.1.1
      refine hK u2 _ x ⟨0, 0, s.en, s.rv, s.out, s.fuel⟩ ((me8.fr0 Fu).frp F2 fun b hb e => n19 (e ▸ hb)) ⟨(G08.1.trans' (FrP.of0 Fu) fun b hb => False.elim hb).trans' F2 fun b e => .inr (by omega), G08.2⟩ (.inr (.inr ⟨by omega, by omega, _, A2, s, hm, rfl⟩)) ?_ hol
      rcases ho with ⟨z1, z2⟩ | ⟨z1, b, z2, z3, z4, z5⟩
      · exact .inl ⟨z1, z2⟩
      · have := c18.lt
        exact .inr ⟨z1, b, by omega, z3, z4, z5.frp F2 fun e => by omega⟩
    refine join_P (fun x u => Fr 0 0 w8 u ∧ OutS w8.heap.size (fun b => b = g ∨ b = ck ∨ b = ps ∨ Oh8 b) u x s.out) ?_ fun J hJ => ?_
    · rintro x u ⟨Fu, ho⟩
      have cu := c8.fr Fu (by omega)
      refine ldI cu (by rw [tab_get (by omega), g17]) ?_
      rcases hc with ⟨rfl, en, rv⟩ | ⟨hne, en, rv⟩
      · rw [if_neg (by decide)]
        refine ldI cu (by rw [tab_get (by omega), g13]) ?_
        exact last Fu ho en rv
      · rw [if_pos (by simpa using hne)]
        refine drew_ (ldI cu.drew (by rw [tab_get (by omega), g17]) (ldI cu.drew (by rw [tab_get (by omega), g13]) ?_))
        refine last Fu.drew ?_ en rv
        rcases ho with ⟨z1, z2⟩ | ⟨z1, b, z2, z3, z4, z5⟩
        · exact .inl ⟨z1, z2⟩
        · exact .inr ⟨z1, b, z2, z3, z4, z5.drew⟩
    · by_cases hl : 0 < s.out.length
      · rw [if_pos (by simp only [decide_eq_true_eq, osl]; omega)]
        refine ldS c8 (by rw [tab_get (by omega), mx8.ou]) ?_
        rw [osl]
        refine mkS (by omega) (by omega) (by omega) (by omega) fun w9 b9 f9 s9 => ?_
        refine ldS (c8.fr f9 (by omega)) (by rw [tab_get (by omega), mx8.ou]) ?_
        have lt8 : ∀ b, (b = g ∨ b = ck ∨ b = ps ∨ Oh8 b) → b < w8.heap.size := fun b hb => me8.lt hb
        generalize hp9 : w8.heap.size = p9 at *
        rw [Int.toNat_natCast, reps_ints] at *
        rcases mx8.oo with ⟨_, e'⟩ | ⟨gb, a, b, cc, junk, d, l⟩
        · have : s.out = [] := by simpa [ints] using e'
          rw [this] at hl; simp at hl
        · have hlz : (ints s.out).length = s.out.length := by simp [ints]
          refine copyS (n := s.out.length) (us := ints s.out) (d.fr f9 (by omega)) a b9 rfl (by dsimp only; rw [osl]; simp) (by rw [Nat.mul_one, List.drop_zero, ← hlz]; simp) (by rw [hlz, Nat.mul_one]) (ints_ok _) (by simp [ints]) fun w10 b10 f10 s10 => ?_
          have e5 : (ints (List.replicate s.out.length 0)).take 0 ++ ints s.out ++ (ints (List.replicate s.out.length 0)).drop (0 + (ints s.out).length) = ints s.out := by simp [ints]
          rw [e5] at b10
          have F10 : Fr 0 0 w8 w10 := (f9.any _ 1).trans f10 |>.fresh (by omega) 0 0
          exact hJ _ w10 ⟨F10, .inr ⟨by intro e; rw [e] at hl; simp at hl, p9, by omega, fun hb => by have := lt8 _ hb; omega, rfl, b10⟩⟩
      · rw [if_neg (by simp only [decide_eq_true_eq, osl]; omega)]
        have : s.out = [] := List.length_eq_zero_iff.1 (by omega)
        exact hJ _ w8 ⟨Fr.refl 0 0 w8, .inl ⟨this, rfl⟩⟩
end Go.Proofs.Qxb6500562aGreat
