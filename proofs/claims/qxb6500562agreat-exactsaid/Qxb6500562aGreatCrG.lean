/-
  The real checker: heads.
-/
import Derived.Test.Qxb6500562aGreatCrF
namespace Go.Proofs.Qxb6500562aGreat
open Go.Den Go.Zip
set_option linter.unusedVariables false
set_option linter.unusedSimpArgs false
variable {α β : Type} {ns : List Nd} {w0 w w' : World} {P : Nat → Prop} {c ps tb p : Nat} {st : CS} {L : List (Nat × List Value)} {vs : List Value}

/-- Going on, with a word on the record. -/
structure CQg (G : (Nat → Value) → Prop) (ns : List Nd) (w0 : World) (P : Nat → Prop) (c ps tb : Nat) (st : CS) (L : List (Nat × List Value)) (w : World) : Prop where
  good : Good 0 ns
  le : ns.length ≤ 200
  inv : CInv ns st
  ex : ∃ f bty bre, Sep w0 P w (cow c bty bre) (L ++ tloc ns tb) ∧ (bty ≠ bre ∧ bty ≠ c ∧ bre ≠ c) ∧ Blk w c (tab 420 f) ∧ RI f ns ps tb bty bre st ∧ Blk w bty (ints st.ty) ∧ Blk w bre (ints st.ref) ∧ G f
theorem CQg.q {G : (Nat → Value) → Prop} (h : CQg G ns w0 P c ps tb st L w) : CQ ns w0 P c ps tb st L w := by
  obtain ⟨f, bty, bre, h1, h2, h3, h4, h5, h6, _⟩ := h.ex
  exact ⟨h.good, h.le, h.inv, f, bty, bre, h1, h2, h3, h4, h5, h6⟩
theorem CQ.g {G : (Nat → Value) → Prop} (h : CQ ns w0 P c ps tb st L w) (hg : ∀ f, G f) : CQg G ns w0 P c ps tb st L w := by
  obtain ⟨f, bty, bre, h1, h2, h3, h4, h5, h6⟩ := h.ex
  exact ⟨h.good, h.le, h.inv, f, bty, bre, h1, h2, h3, h4, h5, h6, hg f⟩
theorem CQg.ext {G : (Nat → Value) → Prop} (h : CQg G ns w0 P c ps tb st L w) (f : Fr 0 0 w w') : CQg G ns w0 P c ps tb st L w' := by
  obtain ⟨g, bty, bre, h1, h2, h3, h4, h5, h6, h7⟩ := h.ex
  exact ⟨h.good, h.le, h.inv, g, bty, bre, h1.ext f, h2, h3.fr f (by omega), h4, h5.fr f (by omega), h6.fr f (by omega), h7⟩
theorem CQg.drew {G : (Nat → Value) → Prop} (h : CQg G ns w0 P c ps tb st L w) : CQg G ns w0 P c ps tb st L w.drew := h.ext (Fr.refl 0 0 w).drew
theorem CQg.upd {G : (Nat → Value) → Prop} {us : List Value} (h : CQg G ns w0 P c ps tb st ((p, vs) :: L) w) (f : Fr p 1 w w') (hb : Blk w' p us) : CQg G ns w0 P c ps tb st ((p, us) :: L) w' := by
  obtain ⟨g, bty, bre, h1, h2, h3, h4, h5, h6, h7⟩ := h.ex
  have hno : ¬ cow c bty bre p := h1.nown
  have e1 : p ≠ c := fun e => hno (.inl e)
  have e2 : p ≠ bty := fun e => hno (.inr (.inl e))
  have e3 : p ≠ bre := fun e => hno (.inr (.inr e))
  exact ⟨h.good, h.le, h.inv, g, bty, bre, h1.set f hb, h2, h3.fr f (by omega), h4, h5.fr f (by omega), h6.fr f (by omega), h7⟩
theorem CQg.loc {G : (Nat → Value) → Prop} (h : CQg G ns w0 P c ps tb st ((p, vs) :: L) w) : Blk w p vs := by
  obtain ⟨g, bty, bre, h1, _⟩ := h.ex
  exact h1.blk
theorem CQg.st1 {G : (Nat → Value) → Prop} {i : Nat} {v : Value} {K : World → Prop} (h : CQg G ns w0 P c ps tb st ((p, vs) :: L) w) (hi : i < vs.length) (hK : ∀ w', CQg G ns w0 P c ps tb st ((p, vs.set i v) :: L) w' → K w') : St1 w ⟨p, i, none⟩ v K :=
  Go.Den.st1 h.loc hi fun w' b f _ => hK w' (h.upd f b)
theorem CQ.loc (h : CQ ns w0 P c ps tb st ((p, vs) :: L) w) : Blk w p vs := by
  obtain ⟨g, bty, bre, h1, _⟩ := h.ex
  exact h1.blk
theorem CQ.tail {x : Nat × List Value} (h : CQ ns w0 P c ps tb st (x :: L) w) : CQ ns w0 P c ps tb st L w := by
  obtain ⟨g, bty, bre, h1, h2⟩ := h.ex
  exact ⟨h.good, h.le, h.inv, g, bty, bre, h1.tail, h2⟩
theorem CFl.tail {x : Nat × List Value} {e q : Int} (h : CFl ns w0 P c ps tb e q (x :: L) w) : CFl ns w0 P c ps tb e q L w := by
  obtain ⟨h0, g, bty, bre, h1, h2⟩ := h
  exact ⟨h0, g, bty, bre, h1.tail, h2⟩
theorem CQ.new {cs : List Value} (h : CQ ns w0 P c ps tb st L w) (f : Fr 0 0 w w') (hp : w.heap.size ≤ p) (hb : Blk w' p cs) : CQ ns w0 P c ps tb st ((p, cs) :: L) w' := by
  obtain ⟨g, bty, bre, h1, h2, h3, h4, h5, h6⟩ := h.ex
  exact ⟨h.good, h.le, h.inv, g, bty, bre, h1.new f hp hb, h2, h3.fr f (by omega), h4, h5.fr f (by omega), h6.fr f (by omega)⟩
/-- A parameter's type is laid. -/
theorem CQg.ptype {G G' : (Nat → Value) → Prop} {j : Nat} {v : Value} {K : World → Prop} (h : CQg G ns w0 P c ps tb st L w) (hj : 382 + st.fs.length * 4 ≤ j) (hj2 : j < 414) (hG : ∀ f, G f → G' (fset f j v)) (hK : ∀ w', CQg G' ns w0 P c ps tb st L w' → K w') :
    St1 w ⟨c, j, none⟩ v K := by
  obtain ⟨f, bty, bre, g1, ⟨n1, n2, n3⟩, g3, g4, g5, g6, g7⟩ := h.ex
  have hfl := h.inv.fl
  have hvl := vs_le h.inv
  refine stF g3 (by omega) fun u b F _ => hK u ?_
  refine ⟨h.good, h.le, h.inv, _, bty, bre, g1.step0 (FrP.of F fun b h1 h2 => .inl (by omega)), ⟨n1, n2, n3⟩, b, ?_, g5.fr F (by omega), g6.fr F (by omega), hG f g7⟩
  have e : ∀ i, i ≠ j → fset f j v i = f i := fun i hi => fset_ne hi
  refine ⟨by rw [e _ (by omega)]; exact g4.ps, g4.vt.off (by omega), fun k hk => ?_, by rw [e _ (by omega)]; exact g4.ni, by rw [e _ (by omega)]; exact g4.nr, by rw [e _ (by omega)]; exact g4.lv, g4.ft.off (by omega), fun i k hi hk => ?_, fun i k t hi hk => ?_,
    by rw [e _ (by omega)]; exact g4.cur, by rw [e _ (by omega)]; exact g4.t, by rw [e _ (by omega)]; exact g4.ty, by rw [e _ (by omega)]; exact g4.rf, g4.lvs⟩
  · rw [e _ (by omega), e _ (by omega), e _ (by omega)]; exact g4.vp k hk
  · rw [e _ (by omega)]; exact g4.fp i k hi hk
  · rw [e _ (by omega)]; exact g4.pt i k t hi hk
/-- What the seven stores write. -/
def fn7 (f : Nat → Value) (o : Nat) (g : Fn) : Nat → Value :=
  fset (fset (fset (fset (fset (fset (fset f o (.int .i64 g.node)) (o + 1) (.int .i64 g.ret)) (o + 2) (.int .i64 g.pi)) (o + 3) (.int .i64 g.pr)) (o + 4) (.int .i64 g.li)) (o + 5) (.int .i64 g.lr)) (o + 6) (.string g.name)
theorem fn7_off {f : Nat → Value} {o j : Nat} {g : Fn} (h : j < o ∨ o + 7 ≤ j) : fn7 f o g j = f j := by
  unfold fn7
  rw [fset_ne (by omega), fset_ne (by omega), fset_ne (by omega), fset_ne (by omega), fset_ne (by omega), fset_ne (by omega), fset_ne (by omega)]
theorem fn7_at {f : Nat → Value} {o k : Nat} {g : Fn} (h : k < 7) : (fnV g)[k]? = some (fn7 f o g (o + k)) := by
  unfold fn7
  have h7 : k = 0 ∨ k = 1 ∨ k = 2 ∨ k = 3 ∨ k = 4 ∨ k = 5 ∨ k = 6 := by omega
  rcases h7 with rfl | rfl | rfl | rfl | rfl | rfl | rfl
  · rw [fset_ne (by omega), fset_ne (by omega), fset_ne (by omega), fset_ne (by omega), fset_ne (by omega), fset_ne (by omega)]; simp [fnV, fset]
  · rw [fset_ne (by omega), fset_ne (by omega), fset_ne (by omega), fset_ne (by omega), fset_ne (by omega), fset_eq]; rfl
  · rw [fset_ne (by omega), fset_ne (by omega), fset_ne (by omega), fset_ne (by omega), fset_eq]; rfl
  · rw [fset_ne (by omega), fset_ne (by omega), fset_ne (by omega), fset_eq]; rfl
  · rw [fset_ne (by omega), fset_ne (by omega), fset_eq]; rfl
  · rw [fset_ne (by omega), fset_eq]; rfl
  · rw [fset_eq]; rfl
theorem fnAt_app {l : List Fn} {g : Fn} {i : Nat} (h : i < l.length) : fnAt (l ++ [g]) (i : Int) = fnAt l (i : Int) := by
  unfold fnAt
  rw [List.getD_eq_getElem?_getD, List.getD_eq_getElem?_getD, Int.toNat_natCast, List.getElem?_append_left h]
theorem fnAt_end {l : List Fn} {g : Fn} : fnAt (l ++ [g]) (l.length : Int) = g := by unfold fnAt; simp
/-- The new function stands in the record. -/
theorem RI.head {f : Nat → Value} {bty bre : Nat} {g : Fn} (h : RI f ns ps tb bty bre st) (hl : st.fs.length < 8) (hvl : st.vs.length ≤ 24) (hs : g.name.size ≤ 4096) (hp : ∀ (k : Nat) (t : Int), k < 4 → (ptys ns g)[k]? = some t → f (382 + (st.fs.length * 4 + k)) = .int .i64 t) :
    RI (pushF (fn7 f (326 + st.fs.length * 7) g) 165 (fnames st) g.name 0 0 0) ns ps tb bty bre { st with fs := st.fs ++ [g] } := by
  have hnl : (fnames st).length = st.fs.length := by simp [fnames]
  have e : ∀ j, j < 165 ∨ (326 ≤ j ∧ j < 326 + st.fs.length * 7) ∨ 326 + st.fs.length * 7 + 7 ≤ j → pushF (fn7 f (326 + st.fs.length * 7) g) 165 (fnames st) g.name 0 0 0 j = f j := fun j hj => by
    rw [pushF_off (by omega) (by omega), fn7_off (by omega)]
  refine ⟨by rw [e _ (by omega)]; exact h.ps, h.vt.congr fun j h1 h2 => e j (by omega), fun k hk => ?_, by rw [e _ (by omega)]; exact h.ni, by rw [e _ (by omega)]; exact h.nr, by rw [e _ (by omega)]; exact h.lv, ?_, fun i k hi hk => ?_, fun i k t hi hk ht => ?_,
    by rw [e _ (by omega)]; exact h.cur, by rw [e _ (by omega)]; exact h.t, by rw [e _ (by omega)]; exact h.ty, by rw [e _ (by omega)]; exact h.rf, h.lvs⟩
  · have hk : k < st.vs.length := hk
    rw [e _ (by omega), e _ (by omega), e _ (by omega)]; exact h.vp k hk
  · have : fnames ({ st with fs := st.fs ++ [g] } : CS) = fnames st ++ [g.name] := by simp [fnames]
    rw [this]
    exact pushF_tab (h.ft.congr fun j h1 h2 => fn7_off (by omega)) (by omega) hs
  · have hi : i < st.fs.length + 1 := by simpa using hi
    show (fnV (fnAt (st.fs ++ [g]) (i : Int)))[k]? = _
    by_cases ei : i = st.fs.length
    · subst ei
      rw [fnAt_end, pushF_off (by omega) (by omega)]
      exact fn7_at hk
    · rw [fnAt_app (by omega), e _ (by omega)]
      exact h.fp i k (by omega) hk
  · have hi : i < st.fs.length + 1 := by simpa using hi
    by_cases ei : i = st.fs.length
    · subst ei
      have ht : (ptys ns (fnAt (st.fs ++ [g]) (st.fs.length : Int)))[k]? = some t := ht
      rw [fnAt_end] at ht
      rw [e _ (by omega)]
      exact hp k t hk ht
    · have ht : (ptys ns (fnAt (st.fs ++ [g]) (i : Int)))[k]? = some t := ht
      rw [fnAt_app (by omega)] at ht
      rw [e _ (by omega)]
      exact h.pt i k t (by omega) hk ht
theorem CInv.head {g : Fn} (hi : CInv ns st) (h8 : st.fs.length < 8) (hdup : ¬ 0 ≤ nameIx (fnames st) g.name) (pty : tyOK g.ret) (hn : 0 ≤ g.node ∧ g.node < ns.length ∧ (ndAt ns g.node).kind = 0) (hpp : 0 ≤ g.pi ∧ 0 ≤ g.pr ∧ g.pi + g.pr ≤ 4)
    (hpl : ((kids ns (ndAt ns g.node).a).length : Int) = g.pi + g.pr) : CInv ns { st with fs := st.fs ++ [g] } := by
  refine ⟨hi.tl, hi.rl, ⟨hi.ti.vs, fun f hf => ?_⟩, by show (st.fs ++ [_]).length ≤ 8; simp; omega, fun f hf => ?_, fun f hf => ?_, fun f hf => ?_, ?_, hi.ci, hi.cr, hi.lv⟩
  · rcases List.mem_append.1 hf with hf | hf
    · exact hi.ti.fs f hf
    · simp only [List.mem_singleton] at hf; subst hf; exact pty
  · rcases List.mem_append.1 hf with hf | hf
    · exact hi.fnd f hf
    · simp only [List.mem_singleton] at hf; subst hf; exact hn
  · rcases List.mem_append.1 hf with hf | hf
    · exact hi.fpp f hf
    · simp only [List.mem_singleton] at hf; subst hf; exact hpp
  · rcases List.mem_append.1 hf with hf | hf
    · exact hi.fpl f hf
    · simp only [List.mem_singleton] at hf; subst hf; exact hpl
  · show ((st.fs ++ [_]).map Fn.name).Pairwise _
    rw [List.map_append, List.pairwise_append]
    refine ⟨hi.fdn, by simp, fun nm hnm nm2 hnm2 => ?_⟩
    simp only [List.map_cons, List.map_nil, List.mem_singleton] at hnm2
    subst hnm2
    obtain ⟨j, hj⟩ := List.mem_iff_getElem?.1 hnm
    rcases lastN_spec (fnames st) g.name (fnames st).length with ⟨_, hall⟩ | ⟨k, hk', hk2, _⟩
    · have hjl : j < (fnames st).length := by
        rcases Nat.lt_or_ge j (fnames st).length with h | h
        · exact h
        · unfold fnames at h; rw [List.getElem?_eq_none h] at hj; cases hj
      have := hall j hjl
      rw [List.getD_eq_getElem?_getD] at this
      unfold fnames at this
      rw [hj] at this
      exact this
    · exfalso
      apply hdup
      unfold nameIx
      rw [hk']; omega
theorem cntP_app (ns : List Nd) : ∀ (l : List Int) (y : Int) (a b : Nat), True := fun _ _ _ _ => trivial
theorem rheads_spec {root : Int} {l : List Int} {K : Bool → World → Prop} (h : CQ ns w0 P c ps tb st L w) (hch : Ch ns root l) (hseg : Segs ns l) (hmem : ∀ y ∈ l, 0 ≤ y ∧ y < ns.length ∧ (ndAt ns y).kind = 0)
    (hK : ∀ r w', CO ns w0 P c ps tb (ckL (ckHead ns) l st) L w' → Rb (ckL (ckHead ns) l st) r → K r w') : S.check_Checker_allHeads c root w K := by
  unfold S.check_Checker_allHeads
  have good := h.good
  have hle := h.le
  generalize hol : ckL (ckHead ns) l st = ol at *
  refine loopN (fun m v u => ∃ (l2 : List Int) (aa : Int) (st2 : CS), v = (aa, ()) ∧ m = l2.length ∧ Ch ns aa l2 ∧ (∀ y ∈ l2, y ∈ l) ∧ CQ ns w0 P c ps tb st2 L u ∧ ol = ckL (ckHead ns) l2 st2) l.length
    ⟨l, _, st, rfl, rfl, hch, fun y hy => hy, h, hol.symm⟩ ?_
  rintro m _ u ⟨l2, aa, st2, rfl, rfl, ch1, hsub, hu, hoe⟩ Q hQ
  dsimp only
  cases l2 with
  | nil =>
    have haa : aa = -1 := ch1
    rw [if_neg (by simp [haa])]
    exact hK true u (by rw [hoe]; exact hu) (by rw [hoe]; rfl)
  | cons a l3 =>
    have haa : aa = a := ch1.1
    subst haa
    obtain ⟨ha0, halt, hk0⟩ := hmem aa (hsub aa (.head _))
    rw [if_pos (by simpa using ha0)]
    have hoe2 : ol = cb (ckHead ns aa st2) fun _ st => ckL (ckHead ns) l3 st := hoe
    have hnl : (fnames st2).length = st2.fs.length := by simp [fnames]
    have hfl := hu.inv.fl
    have hn325 : ∀ {K : Int → Prop} {st3 : CS} {u : World} {L}, CQ ns w0 P c ps tb st3 L u → K st3.fs.length → LdI .i64 u ⟨c, 325, none⟩ K := fun h hK => by
      obtain ⟨f, bty, bre, g1, g2, g3, g4, g5, g6⟩ := h.ex
      refine ldF g3 (by omega) g4.ft.n ?_
      rw [show (fnames _).length = _ from List.length_map ..]
      exact hK
    have stop : ∀ (w1 : World) (e1 q1 : Int), ckHead ns aa st2 = .error (e1, q1) → CFl ns w0 P c ps tb e1 q1 L w1 → K false w1 := fun w1 e1 q1 he hm => hK false w1 (by rw [hoe2, he]; exact hm) (by rw [hoe2, he]; rfl)
    refine hn325 hu ?_
    by_cases h8 : 8 ≤ st2.fs.length
    · rw [if_pos (by simp only [decide_eq_true_eq]; omega)]
      refine hu.nd (k := 6) ha0 halt (by omega) rfl ?_
      refine rcfail hu (by decide) fun w1 h1 => ?_
      exact stop w1 19 _ (by unfold ckHead; rw [if_pos h8]; rfl) h1
    rw [if_neg (by simp only [decide_eq_true_eq]; omega)]
    refine drew_ ?_
    have hu := hu.drew
    generalize u.drew = u at *
    refine hu.ndName ha0 halt ?_
    refine ffind hu (hu.name_sz ha0 halt) fun w1 hu1 => ?_
    by_cases hdup : 0 ≤ nameIx (fnames st2) (ndAt ns aa).name
    · rw [if_pos (by simpa using hdup)]
      refine hu1.nd (k := 6) ha0 halt (by omega) rfl ?_
      refine rcfail hu1 (by decide) fun w2 h2 => ?_
      exact stop w2 13 _ (by unfold ckHead; rw [if_neg h8, if_pos hdup]; rfl) h2
    rw [if_neg (by simpa using hdup)]
    have ehead : ckHead ns aa st2 = match cntP ns (kids ns (ndAt ns aa).a) 0 0 with | .error q => .error q | .ok (a, b) => .ok ((), { st2 with fs := st2.fs ++ [⟨aa, (ndAt ns aa).val, a, b, 0, 0, (ndAt ns aa).name⟩] }) := by
      unfold ckHead; rw [if_neg h8, if_neg hdup]
      rcases cntP ns (kids ns (ndAt ns aa).a) 0 0 with q | ⟨a, b⟩ <;> rfl
    obtain ⟨po1, po2⟩ := good aa ha0 halt
    obtain ⟨⟨pl, pc1, pc2⟩, pb, pty⟩ := po1.f0 hk0
    obtain ⟨pl', pc1', pc3, _⟩ := po2.sl (.inl hk0)
    have := pc1.uniq pc1'
    subst this
    have hpk : kids ns (ndAt ns aa).a = pl := kids_of pc1 pc3 fun y hy => by have := pc2 y hy; have := this.1; have := (pc2 y hy).2.1; omega
    rw [hpk] at ehead
    refine drew_ ?_
    have hu1 := hu1.drew
    generalize w1.drew = w1 at *
    obtain ⟨f, bty, bre, g1, g2, g3, g4, g5, g6⟩ := hu1.ex
    have hne : ns.length ≠ 0 := by omega
    have htb : Blk w1 tb (ns.flatMap ndV) := (g1.lc (tb, ns.flatMap ndV) (by simp [tloc, hne])).1
    obtain ⟨m', hm'⟩ : ∃ q : Nat, aa = q := ⟨aa.toNat, by omega⟩
    have cell : ∀ k, k < 8 → (ns.flatMap ndV)[0 + aa.toNat * 8 + k]? = (ndV (ndAt ns aa))[k]? := fun k hk => by rw [Nat.zero_add, hm', Int.toNat_natCast, ndCell (by omega) hk]
    refine ldFL g3 (by omega) g4.t ?_
    simp only [tsl, if_neg hne]
    refine ix rfl ha0 (by omega) ?_
    refine ldI htb (m := (ndAt ns aa).val) ((cell 5 (by omega)).trans rfl) ?_
    refine ldFL g3 (by omega) g4.t ?_
    simp only [tsl, if_neg hne]
    refine ix rfl ha0 (by omega) ?_
    refine ldStr htb (m := (ndAt ns aa).name) ((cell 7 (by omega)).trans rfl) ?_
    refine newB fun w2 b2 f2 t2 => ?_
    have htb2 := htb.fr f2 (by omega)
    have g32 := g3.fr f2 (by omega)
    refine ⟨held htb htb2, held g3 g32, held htb htb2, held g3 g32, ?_⟩
    have hu2 : CQg (fun f => ∀ j : Nat, j < 0 + 0 → ∃ y, pl[j]? = some y ∧ f (382 + (st2.fs.length * 4 + j)) = .int .i64 (ndAt ns y).val) ns w0 P c ps tb st2 _ w2 := (hu1.new f2 (Nat.le_refl _) b2).g fun f j hj => by omega
    refine hu2.st1 (by simp) fun w3 h3 => h3.st1 (by simp) fun w4 h4 => h4.st1 (by simp) fun w5 h5 => h5.st1 (by simp) fun w6 h6 => h6.st1 (by simp) fun w7 h7 => h7.st1 (by simp) fun w8 h8' => h8'.st1 (by simp) fun w9 h9 => ?_
    have h9 : CQg (fun f => ∀ j : Nat, j < 0 + 0 → ∃ y, pl[j]? = some y ∧ f (382 + (st2.fs.length * 4 + j)) = .int .i64 (ndAt ns y).val) ns w0 P c ps tb st2 ((w1.heap.size, fnV ⟨aa, (ndAt ns aa).val, 0, 0, 0, 0, (ndAt ns aa).name⟩) :: L) w9 := h9
    generalize w1.heap.size = p32 at *
    refine h9.q.nd (k := 1) ha0 halt (by omega) rfl ?_
    refine join_W (fun u => ∃ a b : Nat, cntP ns pl 0 0 = .ok (a, b) ∧ CQg (fun f => ∀ j : Nat, j < a + b → ∃ y, pl[j]? = some y ∧ f (382 + (st2.fs.length * 4 + j)) = .int .i64 (ndAt ns y).val) ns w0 P c ps tb st2 ((p32, fnV ⟨aa, (ndAt ns aa).val, a, b, 0, 0, (ndAt ns aa).name⟩) :: L) u) ?_ ?_
    · rintro u ⟨a, b, ecnt, hu3⟩
      rw [ecnt] at ehead
      refine drew_ ?_
      have hu3 := hu3.drew
      generalize u.drew = u at *
      refine hn325 hu3.q ?_
      have bl := hu3.loc
      refine ldI bl rfl (ldI bl rfl (ldI bl rfl (ldI bl rfl (ldI bl rfl (ldI bl rfl (ldStr bl rfl ?_))))))
      refine ⟨by omega, by omega, ?_⟩
      rw [Int.toNat_natCast]
      obtain ⟨cl1, cl2⟩ := cntP_len pl 0 0 a b ecnt
      have hab : a + b ≤ 4 := by
        rcases cl2 with h | h
        · exact h
        · rw [h] at cl1; simp at cl1; omega
      have hninv : CInv ns { st2 with fs := st2.fs ++ [⟨aa, (ndAt ns aa).val, a, b, 0, 0, (ndAt ns aa).name⟩] } :=
        hu3.inv.head (by omega) hdup pty ⟨ha0, halt, hk0⟩ ⟨by simp, by simp, by show (a : Int) + (b : Int) ≤ 4; omega⟩ (by show ((kids ns (ndAt ns aa).a).length : Int) = (a : Int) + (b : Int); rw [hpk]; omega)
      have hvl := vs_le hu3.inv
      have hsz := (good aa ha0 halt).1.nmz
      obtain ⟨f, bty, bre, g1, ⟨n1, n2, n3⟩, g3, g4, g5, g6, g7⟩ := hu3.ex
      refine stF g3 (by omega) fun u1 b1 f1 _ => stF b1 (by omega) fun u2 b2 f2 _ => stF b2 (by omega) fun u3 b3 f3 _ => stF b3 (by omega) fun u4 b4 f4 _ => stF b4 (by omega) fun u5 b5 f5 _ => stF b5 (by omega) fun u6 b6 f6 _ => stF b6 (by omega) fun u7 b7 f7 _ => ?_
      have b7 : Blk u7 c (tab 420 (fn7 f (326 + st2.fs.length * 7) ⟨aa, (ndAt ns aa).val, a, b, 0, 0, (ndAt ns aa).name⟩)) := b7
      have F7 := (((((f1.trans f2).trans f3).trans f4).trans f5).trans f6).trans f7
      refine drew_ ?_
      have b7 := b7.drew
      have F7 := F7.drew
      generalize u7.drew = u7 at *
      have hpc : p32 ≠ c := fun e => g1.nown (.inl e)
      refine ldStr (bl.fr F7 (by omega)) rfl ?_
      refine tpush_spec b7 (g4.ft.congr fun j h1 h2 => fn7_off (by omega)) (by omega) (by omega) hsz fun u8 b8 f8 => ?_
      have F8 := F7.trans f8
      have hq : CQ ns w0 P c ps tb { st2 with fs := st2.fs ++ [⟨aa, (ndAt ns aa).val, a, b, 0, 0, (ndAt ns aa).name⟩] } ((p32, fnV ⟨aa, (ndAt ns aa).val, a, b, 0, 0, (ndAt ns aa).name⟩) :: L) u8 := by
        refine ⟨good, hle, hninv, _, bty, bre, g1.step0 (FrP.of F8 fun b h1 h2 => .inl (by omega)), ⟨n1, n2, n3⟩, b8, g4.head (by omega) hvl hsz (fun k t hk ht => ?_), g5.fr F8 (by omega), g6.fr F8 (by omega)⟩
        have ht : ((kids ns (ndAt ns aa).a).map fun q => (ndAt ns q).val)[k]? = some t := ht
        rw [hpk, List.getElem?_map] at ht
        have hkl : k < pl.length := by
          rcases Nat.lt_or_ge k pl.length with h | h
          · exact h
          · rw [List.getElem?_eq_none h] at ht; cases ht
        obtain ⟨y, hy1, hy2⟩ := g7 k (by omega)
        rw [hy1] at ht
        rw [hy2]
        exact congrArg _ (Option.some.inj ht)
      refine hq.nd (k := 4) ha0 halt (by omega) rfl ?_
      refine hQ l3.length _ u8 (by simp) ⟨l3, _, _, rfl, rfl, ch1.2.2, fun y hy => hsub y (.tail _ hy), hq.tail, ?_⟩
      rw [hoe2, ehead]; rfl
    · intro J52 hJ52
      refine loopN (fun m v u => ∃ (l4 : List Int) (qq : Int) (a b : Nat), v = (qq, ()) ∧ m = l4.length ∧ Ch ns qq l4 ∧ l4 = pl.drop (a + b) ∧ a + b ≤ 4 ∧ CQg (fun f => ∀ j : Nat, j < a + b → ∃ y, pl[j]? = some y ∧ f (382 + (st2.fs.length * 4 + j)) = .int .i64 (ndAt ns y).val) ns w0 P c ps tb st2 ((p32, fnV ⟨aa, (ndAt ns aa).val, a, b, 0, 0, (ndAt ns aa).name⟩) :: L) u ∧ cntP ns pl 0 0 = cntP ns l4 a b) pl.length
        ⟨pl, _, 0, 0, rfl, rfl, pc1, rfl, by omega, h9, rfl⟩ ?_
      rintro m _ u ⟨l4, qq, a, b, rfl, rfl, ch4, hdr, hab, hu4, hcp⟩ Q4 hQ4
      dsimp only
      cases l4 with
      | nil =>
        have hqq : qq = -1 := ch4
        rw [if_neg (by simp [hqq])]
        exact hJ52 u ⟨a, b, hcp, hu4⟩
      | cons y l5 =>
        have hqq : qq = y := ch4.1
        subst hqq
        have hq0 := ch4.2.1
        have hqm : qq ∈ pl := by
          have : qq ∈ pl.drop (a + b) := by rw [← hdr]; exact .head _
          exact List.mem_of_mem_drop this
        have hqlt : qq < ns.length := by have := (pc2 qq hqm).2.1; omega
        have hqat : pl[a + b]? = some qq := by
          have := congrArg (fun l : List Int => l[0]?) hdr
          simp only [List.getElem?_cons_zero, List.getElem?_drop, Nat.add_zero] at this
          exact this.symm
        have hdr5 : l5 = pl.drop (a + b + 1) := by
          have := congrArg (fun l : List Int => l.drop 1) hdr
          simp only [List.drop_one, List.tail_cons] at this
          rw [this, List.tail_drop]
        rw [if_pos (by simpa using hq0)]
        refine join_W (fun u => ∃ a' b' : Nat, a' + b' = a + b + 1 ∧ a' + b' ≤ 4 ∧ CQg (fun f => ∀ j : Nat, j < a' + b' → ∃ y, pl[j]? = some y ∧ f (382 + (st2.fs.length * 4 + j)) = .int .i64 (ndAt ns y).val) ns w0 P c ps tb st2 ((p32, fnV ⟨aa, (ndAt ns aa).val, a', b', 0, 0, (ndAt ns aa).name⟩) :: L) u ∧ cntP ns pl 0 0 = cntP ns l5 a' b') ?_ ?_
        · rintro u ⟨a', b', hab', hab4, hu5, hcp5⟩
          refine hu5.q.nd (k := 4) hq0 hqlt (by omega) rfl ?_
          exact hQ4 l5.length _ u (by simp) ⟨l5, _, a', b', rfl, rfl, ch4.2.2, by rw [hab']; exact hdr5, hab4, hu5, hcp5⟩
        · intro J59 hJ59
          refine ldI hu4.loc rfl (ldI hu4.loc rfl ?_)
          rw [W_add (by omega)]
          rw [cntP_cons] at hcp
          by_cases h4' : 4 ≤ a + b
          · rw [if_pos (by simp only [decide_eq_true_eq]; omega)]
            rw [if_pos h4'] at hcp
            refine hu4.q.nd (k := 6) hq0 hqlt (by omega) rfl ?_
            refine rcfail hu4.q (by decide) fun w10 h10 => ?_
            exact stop w10 19 _ (by rw [ehead, hcp]; rfl) h10.tail
          · rw [if_neg (by simp only [decide_eq_true_eq]; omega)]
            rw [if_neg h4'] at hcp
            refine drew_ ?_
            have hu4 := hu4.drew
            generalize u.drew = u at *
            refine hn325 hu4.q ?_
            refine ldI hu4.loc rfl (ldI hu4.loc rfl ?_)
            refine hu4.q.nd (k := 5) hq0 hqlt (by omega) rfl ?_
            have ew : W (W (W ((st2.fs.length : Int) * 4) + (a : Int)) + (b : Int)) = ((st2.fs.length * 4 + (a + b) : Nat) : Int) := by
              rw [W_id (x := (st2.fs.length : Int) * 4) (by omega) (by omega), W_id (x := (st2.fs.length : Int) * 4 + (a : Int)) (by omega) (by omega), W_id (by omega) (by omega)]; omega
            show IxA 32 (W (W (W ((st2.fs.length : Int) * 4) + (a : Int)) + (b : Int))) _
            rw [ew]
            refine ⟨by omega, by omega, ?_⟩
            rw [Int.toNat_natCast, Nat.mul_one]
            refine hu4.ptype (G' := fun f => ∀ j : Nat, j < a + b + 1 → ∃ y, pl[j]? = some y ∧ f (382 + (st2.fs.length * 4 + j)) = .int .i64 (ndAt ns y).val) (by omega) (by omega) (fun f hf j hj => ?_) fun w10 h10 => ?_
            · by_cases ej : j = a + b
              · subst ej
                exact ⟨qq, hqat, by rw [fset_eq]⟩
              · obtain ⟨y, hy1, hy2⟩ := hf j (by omega)
                exact ⟨y, hy1, by rw [fset_ne (by omega)]; exact hy2⟩
            refine h10.q.nd (k := 5) hq0 hqlt (by omega) rfl ?_
            by_cases hv2 : 2 ≤ (ndAt ns qq).val
            · rw [if_pos (by simpa using hv2)]
              rw [if_pos hv2] at hcp
              refine ldI h10.loc rfl ?_
              rw [W_succ (by omega)]
              refine h10.st1 (by simp [fnV]) fun w11 h11 => ?_
              exact hJ59 w11 ⟨a, b + 1, by omega, by omega, h11, hcp⟩
            · rw [if_neg (by simpa using hv2)]
              rw [if_neg hv2] at hcp
              refine ldI h10.loc rfl ?_
              rw [W_succ (by omega)]
              refine h10.st1 (by simp [fnV]) fun w11 h11 => ?_
              rw [show a + b + 1 = a + 1 + b by omega] at h11
              exact hJ59 w11 ⟨a + 1, b, by omega, by omega, h11, hcp⟩
end Go.Proofs.Qxb6500562aGreat
