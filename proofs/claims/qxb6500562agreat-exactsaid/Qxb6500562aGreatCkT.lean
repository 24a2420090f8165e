/-
  The model's checker: bodies, heads.
-/
import Derived.Test.Qxb6500562aGreatCkS
namespace Go.Proofs.Qxb6500562aGreat
open Go.Den Go.Zip
set_option linter.unusedVariables false
set_option linter.unusedSimpArgs false
variable {α β : Type} {ns : List Nd} {w0 w w' : World} {s tb p : Nat} {st : CS} {e q : Int} {L : List (Nat × List Value)} {vs : List Value} {nv : List Vr × Nat} {hds : List Int}

/-- No variable in sight. -/
theorem CMem.clearV {K : World → Prop} (h : CMem ns w0 s tb st e q L w) (hK : ∀ w', CMem ns w0 s tb { st with vs := [] } e q L w' → K w') :
    St1 w ⟨s, 4, none⟩ (.slice none 0 0) fun w => St1 w ⟨s, 5, none⟩ (.int .i64 0) fun w => St1 w ⟨s, 6, none⟩ (.int .i64 0) fun w => K w := by
  obtain ⟨bty, bre, sfs, svs, g1, g2, g3, g4, g5, g6, g7⟩ := h.ex
  obtain ⟨n1, n2, n3, n4, n5, n6, n7, n8, n9, n10⟩ := g2
  refine Go.Den.st1 g3 (by simp [cRec]) fun u1 b1 f1 t1 => ?_
  refine Go.Den.st1 b1 (by simp [cRec]) fun u2 b2 f2 t2 => ?_
  refine Go.Den.st1 b2 (by simp [cRec]) fun u3 b3 f3 t3 => ?_
  have F := (f1.trans f2).trans f3
  have fp : FrP (fun b => b = s) w u3 := FrP.of F fun b h1 h2 => by omega
  have hno : ∀ b, ¬ owns (⟨none, 0, 0⟩ : Sl) b := fun b h => by simp [owns] at h
  have hs : Sep w0 (fun _ => False) u3 (cown s bty bre sfs ⟨none, 0, 0⟩) (L ++ tloc ns tb) := g1.step (fp.mono fun b hb => .inl hb) fun b hb => by
    have hle := fp.1.1
    have : cown s bty bre sfs svs b := by
      rcases hb with h | h | h | h | h
      · exact .inl h
      · exact .inr (.inl h)
      · exact .inr (.inr (.inl h))
      · exact .inr (.inr (.inr (.inl h)))
      · exact absurd h (hno b)
    exact ⟨.inl this, by have := (g1.ow b this).1; omega⟩
  exact hK u3 ⟨h.good, h.le, h.inv.cut (pv := []) (r := st.vs) rfl, bty, bre, sfs, ⟨none, 0, 0⟩, hs, ⟨n1, n2, n3, n4, hno s, n6, n7, hno bty, hno bre, fun b _ => hno b⟩, b3, g4.fr F (by omega), g5.fr F (by omega), g6.frp fp fun b hb e => n4 (by rw [← e]; exact hb), OS.nil _ _⟩
/-- One body. -/
theorem mbody_spec {i : Nat} {K : World → Prop} (h : CMem ns w0 s tb st 0 0 L w) (hi : i < st.fs.length) (hh : st.fs.map Fn.node = hds) (hK : ∀ w', CM ns w0 s tb ([], 0) hds (ckBody ns i st) L w' → K w') : S.checkm_st_body s i w K := by
  unfold S.checkm_st_body
  have good := h.good
  have hle := h.le
  have hfl := h.inv.fl
  have hinv1 : CInv ns { st with cur := i } := ⟨h.inv.tl, h.inv.rl, h.inv.ti.of rfl rfl, h.inv.fl, h.inv.fnd, h.inv.fpp, h.inv.fpl, h.inv.fdn, h.inv.ci, h.inv.cr, h.inv.lv⟩
  refine h.reg (i := 7) (st' := { st with cur := i }) (e' := 0) (q' := 0) (by omega) (fun _ _ _ _ => rfl) ⟨rfl, rfl, rfl, rfl⟩ hinv1 fun w1 h1 => ?_
  refine h1.clearV fun w2 h2 => ?_
  have hinv2 : CInv ns { st with cur := i, vs := [], lev := 0 } := ⟨h2.inv.tl, h2.inv.rl, h2.inv.ti.of rfl rfl, h2.inv.fl, h2.inv.fnd, h2.inv.fpp, h2.inv.fpl, h2.inv.fdn, h2.inv.ci, h2.inv.cr, by show 0 ≤ 400; omega⟩
  refine h2.reg (i := 8) (st' := { st with cur := i, vs := [], lev := 0 }) (e' := 0) (q' := 0) (by omega) (fun _ _ _ _ => rfl) ⟨rfl, rfl, rfl, rfl⟩ hinv2 fun w3 h3 => ?_
  have hfn := mem_at (l := st.fs) (i := (i : Int)) (by omega) (by omega)
  obtain ⟨fn1, fn2, fn3⟩ := h.inv.fnd _ hfn
  refine h3.fn (k := 0) (by omega) (by show (i : Int) < st.fs.length; omega) (by omega) rfl ?_
  show LdS w3 ⟨s, 0, none⟩ _
  generalize hnd : (fnAt st.fs (i : Int)).node = x at *
  obtain ⟨po1, po2⟩ := good x fn1 fn2
  obtain ⟨⟨pl, pc1, pc2⟩, pb, _⟩ := po1.f0 fn3
  obtain ⟨pl', pc1', pc3, pc4⟩ := po2.sl (.inl fn3)
  have := pc1.uniq pc1'
  subst this
  have hpk : kids ns (ndAt ns x).a = pl := kids_of pc1 pc3 fun y hy => by have := pc2 y hy; have := this.1; have := (pc2 y hy).2.1; omega
  have etg : ckBody ns i st = cb (ckL (ckPar ns) pl { st with cur := i, vs := [], lev := 0 }) fun _ s => ckB ns (ckS ns ns.length) (ndAt ns x).b s := by unfold ckBody; rw [hnd, hpk]
  rw [etg] at hK
  refine h3.nd (k := 1) fn1 fn2 (by omega) rfl ?_
  generalize hol : ckL (ckPar ns) pl { st with cur := i, vs := [], lev := 0 } = ol at *
  refine join_W (fun u => CM ns w0 s tb ([], 0) hds ol L u ∧ ∃ st', ol = .ok ((), st') ∧ st'.cur < st'.fs.length ∧ st'.lev = 0) ?_ ?_
  · rintro u ⟨hu, st', rfl, hc, hl0⟩
    refine hu.nd (k := 2) fn1 fn2 (by omega) rfl ?_
    have hgb : ∃ lo, 0 ≤ lo ∧ lo ≤ (ndAt ns x).b ∧ GI ns lo (ndAt ns x).b := by
      rcases pl.eq_nil_or_concat with hp | ⟨l0, y, hp⟩
      · refine ⟨0, by omega, pb.1, fun z z1 z2 => (good z (by omega) (by have := pb.2.1; omega)).1⟩
      · have hym : y ∈ pl := by rw [hp]; simp
        obtain ⟨q1, q2⟩ := pc4 fn3 y hym
        have hy0 := (pc2 y hym).1
        exact ⟨y + 1, by omega, by omega, q2 (by rw [hp, List.concat_eq_append, List.getLast?_concat])⟩
    obtain ⟨lo, lo0, lo1, hgi⟩ := hgb
    refine mblock_all ns w0 s tb ns.length _ lo st' ([], 0) hds L u _ lo0 lo1 (by have := pb.2.1; omega) (by have := pb.2.1; omega) hgi pb.2.2 (by rw [hl0]; have := pb.2.1; omega) hc hu.1 hu.2.1 hu.2.2 fun w5 h5 => ?_
    exact hK w5 h5
  · intro J13 hJ13
    refine loopN (fun m v u => ∃ (l2 : List Int) (aa : Int) (st2 : CS), v = (aa, ()) ∧ m = l2.length ∧ Ch ns aa l2 ∧ (∀ y ∈ l2, y ∈ pl) ∧ CM ns w0 s tb ([], 0) hds (.ok ((), st2) : CR Unit) L u ∧ st2.cur < st2.fs.length ∧ st2.lev = 0 ∧ ol = ckL (ckPar ns) l2 st2) pl.length
      ⟨pl, _, _, rfl, rfl, pc1, fun y hy => hy, ⟨h3, ⟨⟨[], rfl⟩, rfl⟩, hh⟩, hi, rfl, hol.symm⟩ ?_
    rintro m _ u ⟨l2, aa, st2, rfl, rfl, ch1, hsub, hu, hc, hl0, hoe⟩ Q hQ
    dsimp only
    cases l2 with
    | nil =>
      have haa : aa = -1 := ch1
      rw [if_neg (by simp [haa])]
      exact hJ13 u ⟨by rw [hoe]; exact hu, st2, hoe, hc, hl0⟩
    | cons a l3 =>
      have haa : aa = a := ch1.1
      subst haa
      have ha0 := ch1.2.1
      have hal := pc2 aa (hsub aa (.head _))
      have halt : aa < ns.length := by have := hal.2.1; omega
      rw [if_pos (by simpa using ha0)]
      refine drew_ ?_
      have hu := CM.drew hu
      generalize u.drew = u at *
      refine hu.1.ndName ha0 halt ?_
      refine hu.1.nd (k := 5) ha0 halt (by omega) rfl ?_
      refine hu.1.nd (k := 6) ha0 halt (by omega) rfl ?_
      have hoe2 : ol = cb (mayD ns aa st2) fun _ st => ckL (ckPar ns) l3 (decl ns aa st) := by
        rw [hoe]
        show cb (cb (mayD ns aa st2) _) _ = _
        rw [cb_assoc]; rfl
      refine mfree_spec (x := aa) hu.1 (fun w4 e4 h4 => ?_) (fun w4 e1 q1 e4 hne h4 => ?_)
      · rw [if_neg (by simp)]
        rw [e4] at hoe2
        obtain ⟨_, m1, m2⟩ := mayD_ok e4
        have hty := (good aa ha0 halt).1.f1 hal.2.2
        refine mbind_spec h4 ha0 halt ⟨m1, m2⟩ hty hc fun w5 h5 => ?_
        refine h5.nd (k := 4) ha0 halt (by omega) rfl ?_
        refine hQ l3.length _ w5 (by simp) ⟨l3, _, decl ns aa st2, rfl, rfl, ch1.2.2, fun y hy => hsub y (.tail _ hy), ⟨h5, hu.2.1.decl, by rw [decl_heads]; exact hu.2.2⟩, by show st2.cur < (decl ns aa st2).fs.length; rw [(decl_kp aa st2).fl]; exact hc, hl0, hoe2⟩
      · rw [if_pos (by simp)]
        rw [e4] at hoe2
        rw [hoe2] at hK
        exact hK w4 ⟨hne, st2, h4, hu.2.1, hu.2.2⟩
/-- The state, with no word on scopes. -/
def CX (ns : List Nd) (w0 : World) (s tb : Nat) (o : CR α) (L : List (Nat × List Value)) (w : World) : Prop :=
  match o with
  | .ok (_, st) => CMem ns w0 s tb st 0 0 L w
  | .error (e, q) => e ≠ 0 ∧ ∃ st, CMem ns w0 s tb st e q L w
theorem CM.x {o : CR α} (h : CM ns w0 s tb nv hds o L w) : CX ns w0 s tb o L w := by
  rcases o with ⟨e, q⟩ | ⟨y, st⟩
  · obtain ⟨h1, st, h2, _⟩ := h
    exact ⟨h1, st, h2⟩
  · exact h.1
theorem fnV7 (f : Fn) : fnV f = [.int .i64 f.node, .int .i64 f.ret, .int .i64 f.pi, .int .i64 f.pr, .int .i64 f.li, .int .i64 f.lr, .string f.name] := rfl
theorem cntP_cons (q : Int) (l : List Int) (a b : Nat) : cntP ns (q :: l) a b = if 4 ≤ a + b then .error (19, psx ns q) else if 2 ≤ (ndAt ns q).val then cntP ns l a (b + 1) else cntP ns l (a + 1) b := rfl
theorem cntP_len : ∀ (l : List Int) (a b c d : Nat), cntP ns l a b = .ok (c, d) → c + d = a + b + l.length ∧ (c + d ≤ 4 ∨ l = [])
  | [], a, b, c, d, h => by cases h; exact ⟨by simp, .inr rfl⟩
  | q :: l, a, b, c, d, h => by
    unfold cntP at h
    split at h
    · cases h
    · rename_i h4
      split at h
      · have := cntP_len l a (b + 1) c d h
        refine ⟨by simp; omega, .inl ?_⟩
        rcases this.2 with h5 | h5
        · exact h5
        · rw [h5] at this; simp at this; omega
      · have := cntP_len l (a + 1) b c d h
        refine ⟨by simp; omega, .inl ?_⟩
        rcases this.2 with h5 | h5
        · exact h5
        · rw [h5] at this; simp at this; omega
theorem mheads_spec {root : Int} {l : List Int} {K : World → Prop} (h : CMem ns w0 s tb st 0 0 L w) (hch : Ch ns root l) (hseg : Segs ns l) (hmem : ∀ y ∈ l, 0 ≤ y ∧ y < ns.length ∧ (ndAt ns y).kind = 0) (hK : ∀ w', CX ns w0 s tb (ckL (ckHead ns) l st) L w' → K w') : S.checkm_st_heads s root w K := by
  unfold S.checkm_st_heads
  have good := h.good
  have hle := h.le
  generalize hol : ckL (ckHead ns) l st = ol at *
  refine loopN (fun m v u => ∃ (l2 : List Int) (aa : Int) (st2 : CS), v = (aa, ()) ∧ m = l2.length ∧ Ch ns aa l2 ∧ (∀ y ∈ l2, y ∈ l) ∧ CMem ns w0 s tb st2 0 0 L u ∧ ol = ckL (ckHead ns) l2 st2) l.length
    ⟨l, _, st, rfl, rfl, hch, fun y hy => hy, h, hol.symm⟩ ?_
  rintro m _ u ⟨l2, aa, st2, rfl, rfl, ch1, hsub, hu, hoe⟩ Q hQ
  dsimp only
  cases l2 with
  | nil =>
    have haa : aa = -1 := ch1
    rw [if_neg (by simp [haa])]
    exact hK u (by rw [hoe]; exact hu)
  | cons a l3 =>
    have haa : aa = a := ch1.1
    subst haa
    obtain ⟨ha0, halt, hk0⟩ := hmem aa (hsub aa (.head _))
    rw [if_pos (by simpa using ha0)]
    refine hu.err ?_
    rw [if_pos (by rfl)]
    have hoe2 : ol = cb (ckHead ns aa st2) fun _ st => ckL (ckHead ns) l3 st := hoe
    have hu' := hu
    obtain ⟨bty, bre, sfs, svs, g1, g2, g3, g4, g5, g6, g7⟩ := hu.ex
    refine ldS g3 rfl ?_
    have hl6 := g6.len
    rw [fns_len] at hl6
    have hll : sfs.l = st2.fs.length := by omega
    have hfl := hu.inv.fl
    have stop : ∀ (w1 : World) (e1 q1 : Int), e1 ≠ 0 → ckHead ns aa st2 = .error (e1, q1) → (∃ st3, CMem ns w0 s tb st3 e1 q1 L w1) → K w1 := fun w1 e1 q1 hne he hm => hK w1 (by rw [hoe2, he]; exact ⟨hne, hm⟩)
    by_cases h8 : 8 ≤ st2.fs.length
    · rw [if_pos (by simp only [decide_eq_true_eq]; omega)]
      refine hu.nd (k := 6) ha0 halt (by omega) rfl ?_
      refine mcfail hu fun w1 h1 => ?_
      exact stop w1 19 _ (by decide) (by unfold ckHead; rw [if_pos h8]; rfl) ⟨st2, h1⟩
    rw [if_neg (by simp only [decide_eq_true_eq]; omega)]
    refine hu.ndName ha0 halt ?_
    refine mfn_spec hu fun w1 hu1 => ?_
    have hnl : (fnames st2).length = st2.fs.length := by simp [fnames]
    by_cases hdup : 0 ≤ nameIx (fnames st2) (ndAt ns aa).name
    · rw [if_pos (by simpa using hdup)]
      refine hu1.nd (k := 6) ha0 halt (by omega) rfl ?_
      refine mcfail hu1 fun w2 h2 => ?_
      exact stop w2 13 _ (by decide) (by unfold ckHead; rw [if_neg h8, if_pos hdup]; rfl) ⟨st2, h2⟩
    rw [if_neg (by simpa using hdup)]
    have ehead : ckHead ns aa st2 = match cntP ns (kids ns (ndAt ns aa).a) 0 0 with | .error q => .error q | .ok (a, b) => .ok ((), { st2 with fs := st2.fs ++ [⟨aa, (ndAt ns aa).val, a, b, 0, 0, (ndAt ns aa).name⟩] }) := by
      unfold ckHead; rw [if_neg h8, if_neg hdup]
      rcases cntP ns (kids ns (ndAt ns aa).a) 0 0 with q | ⟨a, b⟩ <;> rfl
    obtain ⟨po1, po2⟩ := good aa ha0 halt
    obtain ⟨⟨pl, pc1, pc2⟩, pb, pty⟩ := po1.f0 hk0
    obtain ⟨pl', pc1', pc3, _⟩ := po2.sl (.inl hk0)
    have := pc1.uniq pc1'
    subst this
    have hpk : kids ns (ndAt ns aa).a = pl := kids_of pc1 pc3 fun y hy => by have := pc2 y hy; have := this.1; have := (pc2 y hy).2.1; omega
    rw [hpk] at ehead
    refine drew_ ?_
    have hu1 := hu1.drew
    generalize w1.drew = w1 at *
    obtain ⟨bty, bre, sfs, svs, g1, g2, g3, g4, g5, g6, g7⟩ := hu1.ex
    have hne : ns.length ≠ 0 := by omega
    have htb : Blk w1 tb (ns.flatMap ndV) := (g1.lc (tb, ns.flatMap ndV) (by simp [tloc, hne])).1
    obtain ⟨m', hm'⟩ : ∃ q : Nat, aa = q := ⟨aa.toNat, by omega⟩
    have cell : ∀ k, k < 8 → (ns.flatMap ndV)[0 + aa.toNat * 8 + k]? = (ndV (ndAt ns aa))[k]? := fun k hk => by rw [Nat.zero_add, hm', Int.toNat_natCast, ndCell (by omega) hk]
    refine ldS g3 rfl ?_
    simp only [tsl, if_neg hne]
    refine ix rfl ha0 (by omega) ?_
    refine ldI htb (m := (ndAt ns aa).val) ((cell 5 (by omega)).trans rfl) ?_
    refine ldS g3 rfl ?_
    simp only [tsl, if_neg hne]
    refine ix rfl ha0 (by omega) ?_
    refine ldStr htb (m := (ndAt ns aa).name) ((cell 7 (by omega)).trans rfl) ?_
    refine newB fun w2 b2 f2 t2 => ?_
    have htb2 := htb.fr f2 (by omega)
    have g32 := g3.fr f2 (by omega)
    refine ⟨held htb htb2, held g3 g32, held htb htb2, held g3 g32, ?_⟩
    have hu2 := hu1.new f2 (Nat.le_refl _) b2
    refine hu2.st1 (by simp) fun w3 h3 => h3.st1 (by simp) fun w4 h4 => h4.st1 (by simp) fun w5 h5 => h5.st1 (by simp) fun w6 h6 => h6.st1 (by simp) fun w7 h7 => h7.st1 (by simp) fun w8 h8' => h8'.st1 (by simp) fun w9 h9 => ?_
    have h9 : CMem ns w0 s tb st2 0 0 ((w1.heap.size, fnV ⟨aa, (ndAt ns aa).val, 0, 0, 0, 0, (ndAt ns aa).name⟩) :: L) w9 := h9
    generalize w1.heap.size = p32 at *
    refine h9.nd (k := 1) ha0 halt (by omega) rfl ?_
    have hpl4 : ∀ {a b : Nat}, a + b ≤ 4 → True := fun _ => trivial
    refine join_W (fun u => ∃ a b : Nat, cntP ns pl 0 0 = .ok (a, b) ∧ CMem ns w0 s tb st2 0 0 ((p32, fnV ⟨aa, (ndAt ns aa).val, a, b, 0, 0, (ndAt ns aa).name⟩) :: L) u) ?_ ?_
    · rintro u ⟨a, b, ecnt, hu3⟩
      rw [ecnt] at ehead
      refine drew_ ?_
      have hu3 := hu3.drew
      generalize u.drew = u at *
      obtain ⟨bty, bre, sfs, svs, g1, g2, g3, g4, g5, g6, g7⟩ := hu3.ex
      obtain ⟨n1, n2, n3, n4, n5, n6, n7, n8, n9, n10⟩ := g2
      have hl6 := g6.len
      rw [fns_len] at hl6
      refine ldS g3 rfl ?_
      have bl := hu3.loc
      refine ldI bl rfl (ldI bl rfl (ldI bl rfl (ldI bl rfl (ldI bl rfl (ldI bl rfl (ldStr bl rfl ?_))))))
      refine newB fun u1 b1 f1 t1 => ?_
      have g31 := g3.fr f1 (by omega)
      refine ⟨held g3 g31, ?_⟩
      have g61 := g6.frp (FrP.of0 (P := fun _ => False) f1) fun _ _ h => h
      refine appO g61 b1 (by rfl) (by omega) rfl rfl (by show (sfs.l + 1) * 64 ≤ 2 ^ 46; omega) fun sfs' u2 o2 hl2 hg2 f2' => ?_
      have k1 := g1.ext f1
      have hsow := (k1.ow s (.inl rfl)).1
      have htow := (k1.ow bty (.inr (.inl rfl))).1
      have hrow := (k1.ow bre (.inr (.inr (.inl rfl)))).1
      have nsf : ∀ b, b < u1.heap.size → ¬ owns sfs b → ¬ owns sfs' b := fun b hb hn ho => by
        rcases hg2.owns ho with h | h
        · exact hn h
        · omega
      refine Go.Den.st1 (g31.frp f2' n4) (by simp [cRec]) fun u3 b3 f3 t3 => ?_
      have fp3 : FrP (fun b => b = s) u2 u3 := FrP.of f3 fun b h1 h2 => by omega
      have hs2 : Sep w0 (fun _ => False) u2 (cown s bty bre sfs' svs) (((p32, fnV ⟨aa, (ndAt ns aa).val, a, b, 0, 0, (ndAt ns aa).name⟩) :: L) ++ tloc ns tb) := k1.step (f2'.mono fun b hb => .inr (.inr (.inr (.inl hb)))) fun b hb => by
        have hle2 := f2'.1.1
        rcases hb with rfl | rfl | rfl | hb | hb
        · exact ⟨.inl (.inl rfl), by omega⟩
        · exact ⟨.inl (.inr (.inl rfl)), by omega⟩
        · exact ⟨.inl (.inr (.inr (.inl rfl))), by omega⟩
        · refine ⟨?_, o2.lt hb⟩
          rcases hg2.owns hb with h | h
          · exact .inl (.inr (.inr (.inr (.inl h))))
          · exact .inr h
        · exact ⟨.inl (.inr (.inr (.inr (.inr hb)))), by have := (k1.ow b (.inr (.inr (.inr (.inr hb))))).1; omega⟩
      obtain ⟨cl1, cl2⟩ := cntP_len pl 0 0 a b ecnt
      have hab : a + b ≤ 4 := by
        rcases cl2 with h | h
        · exact h
        · rw [h] at cl1; simp at cl1; omega
      have hninv : CInv ns { st2 with fs := st2.fs ++ [⟨aa, (ndAt ns aa).val, a, b, 0, 0, (ndAt ns aa).name⟩] } := by
        have hi := hu3.inv
        refine ⟨hi.tl, hi.rl, ⟨hi.ti.vs, fun f hf => ?_⟩, by show (st2.fs ++ [_]).length ≤ 8; simp; omega, fun f hf => ?_, fun f hf => ?_, fun f hf => ?_, ?_, hi.ci, hi.cr, hi.lv⟩
        · rcases List.mem_append.1 hf with hf | hf
          · exact hi.ti.fs f hf
          · simp only [List.mem_singleton] at hf; subst hf; exact pty
        · rcases List.mem_append.1 hf with hf | hf
          · exact hi.fnd f hf
          · simp only [List.mem_singleton] at hf; subst hf; exact ⟨ha0, halt, hk0⟩
        · rcases List.mem_append.1 hf with hf | hf
          · exact hi.fpp f hf
          · simp only [List.mem_singleton] at hf; subst hf; exact ⟨by simp, by simp, by show (a : Int) + (b : Int) ≤ 4; omega⟩
        · rcases List.mem_append.1 hf with hf | hf
          · exact hi.fpl f hf
          · simp only [List.mem_singleton] at hf; subst hf
            show ((kids ns (ndAt ns aa).a).length : Int) = (a : Int) + (b : Int)
            rw [hpk]; omega
        · show ((st2.fs ++ [_]).map Fn.name).Pairwise _
          rw [List.map_append, List.pairwise_append]
          refine ⟨hi.fdn, by simp, fun nm hnm nm2 hnm2 => ?_⟩
          simp only [List.map_cons, List.map_nil, List.mem_singleton] at hnm2
          subst hnm2
          obtain ⟨j, hj⟩ := List.mem_iff_getElem?.1 hnm
          rcases lastN_spec (fnames st2) (ndAt ns aa).name (fnames st2).length with ⟨_, hall⟩ | ⟨k, hk', hk2, _⟩
          · have hjl : j < (fnames st2).length := by
              rcases Nat.lt_or_ge j (fnames st2).length with h | h
              · exact h
              · unfold fnames at h; rw [List.getElem?_eq_none h] at hj; cases hj
            have := hall j hjl
            rw [List.getD_eq_getElem?_getD] at this
            unfold fnames at this
            rw [hj] at this
            exact this
          · exfalso
            apply hdup
            unfold nameIx
            rw [hk']; omega
      have hm6 : CMem ns w0 s tb { st2 with fs := st2.fs ++ [⟨aa, (ndAt ns aa).val, a, b, 0, 0, (ndAt ns aa).name⟩] } 0 0 ((p32, fnV ⟨aa, (ndAt ns aa).val, a, b, 0, 0, (ndAt ns aa).name⟩) :: L) u3 := by
        refine ⟨good, hle, hninv, bty, bre, sfs', svs, hs2.step0 (fp3.mono fun b hb => .inl hb), ⟨n1, n2, n3, nsf s hsow n4, n5, nsf bty htow n6, nsf bre hrow n7, n8, n9, fun b hb ho => ?_⟩, b3, ((g4.fr f1 (by omega)).frp f2' n6).fr f3 (by omega), ((g5.fr f1 (by omega)).frp f2' n7).fr f3 (by omega), ?_, ?_⟩
        · rcases hg2.owns hb with h | h
          · exact n10 b h ho
          · have := (k1.ow b (.inr (.inr (.inr (.inr ho))))).1; omega
        · show OS u3 sfs' ((st2.fs ++ [_]).flatMap fnV) 7
          rw [List.flatMap_append]
          have := o2.frp fp3 fun b hb e => nsf s hsow n4 (by rw [← e]; exact hb)
          simpa [fnV] using this
        · exact ((g7.frp (FrP.of0 (P := fun _ => False) f1) fun _ _ h => h).frp f2' fun b hb ho => n10 b ho hb).frp fp3 fun b hb e => n5 (by rw [← e]; exact hb)
      refine hm6.nd (k := 4) ha0 halt (by omega) rfl ?_
      refine hQ l3.length _ u3 (by simp) ⟨l3, _, _, rfl, rfl, ch1.2.2, fun y hy => hsub y (.tail _ hy), hm6.tail, ?_⟩
      rw [hoe2, ehead]; rfl
    · intro J52 hJ52
      refine loopN (fun m v u => ∃ (l4 : List Int) (qq : Int) (a b : Nat), v = (qq, ()) ∧ m = l4.length ∧ Ch ns qq l4 ∧ (∀ y ∈ l4, y ∈ pl) ∧ a + b ≤ 4 ∧ CMem ns w0 s tb st2 0 0 ((p32, fnV ⟨aa, (ndAt ns aa).val, a, b, 0, 0, (ndAt ns aa).name⟩) :: L) u ∧ cntP ns pl 0 0 = cntP ns l4 a b) pl.length
        ⟨pl, _, 0, 0, rfl, rfl, pc1, fun y hy => hy, by omega, h9, rfl⟩ ?_
      rintro m _ u ⟨l4, qq, a, b, rfl, rfl, ch4, hsub4, hab, hu4, hcp⟩ Q4 hQ4
      dsimp only
      cases l4 with
      | nil =>
        have hqq : qq = -1 := ch4
        rw [if_neg (by simp [hqq])]
        exact hJ52 u ⟨a, b, hcp, hu4⟩
      | cons y l5 =>
        have hqq : qq = y := ch4.1
        subst hqq
        have hq0 := ch4.2.1
        have hqlt : qq < ns.length := by have := (pc2 qq (hsub4 qq (.head _))).2.1; omega
        rw [if_pos (by simpa using hq0)]
        refine join_W (fun u => ∃ a b : Nat, a + b ≤ 4 ∧ CMem ns w0 s tb st2 0 0 ((p32, fnV ⟨aa, (ndAt ns aa).val, a, b, 0, 0, (ndAt ns aa).name⟩) :: L) u ∧ cntP ns pl 0 0 = cntP ns l5 a b) ?_ ?_
        · rintro u ⟨a, b, hab, hu5, hcp5⟩
          refine hu5.nd (k := 4) hq0 hqlt (by omega) rfl ?_
          exact hQ4 l5.length _ u (by simp) ⟨l5, _, a, b, rfl, rfl, ch4.2.2, fun y hy => hsub4 y (.tail _ hy), hab, hu5, hcp5⟩
        · intro J59 hJ59
          refine ldI hu4.loc rfl (ldI hu4.loc rfl ?_)
          rw [W_add (by omega)]
          rw [cntP_cons] at hcp
          by_cases h4' : 4 ≤ a + b
          · rw [if_pos (by simp only [decide_eq_true_eq]; omega)]
            rw [if_pos h4'] at hcp
            refine hu4.nd (k := 6) hq0 hqlt (by omega) rfl ?_
            refine mcfail hu4 fun w10 h10 => ?_
            exact stop w10 19 _ (by decide) (by rw [ehead, hcp]; rfl) ⟨st2, h10.tail⟩
          · rw [if_neg (by simp only [decide_eq_true_eq]; omega)]
            rw [if_neg h4'] at hcp
            refine hu4.nd (k := 5) hq0 hqlt (by omega) rfl ?_
            by_cases hv2 : 2 ≤ (ndAt ns qq).val
            · rw [if_pos (by simpa using hv2)]
              rw [if_pos hv2] at hcp
              refine ldI hu4.loc rfl ?_
              rw [W_succ (by omega)]
              refine hu4.st1 (by simp [fnV]) fun w10 h10 => ?_
              exact hJ59 w10 ⟨a, b + 1, by omega, h10, hcp⟩
            · rw [if_neg (by simpa using hv2)]
              rw [if_neg hv2] at hcp
              refine ldI hu4.loc rfl ?_
              rw [W_succ (by omega)]
              refine hu4.st1 (by simp [fnV]) fun w10 h10 => ?_
              exact hJ59 w10 ⟨a + 1, b, by omega, h10, hcp⟩
end Go.Proofs.Qxb6500562aGreat
