/-
  towerexact.Exact: Exec.
-/
import Derived.Test.Qxb6500562aGreatTwG
namespace Go.Proofs.Qxb6500562aGreat
open Go.Den Go.Zip
set_option linter.unusedVariables false
set_option linter.unusedSimpArgs false
section
variable {W0 w w' : World} {p q : Nat} {T T' : Nat → Tag} {d d' : Gh} {c : Nat} {s : Sl} {vs us : List Value} {sz : Nat} {t : Tag} {X : Tag → Prop}
/-- A code is laid over the head of a list of bytes. -/
theorem cpB {t2 : Tag} {rb code : List Nat} {y dst : Sl} {K : Int → World → Prop} (h : OT w T t s (byts rb) 1) (el : EL w T t2 y (byts code) code.length) (hn : code.length ≤ rb.length) (h0 : 0 < code.length) (hda : dst.a = s.a) (hdl : code.length ≤ dst.l)
    (hK : ∀ n w', OT w' T t s (byts (code ++ rb.drop code.length)) 1 → Mv (fun u => u = t) T w T w' → K n w') : CopyS 1 w dst y K := by
  rcases el with ⟨rfl, h2, h3⟩ | ⟨b, rfl, h2, h3⟩
  · omega
  obtain ⟨o, ot⟩ := h
  have hlen := o.len
  rcases o with ⟨rfl, e⟩ | ⟨g, a, b', c', junk, dd, e'⟩
  · have : rb.length = 0 := by simpa using hlen
    omega
  have hm : code.length = Nat.min code.length dst.l := (Nat.min_eq_left hdl).symm
  refine copyS (n := code.length) (us := byts code) (bd := g) (od := 0) h2 rfl dd (by rw [hda, a]) hm (by rw [List.drop_zero, Nat.mul_one]; exact List.take_of_length_le (by simp)) (by simp) (byts_ok _) (by simp; omega) fun w1 b1 f1 s1 => ?_
  have e1 : (byts rb ++ junk).take 0 ++ byts code ++ (byts rb ++ junk).drop (0 + (byts code).length) = byts (code ++ rb.drop code.length) ++ junk := by
    rw [List.take_zero, List.nil_append, Nat.zero_add, byts_length, List.drop_append_of_le_length (by simpa using hn)]
    simp [byts, List.map_drop]
  rw [e1] at b1
  have hl1 : (byts (code ++ rb.drop code.length)).length = (byts rb).length := by simp; omega
  refine hK _ w1 ⟨.inr ⟨g, a, by rw [hl1]; exact b', c', junk, b1, by rw [List.length_append, hl1, ← List.length_append]; exact e'⟩, ot⟩ (Mv.same (FrP.of f1 fun x h1 h2 => by rw [show x = g by omega]; exact ot g a))
theorem short_src {k : Nat} {es : List Int} {l : Sl} {K : Sl → World → Prop} (el : EL w T (23, k) l (ints es) es.length) (hK : ∀ y, (∀ O : Nat → Prop, (∀ b, O b → T b ≠ (23, k)) → Src w O y (ints (es.take 128))) → K y w) : S.towerexact_short l w K := by
  unfold S.towerexact_short
  have hll := el.len
  by_cases h : 128 < l.l
  · rw [if_pos (by simp only [decide_eq_true_eq]; omega)]
    have hcp : l.c = es.length := by rcases el with ⟨rfl, _, h3⟩ | ⟨b, rfl, _⟩ <;> simp [*]
    refine ⟨by omega, by omega, by omega, by omega, hK _ fun O hO => ?_⟩
    have := CaL.cut (lo := 0) (n := 128) (mx := es.length) (K := fun x => Src w O x (ints ((es.drop 0).take 128))) (el.cal hO) (by omega) (Nat.le_refl _) fun x hx => hx
    obtain ⟨_, _, _, _, this⟩ := this
    rw [hcp]
    exact this
  · rw [if_neg (by simp only [decide_eq_true_eq]; omega)]
    refine hK l fun O hO => ?_
    rw [List.take_of_length_le (by omega)]
    have cl := el.cal hO
    refine ⟨by simp [ints, hll], ?_⟩
    rcases el with ⟨rfl, _, h3⟩ | ⟨b, rfl, h2, h3⟩
    · exact .inl rfl
    · exact .inr ⟨b, 0, _, rfl, h2, by rw [List.drop_zero, List.take_of_length_le (by simp [ints])], fun hb => hO b hb h3⟩
theorem exec_inv {i g : Nat} {O : Nat → Prop} {src : ByteArray} {P : Prg} {cd mine : Sl} {fuel : Int} {inp : List Int} {K : Int → Int → Int → Int → Sl → Int → Bool → World → Prop} (h : Inv W0 w p T d c) (hx : d.Vs[i]? = some (g, O)) (A : CkA src (.ok P)) (h200 : P.ns.length ≤ 200) (hcd : Src w O cd (byts (pCode P))) (hi : Src w O mine (ints inp)) (hil : inp.length ≤ 128) (hsz : src.size < 9223372036854775808) (fb : rng fuel)
    (hK : ∀ w' T' d' e po en rv y fu out, Inv W0 w' p T' d' c → Alike d d' → Mv (fun u => u = (22, i)) T w T' w' → EL w' T' (23, d.Es.length) y (ints out) out.length → out.length ≤ 1024 → K e po en rv y fu true w') : S.towerexact_executed g cd src mine fuel w K := by
  obtain ⟨⟨hh, v0⟩, t0⟩ := h.ll.vs i _ hx
  refine executed_spec v0 A h200 hcd hi hil hsz fb fun w1 O1 y r v1 G o l1 => ?_
  obtain ⟨T1, h1, M1, hn⟩ := h.turnV hx ⟨hh, v1⟩ G (23, d.Es.length)
  exact hK w1 T1 _ _ _ _ _ y _ r.out h1 ⟨fun c hc => { hc with lV := by simp; exact hc.lV }, fun hF => { hF with }, rfl, rfl, rfl, rfl⟩ M1 (o.el hn) l1
/-- The room as it is behind the laying. -/
abbrev dR (d : Gh) (s1 s2 : Sl) (b1 b2 : List Nat) : Gh := { d with room := s1, rw_ := s2, rb := b1, rb2 := b2 }
theorem dR_wo {s1 s2 : Sl} {b1 b2 b1' b2' : List Nat} (h : WO w T (dR d s1 s2 b1 b2)) (M : Mv X T w T' w') (hX : ∀ k, 2 ≤ k → k ≤ 10 → k ≠ 8 → k ≠ 9 → ¬ X (k, 0)) (h8 : OT w' T' (8, 0) s1 (byts b1') 1) (h9 : OT w' T' (9, 0) s2 (byts b2') 1) : WO w' T' (dR d s1 s2 b1' b2') := by
  intro k k1 k2
  by_cases e8 : k = 8
  · subst e8; exact h8
  by_cases e9 : k = 9
  · subst e9; exact h9
  have := (h k k1 k2).mv M (hX k k1 k2 e8 e9)
  rcases kc k1 k2 with rfl | rfl | rfl | rfl | rfl | rfl | rfl | rfl | rfl <;> first | exact this | exact absurd rfl e8 | exact absurd rfl e9
/-- The caller's one list of bytes is long enough. -/
theorem grow_spec {cc : Nat} {cd : Cd} {J : World → Prop} (h : Inv W0 w p T d (c + 1)) (n0 : Nums d c) (hF : Full d) (o : Op w T q us) (bc : Blk w cc (cdV cd)) (tc : T cc = (51, 0)) (hl : cd.re.l ≤ 3000)
    (hJ : ∀ v T3 s1 s2 b, Inv W0 v p T3 (dR d s1 s2 b b) (c + 1) → Op v T3 q us → Blk v cc (cdV cd) → T3 cc = (51, 0) → cd.re.l ≤ b.length → b.length ≤ 3000 → J v) :
    LoopP (σ := Unit) (fun st279 w next280 =>
      Drew w fun w =>
      LdS w ⟨p, 6, none⟩ fun room_281 =>
      LdS w ⟨cc, 0, none⟩ fun real_282 =>
      if (decide ((room_281.l : Int) < (real_282.l : Int))) = true then
        LdS w ⟨p, 6, none⟩ fun room_283 =>
        New w (.cells #[.int .u8 0] 5) fun p284 w =>
        AppS 5 [.int .u8 0] 1 1 w room_283 ⟨some ⟨p284, 0, none⟩, 1, 1⟩ fun l285 w =>
        St1 w ⟨p, 6, none⟩ (.slice l285.a l285.l l285.c) fun w =>
        LdS w ⟨p, 7, none⟩ fun rw_286 =>
        New w (.cells #[.int .u8 0] 5) fun p287 w =>
        AppS 5 [.int .u8 0] 1 1 w rw_286 ⟨some ⟨p287, 0, none⟩, 1, 1⟩ fun l288 w =>
        St1 w ⟨p, 7, none⟩ (.slice l288.a l288.l l288.c) fun w =>
        next280 (()) w
      else
        J w) (()) w := by
  have e0 : dR d d.room d.rw_ d.rb d.rb = d := by have := hF.r; cases d; simp only at this; subst this; rfl
  refine loopN (fun n st v => ∃ T3 s1 s2 b, Inv W0 v p T3 (dR d s1 s2 b b) (c + 1) ∧ Op v T3 q us ∧ Blk v cc (cdV cd) ∧ T3 cc = (51, 0) ∧ b.length ≤ 3000 ∧ n = cd.re.l - b.length) (cd.re.l - d.rb.length) ⟨T, d.room, d.rw_, d.rb, by rw [e0]; exact h, o, bc, tc, n0.lR, rfl⟩ ?_
  rintro n _ v ⟨T3, s1, s2, b, h3, o3, b3, t3, hb, rfl⟩ Q hQ
  refine drew_ ?_
  have h4 := h3.ext (Fr.refl 0 0 v).drew
  have o4 := o3.ext (Fr.refl 0 0 v).drew
  have b4 := b3.drew
  generalize v.drew = v4 at *
  have rl4 : s1.l = b.length := h4.rl
  have rwl4 : s2.l = b.length := h4.rwl
  refine ldS h4.rcd rfl (ldS (a := cd.re.a) (l := cd.re.l) (c := cd.re.c) b4 rfl ?_)
  by_cases hlt : b.length < cd.re.l
  · rw [if_pos (by simp only [decide_eq_true_eq]; show ((s1.l : Nat) : Int) < _; omega)]
    refine ldS h4.rcd rfl (newB fun v5 c5 f5 s5 => ?_)
    have h5 := h4.ext f5
    have o5 := o4.ext f5
    have b5 := b4.fr f5 (by omega)
    refine Inv.app (j := 8) (i := 6) (c' := c + 1) (D := fun s' => dR d s' s2 (b ++ [0]) b) h5 (by omega) (by omega) rfl c5 rfl rfl rfl (by show (s1.l + 1) * 1 ≤ _; omega) (by omega)
      (fun s' => by simp [outer, byts]) (fun s' k h2 h8 hk => by rcases kc h2 h8 with rfl | rfl | rfl | rfl | rfl | rfl | rfl | rfl | rfl <;> first | rfl | exact absurd rfl hk) (fun s' => rfl)
      (fun s' u U M hl => { hl with }) (fun s' => { h5.nums with lR := by simp; omega }) fun s6 v6 T6 h6 M6 => ?_
    have o6 := o5.mv M6 (by simp)
    have b6 := M6.blk b5 (by rw [t3]; simp)
    have t6 : T6 cc = (51, 0) := by rw [M6.t cc b5.lt]; exact t3
    refine ldS h6.rcd rfl (newB fun v7 c7 f7 s7 => ?_)
    have h7 := h6.ext f7
    have o7 := o6.ext f7
    have b7 := b6.fr f7 (by omega)
    refine Inv.app (j := 9) (i := 7) (c' := c + 1) (D := fun s' => dR d s6 s' (b ++ [0]) (b ++ [0])) h7 (by omega) (by omega) rfl c7 rfl rfl rfl (by show (s2.l + 1) * 1 ≤ _; omega) (by omega)
      (fun s' => by simp [outer, byts]) (fun s' k h2 h8 hk => by rcases kc h2 h8 with rfl | rfl | rfl | rfl | rfl | rfl | rfl | rfl | rfl <;> first | rfl | exact absurd rfl hk) (fun s' => rfl)
      (fun s' u U M hl => { hl with }) (fun s' => { h7.nums with lS := by simp; omega }) fun s8 v8 T8 h8 M8 => ?_
    refine hQ (cd.re.l - (b ++ [0]).length) _ v8 (by simp; omega) ⟨T8, s6, s8, b ++ [0], h8, o7.mv M8 (by simp), M8.blk b7 (by rw [t6]; simp), by rw [M8.t cc b7.lt]; exact t6, by simp; omega, rfl⟩
  · rw [if_neg (by simp only [decide_eq_true_eq]; show ¬ ((s1.l : Nat) : Int) < _; omega)]
    exact hJ v4 T3 s1 s2 b h4 o4 b4 t3 (by omega) hb
set_option maxHeartbeats 4000000 in
theorem exec_spec {a b e : Int} {K : Bool → World → Prop} (h : Inv W0 w p T d c) (hF : Full d) (hc : c + 1 ≤ 1073741824) (o : Op w T q us) (u1 : us[1]? = some (.int .i64 a)) (u2 : us[2]? = some (.int .i64 b)) (u3 : us[3]? = some (.int .i64 e)) (ra : rng a) (rb : rng b) (re : rng e) (hK : Done W0 p (c + 1) K) : XX.exec p q w K := by
  unfold XX.exec
  have n0 := h.nums
  have h0 := h.up hc
  have evl := h0.vl
  have ell := h0.lsl
  have ecl := h0.cl
  refine ldS h0.rcd rfl ?_
  by_cases hv : d.v.l = 0
  · rw [if_pos (by simp only [beq_iff_eq]; omega)]
    exact hK w T d h0 hF
  rw [if_neg (by simp only [beq_iff_eq]; omega)]
  refine ldS h0.rcd rfl ?_
  by_cases hcl : d.cods.l = 0
  · rw [if_pos (by simp only [beq_iff_eq]; omega)]
    exact hK w T d h0 hF
  rw [if_neg (by simp only [beq_iff_eq]; omega)]
  refine ldS h0.rcd rfl ?_
  by_cases hl : d.ls.l = 0
  · rw [if_pos (by simp only [beq_iff_eq]; omega)]
    exact hK w T d h0 hF
  rw [if_neg (by simp only [beq_iff_eq]; omega)]
  refine join_P (fun cc v => ∃ (i : Nat) (cd : Cd) (T2 : Nat → Tag), d.Cs[i]? = some cd ∧ Inv W0 v p T2 d (c + 1) ∧ Op v T2 q us ∧ Blk v cc (cdV cd) ∧ T2 cc = (51, 0)) ?_ ?_
  · rintro cc v ⟨i, cd, T2, hCi, h2, o2, b2, t2⟩
    refine ldB (m := cd.gone) b2 rfl ?_
    by_cases hg : cd.gone = true
    · rw [if_pos hg]
      exact hK v T2 d h2 hF
    rw [if_neg hg]
    obtain ⟨P, A, h200, hB⟩ := n0.ok i cd hCi (by simpa using hg)
    have cl := pCode_len A.pt h200
    have hsz : cd.src.size < 9223372036854775808 := by
      rcases Nat.lt_or_ge 4096 cd.src.size with h' | h'
      · have := A.long h'; cases this
      · omega
    have elc : ∀ {v : World} {T3 : Nat → Tag} {d3 : Gh}, LL v T3 d3 → d3.Cs = d.Cs → d3.Bs = d.Bs → EL v T3 (25, i) cd.re (byts (pCode P)) (pCode P).length := fun hl hc hb => by
      obtain ⟨es, q1, q2⟩ := hl.c1 i cd.re (by rw [hc, List.getElem?_map, hCi]; rfl)
      rw [hb, hB] at q1
      cases q1
      exact q2
    have hrl : cd.re.l = (pCode P).length := (elc h2.ll rfl rfl).len
    refine join_W (fun v => ∃ T3 s1 s2 bb, Inv W0 v p T3 (dR d s1 s2 bb bb) (c + 1) ∧ Op v T3 q us ∧ Blk v cc (cdV cd) ∧ T3 cc = (51, 0) ∧ cd.re.l ≤ bb.length ∧ bb.length ≤ 3000) ?_ ?_
    · rintro v3 ⟨T3, s1, s2, bb, h3, o3, b3, t3, hlb, hb3⟩
      refine drew_ ?_
      have h4 := h3.ext (Fr.refl 0 0 v3).drew
      have o4 := o3.ext (Fr.refl 0 0 v3).drew
      have b4 := b3.drew
      generalize v3.drew = v4 at *
      have rl4 : s1.l = bb.length := h4.rl
      have rwl4 : s2.l = bb.length := h4.rwl
      refine ldS h4.rcd rfl (ldS (a := cd.re.a) (l := cd.re.l) (c := cd.re.c) b4 rfl ?_)
      have hcap : s1.l ≤ s1.c := by
        rcases h4.room.1 with ⟨q1, q2⟩ | ⟨g, q1, q2, q3, _⟩
        · have : s1 = ⟨none, 0, 0⟩ := q1
          rw [this]; exact Nat.le_refl _
        · exact q3
      refine ⟨by omega, by omega, by show ((cd.re.l : Nat) : Int) ≤ ((s1.c : Nat) : Int); omega, Int.le_refl _, ?_⟩
      have ecut : (⟨if ((s1.c : Nat) : Int).toNat = (0 : Int).toNat then s1.a else s1.a.map (·.add ((0 : Int).toNat * 1)), ((cd.re.l : Nat) : Int).toNat - (0 : Int).toNat, ((s1.c : Nat) : Int).toNat - (0 : Int).toNat⟩ : Sl) = ⟨s1.a, cd.re.l, s1.c⟩ := by
        rw [show (0 : Int).toNat * 1 = 0 from rfl, add_zero]; simp
      have ecut' := ecut
      show LdS v4 ⟨cc, 0, none⟩ _
      rw [show ((dR d s1 s2 bb bb).room) = s1 from rfl, ecut]
      refine ldS (a := cd.re.a) (l := cd.re.l) (c := cd.re.c) b4 rfl ?_
      refine cpB (rb := bb) h4.room (elc h4.ll rfl rfl) (by omega) (by omega) rfl (by show (pCode P).length ≤ cd.re.l; omega) fun n5 v5 ot5 M5 => drew_ ?_
      have h5 : Inv W0 v5.drew p T3 (dR d s1 s2 (pCode P ++ bb.drop (pCode P).length) bb) (c + 1) := (h4.mk_ (c' := c + 1) (d' := dR d s1 s2 (pCode P ++ bb.drop (pCode P).length) bb) M5 (by simp) (by simp) (dR_wo h4.wo M5 (fun k k1 k2 k3 k4 => by simp; omega) ot5 (h4.rw_.mv M5 (by simp))) { (h4.ll.mv M5 fun k i k1 k2 => by simp; omega) with } { h4.nums with lR := by simp; omega } rfl).ext (Fr.refl 0 0 v5).drew
      have o5 := (o4.mv M5 (by simp)).ext (Fr.refl 0 0 v5).drew
      have b5 := (M5.blk b4 (by rw [t3]; simp)).drew
      generalize v5.drew = v5 at *
      refine ldS h5.rcd rfl (ldS (a := cd.re.a) (l := cd.re.l) (c := cd.re.c) b5 rfl ?_)
      refine cpB (rb := bb) h5.rw_ (elc h5.ll rfl rfl) (by omega) (by omega) rfl (by show (pCode P).length ≤ s2.l; omega) fun n6 v6 ot6 M6 => ?_
      have h6 : Inv W0 v6 p T3 (dR d s1 s2 (pCode P ++ bb.drop (pCode P).length) (pCode P ++ bb.drop (pCode P).length)) (c + 1) := h5.mk_ (c' := c + 1) (d' := dR d s1 s2 (pCode P ++ bb.drop (pCode P).length) (pCode P ++ bb.drop (pCode P).length)) M6 (by simp) (by simp) (dR_wo h5.wo M6 (fun k k1 k2 k3 k4 => by simp; omega) (h5.room.mv M6 (by simp)) ot6) { (h5.ll.mv M6 fun k i k1 k2 => by simp; omega) with } { h5.nums with lS := by simp; omega } rfl
      have o6 := o5.mv M6 (by simp)
      have b6 := M6.blk b5 (by rw [t3]; simp)
      have al : Alike d (dR d s1 s2 (pCode P ++ bb.drop (pCode P).length) (pCode P ++ bb.drop (pCode P).length)) → False ∨ True := fun _ => .inr trivial
      have n6 : Nums (dR d s1 s2 (pCode P ++ bb.drop (pCode P).length) (pCode P ++ bb.drop (pCode P).length)) c := { n0 with lR := by simp; omega, lS := by simp; omega }
      have F6 : Full (dR d s1 s2 (pCode P ++ bb.drop (pCode P).length) (pCode P ++ bb.drop (pCode P).length)) := { hF with r := rfl }
      have vs6 : (dR d s1 s2 (pCode P ++ bb.drop (pCode P).length) (pCode P ++ bb.drop (pCode P).length)).Vs = d.Vs := rfl
      have es6 : (dR d s1 s2 (pCode P ++ bb.drop (pCode P).length) (pCode P ++ bb.drop (pCode P).length)).Es = d.Es := rfl
      have v6l : (dR d s1 s2 (pCode P ++ bb.drop (pCode P).length) (pCode P ++ bb.drop (pCode P).length)).v = d.v := rfl
      have ls6 : (dR d s1 s2 (pCode P ++ bb.drop (pCode P).length) (pCode P ++ bb.drop (pCode P).length)).ls = d.ls := rfl
      have Ls6 : (dR d s1 s2 (pCode P ++ bb.drop (pCode P).length) (pCode P ++ bb.drop (pCode P).length)).Ls = d.Ls := rfl
      have nm6 : (dR d s1 s2 (pCode P ++ bb.drop (pCode P).length) (pCode P ++ bb.drop (pCode P).length)).name = d.name := rfl
      have rm6 : ∀ {v : World} {T' : Nat → Tag}, Inv W0 v p T' (dR d s1 s2 (pCode P ++ bb.drop (pCode P).length) (pCode P ++ bb.drop (pCode P).length)) (c + 1) → ∀ {j : Nat} {O : Nat → Prop}, (∀ b, O b → T' b = (22, j)) → Src v O ⟨s1.a, cd.re.l, s1.c⟩ (byts (pCode P)) := by
        intro v T' hv' j O hO
        obtain ⟨og, ot⟩ := hv'.room
        have og : OS v s1 (byts (pCode P ++ bb.drop (pCode P).length)) 1 := og
        refine ⟨by simp [hrl], .inr ?_⟩
        rcases og with ⟨q1, q2⟩ | ⟨g, q1, q2, q3, junk, q4, q5⟩
        · have := congrArg List.length q2
          simp only [byts_length, List.length_append, List.length_nil] at this
          omega
        · refine ⟨g, 0, _, q1, q4, ?_, fun hb => ?_⟩
          · rw [List.drop_zero, hrl]
            have : byts (pCode P ++ bb.drop (pCode P).length) ++ junk = byts (pCode P) ++ (byts (bb.drop (pCode P).length) ++ junk) := by simp [byts]
            rw [this]
            exact List.take_left' (by simp)
          · have a1 := hO g hb
            have a2 : T' g = (8, 0) := ot g q1
            rw [a1] at a2; simp at a2
      generalize hD6 : dR d s1 s2 (pCode P ++ bb.drop (pCode P).length) (pCode P ++ bb.drop (pCode P).length) = d6 at *
      refine join_PP2 (AftR W0 p c) ?_ ?_
      · rintro a' ok v7 ⟨rfl, T', d', y, out, vs', h', n', F', ba, ta, hv, el', ho⟩
        rw [if_neg (by simp)]
        exact keep_spec h' n' F' ba ta hv el' ho hK
      intro J hJ
      refine drew_ ?_
      have h7 := h6.ext (Fr.refl 0 0 v6).drew
      have o7 := o6.ext (Fr.refl 0 0 v6).drew
      have b7 := b6.drew
      generalize v6.drew = v7 at *
      unfold Hold
      have rc7 : Blk v7 p (recW d6) := h7.rcd
      have ob7 := o7.b
      refine ldS rc7 rfl (ldI o7.b u1 (ldS rc7 rfl (ldStr (m := cd.src) b7 rfl (ldS rc7 rfl (ldI rc7 rfl (ldS rc7 rfl (ldI o7.b u3 ?_)))))))
      -- a step at a world with a fresh record
      have fin : ∀ (i : Nat) (gv : Th), d6.Vs[i]? = some gv → ∀ (k : Nat) (es : List Int), ∀ v8 T8 a8 vs8 y8, Inv W0 v8 p T8 d6 (c + 1) → Src v8 gv.2 y8 (ints (es.take 128)) → Blk v8 a8 vs8 → vs8.length = 6 → T8 a8 = (51, 0) →
          S.towerexact_executed gv.1 ⟨s1.a, cd.re.l, s1.c⟩ cd.src y8 e v8 (fun Err Pos End Ret Out Fuel r w =>
            St1 w ⟨a8, 0, none⟩ (.int .i64 Err) fun w => St1 w ⟨a8, 1, none⟩ (.int .i64 Pos) fun w => St1 w ⟨a8, 2, none⟩ (.int .i64 End) fun w => St1 w ⟨a8, 3, none⟩ (.int .i64 Ret) fun w => St1 w ⟨a8, 4, none⟩ (.slice Out.a Out.l Out.c) fun w => St1 w ⟨a8, 5, none⟩ (.int .i64 Fuel) fun w => J a8 r w) := by
        intro i gv hV k es v8 T8 a8 vs8 y8 h8 hs8 b8' l8 t8
        refine exec_inv (O := gv.2) h8 hV A h200 (rm6 h8 (h8.ll.vs i _ hV).2) hs8 (by simp; omega) hsz re fun v9 T9 d9 e9 po9 en9 rv9 y9 fu9 out9 h9 al9 M9 el9 ho9 => ?_
        have b9 := M9.blk b8' (by rw [t8]; simp)
        have t9 : T9 a8 = (51, 0) := by rw [M9.t a8 b8'.lt]; exact t8
        refine lay6' b9 l8 fun va ba fa => ?_
        have Ma : Mv (fun u => u = (51, 0)) T9 v9 T9 va := Mv.same (FrP.of fa fun x h1 h2 => by rw [show x = a8 by omega]; exact t9)
        refine hJ a8 true va ⟨rfl, T9, d9, y9, out9, _, h9.mv Ma (loose1 (by simp)), al9.nums c n6, al9.full F6, ba, t9, rfl, ?_, ho9⟩
        rw [al9.es]
        exact el9.mv Ma (by simp)
      have hvl : d6.v.l = d6.Vs.length := h7.vl
      have hsl : d6.ls.l = d6.Ls.length := h7.lsl
      have hv0 : 0 < d6.v.l := by rw [v6l]; omega
      have hl0 : 0 < d6.ls.l := by rw [ls6]; omega
      have rn6 : rng d6.name := by rw [nm6]; exact n0.rm
      -- the list, read at a world that holds the same
      have gl : ∀ k : Nat, k < d6.ls.l → ∃ l es, d6.Ls[k]? = some l ∧ ∀ {v : World} {T' : Nat → Tag}, Inv W0 v p T' d6 (c + 1) → EL v T' (23, k) l (ints es) es.length := by
        intro k hk
        have hLk : d6.Ls[k]? = some (d6.Ls[k]'(by omega)) := List.getElem?_eq_getElem (by omega)
        obtain ⟨es, q1, q2⟩ := h7.ll.l1 k _ hLk
        refine ⟨_, es, hLk, fun hv' => ?_⟩
        obtain ⟨es', q3, q4⟩ := hv'.ll.l1 k _ hLk
        rw [q1] at q3
        cases q3
        exact q4
      have nO : ∀ {v : World} {T' : Nat → Tag} {i k : Nat} {gv : Th}, Inv W0 v p T' d6 (c + 1) → d6.Vs[i]? = some gv → ∀ b, gv.2 b → T' b ≠ (23, k) := fun hv' hV b hb => by
        rw [(hv'.ll.vs _ _ hV).2 b hb]; simp
      -- a fresh record
      have nw : ∀ {v : World} {T' : Nat → Tag} {v' : World}, Inv W0 v p T' d6 (c + 1) → Fr 0 0 v v' → Inv W0 v' p (tagN T' v (51, 0)) d6 (c + 1) ∧ tagN T' v (51, 0) v.heap.size = (51, 0) := fun hv' f => ⟨hv'.extT f (51, 0), tagN_new _ _ _ (Nat.le_refl _)⟩
      refine ⟨?_, ?_⟩
      · refine pick_spec ra.1 ra.2 hv0 fun i (hi : i < d6.v.l) => ?_
        repeat refine ⟨holdS (by assumption) (by assumption), ?_⟩
        have hVi : d6.Vs[i]? = some (d6.Vs[i]'(by omega)) := List.getElem?_eq_getElem (by omega)
        generalize (d6.Vs[i]'(by omega)) = gv at *
        refine OS.at1 h7.v.1 (v := ptrV gv.1) (by rw [List.getElem?_map, hVi]; rfl) fun bv uv hbv huv ov => ldP hbv huv ?_
        have tv : T3 bv = (4, 0) := h7.v.2 bv ov
        refine ⟨?_, ?_⟩
        · refine pick_spec rn6.1 rn6.2 hl0 fun k (hk : k < d6.ls.l) => ?_
          repeat refine ⟨holdS (by assumption) (by assumption), ?_⟩
          obtain ⟨l, es, hLk, gel⟩ := gl k hk
          refine OS.at1 h7.ls.1 (v := slV l) (by rw [List.getElem?_map, hLk]; rfl) fun bl ul hbl hul ol => ldS (a := l.a) (l := l.l) (c := l.c) hbl hul ?_
          have tl : T3 bl = (6, 0) := h7.ls.2 bl ol
          refine ⟨?_, ?_⟩
          · refine short_src (gel h7) fun y hy => ?_
            repeat refine ⟨holdS (by assumption) (by assumption), ?_⟩
            refine ⟨?_, ?_⟩
            · refine exec_inv (O := gv.2) h7 hVi A h200 (rm6 h7 (h7.ll.vs i _ hVi).2) (hy gv.2 (nO h7 hVi)) (by simp; omega) hsz re fun v9 T9 d9 e9 po9 en9 rv9 y9 fu9 out9 h9 al9 M9 el9 ho9 => ?_
              refine newB fun va ba fa sa => ?_
              have ha := h9.extT fa (51, 0)
              have ta : tagN T9 v9 (51, 0) v9.heap.size = (51, 0) := tagN_new _ _ _ (Nat.le_refl _)
              have Ma : Mv (fun _ => False) T9 v9 (tagN T9 v9 (51, 0)) va := Mv.new fa (51, 0)
              have ela := el9.mv Ma fun h => h
              generalize tagN T9 v9 (51, 0) = Ta at *
              have rca : Blk va p (recW d6) := by rw [← al9.rcd]; exact ha.rcd
              have oba : Blk va q us := ((o7.mv M9 (by simp)).mv Ma fun h => h).b
              have bca : Blk va cc (cdV cd) := Ma.blk (M9.blk b7 (by rw [t3]; simp)) fun h => h
              have bva : Blk va bv uv := Ma.blk (M9.blk hbv (by rw [tv]; simp)) fun h => h
              have bla : Blk va bl ul := Ma.blk (M9.blk hbl (by rw [tl]; simp)) fun h => h
              repeat refine ⟨holdS (by assumption) (by assumption), ?_⟩
              refine lay6' ba rfl fun vb bb' fb => ?_
              have Mb : Mv (fun u => u = (51, 0)) Ta va Ta vb := Mv.same (FrP.of fb fun x h1 h2 => by rw [show x = v9.heap.size by omega]; exact ta)
              refine hJ _ true vb ⟨rfl, Ta, d9, y9, out9, _, ha.mv Mb (loose1 (by simp)), al9.nums c n6, al9.full F6, bb', ta, rfl, ?_, ho9⟩
              rw [al9.es]
              exact ela.mv Mb (by simp)
            · refine newB fun v8 b8' f8 s8 => ?_
              obtain ⟨h8, t8⟩ := nw h7 f8
              have rc8 : Blk v8 p (recW d6) := h8.rcd
              have ob8 : Blk v8 q us := o7.b.fr f8 (by omega)
              have bc8 : Blk v8 cc (cdV cd) := b7.fr f8 (by omega)
              have bv8 : Blk v8 bv uv := hbv.fr f8 (by omega)
              have bl8 : Blk v8 bl ul := hbl.fr f8 (by omega)
              repeat refine ⟨holdS (by assumption) (by assumption), ?_⟩
              exact fin i gv hVi k es v8 _ _ _ y h8 ((hy gv.2 (nO h7 hVi)).gw (Gw.new f8)) b8' rfl t8
          · refine newB fun v8 b8' f8 s8 => ?_
            obtain ⟨h8, t8⟩ := nw h7 f8
            have rc8 : Blk v8 p (recW d6) := h8.rcd
            have ob8 : Blk v8 q us := o7.b.fr f8 (by omega)
            have bc8 : Blk v8 cc (cdV cd) := b7.fr f8 (by omega)
            have bv8 : Blk v8 bv uv := hbv.fr f8 (by omega)
            have bl8 : Blk v8 bl ul := hbl.fr f8 (by omega)
            repeat refine ⟨holdS (by assumption) (by assumption), ?_⟩
            refine short_src (gel h8) fun y hy => ?_
            repeat refine ⟨holdS (by assumption) (by assumption), ?_⟩
            exact fin i gv hVi k es v8 _ _ _ y h8 (hy gv.2 (nO h8 hVi)) b8' rfl t8
        · refine newB fun v8 b8' f8 s8 => ?_
          obtain ⟨h8, t8⟩ := nw h7 f8
          have rc8 : Blk v8 p (recW d6) := h8.rcd
          have ob8 : Blk v8 q us := o7.b.fr f8 (by omega)
          have bc8 : Blk v8 cc (cdV cd) := b7.fr f8 (by omega)
          have bv8 : Blk v8 bv uv := hbv.fr f8 (by omega)
          repeat refine ⟨holdS (by assumption) (by assumption), ?_⟩
          refine pick_spec rn6.1 rn6.2 hl0 fun k (hk : k < d6.ls.l) => ?_
          repeat refine ⟨holdS (by assumption) (by assumption), ?_⟩
          obtain ⟨l, es, hLk, gel⟩ := gl k hk
          refine OS.at1 h8.ls.1 (v := slV l) (by rw [List.getElem?_map, hLk]; rfl) fun bl ul hbl hul ol => ldS (a := l.a) (l := l.l) (c := l.c) hbl hul ?_
          refine short_src (gel h8) fun y hy => ?_
          repeat refine ⟨holdS (by assumption) (by assumption), ?_⟩
          exact fin i gv hVi k es v8 _ _ _ y h8 (hy gv.2 (nO h8 hVi)) b8' rfl t8
      · refine newB fun v8 b8' f8 s8 => ?_
        obtain ⟨h8, t8⟩ := nw h7 f8
        have rc8 : Blk v8 p (recW d6) := h8.rcd
        have ob8 : Blk v8 q us := o7.b.fr f8 (by omega)
        have bc8 : Blk v8 cc (cdV cd) := b7.fr f8 (by omega)
        repeat refine ⟨holdS (by assumption) (by assumption), ?_⟩
        refine pick_spec ra.1 ra.2 hv0 fun i (hi : i < d6.v.l) => ?_
        repeat refine ⟨holdS (by assumption) (by assumption), ?_⟩
        have hVi : d6.Vs[i]? = some (d6.Vs[i]'(by omega)) := List.getElem?_eq_getElem (by omega)
        generalize (d6.Vs[i]'(by omega)) = gv at *
        refine OS.at1 h8.v.1 (v := ptrV gv.1) (by rw [List.getElem?_map, hVi]; rfl) fun bv uv hbv huv ov => ldP hbv huv ?_
        refine pick_spec rn6.1 rn6.2 hl0 fun k (hk : k < d6.ls.l) => ?_
        repeat refine ⟨holdS (by assumption) (by assumption), ?_⟩
        obtain ⟨l, es, hLk, gel⟩ := gl k hk
        refine OS.at1 h8.ls.1 (v := slV l) (by rw [List.getElem?_map, hLk]; rfl) fun bl ul hbl hul ol => ldS (a := l.a) (l := l.l) (c := l.c) hbl hul ?_
        refine short_src (gel h8) fun y hy => ?_
        repeat refine ⟨holdS (by assumption) (by assumption), ?_⟩
        exact fin i gv hVi k es v8 _ _ _ y h8 (hy gv.2 (nO h8 hVi)) b8' rfl t8
    · intro J hJ
      exact grow_spec h2 n0 hF o2 b2 t2 (by omega) fun v T3 s1 s2 bb h3 o3 b3 t3 q1 q2 => hJ v ⟨T3, s1, s2, bb, h3, o3, b3, t3, q1, q2⟩
  · intro J hJ
    refine drew_ ?_
    unfold Hold
    have h1 := h0.ext (Fr.refl 0 0 w).drew
    have o1 := o.ext (Fr.refl 0 0 w).drew
    generalize w.drew = v at *
    have rc1 : Blk v p (recW d) := h1.rcd
    have ob1 := o1.b
    refine ldS h1.rcd rfl (ldI o1.b u2 (ldS h1.rcd rfl ?_))
    -- the four cells of the copy
    have lay4 : ∀ {v3 : World} {a4 : Nat} {vs4 : List Value} {cd : Cd} {K' : World → Prop}, Blk v3 a4 vs4 → vs4.length = 4 → (∀ v4, Blk v4 a4 (cdV cd) → Fr a4 1 v3 v4 → K' v4) →
        St1 v3 ⟨a4, 0, none⟩ (.slice cd.re.a cd.re.l cd.re.c) fun w => St1 w ⟨a4, 1, none⟩ (.slice cd.wa.a cd.wa.l cd.wa.c) fun w => St1 w ⟨a4, 2, none⟩ (.string cd.src) fun w => St1 w ⟨a4, 3, none⟩ (.bool cd.gone) fun w => K' w := by
      intro v3 a4 vs4 cd K' hb hl4 hk
      obtain ⟨x0, x1, x2, x3, rfl⟩ : ∃ x0 x1 x2 x3, vs4 = [x0, x1, x2, x3] := by
        match vs4, hl4 with
        | [x0, x1, x2, x3], _ => exact ⟨x0, x1, x2, x3, rfl⟩
      refine st1 hb (by simp) fun w1 c1 f1 _ => st1 c1 (by simp) fun w2 c2 f2 _ => st1 c2 (by simp) fun w3 c3 f3 _ => st1 c3 (by simp) fun w4 c4 f4 _ => hk w4 c4 (((f1.trans f2).trans f3).trans f4)
    refine ⟨?_, ?_⟩
    · refine pick_spec rb.1 rb.2 (by show 0 < d.cods.l; omega) fun i (hi : i < d.cods.l) => ?_
      repeat refine ⟨holdS (by assumption) (by assumption), ?_⟩
      have hCi : d.Cs[i]? = some (d.Cs[i]'(by omega)) := List.getElem?_eq_getElem (by omega)
      generalize (d.Cs[i]'(by omega)) = cd at *
      refine OS.lC h1.cods.1 hCi fun bc uc hbc q0 q1 q2 q3 oc => ?_
      refine ldS (a := cd.re.a) (l := cd.re.l) (c := cd.re.c) hbc q0 (ldS (a := cd.wa.a) (l := cd.wa.l) (c := cd.wa.c) hbc q1 (ldStr hbc q2 (ldB hbc q3 ?_)))
      refine newB fun v3 b3 f3 s3 => ?_
      have h3 := h1.extT f3 (51, 0)
      have t3 : tagN T v (51, 0) v.heap.size = (51, 0) := tagN_new _ _ _ (Nat.le_refl _)
      have M3 : Mv (fun _ => False) T v (tagN T v (51, 0)) v3 := Mv.new f3 (51, 0)
      have o3 := o1.mv M3 fun h => h
      generalize tagN T v (51, 0) = T3 at *
      have rc3 : Blk v3 p (recW d) := h3.rcd
      have ob3 := o3.b
      have bc3 : Blk v3 bc uc := hbc.fr f3 (by omega)
      repeat refine ⟨holdS (by assumption) (by assumption), ?_⟩
      refine lay4 b3 rfl fun v4 b4 f4 => ?_
      have M4 : Mv (fun u => u = (51, 0)) T3 v3 T3 v4 := Mv.same (FrP.of f4 fun x h1 h2 => by rw [show x = v.heap.size by omega]; exact t3)
      exact hJ _ v4 ⟨i, cd, T3, hCi, h3.mv M4 (loose1 (by simp)), o3.mv M4 (by simp), b4, t3⟩
    · refine newB fun v3 b3 f3 s3 => ?_
      have h3 := h1.extT f3 (51, 0)
      have t3 : tagN T v (51, 0) v.heap.size = (51, 0) := tagN_new _ _ _ (Nat.le_refl _)
      have M3 : Mv (fun _ => False) T v (tagN T v (51, 0)) v3 := Mv.new f3 (51, 0)
      have o3 := o1.mv M3 fun h => h
      generalize tagN T v (51, 0) = T3 at *
      have rc3 : Blk v3 p (recW d) := h3.rcd
      have ob3 := o3.b
      repeat refine ⟨holdS (by assumption) (by assumption), ?_⟩
      refine pick_spec rb.1 rb.2 (by show 0 < d.cods.l; omega) fun i (hi : i < d.cods.l) => ?_
      repeat refine ⟨holdS (by assumption) (by assumption), ?_⟩
      have hCi : d.Cs[i]? = some (d.Cs[i]'(by omega)) := List.getElem?_eq_getElem (by omega)
      generalize (d.Cs[i]'(by omega)) = cd at *
      refine OS.lC h3.cods.1 hCi fun bc uc hbc q0 q1 q2 q3 oc => ?_
      refine ldS (a := cd.re.a) (l := cd.re.l) (c := cd.re.c) hbc q0 (ldS (a := cd.wa.a) (l := cd.wa.l) (c := cd.wa.c) hbc q1 (ldStr hbc q2 (ldB hbc q3 ?_)))
      refine lay4 b3 rfl fun v4 b4 f4 => ?_
      have M4 : Mv (fun u => u = (51, 0)) T3 v3 T3 v4 := Mv.same (FrP.of f4 fun x h1 h2 => by rw [show x = v.heap.size by omega]; exact t3)
      exact hJ _ v4 ⟨i, cd, T3, hCi, h3.mv M4 (loose1 (by simp)), o3.mv M4 (by simp), b4, t3⟩
end
end Go.Proofs.Qxb6500562aGreat
