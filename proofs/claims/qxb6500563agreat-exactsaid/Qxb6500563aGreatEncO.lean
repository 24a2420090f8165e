/-
  The model's encoder: Emit, Pack.
-/
import Derived.Test.Qxb6500563aGreatEncN
namespace Go.Proofs.Qxb6500563aGreat
open Go.Den Go.Zip
set_option linter.unusedVariables false
set_option linter.unusedSimpArgs false
variable {w w' w0 : World} {g : Nat} {bits : List Bool}

/-- The lengths of a block, as one slice. -/
structure LS (w : World) (sl : Sl) (b : Nat) (l : Nat → Nat) : Prop where
  a : sl.a = some ⟨b, 0, none⟩
  len : sl.l = 273
  cap : 273 ≤ sl.c
  blk : ∃ junk, Blk w b (nats 273 l ++ junk)
theorem LS.fr {sl : Sl} {b p n : Nat} {l : Nat → Nat} (h : LS w sl b l) (f : Fr p n w w') (hb : b < p ∨ p + n ≤ b) : LS w' sl b l := by
  obtain ⟨junk, hj⟩ := h.blk
  exact ⟨h.a, h.len, h.cap, junk, hj.fr f hb⟩
theorem LS.lt {sl : Sl} {b : Nat} {l : Nat → Nat} (h : LS w sl b l) : b < w.heap.size := by
  obtain ⟨junk, hj⟩ := h.blk
  exact hj.lt
theorem LS.is {sl : Sl} {b : Nat} {l : Nat → Nat} (h : LS w sl b l) : IS w sl b 273 l := by
  obtain ⟨junk, hj⟩ := h.blk
  exact ⟨0, _, h.a, h.len, hj, fun i hi => by rw [Nat.zero_add, List.getElem?_append_left (by simpa using hi)]; exact nats_get hi⟩
theorem LS.cutA {sl : Sl} {b : Nat} {l : Nat → Nat} {K : Sl → Prop} (h : LS w sl b l) (hK : ∀ s, IS w s b 265 l → K s) : CutS 1 sl 0 265 (sl.c : Int) K := by
  obtain ⟨junk, hj⟩ := h.blk
  have hc := h.cap
  refine cutS (lo := 0) (hi := 265) (mx := sl.c) (bb := b) h.a (by omega) (by omega) (by omega) (by omega) (hK _ ?_)
  exact ⟨0, _, by simp, rfl, hj, fun i hi => by rw [Nat.zero_add, List.getElem?_append_left (by simp; omega)]; exact nats_get (by omega)⟩
theorem LS.cutB {sl : Sl} {b : Nat} {l : Nat → Nat} {K : Sl → Prop} (h : LS w sl b l) (hK : ∀ s, IS w s b 8 (hiL l) → K s) : CutS 1 sl 265 (sl.l : Int) (sl.c : Int) K := by
  obtain ⟨junk, hj⟩ := h.blk
  have hc := h.cap
  rw [h.len]
  refine cutS (lo := 265) (hi := 273) (mx := sl.c) (bb := b) h.a (by omega) (by omega) (by omega) (by omega) (hK _ ?_)
  exact ⟨265, _, by simp, rfl, hj, fun i hi => by rw [List.getElem?_append_left (by simp; omega)]; exact nats_get (by omega)⟩

/-- The tape that Emit lays on. -/
structure ME (w0 w : World) (g : Nat) (bits : List Bool) : Prop where
  tape : MTape w w0.heap.size g bits 0
  gb : w0.heap.size < g
  gl : bits ≠ [] → g < w.heap.size
  fr : Fr 0 0 w0 w
theorem ME.put {v k : Nat} {K : Int → World → Prop} (h : ME w0 w g bits) (hv : v < 2 ^ k) (hk : k ≤ 16) (hl : bits.length + k ≤ 4096)
    (hK : ∀ w' g', ME w0 w' g' (bits ++ bitsOf v k) → (g' = g ∨ w.heap.size ≤ g') → Fr2 w0.heap.size g w w' → K 0 w') : S.bitsm_Tape_Put w0.heap.size (v : Int) (k : Int) w K := by
  refine bitsm_Put_spec h.tape hv hk hl fun w1 g1 t1 hg f1 => ?_
  have htl := h.tape.lt
  have hgb := h.gb
  refine hK w1 g1 ⟨t1, by omega, fun hne => ?_, ⟨by have := h.fr.1; have := f1.1; omega, fun b hb _ => by rw [f1.2 b (by have := h.fr.1; omega) (by omega) (by omega), h.fr.2 b hb (by omega)]⟩⟩ hg f1
  obtain ⟨⟨s, hb, hgs⟩, _⟩ := t1
  obtain ⟨_, junk, hblk⟩ := hgs.blk (by simpa using hne)
  exact hblk.lt
theorem ME.ext (h : ME w0 w g bits) (f : Fr 0 0 w w') : ME w0 w' g bits := ⟨h.tape.ext f, h.gb, fun hne => by have := h.gl hne; have := f.1; omega, h.fr.trans f⟩
theorem ME.heq (h : ME w0 w g bits) (e : w'.heap = w.heap) : ME w0 w' g bits := h.ext (Fr.heq (Fr.refl 0 0 w) e)
/-- What is done to a new block beside the tape's. -/
theorem ME.new {p n : Nat} (h : ME w0 w g bits) (f : Fr p n w w') (hp : w0.heap.size < p) (hg : g < p ∨ p + n ≤ g) : ME w0 w' g bits := by
  obtain ⟨⟨s, hb, hgs⟩, ne, len, cur⟩ := h.tape
  exact ⟨⟨⟨s, hb.fr f (by omega), hgs.fr f hg⟩, ne, len, cur⟩, h.gb, fun hne => by have := h.gl hne; have := f.1; omega, h.fr.thenNew f (by omega)⟩

theorem blockm_put_spec {n s c x y : Nat} {l : Nat → Nat} {K : World → Prop} (h : ME w0 w g bits) (hc : MCod w c x y n l) (hs : s < n) (hl0 : 0 < l s) (hl : l s ≤ 10) (hlen : bits.length + l s ≤ 4096)
    (hK : ∀ w' g', ME w0 w' g' (bits ++ bitsOf (codeOf n l s) (l s)) → (g' = g ∨ w.heap.size ≤ g') → Fr2 w0.heap.size g w w' → K w') : S.blockm_put w0.heap.size c (s : Int) w K := by
  unfold S.blockm_put
  refine huffm_Code_spec hc hs hl0 fun w1 e1 => ?_
  refine (h.heq e1).put (code_lt n l s) (by omega) hlen fun w2 g2 h2 hg f2 => ?_
  refine hK w2 g2 h2 (by rw [← e1]; exact hg) ?_
  exact ⟨by rw [← e1]; exact f2.1, fun b hb h1 h2 => by rw [f2.2 b (by rw [e1]; exact hb) h1 h2, e1]⟩

/-- The two coders of Emit: their blocks lie between Z0 and Z1. -/
structure MC2 (w : World) (Z0 Z1 : Nat) (a b : Nat) (l : Nat → Nat) : Prop where
  ex : ∃ xa ya xb yb, MCod w a xa ya 265 l ∧ MCod w b xb yb 8 (hiL l) ∧ Z0 ≤ a ∧ a < Z1 ∧ Z0 ≤ xa ∧ xa < Z1 ∧ Z0 ≤ ya ∧ ya < Z1 ∧ Z0 ≤ b ∧ b < Z1 ∧ Z0 ≤ xb ∧ xb < Z1 ∧ Z0 ≤ yb ∧ yb < Z1
theorem MCod.fr2 {p q c x y n : Nat} {l : Nat → Nat} (h : MCod w c x y n l) (f : Fr2 p q w w') (h1 : c ≠ p ∧ x ≠ p ∧ y ≠ p) (h2 : c ≠ q ∧ x ≠ q ∧ y ≠ q) : MCod w' c x y n l :=
  ⟨h.rc.fr2 f h1.1 h2.1, h.lens.fr2 f h1.2.1 h2.2.1, h.code.fr2 f h1.2.2 h2.2.2⟩
theorem MC2.fr2 {Z0 Z1 a b p q : Nat} {l : Nat → Nat} (h : MC2 w Z0 Z1 a b l) (f : Fr2 p q w w') (hp : p < Z0) (hq : q < Z0 ∨ Z1 ≤ q) : MC2 w' Z0 Z1 a b l := by
  obtain ⟨xa, ya, xb, yb, ha, hb, h1, h2, h3, h4, h5, h6, h7, h8, h9, h10, h11, h12⟩ := h.ex
  exact ⟨xa, ya, xb, yb, ha.fr2 f (by omega) (by omega), hb.fr2 f (by omega) (by omega), h1, h2, h3, h4, h5, h6, h7, h8, h9, h10, h11, h12⟩
theorem MC2.heq {Z0 Z1 a b : Nat} {l : Nat → Nat} (h : MC2 w Z0 Z1 a b l) (e : w'.heap = w.heap) : MC2 w' Z0 Z1 a b l := by
  obtain ⟨xa, ya, xb, yb, ha, hb, r⟩ := h.ex
  exact ⟨xa, ya, xb, yb, ha.heq e, hb.heq e, r⟩

theorem flat_split {α β : Type} (f : α → List β) {l : List α} {k : Nat} {t : α} (h : l[k]? = some t) : (l.take (k + 1)).flatMap f = (l.take k).flatMap f ++ f t ∧ ((l.take k).flatMap f).length + (f t).length ≤ (l.flatMap f).length := by
  obtain ⟨hk, ht⟩ := List.getElem?_eq_some_iff.1 h
  have e : (l.take (k + 1)).flatMap f = (l.take k).flatMap f ++ f t := by
    rw [List.take_succ_eq_append_getElem hk, List.flatMap_append, ht]
    simp
  refine ⟨e, ?_⟩
  have h2 : l.flatMap f = (l.take (k + 1)).flatMap f ++ (l.drop (k + 1)).flatMap f := by rw [← List.flatMap_append, List.take_append_drop]
  rw [h2, e]
  simp only [List.length_append]
  omega

/-- The two ways to lay a symbol. -/
theorem symB_lo {l : Nat → Nat} {s : Nat} (h : s < 265) : symB l s = bitsOf (codeOf 265 l s) (l s) := by unfold symB; rw [if_pos h]
theorem symB_hi (l : Nat → Nat) (c : Nat) : symB l (265 + c) = bitsOf (codeOf 8 (hiL l) c) (hiL l c) := by unfold symB; rw [if_neg (by omega), show 265 + c - 265 = c from by omega]; rfl

set_option maxRecDepth 10000 in
/-- The tokens, then EOB. -/
theorem blockm_body {Z0 Z1 a b tb : Nat} {l : Nat → Nat} {toks : List Tok} {pre : List Bool} {K : ByteArray → World → Prop} (h : ME w0 w g pre) (hpre : pre ≠ []) (hc : MC2 w Z0 Z1 a b l) (ht : Blk w tb (toks.flatMap tokv)) (hZ : w0.heap.size < Z0) (hg : g < Z0 ∨ Z1 ≤ g) (htb : tb < w0.heap.size) (hZw : Z1 ≤ w.heap.size)
    (hok : ∀ t ∈ toks, TokOK t) (L : LawfulL (cntT toks) l) (hl : (pre ++ toks.flatMap (tokB l) ++ symB l 256).length ≤ 4096) (htl : toks.length ≤ 256)
    (hK : ∀ w', Fr 0 0 w0 w' → K (textOf (pre ++ toks.flatMap (tokB l) ++ symB l 256)) w') :
    LoopP (σ := Int × Unit) (fun st20 w next21 =>
        if (decide (st20.1 < (toks.length : Int))) = true then
          Join (fun (w : World) =>
            Let (W (st20.1 + 1)) fun k_22 =>
            next21 (k_22, ()) w) fun J23 =>
          Ix (some ⟨tb, 0, none⟩) toks.length st20.1 fun b24 o25 =>
          LdI .i64 w ⟨b24, o25 + Int.toNat st20.1 * 3, none⟩ fun Len_26 =>
          if (Len_26 == 0) = true then
            Ix (some ⟨tb, 0, none⟩) toks.length st20.1 fun b27 o28 =>
            LdI .i64 w ⟨b27, o28 + Int.toNat st20.1 * 3 + 2, none⟩ fun Lit_29 =>
            S.blockm_put w0.heap.size a Lit_29 w (fun w =>
            J23 w)
          else
            Ix (some ⟨tb, 0, none⟩) toks.length st20.1 fun b30 o31 =>
            LdI .i64 w ⟨b30, o31 + Int.toNat st20.1 * 3, none⟩ fun Len_32 =>
            S.blockm_put w0.heap.size a (W ((W (257 + Len_32)) - 3)) w (fun w =>
            Ix (some ⟨tb, 0, none⟩) toks.length st20.1 fun b33 o34 =>
            LdI .i64 w ⟨b33, o34 + Int.toNat st20.1 * 3 + 1, none⟩ fun Dist_35 =>
            S.api_DistCode Dist_35 w (fun r36 w =>
            S.blockm_put w0.heap.size b r36 w (fun w =>
            S.api_DistBase r36 w (fun r37 r38 w =>
            Ix (some ⟨tb, 0, none⟩) toks.length st20.1 fun b39 o40 =>
            LdI .i64 w ⟨b39, o40 + Int.toNat st20.1 * 3 + 1, none⟩ fun Dist_41 =>
            S.bitsm_Tape_Put w0.heap.size (W (Dist_41 - r37)) r38 w (fun r42 w =>
            J23 w)))))
        else
          S.blockm_put w0.heap.size a 256 w (fun w =>
          S.bitsm_Tape_Text w0.heap.size w (fun r18 w =>
          K r18 w))) (0, ()) w := by
  simp only [List.length_append] at hl
  have hlt : ∀ s, s < 273 → 0 < cntT toks s → 0 < l s ∧ l s ≤ 10 := fun s h1 h2 => ⟨L.pos s h1 h2, L.le s h1⟩
  refine loopN (fun m st v => ∃ (k g' : Nat), st = ((k : Int), ()) ∧ m + k = toks.length ∧ ME w0 v g' (pre ++ (toks.take k).flatMap (tokB l)) ∧ MC2 v Z0 Z1 a b l ∧ Blk v tb (toks.flatMap tokv) ∧ (g' < Z0 ∨ Z1 ≤ g') ∧ Z1 ≤ v.heap.size) toks.length
    ⟨0, g, rfl, rfl, by simpa using h, hc, ht, hg, hZw⟩ ?_
  rintro m _ v ⟨k, g', rfl, hm, hv, cv, tv, hg', hZv⟩ Q hQ
  dsimp only
  -- the world behind a Put
  have nx : ∀ {u u' : World} {g1 g2 : Nat}, MC2 u Z0 Z1 a b l → Blk u tb (toks.flatMap tokv) → (g1 < Z0 ∨ Z1 ≤ g1) → Z1 ≤ u.heap.size → w0.heap.size < g1 → (g2 = g1 ∨ u.heap.size ≤ g2) → Fr2 w0.heap.size g1 u u' → MC2 u' Z0 Z1 a b l ∧ Blk u' tb (toks.flatMap tokv) ∧ (g2 < Z0 ∨ Z1 ≤ g2) ∧ Z1 ≤ u'.heap.size := by
    intro u u' g1 g2 h1 h2 h3 h4 h5 h6 f
    exact ⟨h1.fr2 f hZ h3, h2.fr2 f (by omega) (by omega), by omega, by have := f.1; omega⟩
  by_cases hk : k < toks.length
  · rw [if_pos (by simp only [decide_eq_true_eq]; omega)]
    have htk : toks[k]? = some toks[k] := List.getElem?_eq_getElem hk
    have hmem := List.getElem_mem hk
    have hto := hok _ hmem
    obtain ⟨fs1, fs2⟩ := flat_split (tokB l) htk
    have hps := fun s => cnt_pos (s := s) hmem
    generalize toks[k] = t at *
    obtain ⟨xa, ya, xb, yb, ca, cb, _⟩ := cv.ex
    refine join_ (rdTok0 tv htk ?_)
    rcases hto with ⟨t1, t2⟩ | ⟨t1, t2, t3, t4⟩
    · rw [if_pos (by simp only [beq_iff_eq]; omega)]
      refine rdTok2 tv htk ?_
      have htB : tokB l t = bitsOf (codeOf 265 l t.2.2) (l t.2.2) := by unfold tokB; rw [if_pos t1, symB_lo (by omega)]
      obtain ⟨p1, p2⟩ := hlt t.2.2 (by omega) (hps _ (by unfold symsOf; rw [if_pos t1]; simp))
      have hlb : (tokB l t).length = l t.2.2 := by rw [htB]; simp
      refine blockm_put_spec hv ca (by omega) p1 p2 (by simp only [List.length_append]; omega) fun v2 g2 h2 hg2 f2 => ?_
      obtain ⟨n1, n2, n3, n4⟩ := nx cv tv hg' hZv hv.gb hg2 f2
      rw [W_succ (by omega)]
      refine let_ (hQ (m - 1) _ _ (by omega) ⟨k + 1, g2, rfl, by omega, ?_, n1, n2, n3, n4⟩)
      rw [fs1, htB, ← List.append_assoc]
      exact h2
    · rw [if_neg (by simp only [beq_iff_eq]; omega)]
      obtain ⟨d1, d2, d3⟩ := dCode_facts t3 t4
      have htB : tokB l t = bitsOf (codeOf 265 l (254 + t.1)) (l (254 + t.1)) ++ bitsOf (codeOf 8 (hiL l) (dCode t.2.1)) (hiL l (dCode t.2.1)) ++ bitsOf (t.2.1 - dBase (dCode t.2.1)) (dMore (dCode t.2.1)) := by
        unfold tokB; rw [if_neg (by omega), symB_lo (by omega), symB_hi]
      obtain ⟨p1, p2⟩ := hlt (254 + t.1) (by omega) (hps _ (by unfold symsOf; rw [if_neg (by omega)]; simp))
      obtain ⟨p3, p4⟩ := hlt (265 + dCode t.2.1) (by omega) (hps _ (by unfold symsOf; rw [if_neg (by omega)]; simp))
      have hlb : (tokB l t).length = l (254 + t.1) + hiL l (dCode t.2.1) + dMore (dCode t.2.1) := by rw [htB]; simp; omega
      have hmr := dMore_le (dCode t.2.1)
      refine rdTok0 tv htk ?_
      rw [show W (W (257 + (t.1 : Int)) - 3) = ((254 + t.1 : Nat) : Int) from by rw [W_id (x := 257 + (t.1 : Int)) (by omega) (by omega), W_id (by omega) (by omega)]; omega]
      refine blockm_put_spec hv ca (by omega) p1 p2 (by simp only [List.length_append]; omega) fun v2 g2 h2 hg2 f2 => ?_
      obtain ⟨n1, n2, n3, n4⟩ := nx cv tv hg' hZv hv.gb hg2 f2
      refine rdTok1 n2 htk ?_
      refine api_DistCode_spec t3 t4 ?_
      obtain ⟨xa', ya', xb', yb', ca', cb', _⟩ := n1.ex
      refine blockm_put_spec h2 cb' d1 p3 p4 (by simp only [List.length_append, bitsOf_length]; omega) fun v3 g3 h3 hg3 f3 => ?_
      obtain ⟨o1, o2, o3, o4⟩ := nx n1 n2 n3 n4 h2.gb hg3 f3
      refine api_DistBase_spec d1 ?_
      refine rdTok1 o2 htk ?_
      rw [show W ((t.2.1 : Int) - (dBase (dCode t.2.1) : Int)) = ((t.2.1 - dBase (dCode t.2.1) : Nat) : Int) from by rw [W_id (by omega) (by omega)]; omega]
      refine h3.put d3 (by omega) (by simp only [List.length_append, bitsOf_length]; omega) fun v4 g4 h4 hg4 f4 => ?_
      obtain ⟨q1, q2, q3, q4⟩ := nx o1 o2 o3 o4 h3.gb hg4 f4
      rw [W_succ (by omega)]
      refine let_ (hQ (m - 1) _ _ (by omega) ⟨k + 1, g4, rfl, by omega, ?_, q1, q2, q3, q4⟩)
      rw [fs1, htB]
      simp only [List.append_assoc] at h4 ⊢
      exact h4
  · rw [if_neg (by simp only [decide_eq_true_eq]; omega)]
    have hte : toks.take k = toks := List.take_of_length_le (by omega)
    rw [hte] at hv
    obtain ⟨xa, ya, xb, yb, ca, cb, _⟩ := cv.ex
    obtain ⟨p1, p2⟩ := hlt 256 (by omega) (cnt_eob toks)
    have hsl := symB_len l 256
    refine blockm_put_spec (s := 256) hv ca (by omega) p1 p2 (by simp only [List.length_append]; omega) fun v2 g2 h2 hg2 f2 => ?_
    rw [← symB_lo (l := l) (s := 256) (by omega)] at h2
    refine bitsm_Text_spec h2.tape (h2.gl (by simp [hpre])) fun v3 f3 => ?_
    exact hK v3 (h2.fr.trans f3)

set_option maxRecDepth 10000 in
theorem blockm_Emit_spec {kind : Nat} {data : ByteArray} {sl : Sl} {tb lb : Nat} {l : Nat → Nat} {toks : List Tok} {K : ByteArray → World → Prop} (hk : kind ≤ 2) (hd : data.size ≤ 256) (ht : Blk w tb (toks.flatMap tokv)) (hL : LS w sl lb l)
    (hok : ∀ t ∈ toks, TokOK t) (L : LawfulL (cntT toks) l) (hl : (emitB kind (bt data) toks l).length ≤ 4096) (htl : toks.length ≤ 256)
    (hK : ∀ w', Fr 0 0 w w' → K (textOf (emitB kind (bt data) toks l)) w') : S.blockm_Emit (kind : Int) data ⟨some ⟨tb, 0, none⟩, toks.length, toks.length⟩ sl w K := by
  unfold S.blockm_Emit
  have htb := ht.lt
  have hlb := hL.lt
  unfold emitB at hl hK
  simp only [List.length_append, bitsOf_length] at hl
  refine bitsm_New_spec fun w1 t1 f1 s1 => ?_
  have h1 : ME w w1 (w.heap.size + 1) [] := ⟨t1, by omega, fun h => absurd rfl h, f1⟩
  refine h1.put (v := 1) (k := 1) (by omega) (by omega) (by simp) fun w2 g2 h2 hg2 f2 => ?_
  refine h2.put (v := kind) (k := 2) (by omega) (by omega) (by simp) fun w3 g3 h3 hg3 f3 => ?_
  rw [List.nil_append] at h3
  have hne : bitsOf 1 1 ++ bitsOf kind 2 ≠ [] := by intro h; have := congrArg List.length h; simp at this
  by_cases k0 : kind = 0
  · rw [if_pos (by simp only [beq_iff_eq]; omega)]
    rw [if_pos k0] at hl hK
    refine bitsm_Pad_spec h3.tape fun w4 g4 t4 hg4 f4 => ?_
    have hpad : (bitsOf 1 1 ++ bitsOf kind 2 ++ List.replicate (((bitsOf 1 1 ++ bitsOf kind 2).length + 7) / 8 * 8 - (bitsOf 1 1 ++ bitsOf kind 2).length) false) = bitsOf 1 1 ++ bitsOf kind 2 ++ List.replicate 5 false := by simp
    rw [hpad] at t4
    have h3l := h3.tape.lt
    have h3g := h3.gb
    have h4 : ME w w4 g4 (bitsOf 1 1 ++ bitsOf kind 2 ++ List.replicate 5 false) := ⟨t4, by omega, fun hne => by
      obtain ⟨⟨s, hb, hgs⟩, _⟩ := t4
      obtain ⟨_, junk, hblk⟩ := hgs.blk (by simp)
      exact hblk.lt, ⟨by have := h3.fr.1; have := f4.1; omega, fun b hb _ => by rw [f4.2 b (by have := h3.fr.1; omega) (by omega) (by omega), h3.fr.2 b hb (by omega)]⟩⟩
    refine h4.put (v := data.size) (k := 16) (by omega) (by omega) (by simp) fun w5 g5 h5 hg5 f5 => ?_
    refine join_ ?_
    rw [bt_length] at hK
    refine loopN (fun m st v => ∃ (i g' : Nat), st = ((i : Int), ()) ∧ m + i = data.size ∧ ME w v g' (bitsOf 1 1 ++ bitsOf kind 2 ++ (List.replicate 5 false ++ bitsOf data.size 16 ++ sbits ((bt data).take i)))) data.size ⟨0, g5, rfl, rfl, by simpa [sbits] using h5⟩ ?_
    rintro m _ v ⟨i, g', rfl, hm, hv⟩ Q hQ
    dsimp only
    have hsl : (sbits ((bt data).take i)).length = i * 8 := by rw [sbits_length, List.length_take, bt_length, Nat.min_eq_left (by omega)]
    by_cases hi : i < data.size
    · rw [if_pos (by simp only [decide_eq_true_eq]; omega)]
      have hget : (bt data)[i]? = some ((bt data)[i]'(by simpa using hi)) := List.getElem?_eq_getElem _
      have hx := bt_get_lt hget
      generalize (bt data)[i]'(by simpa using hi) = x at *
      refine ixStr (by omega) (by rw [Int.toNat_natCast]; exact hget) ?_
      rw [W_nat (by omega)]
      refine hv.put (v := x) (k := 8) (by omega) (by omega) (by simp only [List.length_append, bitsOf_length, List.length_replicate, hsl]; omega) fun v2 g2 h2 hg2 f2 => ?_
      rw [W_succ (by omega)]
      refine let_ (hQ (m - 1) _ _ (by omega) ⟨i + 1, g2, rfl, by omega, ?_⟩)
      rw [sbits_succ hget]
      simp only [List.append_assoc] at h2 ⊢
      exact h2
    · rw [if_neg (by simp only [decide_eq_true_eq]; omega)]
      have hte : (bt data).take i = bt data := List.take_of_length_le (by simp; omega)
      rw [hte] at hv
      refine bitsm_Text_spec hv.tape (hv.gl (by intro h; have := congrArg List.length h; simp at this)) fun v3 f3 => ?_
      exact hK v3 (hv.fr.trans f3)
  rw [if_neg (by simp only [beq_iff_eq]; omega)]
  rw [if_neg k0] at hl hK
  simp only [List.length_append] at hl
  refine join_ ?_
  -- the coders, the body
  have go : ∀ (v : World) (g' : Nat) (pre : List Bool), ME w v g' pre → pre ≠ [] → (pre ++ toks.flatMap (tokB l) ++ symB l 256).length ≤ 4096 → (∀ w', Fr 0 0 w w' → K (textOf (pre ++ toks.flatMap (tokB l) ++ symB l 256)) w') →
      (S.huffm_New v (fun r12 w_1 =>
      S.huffm_New w_1 (fun r13 w_1 =>
      CutS 1 sl 0 265 (sl.c : Int) fun l14 =>
      S.huffm_Coder_Build r12 l14 w_1 (fun r15 w_1 =>
      CutS 1 sl 265 (sl.l : Int) (sl.c : Int) fun l16 =>
      S.huffm_Coder_Build r13 l16 w_1 (fun r17 w_1 =>
      Join (fun (w_1 : World) =>
        S.blockm_put w.heap.size r12 256 w_1 (fun w_1 =>
        S.bitsm_Tape_Text w.heap.size w_1 (fun r18 w_1 =>
        K r18 w_1))) fun J19 =>
      LoopP (σ := Int × Unit) (fun st20 w_1 next21 =>
        if (decide (st20.1 < ((toks.length : Nat) : Int))) = true then
          Join (fun (w_1 : World) =>
            Let (W (st20.1 + 1)) fun k_22 =>
            next21 (k_22, ()) w_1) fun J23 =>
          Ix (some ⟨tb, 0, none⟩) toks.length st20.1 fun b24 o25 =>
          LdI .i64 w_1 ⟨b24, o25 + Int.toNat st20.1 * 3, none⟩ fun Len_26 =>
          if (Len_26 == 0) = true then
            Ix (some ⟨tb, 0, none⟩) toks.length st20.1 fun b27 o28 =>
            LdI .i64 w_1 ⟨b27, o28 + Int.toNat st20.1 * 3 + 2, none⟩ fun Lit_29 =>
            S.blockm_put w.heap.size r12 Lit_29 w_1 (fun w_1 =>
            J23 w_1)
          else
            Ix (some ⟨tb, 0, none⟩) toks.length st20.1 fun b30 o31 =>
            LdI .i64 w_1 ⟨b30, o31 + Int.toNat st20.1 * 3, none⟩ fun Len_32 =>
            S.blockm_put w.heap.size r12 (W ((W (257 + Len_32)) - 3)) w_1 (fun w_1 =>
            Ix (some ⟨tb, 0, none⟩) toks.length st20.1 fun b33 o34 =>
            LdI .i64 w_1 ⟨b33, o34 + Int.toNat st20.1 * 3 + 1, none⟩ fun Dist_35 =>
            S.api_DistCode Dist_35 w_1 (fun r36 w_1 =>
            S.blockm_put w.heap.size r13 r36 w_1 (fun w_1 =>
            S.api_DistBase r36 w_1 (fun r37 r38 w_1 =>
            Ix (some ⟨tb, 0, none⟩) toks.length st20.1 fun b39 o40 =>
            LdI .i64 w_1 ⟨b39, o40 + Int.toNat st20.1 * 3 + 1, none⟩ fun Dist_41 =>
            S.bitsm_Tape_Put w.heap.size (W (Dist_41 - r37)) r38 w_1 (fun r42 w_1 =>
            J23 w_1)))))
        else
          J19 w_1) (0, ()) w_1))))) := by
    intro v g' pre hv hpre hlen hK'
    have hgl := hv.gl hpre
    have hgb := hv.gb
    have hvt := hv.tape.lt
    refine huffm_New_spec fun v1 b1 f1 s1 => ?_
    refine huffm_New_spec fun v2 b2 f2 s2 => ?_
    rw [s1] at b2 s2 ⊢
    have f02 := f1.trans f2
    have hv2 := hv.ext f02
    have b1 := b1.fr f2 (by omega)
    have hL2 := hL.fr hv2.fr (by omega)
    have ht2 := ht.fr hv2.fr (by omega)
    generalize hA : v.heap.size = A at *
    refine hL2.cutA fun s1' i1 => ?_
    refine huffm_Build_spec (l := l) (n := 265) b1 i1 (by omega) (by omega) (fun i hi => L.le i (by omega)) (fun hz => absurd L.ca hz) (fun _ v3 x y c3 hx hy f3 => ?_)
    have hv3 := hv2.new f3 (by omega) (by omega)
    have hL3 := hL2.fr f3 (by omega)
    have ht3 := ht2.fr f3 (by omega)
    refine hL3.cutB fun s2' i2 => ?_
    have b3 := b2.fr f3 (by omega)
    refine huffm_Build_spec (l := hiL l) (n := 8) b3 i2 (by omega) (by omega) (fun i hi => L.le (265 + i) (by omega)) (fun hz => absurd L.cb hz) (fun _ v4 x2 y2 c4 hx2 hy2 f4 => ?_)
    have hv4 := hv3.new f4 (by omega) (by omega)
    have ht4 := ht3.fr f4 (by omega)
    have sz3 := f3.1
    have sz4 := f4.1
    have c3l := c3.code.lt
    have c3l2 := c3.lens.lt
    have c4l := c4.code.lt
    have c4l2 := c4.lens.lt
    have c3' := c3.fr f4 (by omega) (by omega) (by omega)
    refine join_ ?_
    exact blockm_body (Z0 := A) (Z1 := v4.heap.size) hv4 hpre ⟨x, y, x2, y2, c3', c4, by omega, by omega, by omega, by omega, by omega, by omega, by omega, by omega, by omega, by omega, by omega, by omega⟩ ht4 (by omega) (by omega) htb (Nat.le_refl _) hok L hlen htl hK'
  by_cases k2 : kind = 2
  · rw [if_pos (by simp only [beq_iff_eq]; omega)]
    rw [if_pos k2] at hl hK
    have hL3 := hL.fr h3.fr (by omega)
    refine blockm_Items_spec hL3.is L.le fun o w4 h4 ho f4 => ?_
    have hlen := h4.len
    rw [itemsV_len, Nat.mul_one] at hlen
    have hil := items_len l
    have hio := items_ok L.le
    have hlB : listB l = (itemsL l).flatMap itemB := by rw [listB]
    rw [hlB] at hl hK
    clear hlB
    generalize itemsL l = it at *
    have h34 := h3.ext f4
    have hgl3 := h3.gl hne
    have hob : ∀ b, owns o b → b ≠ w.heap.size ∧ b ≠ g3 := fun b hb => by have := ho b hb; have := h3.tape.lt; omega
    refine loopN (fun m st v => ∃ (k g' : Nat), st = (((3 * k : Nat) : Int), ()) ∧ m + k = it.length ∧ ME w v g' (bitsOf 1 1 ++ bitsOf kind 2 ++ (it.take k).flatMap itemB) ∧ OS v o (it.flatMap itemV) 1 ∧ (∀ b, owns o b → b ≠ w.heap.size ∧ b ≠ g')) it.length
      ⟨0, g3, rfl, rfl, by simpa using h34, h4, hob⟩ ?_
    rintro m _ v ⟨k, g', rfl, hm, hv, ov, hog⟩ Q hQ
    dsimp only
    by_cases hk2 : k < it.length
    · rw [if_pos (by simp only [decide_eq_true_eq]; omega)]
      have hit : it[k]? = some it[k] := List.getElem?_eq_getElem hk2
      have hto := hio _ (List.getElem_mem hk2)
      obtain ⟨fs1, fs2⟩ := flat_split itemB hit
      generalize it[k] = t at *
      obtain ⟨t1, t2, t3⟩ := hto
      have htl : (itemB t).length = 4 + t.2.2 := by unfold itemB; simp
      have nx : ∀ {u u' : World} {g1 g2 : Nat}, OS u o (it.flatMap itemV) 1 → (∀ b, owns o b → b ≠ w.heap.size ∧ b ≠ g1) → (g2 = g1 ∨ u.heap.size ≤ g2) → Fr2 w.heap.size g1 u u' → OS u' o (it.flatMap itemV) 1 ∧ (∀ b, owns o b → b ≠ w.heap.size ∧ b ≠ g2) := by
        intro u u' g1 g2 ou hg hg2 f
        refine ⟨ou.frp (P := fun b => b = w.heap.size ∨ b = g1) ⟨f.1, fun b hb hn => f.2 b hb (fun e => hn (.inl e)) (fun e => hn (.inr e))⟩ fun b hb hp => ?_, fun b hb => ?_⟩
        · have := hg b hb; omega
        · have := hg b hb; have := ou.lt hb; omega
      refine OS_rdV ov (item_get hit).1 ?_
      refine hv.put (v := t.1) (k := 4) (by omega) (by omega) (by simp only [List.length_append, bitsOf_length]; omega) fun v2 g2 h2 hg2 f2 => ?_
      obtain ⟨n1, n2⟩ := nx ov hog hg2 f2
      refine drew_ ?_
      have n1d : OS v2.drew o (it.flatMap itemV) 1 := n1
      rw [show W (((3 * k : Nat) : Int) + 1) = ((3 * k + 1 : Nat) : Int) from by rw [W_id (by omega) (by omega)]; omega]
      refine OS_rdV n1d (item_get hit).2.1 ?_
      rw [show W (((3 * k : Nat) : Int) + 2) = ((3 * k + 2 : Nat) : Int) from by rw [W_id (by omega) (by omega)]; omega]
      refine OS_rdV n1d (item_get hit).2.2 ?_
      refine (h2.heq (w' := v2.drew) rfl).put (v := t.2.1) (k := t.2.2) t3 (by omega) (by simp only [List.length_append, bitsOf_length]; omega) fun v3 g3 h3 hg3 f3 => ?_
      obtain ⟨o1, o2⟩ := nx n1d n2 hg3 f3
      rw [show W (((3 * k : Nat) : Int) + 3) = ((3 * (k + 1) : Nat) : Int) from by rw [W_id (by omega) (by omega)]; omega]
      refine let_ (hQ (m - 1) _ _ (by omega) ⟨k + 1, g3, rfl, by omega, ?_, o1, o2⟩)
      rw [fs1]
      unfold itemB
      simp only [List.append_assoc] at h3 ⊢
      exact h3
    · rw [if_neg (by simp only [decide_eq_true_eq]; omega)]
      have hte : it.take k = it := List.take_of_length_le (by omega)
      rw [hte] at hv
      refine go v g' _ hv (by intro h; have := congrArg List.length h; simp at this) (by simp only [List.length_append, bitsOf_length]; omega) fun w' f => ?_
      have := hK w' f
      simp only [List.append_assoc] at this ⊢
      exact this
  · rw [if_neg (by simp only [beq_iff_eq]; omega)]
    rw [if_neg k2] at hl hK
    simp only [List.length_nil] at hl
    refine go w3 g3 _ h3 hne (by simp only [List.length_append, bitsOf_length]; omega) fun w' f => ?_
    have := hK w' f
    simp only [List.append_assoc, List.nil_append] at this ⊢
    exact this

theorem LawfulK (k : Nat) (c : Nat → Nat) : LawfulL c (lensK k c) := by
  unfold lensK
  split
  · exact lawful_plan c
  · exact lawful_fix c

set_option maxRecDepth 10000 in
theorem blockm_Pack_spec {p z h : Nat} {data : ByteArray} {level : Nat} {K : ByteArray → Int → World → Prop} (hp : Blk w p [.pointer (some ⟨z, 0, none⟩), .pointer (some ⟨h, 0, none⟩)]) (hd : data.size ≤ 256) (hv : level ≤ 2)
    (hK : ∀ w', Fr 0 0 w w' → K (textOf (packB level (bt data))) 0 w') : S.blockm_Packer_Pack p data (level : Int) w K := by
  unfold S.blockm_Packer_Pack
  have hpl := hp.lt
  rw [if_neg (by simp only [decide_eq_true_eq]; omega), if_neg (by simp only [decide_eq_true_eq]; omega), if_neg (by simp only [decide_eq_true_eq]; omega)]
  refine ldP hp rfl (lzm_Parse_spec hd hv fun sl w1 T1 f1 => ?_)
  rw [if_neg (by simp)]
  obtain ⟨tb, b1, rfl, htb⟩ := T1.ex
  have hbd : ∀ x ∈ bt data, x < 256 := fun x hx => bt_lt hx
  have hok := tokens_ok (level := level) hbd
  have htl := tokens_len level (bt data)
  rw [bt_length] at htl
  have hpk := pack_len level hbd
  unfold packB at hK hpk
  rw [bt_length] at hK hpk
  generalize tokens level (bt data) = toks at *
  refine blockm_Counts_spec b1 hok (by omega) fun w2 b2 f2 s2 => ?_
  have b1 := b1.fr f2 (by omega)
  have hbl := b1.lt
  have p2 := (hp.fr f1 (by omega)).fr f2 (by omega)
  have hcl : ∀ s, cntT toks s ≤ 513 := fun s => by have := cnt_le toks s; omega
  generalize hN : w1.heap.size = N at *
  have f02 := f1.trans f2
  refine drew_ (ldP p2.drew rfl ?_)
  refine cutS (lo := 0) (hi := 265) (mx := 273) (bb := N) rfl (by omega) (by omega) (by show 273 ≤ 273; omega) (by omega) ?_
  have i1 : IS w2.drew ⟨some ⟨N, 0 * 1, none⟩, 265 - 0, 273 - 0⟩ N 265 (cntT toks) := by
    have := IS.win (c := 273) (o := 0) (n := 265) b2.drew (by omega)
    simpa using this
  refine huffm_Plan_spec i1 (by omega) (fun i _ => by have := hcl i; omega) fun la w3 N3 f3 => ?_
  have f3 : Fr 0 0 w2 w3 := f3
  obtain ⟨x3, n3, rfl, hx3⟩ := N3.ex
  have hx3 : w2.heap.size ≤ x3 := hx3
  have b3 := b2.fr f3 (by omega)
  have p3 := p2.fr f3 (by omega)
  refine drew_ (ldP p3.drew rfl ?_)
  refine cutS (lo := 265) (hi := 273) (mx := 273) (bb := N) rfl (by omega) (by omega) (by show 273 ≤ 273; omega) (by omega) ?_
  have i2 : IS w3.drew ⟨some ⟨N, 265 * 1, none⟩, 273 - 265, 273 - 265⟩ N 8 (hiL (cntT toks)) := IS.win (c := 8) (o := 265) (n := 8) b3.drew (by omega)
  refine huffm_Plan_spec i2 (by omega) (fun i _ => by have := hcl (265 + i); show cntT toks (265 + i) ≤ _; omega) fun lbs w4 N4 f4 => ?_
  have f4 : Fr 0 0 w3 w4 := f4
  obtain ⟨x4, n4, rfl, hx4⟩ := N4.ex
  have hx4 : w3.heap.size ≤ x4 := hx4
  have hx3l := n3.lt
  have n3' := n3.fr f4 (by omega)
  have os : OS w4 ⟨some ⟨x3, 0, none⟩, 265, 265⟩ (nats 265 (planL 265 (cntT toks))) 1 := .inr ⟨x3, rfl, by simp, Nat.le_refl _, [], by simpa using n3', by simp⟩
  refine appO (m := 8) os n4 (by simp) (by omega) (nats_ok _ _) rfl (by show (265 + 8) * 8 ≤ _; omega) fun dyn w5 o5 l5 gr f5 => ?_
  have f45 : Fr x3 1 w4 w5 := f5.ofR fun b hb => by unfold owns at hb; simp at hb; omega
  have hl5 : dyn.l = 273 := l5
  have hrow : nats 265 (planL 265 (cntT toks)) ++ nats 8 (planL 8 (hiL (cntT toks))) = nats 273 (planT (cntT toks)) := by
    have e : ints (tab 265 (fun i => (planL 265 (cntT toks) i : Int))) ++ ints (tab 8 (fun i => (planL 8 (hiL (cntT toks)) i : Int))) = ints (tab 273 fun i => (planT (cntT toks) i : Int)) := by
      unfold ints
      rw [← List.map_append]
      refine congrArg (List.map (Value.int .i64)) (tab_ext (by simp) fun i hi => ?_)
      unfold planT
      by_cases h : i < 265
      · rw [if_pos h, List.getElem?_append_left (by simpa using h), tab_get h]
      · rw [if_neg h, List.getElem?_append_right (by simp; omega), tab_length, tab_get (by omega)]
    exact e
  rw [hrow] at o5
  obtain ⟨db, hda, hdb⟩ : ∃ db, owns dyn db ∧ LS w5 dyn db (planT (cntT toks)) := by
    rcases o5 with ⟨rfl, h⟩ | ⟨db, a, b, c, junk, d, e⟩
    · simp at hl5
    · exact ⟨db, a, ⟨a, hl5, by omega, junk, d⟩⟩
  have hdbN : db ≠ N ∧ db ≠ tb := by
    have hz3 := f3.1
    rcases gr.owns hda with h | h
    · unfold owns at h; simp at h; omega
    · have := f4.1; omega
  have b5 := (b3.fr f4 (by omega)).fr f45 (by omega)
  have t5 := ((b1.fr f3 (by omega)).fr f4 (by omega)).fr f45 (by omega)
  have f05 : Fr 0 0 w w5 := ((f02.trans f3).trans f4).thenNew f45 (by omega)
  refine blockm_FixedLens_spec fun w6 b6 f6 s6 => ?_
  have c6 := b5.fr f6 (by omega)
  have t6 := t5.fr f6 (by omega)
  have d6 := hdb.fr f6 (by omega)
  have f06 := f05.trans f6
  have isC : ∀ {v : World}, Blk v N (nats 273 (cntT toks)) → IS v ⟨some ⟨N, 0, none⟩, 273, 273⟩ N 273 (cntT toks) := fun h => IS.of h
  generalize hM : w5.heap.size = M at *
  refine blockm_Bits_spec (kind := 0) (by omega) hd (isC c6) (IS.of b6) hcl (fun i _ => fix_le i) fun w7 f7 => ?_
  refine blockm_Bits_spec (kind := 1) (by omega) hd (isC (c6.fr f7 (by omega))) (IS.of (b6.fr f7 (by omega))) hcl (fun i _ => fix_le i) fun w8 f8 => ?_
  have f78 := f7.trans f8
  refine blockm_Bits_spec (kind := 2) (by omega) hd (isC (c6.fr f78 (by omega))) (d6.fr f78 (by omega)).is hcl (fun i hi => (plan_le (cntT toks) i hi).1) fun w9 f9 => ?_
  have f79 := f78.trans f9
  rw [if_pos rfl, if_neg (by omega), if_pos rfl, if_neg (by omega), if_neg (by omega)]
  refine blockm_Choose_spec ?_
  have hch : (if 24 + 8 * data.size ≤ 3 + costTo (cntT toks) fixL 273 ∧ 24 + 8 * data.size ≤ 3 + listC (planT (cntT toks)) + costTo (cntT toks) (planT (cntT toks)) 273 then 0 else if 3 + costTo (cntT toks) fixL 273 ≤ 3 + listC (planT (cntT toks)) + costTo (cntT toks) (planT (cntT toks)) 273 then 1 else 2) = chooseK data.size (cntT toks) := rfl
  rw [hch]
  have hc2 : chooseK data.size (cntT toks) ≤ 2 := by rcases choose_cases data.size (cntT toks) with h | ⟨h, _⟩ | ⟨h, _⟩ <;> omega
  have t9 := t6.fr f79 (by omega)
  have hlw := LawfulK (chooseK data.size (cntT toks)) (cntT toks)
  by_cases k2 : chooseK data.size (cntT toks) = 2
  · rw [if_pos (by simp only [beq_iff_eq]; omega)]
    have hlk : lensK (chooseK data.size (cntT toks)) (cntT toks) = planT (cntT toks) := by unfold lensK; rw [if_pos k2]
    rw [hlk] at hK hpk hlw
    exact blockm_Emit_spec hc2 hd t9 (d6.fr f79 (by omega)) hok hlw (by omega) (by omega) fun w' f' => hK w' ((f06.trans f79).trans f')
  · rw [if_neg (by simp only [beq_iff_eq]; omega)]
    have hlk : lensK (chooseK data.size (cntT toks)) (cntT toks) = fixL := by unfold lensK; rw [if_neg k2]
    rw [hlk] at hK hpk hlw
    exact blockm_Emit_spec hc2 hd t9 ⟨rfl, rfl, Nat.le_refl _, [], by simpa using b6.fr f79 (by omega)⟩ hok hlw (by omega) (by omega) fun w' f' => hK w' ((f06.trans f79).trans f')
end Go.Proofs.Qxb6500563aGreat
