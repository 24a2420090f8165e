/-
  The model's decoder: blockm.Run answers 'decode'.
-/
import Derived.Test.Qxb6500563aGreatOwn
namespace Go.Proofs.Qxb6500563aGreat
open Go.Den Go.Zip
set_option linter.unusedVariables false
set_option linter.unusedSimpArgs false
variable {w w' w0 : World} {t g : Nat} {bits : List Bool} {at_ : Nat}

theorem api_DistBase_spec {c : Nat} {K : Int → Int → World → Prop} (hc : c < 8) (hK : K (dBase c : Int) (dMore c : Int) w) : S.api_DistBase (c : Int) w K := by
  have : c = 0 ∨ c = 1 ∨ c = 2 ∨ c = 3 ∨ c = 4 ∨ c = 5 ∨ c = 6 ∨ c = 7 := by omega
  rcases this with e | e | e | e | e | e | e | e <;> subst e <;> exact hK
set_option maxRecDepth 10000 in
theorem api_FixedLen_spec {i : Nat} {K : Int → World → Prop} (hi : i < 265) (hK : K (fixL i : Int) w) : S.api_FixedLen (i : Int) w K := by
  unfold S.api_FixedLen
  unfold fixL at hK
  by_cases h : i < 247
  · rw [if_pos (by simp only [decide_eq_true_eq]; omega)]
    rw [if_pos h] at hK
    exact hK
  · rw [if_neg (by simp only [decide_eq_true_eq]; omega)]
    rw [if_neg h, if_pos hi] at hK
    exact hK
set_option maxRecDepth 10000 in
theorem blockm_FixedLens_spec {K : Sl → World → Prop} (hK : ∀ w', Blk w' w.heap.size (nats 273 fixL) → Fr 0 0 w w' → w'.heap.size = w.heap.size + 1 → K ⟨some ⟨w.heap.size, 0, none⟩, 273, 273⟩ w') : S.blockm_FixedLens w K := by
  unfold S.blockm_FixedLens
  refine mkN (n := 273) (by omega) fun w1 b1 f1 s1 => ?_
  generalize hN : w.heap.size = N at *
  refine join_ ?_
  refine loopN (fun m st v => ∃ i : Nat, st = ((i : Int), ()) ∧ m + i = 265 ∧ Blk v N (nats 273 (mix i fixL fun _ => 0)) ∧ Fr N 1 w1 v ∧ v.heap.size = N + 1) 265 ⟨0, rfl, rfl, by rw [mix_zero]; exact b1, Fr.refl _ _ _, s1⟩ ?_
  rintro m _ v ⟨i, rfl, hm, bv, fv, sv⟩ Q hQ
  dsimp only
  by_cases hi : i < 265
  · rw [if_pos (by simp only [decide_eq_true_eq]; omega)]
    refine api_FixedLen_spec hi ?_
    refine wrN bv (by omega) rfl fun v2 d2 f2 s2 => ?_
    rw [mix_set] at d2
    rw [W_succ (by omega)]
    exact let_ (hQ (m - 1) _ _ (by omega) ⟨i + 1, rfl, by omega, d2, fv.trans f2, by omega⟩)
  rw [if_neg (by simp only [decide_eq_true_eq]; omega)]
  have e : i = 265 := by omega
  subst e
  refine loopN (fun m st v => ∃ j : Nat, st = ((j : Int), ()) ∧ m + j = 8 ∧ Blk v N (nats 273 (mix (265 + j) fixL fun _ => 0)) ∧ Fr N 1 w1 v ∧ v.heap.size = N + 1) 8 ⟨0, rfl, rfl, bv, fv, sv⟩ ?_
  rintro m _ v ⟨j, rfl, hm, bv, fv, sv⟩ Q hQ
  dsimp only
  by_cases hj : j < 8
  · rw [if_pos (by simp only [decide_eq_true_eq]; omega)]
    rw [show W (265 + (j : Int)) = ((265 + j : Nat) : Int) from by rw [W_id (by omega) (by omega)]; omega]
    refine wrN (v := fixL (265 + j)) bv (by omega) (by unfold fixL; rw [if_neg (by omega), if_neg (by omega)]; rfl) fun v2 d2 f2 s2 => ?_
    rw [mix_set] at d2
    rw [W_succ (by omega)]
    exact let_ (hQ (m - 1) _ _ (by omega) ⟨j + 1, rfl, by omega, d2, fv.trans f2, by omega⟩)
  · rw [if_neg (by simp only [decide_eq_true_eq]; omega)]
    have e : j = 8 := by omega
    subst e
    rw [nats_congr (mix_all fixL fun _ => 0)] at bv
    exact hK v bv (f1.thenNew fv (by omega)) sv

theorem huffm_New_spec {K : Nat → World → Prop} (hK : ∀ w', Blk w' w.heap.size [.slice none 0 0, .slice none 0 0] → Fr 0 0 w w' → w'.heap.size = w.heap.size + 1 → K w.heap.size w') : S.huffm_New w K := by
  unfold S.huffm_New
  exact newB fun w1 b1 f1 s1 => hK w1 b1 f1 s1

theorem blockm_symbol_spec {n c x y : Nat} {l : Nat → Nat} {K : Int → Int → World → Prop} (h : MTape w t g bits at_) (hc : MCod w c x y n l) (L : Lens n l) (hn : n ≤ 265)
    (hbad : (symAt n l bits at_).2.2 ≠ 0 → ∀ w', MTape w' t g bits at_ → Fr 0 0 w w' → K 0 ((symAt n l bits at_).2.2 : Int) w')
    (hK : (symAt n l bits at_).2.2 = 0 → ∀ w', MTape w' t g bits (at_ + (symAt n l bits at_).2.1) → Fr t 1 w w' → K ((symAt n l bits at_).1 : Int) 0 w') : S.blockm_symbol t c w K := by
  unfold S.blockm_symbol
  have hcur := h.cur
  refine bitsm_Peek_spec (k := 10) h (by omega) fun m w1 hm h1 f1 => ?_
  have ha : ofBits ((bits.drop at_).take 10) < 2 ^ m := by rw [hm]; exact num_avail bits at_ 10
  refine huffm_Find_spec (hc.fr f1 (by omega) (by omega) (by omega)) L hn (by omega) ha ?_
  have e : findR n l (ofBits ((bits.drop at_).take 10)) m = symAt n l bits at_ := by rw [hm]; rfl
  rw [e]
  by_cases hz : (symAt n l bits at_).2.2 = 0
  · have hb := sym_bound hcur hz
    rw [if_neg (by simp only [bne_iff_ne, ne_eq]; omega)]
    refine bitsm_Skip_spec h1 (by omega) (fun hl w2 h2 f2 => by omega) fun hl w2 h2 f2 => ?_
    exact hK hz w2 h2 ((f1.any t 1).trans f2)
  · rw [if_pos (by simp only [bne_iff_ne, ne_eq]; omega)]
    exact hbad hz w1 h1 f1

/-- The model's decoder in the middle of its work: the tape, the output, all of it new since w0. -/
structure MD (w0 w : World) (t g : Nat) (bits : List Bool) (o : Sl) (cu : Nat) (ou : List Nat) : Prop where
  tape : MTape w t g bits cu
  out : OS w o (byts ou) 1
  lt : ∀ x ∈ ou, x < 256
  olen : ou.length ≤ 256
  nt : ¬ owns o t
  ng : ¬ owns o g
  fr : Fr 0 0 w0 w
  tb : w0.heap.size ≤ t
  ob : ∀ b, owns o b → w0.heap.size ≤ b
  gl : g < w.heap.size
/-- The blocks that it may turn. -/
def mine (t : Nat) (o : Sl) (b : Nat) : Prop := b = t ∨ owns o b
variable {o : Sl} {cur : Nat} {out : List Nat}
theorem MD.len (h : MD w0 w t g bits o cur out) : o.l = out.length := by have := h.out.len; simp only [byts_length, Nat.mul_one] at this; omega
theorem MD.move {cur' : Nat} (h : MD w0 w t g bits o cur out) (h' : MTape w' t g bits cur') (f : Fr t 1 w w') : MD w0 w' t g bits o cur' out :=
  ⟨h', h.out.frp (FrP.of (P := fun b => b = t) f fun b h1 h2 => by omega) fun b hb e => h.nt (e ▸ hb), h.lt, h.olen, h.nt, h.ng, h.fr.thenNew f h.tb, h.tb, h.ob, by have := h.gl; have := f.1; omega⟩
theorem MD.ext (h : MD w0 w t g bits o cur out) (h' : MTape w' t g bits cur) (f : Fr 0 0 w w') : MD w0 w' t g bits o cur out := h.move h' (f.any t 1)
theorem MD.frp {P : Nat → Prop} (h : MD w0 w t g bits o cur out) (f : FrP P w w') (h1 : ¬ P t) (h2 : ¬ P g) (h3 : ∀ b, b < w.heap.size → owns o b → ¬ P b) (h4 : ∀ b, P b → w0.heap.size ≤ b) : MD w0 w' t g bits o cur out :=
  ⟨h.tape.frp f h1 h2, h.out.frp f fun b hb => h3 b (h.out.lt hb) hb, h.lt, h.olen, h.nt, h.ng, ⟨Nat.le_trans h.fr.1 f.1, fun b hb _ => by rw [f.2 b (by have := h.fr.1; omega) (fun hp => by have := h4 b hp; omega), h.fr.2 b hb (by omega)]⟩, h.tb, h.ob, by have := h.gl; have := f.1; omega⟩
/-- What is done to a block that was not there ahead. -/
theorem MD.new {p n cur0 : Nat} {out0 : List Nat} {w1 : World} (h : MD w0 w1 t g bits o cur out) (hw : w.heap.size ≤ p) (h0 : MD w0 w t g bits o cur0 out0) (f : Fr p n w1 w') : MD w0 w' t g bits o cur out := by
  have := h0.gl
  have := h0.tape.lt
  have := h0.fr.1
  exact h.frp (P := fun b => p ≤ b) (FrP.of f fun b h1 h2 => h1) (by omega) (by omega) (fun b _ hb hp => by have := h0.out.lt hb; omega) (fun b hb => by omega)
/-- One byte more. -/
theorem MD.push {x : Nat} {v : Int} {K : Sl → World → Prop} (h : MD w0 w t g bits o cur out) (hx : x < 256) (hl : out.length < 256) (hv : v = (x : Int))
    (hK : ∀ o' w', MD w0 w' t g bits o' cur (out ++ [x]) → grown w o o' → FrP (owns o) w w' → K o' w') :
    New w (.cells #[.int .u8 v] 5) fun p19 w => AppS 5 [.int .u8 0] 1 1 w o ⟨some ⟨p19, 0, none⟩, 1, 1⟩ K := by
  refine newB fun w1 b1 f1 s1 => ?_
  have hlen := h.len
  have o1 := h.out.frp (P := fun _ => False) (FrP.of0 f1) (fun _ _ => id)
  refine appO (new := [.int .u8 (x : Int)]) o1 (by rw [← hv]; exact b1) rfl (by omega) rfl rfl (by show (o.l + 1) * 1 ≤ _; omega) fun o' w2 o2 l2 gr f2 => ?_
  have fr : FrP (owns o) w w2 := (FrP.of0 f1).trans f2
  have hg : grown w o o' := by
    rcases gr with e | ⟨b, hb, e⟩
    · exact .inl e
    · exact .inr ⟨b, by omega, e⟩
  have htl := h.tape.lt
  refine hK o' w2 ⟨h.tape.frp fr h.nt h.ng, ?_, ?_, by simp; omega, fun ho => ?_, fun ho => ?_, ?_, h.tb, fun b ho => ?_, by have := h.gl; have := fr.1; omega⟩ hg fr
  · rw [show byts (out ++ [x]) = byts out ++ [.int .u8 (x : Int)] from by simp [byts]]
    exact o2
  · intro y hy
    simp only [List.mem_append, List.mem_cons, List.not_mem_nil, or_false] at hy
    rcases hy with hy | hy
    · exact h.lt y hy
    · omega
  · rcases hg.owns ho with h1 | h1
    · exact h.nt h1
    · omega
  · rcases hg.owns ho with h1 | h1
    · exact h.ng h1
    · have := h.gl; omega
  · have := h.fr
    exact ⟨Nat.le_trans h.fr.1 fr.1, fun b hb _ => by rw [fr.2 b (by have := h.fr.1; omega) (fun ho => by have := h.ob b ho; omega), h.fr.2 b hb (by omega)]⟩
  · rcases hg.owns ho with h1 | h1
    · exact h.ob b h1
    · have := h.fr.1; omega

/-- How a block ends: an error that is the machine's, or the machine is where the block is shut. -/
def BEnd (w0 w : World) (t g : Nat) (bits : List Bool) (o : Sl) (s : DS) (e : Nat) : Prop :=
  (e ≠ 0 ∧ (D bits s).1 = e ∧ ∃ c out, MD w0 w t g bits o c out) ∨
  (e = 0 ∧ ∃ s', D bits s = D bits (shutD bits s') ∧ s'.fin = s.fin ∧ s.cur ≤ s'.cur ∧ MD w0 w t g bits o s'.cur s'.out)

set_option maxRecDepth 10000 in
theorem blockm_token_spec {a xa ya b xb yb : Nat} {s : DS} {K : Sl → Bool → Int → World → Prop} (hp : s.ph = 5) (gd : GD bits s) (h : MD w0 w t g bits o s.cur s.out)
    (ha : MCod w a xa ya 265 s.set) (hb : MCod w b xb yb 8 (hiL s.set)) (n1 : ¬ mine t o a) (n2 : ¬ mine t o xa) (n3 : ¬ mine t o ya) (n4 : ¬ mine t o b) (n5 : ¬ mine t o xb) (n6 : ¬ mine t o yb)
    (hE : ∀ (e : Nat) w' c, e ≠ 0 → (D bits s).1 = e → MD w0 w' t g bits o c s.out → K o true (e : Int) w')
    (hD : ∀ w' c, D bits s = D bits (shutD bits { s with cur := c }) → s.cur ≤ c → MD w0 w' t g bits o c s.out → K o true 0 w')
    (hN : ∀ o' w' s', D bits s = D bits s' → s'.ph = 5 → GD bits s' → s'.set = s.set → s'.fin = s.fin → s.cur < s'.cur → MD w0 w' t g bits o' s'.cur s'.out → grown w o o' → FrP (mine t o) w w' → K o' false 0 w') :
    S.blockm_token t a b o w K := by
  unfold S.blockm_token
  obtain ⟨hset, hle⟩ := gd.set (by omega) (by omega)
  obtain ⟨c1, c2, c3, L1, L2⟩ := sets_lens hset hle
  have hlen := h.len
  have hol := h.olen
  have hst := step5 (bits := bits) hp
  have hcur := gd.cur
  refine blockm_symbol_spec h.tape ha L1 (by omega) (fun he w1 h1 f1 => ?_) fun he w1 h1 f1 => ?_
  · refine join_ ?_
    rw [if_pos (by simp only [bne_iff_ne, ne_eq]; omega)]
    have hs1 : step bits s = ((symAt 265 s.set bits s.cur).2.2, s) := by rw [hst]; unfold stSym; rw [if_pos he]
    refine hE (symAt 265 s.set bits s.cur).2.2 w1 s.cur he ?_ (h.ext h1 f1)
    rw [D_err (by omega) (by rw [hs1]; exact he), hs1]
  have sb := sym_bound hcur he
  have hst : step bits s = if (symAt 265 s.set bits s.cur).1 = 256 then (0, shutD bits { s with cur := s.cur + (symAt 265 s.set bits s.cur).2.1 })
      else if (symAt 265 s.set bits s.cur).1 < 256 then
        if 256 ≤ s.out.length then (10, s) else (0, { s with out := s.out ++ [(symAt 265 s.set bits s.cur).1], cur := s.cur + (symAt 265 s.set bits s.cur).2.1 })
      else (0, { s with ph := 6, run := (symAt 265 s.set bits s.cur).1 - 254, cur := s.cur + (symAt 265 s.set bits s.cur).2.1 }) := by
    rw [hst]; unfold stSym; rw [if_neg (by simpa using he)]
  generalize symAt 265 s.set bits s.cur = r at *
  obtain ⟨r1, rn, re⟩ := r
  dsimp only at *
  refine join_ ?_
  rw [if_neg (by simp)]
  have m1 := h.move h1 f1
  have fp1 : FrP (mine t o) w w1 := FrP.of f1 fun b h1 h2 => .inl (by omega)
  by_cases h256 : r1 = 256
  · rw [if_pos (by simp only [beq_iff_eq]; omega)]
    rw [if_pos h256] at hst
    exact hD w1 _ (D_step gd (by omega) hst) (by omega) m1
  rw [if_neg (by simp only [beq_iff_eq]; omega)]
  rw [if_neg h256] at hst
  by_cases hlit : r1 < 256
  · rw [if_pos (by simp only [decide_eq_true_eq]; omega)]
    rw [if_pos hlit] at hst
    by_cases hfull : 256 ≤ s.out.length
    · rw [if_pos (by simp only [decide_eq_true_eq]; omega)]
      rw [if_pos hfull] at hst
      refine hE 10 w1 _ (by omega) ?_ m1
      rw [D_err (by omega) (by rw [hst]; simp), hst]
    · rw [if_neg (by simp only [decide_eq_true_eq]; omega)]
      rw [if_neg hfull] at hst
      refine m1.push (x := r1) hlit (by omega) (by rw [U8_nat, Nat.mod_eq_of_lt hlit]) fun o' w2 m2 gr f2 => ?_
      have sg := (step_good gd (by omega) hst).1
      exact hN o' w2 _ (D_step gd (by omega) hst) hp sg rfl rfl (by show s.cur < s.cur + rn; omega) m2 (gr.onto id fun ⟨b, hb, e⟩ => ⟨b, by have := f1.1; omega, e⟩) (fp1.trans (f2.mono fun b hb => .inr hb))
  rw [if_neg (by simp only [decide_eq_true_eq]; omega)]
  rw [if_neg hlit] at hst
  have sg := (step_good gd (by omega) hst).1
  have hD1 := D_step gd (by omega) hst
  have hcb : a < w.heap.size := ha.rc.lt
  refine blockm_symbol_spec m1.tape (hb.frp fp1 n4 n5 n6) L2 (by omega) (fun he2 w2 h2 f2 => ?_) fun he2 w2 h2 f2 => ?_
  · rw [if_pos (by simp only [bne_iff_ne, ne_eq]; omega)]
    refine hE _ w2 _ he2 ?_ (m1.ext h2 f2)
    have hs2 : step bits { s with ph := 6, run := r1 - 254, cur := s.cur + rn } = ((symAt 8 (hiL s.set) bits (s.cur + rn)).2.2, { s with ph := 6, run := r1 - 254, cur := s.cur + rn }) := by
      rw [step6 rfl]; unfold stDist; rw [if_pos he2]
    rw [hD1, D_err (by simp) (by rw [hs2]; exact he2), hs2]
  rw [if_neg (by simp)]
  have sb2 := sym_bound m1.tape.cur he2
  have hs2 : step bits { s with ph := 6, run := r1 - 254, cur := s.cur + rn } = (0, { s with ph := 7, run := r1 - 254, dc := (symAt 8 (hiL s.set) bits (s.cur + rn)).1, cur := s.cur + rn + (symAt 8 (hiL s.set) bits (s.cur + rn)).2.1 }) := by
    rw [step6 rfl]; unfold stDist; rw [if_neg (by simpa using he2)]
  generalize symAt 8 (hiL s.set) bits (s.cur + rn) = q at *
  obtain ⟨c, cn, ce⟩ := q
  dsimp only at *
  have m2 := m1.move h2 f2
  have fp2 : FrP (mine t o) w w2 := fp1.trans (FrP.of f2 fun b h1 h2 => .inl (by omega))
  have sg2 := (step_good sg (by simp) hs2).1
  have hD2 := hD1.trans (D_step sg (by simp) hs2)
  refine api_DistBase_spec (by omega) ?_
  have hmr : dMore c ≤ 2 := by unfold dMore; split <;> (try split) <;> omega
  have hbs : 1 ≤ dBase c ∧ dBase c ≤ 13 := by unfold dBase; split <;> (try split) <;> omega
  have hs3 : step bits { s with ph := 7, run := r1 - 254, dc := c, cur := s.cur + rn + cn } = stMore bits { s with ph := 7, run := r1 - 254, dc := c, cur := s.cur + rn + cn } := step7 rfl
  unfold stMore at hs3
  dsimp only at hs3
  refine bitsm_Take_spec m2.tape (by omega) (fun hl w3 h3 f3 => ?_) fun hl w3 h3 f3 => ?_
  · rw [if_pos (by simp)]
    rw [if_pos hl] at hs3
    refine hE 4 w3 _ (by omega) ?_ (m2.ext h3 f3)
    rw [hD2, D_err (by simp) (by rw [hs3]; simp), hs3]
  rw [if_neg (by simp)]
  rw [if_neg (by omega)] at hs3
  have hxl : num bits (s.cur + rn + cn) (dMore c) < 2 ^ dMore c := num_lt' _ _ _
  have hp4 : 2 ^ dMore c ≤ 2 ^ 2 := Nat.pow_le_pow_right (by omega) hmr
  rw [show ofBits ((bits.drop (s.cur + rn + cn)).take (dMore c)) = num bits (s.cur + rn + cn) (dMore c) from rfl]
  generalize num bits (s.cur + rn + cn) (dMore c) = x at *
  have m3 := m2.move h3 f3
  have fp3 : FrP (mine t o) w w3 := fp2.trans (FrP.of f3 fun b h1 h2 => .inl (by omega))
  rw [show W (W (W ((r1 : Int) - 256) - 1) + 3) = ((r1 - 254 : Nat) : Int) from by rw [W_id (x := (r1 : Int) - 256) (by omega) (by omega), W_id (x := (r1 : Int) - 256 - 1) (by omega) (by omega), W_id (by omega) (by omega)]; omega]
  refine let_ ?_
  rw [W_add (by omega)]
  by_cases hdist : s.out.length < dBase c + x
  · rw [if_pos (by simp only [decide_eq_true_eq]; omega)]
    rw [if_pos hdist] at hs3
    refine hE 9 w3 _ (by omega) ?_ m3
    rw [hD2, D_err (by simp) (by rw [hs3]; simp), hs3]
  rw [if_neg (by simp only [decide_eq_true_eq]; omega)]
  rw [if_neg hdist] at hs3
  rw [W_add (by omega)]
  by_cases hout : 256 < s.out.length + (r1 - 254)
  · rw [if_pos (by simp only [decide_eq_true_eq]; omega)]
    rw [if_pos hout] at hs3
    refine hE 10 w3 _ (by omega) ?_ m3
    rw [hD2, D_err (by simp) (by rw [hs3]; simp), hs3]
  rw [if_neg (by simp only [decide_eq_true_eq]; omega)]
  rw [if_neg hout] at hs3
  have sg3 := (step_good sg2 (by simp) hs3).1
  have hD3 := hD2.trans (D_step sg2 (by simp) hs3)
  refine join_ ?_
  have hsz := fp3.1
  refine loopN (fun m st v => ∃ (k : Nat) (o' : Sl), st = (o', (k : Int), ()) ∧ m + k = r1 - 254 ∧ MD w0 v t g bits o' (s.cur + rn + cn + dMore c) (copyOut s.out (dBase c + x) k) ∧ grown w o o' ∧ FrP (mine t o) w v) (r1 - 254)
    ⟨0, o, rfl, by omega, m3, grown.refl _ _, fp3⟩ ?_
  rintro m _ v ⟨k, o', rfl, hm, mv, gr, fv⟩ Q hQ
  dsimp only
  by_cases hk : k < r1 - 254
  · rw [if_pos (by simp only [decide_eq_true_eq]; omega)]
    have hl' := mv.len
    have hcl := copyOut_len s.out (dBase c + x) k
    rw [show W (W ((o'.l : Int) - (dBase c : Int)) - (x : Int)) = (((copyOut s.out (dBase c + x) k).length - (dBase c + x) : Nat) : Int) from by
      rw [W_id (x := (o'.l : Int) - (dBase c : Int)) (by omega) (by omega), W_id (by omega) (by omega)]; omega]
    have hget : (copyOut s.out (dBase c + x) k)[(copyOut s.out (dBase c + x) k).length - (dBase c + x)]? = some ((copyOut s.out (dBase c + x) k).getD ((copyOut s.out (dBase c + x) k).length - (dBase c + x)) 0) := by
      rw [List.getD_eq_getElem?_getD, List.getElem?_eq_getElem (by omega)]
      rfl
    have hlt := getD_mem (i := (copyOut s.out (dBase c + x) k).length - (dBase c + x)) (p := fun y => y < 256) mv.lt (by omega)
    refine mv.out.rd hget ?_
    refine mv.push hlt (by omega) rfl fun o2 v2 mv2 gr2 f2 => ?_
    rw [W_succ (by omega)]
    have := fv.1
    exact let_ (hQ (m - 1) _ _ (by omega) ⟨k + 1, o2, rfl, by omega, mv2, gr.trans gr2 (by omega), fv.trans' f2 fun b hb => (gr.owns hb).onto .inr id⟩)
  · rw [if_neg (by simp only [decide_eq_true_eq]; omega)]
    have hke : k = r1 - 254 := by omega
    subst hke
    exact hN o' v _ hD3 rfl sg3 rfl rfl (by show s.cur < s.cur + rn + cn + dMore c; omega) mv gr fv
end Go.Proofs.Qxb6500563aGreat
