/-
  The real encoder: the choice, the laying, Pack, New.
-/
import Derived.Test.Qxb6500563aGreatEncS
namespace Go.Proofs.Qxb6500563aGreat
open Go.Den Go.Zip
set_option linter.unusedVariables false
set_option linter.unusedSimpArgs false
variable {w w' : World} {B : Nat} {s : PS}

set_option maxRecDepth 10000 in
theorem block_choose_spec {n : Nat} {K : Int → World → Prop} (h : PK w B s) (hn : n ≤ 256) (hc : ∀ i, s.count i ≤ 513) (hp : s.plan = planT s.count)
    (hK : ∀ w', PK w' B s → Fr B 33 w w' → K (chooseK n s.count : Int) w') : S.block_Packer_choose (B + 28) (n : Int) w K := by
  unfold S.block_Packer_choose
  have hple : ∀ i, i < 273 → s.plan i ≤ 10 := fun i hi => by rw [hp]; exact (plan_le s.count i hi).1
  rw [show W (8 * W (3 + (n : Int))) = ((24 + 8 * n : Nat) : Int) from by rw [W_id (x := 3 + (n : Int)) (by omega) (by omega), W_id (by omega) (by omega)]; omega]
  refine let_ (block_bodies_spec h hc hple ?_)
  have b1 := cost_le (l := fixL) hc (fun i _ => fix_le i) (Nat.le_refl 273)
  have b2 := cost_le (l := s.plan) hc hple (Nat.le_refl 273)
  have b3 : listC s.plan ≤ 3003 := by
    unfold listC
    have := sum_le_c itemC 11 (itemsL s.plan) fun t ht => by have := (items_ok hple t ht).2.1; unfold itemC; omega
    have := items_len s.plan
    omega
  refine block_list_spec (lay := false) h hple (fun e => by cases e) fun w1 h1 f1 => ?_
  have h1 : PK w1 B s := h1
  have := hK w1 h1 f1
  unfold chooseK at this
  rw [← hp] at this
  generalize costTo s.count fixL 273 = x at *
  generalize costTo s.count s.plan 273 = y at *
  generalize listC s.plan = z at *
  rw [show W ((x : Int) + 3) = ((3 + x : Nat) : Int) from by rw [W_id (by omega) (by omega)]; omega]
  rw [show W (W ((y : Int) + 3) + (z : Int)) = ((3 + z + y : Nat) : Int) from by rw [W_id (x := (y : Int) + 3) (by omega) (by omega), W_id (by omega) (by omega)]; omega]
  refine let_ (let_ (join_ ?_))
  by_cases c1 : 24 + 8 * n ≤ 3 + x
  · rw [if_pos (by simp only [decide_eq_true_eq]; omega)]
    by_cases c2 : 24 + 8 * n ≤ 3 + z + y
    · rw [if_pos (by simp only [decide_eq_true_eq]; omega)]
      rw [if_pos ⟨c1, c2⟩] at this; exact this
    · rw [if_neg (by simp only [decide_eq_true_eq]; omega)]
      rw [if_neg (by omega)] at this
      by_cases c3 : 3 + x ≤ 3 + z + y
      · rw [if_pos (by simp only [decide_eq_true_eq]; omega)]
        rw [if_pos c3] at this; exact this
      · rw [if_neg (by simp only [decide_eq_true_eq]; omega)]
        rw [if_neg c3] at this; exact this
  · rw [if_neg (by simp only [decide_eq_true_eq]; omega)]
    rw [if_neg (by omega)] at this
    by_cases c3 : 3 + x ≤ 3 + z + y
    · rw [if_pos (by simp only [decide_eq_true_eq]; omega)]
      rw [if_pos c3] at this; exact this
    · rw [if_neg (by simp only [decide_eq_true_eq]; omega)]
      rw [if_neg c3] at this; exact this

theorem block_stored_spec {data : ByteArray} {K : World → Prop} (h : PK w B s) (hd : data.size ≤ 256) (hb : s.bits.length = 3)
    (hK : ∀ w', PK w' B { s with bits := s.bits ++ (List.replicate 5 false ++ bitsOf data.size 16 ++ sbits (bt data)) } → Fr B 33 w w' → K w') : S.block_Packer_stored (B + 28) data w K := by
  unfold S.block_Packer_stored
  refine ldP h.rc rfl (pad_spec h.tape fun w1 t1 f1 => ?_)
  rw [show (s.bits.length + 7) / 8 * 8 - s.bits.length = 5 from by omega] at t1
  have h1 := h.setTape t1 f1
  have F1 := f1.mono (q := B) (m := 33) (by omega) (by omega)
  refine ldP h1.rc rfl (put_spec (v := data.size) (k := 16) h1.tape (by omega) (by omega) (by show (s.bits ++ List.replicate 5 false).length + 16 ≤ 4096; simp; omega) fun w2 t2 f2 => ?_)
  have h2 := h1.setTape t2 f2
  have F2 := F1.trans (f2.mono (q := B) (m := 33) (by omega) (by omega))
  refine loopN (fun m st v => ∃ i : Nat, st = ((i : Int), ()) ∧ m + i = data.size ∧ PK v B { s with bits := s.bits ++ (List.replicate 5 false ++ bitsOf data.size 16 ++ sbits ((bt data).take i)) } ∧ Fr B 33 w v) data.size
    ⟨0, rfl, rfl, ?_, F2⟩ ?_
  · have e : s.bits ++ (List.replicate 5 false ++ bitsOf data.size 16 ++ sbits ((bt data).take 0)) = s.bits ++ List.replicate 5 false ++ bitsOf data.size 16 := by simp [sbits]
    rw [e]
    exact h2
  rintro m _ v ⟨i, rfl, hm, hv, fv⟩ Q hQ
  dsimp only
  have hsl : (sbits ((bt data).take i)).length = i * 8 := by rw [sbits_length, List.length_take, bt_length, Nat.min_eq_left (by omega)]
  by_cases hi : i < data.size
  · rw [if_pos (by simp only [decide_eq_true_eq]; omega)]
    have hget : (bt data)[i]? = some ((bt data)[i]'(by simpa using hi)) := List.getElem?_eq_getElem _
    have hx := bt_get_lt hget
    generalize (bt data)[i]'(by simpa using hi) = x at *
    refine drew_ (ldP hv.drew.rc rfl ?_)
    refine ixStr (by omega) (by rw [Int.toNat_natCast]; exact hget) ?_
    rw [W_nat (by omega)]
    refine put_spec (v := x) (k := 8) hv.drew.tape (by omega) (by omega) (by simp only [List.length_append, bitsOf_length, List.length_replicate, hsl]; omega) fun v2 t2 f2 => ?_
    have f2 : Fr B 2 v v2 := f2
    have h2 := hv.setTape t2 f2
    rw [W_succ (by omega)]
    refine let_ (hQ (m - 1) _ _ (by omega) ⟨i + 1, rfl, by omega, ?_, fv.trans (f2.mono (by omega) (by omega))⟩)
    rw [sbits_succ hget]
    simp only [List.append_assoc] at h2 ⊢
    exact h2
  · rw [if_neg (by simp only [decide_eq_true_eq]; omega)]
    have hte : (bt data).take i = bt data := List.take_of_length_le (by simp; omega)
    rw [hte] at hv
    exact hK v hv fv

set_option maxRecDepth 10000 in
theorem block_fixed_spec {K : World → Prop} (h : PK w B s) (hK : ∀ w', PK w' B { s with plan := fixL } → Fr B 33 w w' → K w') : S.block_Packer_fixed (B + 28) w K := by
  unfold S.block_Packer_fixed
  refine join_ ?_
  refine loopN (fun m st v => ∃ i : Nat, st = ((i : Int), ()) ∧ m + i = 265 ∧ PK v B { s with plan := mix i fixL s.plan } ∧ Fr B 33 w v) 265 ⟨0, rfl, rfl, by rw [mix_zero]; exact h, Fr.refl _ _ _⟩ ?_
  rintro m _ v ⟨i, rfl, hm, hv, fv⟩ Q hQ
  dsimp only
  by_cases hi : i < 265
  · rw [if_pos (by simp only [decide_eq_true_eq]; omega)]
    refine drew_ ?_
    show Hold _ _ _ _
    unfold Hold
    refine ldS hv.drew.rc rfl ?_
    refine api_FixedLen_spec hi ⟨fun i hi => rfl, ?_⟩
    refine wrN hv.drew.plan (by omega) rfl fun v2 d2 f2 _ => ?_
    have d2 : Blk v2 (B + 30) (nats 273 (fset (mix i fixL s.plan) i (fixL i))) := d2
    rw [mix_set] at d2
    have f2 : Fr (B + 30) 1 v v2 := f2
    rw [W_succ (by omega)]
    exact let_ (hQ (m - 1) _ _ (by omega) ⟨i + 1, rfl, by omega, hv.setPlan d2 f2, fv.trans (f2.mono (by omega) (by omega))⟩)
  rw [if_neg (by simp only [decide_eq_true_eq]; omega)]
  have e : i = 265 := by omega
  subst e
  refine loopN (fun m st v => ∃ j : Nat, st = ((j : Int), ()) ∧ m + j = 8 ∧ PK v B { s with plan := mix (265 + j) fixL s.plan } ∧ Fr B 33 w v) 8 ⟨0, rfl, rfl, hv, fv⟩ ?_
  rintro m _ v ⟨j, rfl, hm, hv, fv⟩ Q hQ
  dsimp only
  by_cases hj : j < 8
  · rw [if_pos (by simp only [decide_eq_true_eq]; omega)]
    refine ldS hv.rc rfl ?_
    rw [show W (265 + (j : Int)) = ((265 + j : Nat) : Int) from by rw [W_id (by omega) (by omega)]; omega]
    refine wrN (v := fixL (265 + j)) hv.plan (by omega) (by rw [fix_hi]; rfl) fun v2 d2 f2 _ => ?_
    have d2 : Blk v2 (B + 30) (nats 273 (fset (mix (265 + j) fixL s.plan) (265 + j) (fixL (265 + j)))) := d2
    rw [mix_set] at d2
    rw [W_succ (by omega)]
    exact let_ (hQ (m - 1) _ _ (by omega) ⟨j + 1, rfl, by omega, hv.setPlan d2 f2, fv.trans (f2.mono (by omega) (by omega))⟩)
  · rw [if_neg (by simp only [decide_eq_true_eq]; omega)]
    have e : j = 8 := by omega
    subst e
    refine hK v ⟨hv.tape, hv.ca, hv.cb, hv.z, hv.rc, hv.count, ?_, hv.code, hv.wide⟩ fv
    have := hv.plan
    rw [nats_congr (g := fixL) (mix_all fixL s.plan)] at this
    exact this

/-- The tables hold the codes of the symbols that are used. -/
def Fetched (s : PS) (l : Nat → Nat) (n : Nat) : Prop := ∀ i, i < n → 0 < s.count i → bitsOf (s.code i) (s.wide i) = symB l i ∧ s.wide i = l i ∧ s.code i < 2 ^ l i
set_option maxRecDepth 10000 in
theorem block_fetch_spec {l : Nat → Nat} {K : World → Prop} (h : PK w B s) (L : LawfulL s.count l) (H1 : HoldsC s.sa 265 l) (H2 : HoldsC s.sb 8 (hiL l))
    (hK : ∀ w' code wide, PK w' B { s with code := code, wide := wide } → Fetched { s with code := code, wide := wide } l 273 → Fr B 33 w w' → K w') : S.block_Packer_fetch (B + 28) w K := by
  unfold S.block_Packer_fetch
  refine join_ ?_
  -- one symbol more
  have hit : ∀ {code wide : Nat → Nat} {i c : Nat}, Fetched { s with code := code, wide := wide } l i → bitsOf c (l i) = symB l i → c < 2 ^ l i → Fetched { s with code := fset code i c, wide := fset wide i (l i) } l (i + 1) := by
    intro code wide i c hf hc hlt j hj hcj
    show bitsOf (fset code i c j) (fset wide i (l i) j) = symB l j ∧ fset wide i (l i) j = l j ∧ fset code i c j < 2 ^ l j
    by_cases e : j = i
    · subst e; rw [fset_eq, fset_eq]; exact ⟨hc, rfl, hlt⟩
    · rw [fset_ne e, fset_ne e]; exact hf j (by omega) hcj
  have miss : ∀ {code wide : Nat → Nat} {i : Nat}, Fetched { s with code := code, wide := wide } l i → s.count i = 0 → Fetched { s with code := code, wide := wide } l (i + 1) := by
    intro code wide i hf hz j hj hcj
    have hcj : 0 < s.count j := hcj
    by_cases e : j = i
    · subst e; omega
    · exact hf j (by omega) hcj
  refine loopN (fun m st v => ∃ (i : Nat) (code wide : Nat → Nat), st = ((i : Int), ()) ∧ m + i = 265 ∧ PK v B { s with code := code, wide := wide } ∧ Fetched { s with code := code, wide := wide } l i ∧ Fr B 33 w v) 265
    ⟨0, s.code, s.wide, rfl, rfl, h, fun i hi => by omega, Fr.refl _ _ _⟩ ?_
  rintro m _ v ⟨i, code, wide, rfl, hm, hv, hf, fv⟩ Q hQ
  dsimp only
  by_cases hi : i < 265
  · rw [if_pos (by simp only [decide_eq_true_eq]; omega)]
    refine join_ (ldS hv.rc rfl (rdN hv.count (by omega) ?_))
    by_cases hz : 0 < s.count i
    · rw [if_pos (by simp only [decide_eq_true_eq]; show (s.count i : Int) > 0; omega)]
      have hli := L.pos i (by omega) hz
      refine ldP hv.rc rfl (rc_Code hv.ca H1 (by omega) hi hli fun v1 e1 => ?_)
      have h1 := hv.heq e1
      refine ldS h1.rc rfl (wrN h1.code (by omega) rfl fun v2 d2 f2 _ => ?_)
      have h2 := h1.setCode d2 f2
      refine ldS h2.rc rfl (wrN h2.wide (by omega) rfl fun v3 d3 f3 _ => ?_)
      have h3 := h2.setWide d3 f3
      rw [W_succ (by omega)]
      exact let_ (hQ (m - 1) _ _ (by omega) ⟨i + 1, _, _, rfl, by omega, h3, hit hf (symB_lo hi).symm (code_lt _ _ _), ((Fr.heq fv e1).trans (f2.mono (by omega) (by omega))).trans (f3.mono (by omega) (by omega))⟩)
    · rw [if_neg (by simp only [decide_eq_true_eq]; show ¬ (s.count i : Int) > 0; omega), W_succ (by omega)]
      exact let_ (hQ (m - 1) _ _ (by omega) ⟨i + 1, code, wide, rfl, by omega, hv, miss hf (by omega), fv⟩)
  rw [if_neg (by simp only [decide_eq_true_eq]; omega)]
  have e : i = 265 := by omega
  subst e
  refine loopN (fun m st v => ∃ (j : Nat) (code wide : Nat → Nat), st = ((j : Int), ()) ∧ m + j = 8 ∧ PK v B { s with code := code, wide := wide } ∧ Fetched { s with code := code, wide := wide } l (265 + j) ∧ Fr B 33 w v) 8
    ⟨0, code, wide, rfl, rfl, hv, hf, fv⟩ ?_
  rintro m _ v ⟨j, code, wide, rfl, hm, hv, hf, fv⟩ Q hQ
  dsimp only
  by_cases hj : j < 8
  · rw [if_pos (by simp only [decide_eq_true_eq]; omega)]
    rw [show W (265 + (j : Int)) = ((265 + j : Nat) : Int) from by rw [W_id (by omega) (by omega)]; omega]
    refine join_ (ldS hv.rc rfl (rdN hv.count (by omega) ?_))
    by_cases hz : 0 < s.count (265 + j)
    · rw [if_pos (by simp only [decide_eq_true_eq]; show (s.count (265 + j) : Int) > 0; omega)]
      have hli := L.pos (265 + j) (by omega) hz
      refine ldP hv.rc rfl (rc_Code hv.cb H2 (by omega) hj hli fun v1 e1 => ?_)
      have h1 := hv.heq e1
      refine ldS h1.rc rfl (wrN h1.code (by omega) rfl fun v2 d2 f2 _ => ?_)
      have h2 := h1.setCode d2 f2
      refine ldS h2.rc rfl (wrN h2.wide (by omega) rfl fun v3 d3 f3 _ => ?_)
      have h3 := h2.setWide d3 f3
      rw [W_succ (by omega)]
      exact let_ (hQ (m - 1) _ _ (by omega) ⟨j + 1, _, _, rfl, by omega, h3, hit hf (symB_hi l j).symm (code_lt _ _ _), ((Fr.heq fv e1).trans (f2.mono (by omega) (by omega))).trans (f3.mono (by omega) (by omega))⟩)
    · rw [if_neg (by simp only [decide_eq_true_eq]; show ¬ (s.count (265 + j) : Int) > 0; omega), W_succ (by omega)]
      exact let_ (hQ (m - 1) _ _ (by omega) ⟨j + 1, code, wide, rfl, by omega, hv, miss hf (show s.count (265 + j) = 0 by omega), fv⟩)
  · rw [if_neg (by simp only [decide_eq_true_eq]; omega)]
    have e : j = 8 := by omega
    subst e
    exact hK v code wide hv hf fv

theorem block_sym_spec {l : Nat → Nat} {i : Nat} {K : World → Prop} (h : PK w B s) (hf : Fetched s l 273) (hi : i < 273) (hc : 0 < s.count i) (hl : l i ≤ 10) (hb : s.bits.length + l i ≤ 4096)
    (hK : ∀ w', PK w' B { s with bits := s.bits ++ symB l i } → Fr B 33 w w' → K w') : S.block_Packer_sym (B + 28) (i : Int) w K := by
  unfold S.block_Packer_sym
  obtain ⟨f1, f2, f3⟩ := hf i hi hc
  refine drew_ (ldP h.drew.rc rfl (ldS h.drew.rc rfl (rdN h.drew.code hi (ldS h.drew.rc rfl (rdN h.drew.wide hi ?_)))))
  refine put_spec h.drew.tape (by rw [f2]; exact f3) (by omega) (by omega) fun w1 t1 g1 => ?_
  have g1 : Fr B 2 w w1 := g1
  rw [f1] at t1
  exact hK w1 (h.setTape t1 g1) (g1.mono (by omega) (by omega))

set_option maxRecDepth 10000 in
theorem block_tokens_spec {l : Nat → Nat} {tb : Nat} {toks : List Tok} {K : World → Prop} (h : PK w B s) (hf : Fetched s l 273) (L : LawfulL s.count l) (hcnt : s.count = cntT toks) (ht : Blk w tb (toks.flatMap tokv)) (htb : tb < B ∨ B + 33 ≤ tb)
    (hok : ∀ t ∈ toks, TokOK t) (htl : toks.length ≤ 256) (hl : s.bits.length + (toks.flatMap (tokB l) ++ symB l 256).length ≤ 4096)
    (hK : ∀ w', PK w' B { s with bits := s.bits ++ (toks.flatMap (tokB l) ++ symB l 256) } → Fr B 33 w w' → K w') : S.block_Packer_tokens (B + 28) ⟨some ⟨tb, 0, none⟩, toks.length, toks.length⟩ w K := by
  unfold S.block_Packer_tokens
  simp only [List.length_append] at hl
  have hps : ∀ t ∈ toks, ∀ x ∈ symsOf t, 0 < s.count x := fun t h1 x h2 => by rw [hcnt]; exact cnt_pos h1 h2
  refine loopN (fun m st v => ∃ k : Nat, st = ((k : Int), ()) ∧ m + k = toks.length ∧ PK v B { s with bits := s.bits ++ (toks.take k).flatMap (tokB l) } ∧ Blk v tb (toks.flatMap tokv) ∧ Fr B 33 w v) toks.length
    ⟨0, rfl, rfl, by simpa using h, ht, Fr.refl _ _ _⟩ ?_
  rintro m _ v ⟨k, rfl, hm, hv, tv, fv⟩ Q hQ
  dsimp only
  by_cases hk : k < toks.length
  · rw [if_pos (by simp only [decide_eq_true_eq]; omega)]
    have htk : toks[k]? = some toks[k] := List.getElem?_eq_getElem hk
    have hmem := List.getElem_mem hk
    have hto := hok _ hmem
    have hpt := hps _ hmem
    obtain ⟨fs1, fs2⟩ := flat_split (tokB l) htk
    generalize toks[k] = t at *
    refine join_ (rdTok0 tv htk ?_)
    rcases hto with ⟨t1, t2⟩ | ⟨t1, t2, t3, t4⟩
    · rw [if_pos (by simp only [beq_iff_eq]; omega)]
      refine rdTok2 tv htk ?_
      have htB : tokB l t = symB l t.2.2 := by unfold tokB; rw [if_pos t1]
      have hlb : (tokB l t).length = l t.2.2 := by rw [htB, symB_len]
      refine block_sym_spec hv hf (by omega) (hpt _ (by unfold symsOf; rw [if_pos t1]; simp)) (L.le _ (by omega)) (by show (s.bits ++ (toks.take k).flatMap (tokB l)).length + _ ≤ _; simp only [List.length_append]; omega) fun v2 h2 f2 => ?_
      rw [W_succ (by omega)]
      refine let_ (hQ (m - 1) _ _ (by omega) ⟨k + 1, rfl, by omega, ?_, tv.fr f2 (by omega), fv.trans f2⟩)
      rw [fs1, htB, ← List.append_assoc]
      exact h2
    · rw [if_neg (by simp only [beq_iff_eq]; omega)]
      obtain ⟨d1, d2, d3⟩ := dCode_facts t3 t4
      have hmr := dMore_le (dCode t.2.1)
      have htB : tokB l t = symB l (254 + t.1) ++ symB l (265 + dCode t.2.1) ++ bitsOf (t.2.1 - dBase (dCode t.2.1)) (dMore (dCode t.2.1)) := by unfold tokB; rw [if_neg (by omega)]
      have hlb : (tokB l t).length = l (254 + t.1) + l (265 + dCode t.2.1) + dMore (dCode t.2.1) := by rw [htB]; simp [symB_len]; omega
      refine block_lenSym_spec t1 t2 ?_
      refine block_sym_spec hv hf (by omega) (hpt _ (by unfold symsOf; rw [if_neg (by omega)]; simp)) (L.le _ (by omega)) (by show (s.bits ++ (toks.take k).flatMap (tokB l)).length + _ ≤ _; simp only [List.length_append]; omega) fun v2 h2 f2 => ?_
      have tv2 := tv.fr f2 (by omega)
      refine rdTok1 tv2 htk ?_
      refine api_DistCode_spec t3 t4 ?_
      rw [show W (265 + (dCode t.2.1 : Int)) = ((265 + dCode t.2.1 : Nat) : Int) from by rw [W_id (by omega) (by omega)]; omega]
      refine block_sym_spec h2 hf (by omega) (hpt _ (by unfold symsOf; rw [if_neg (by omega)]; simp)) (L.le _ (by omega)) (by show (s.bits ++ (toks.take k).flatMap (tokB l) ++ symB l (254 + t.1)).length + _ ≤ _; simp only [List.length_append, symB_len]; omega) fun v3 h3 f3 => ?_
      have tv3 := tv2.fr f3 (by omega)
      have F3 := (fv.trans f2).trans f3
      refine api_DistBase_spec d1 ?_
      by_cases hm0 : 0 < dMore (dCode t.2.1)
      · rw [if_pos (by simp only [decide_eq_true_eq]; omega)]
        rw [show W ((t.2.1 : Int) - (dBase (dCode t.2.1) : Int)) = ((t.2.1 - dBase (dCode t.2.1) : Nat) : Int) from by rw [W_id (by omega) (by omega)]; omega]
        refine ldP h3.rc rfl (put_spec h3.tape d3 (by omega) (by show (s.bits ++ (toks.take k).flatMap (tokB l) ++ symB l (254 + t.1) ++ symB l (265 + dCode t.2.1)).length + _ ≤ _; simp only [List.length_append, symB_len]; omega) fun v4 t4' f4 => ?_)
        have h4 := h3.setTape t4' f4
        rw [W_succ (by omega)]
        refine let_ (hQ (m - 1) _ _ (by omega) ⟨k + 1, rfl, by omega, ?_, tv3.fr f4 (by omega), F3.trans (f4.mono (by omega) (by omega))⟩)
        rw [fs1, htB]
        simp only [List.append_assoc] at h4 ⊢
        exact h4
      · rw [if_neg (by simp only [decide_eq_true_eq]; omega), W_succ (by omega)]
        refine let_ (hQ (m - 1) _ _ (by omega) ⟨k + 1, rfl, by omega, ?_, tv3, F3⟩)
        have e0 : bitsOf (t.2.1 - dBase (dCode t.2.1)) (dMore (dCode t.2.1)) = [] := by rw [show dMore (dCode t.2.1) = 0 from by omega]; rfl
        rw [fs1, htB, e0, List.append_nil]
        simp only [List.append_assoc] at h3 ⊢
        exact h3
  · rw [if_neg (by simp only [decide_eq_true_eq]; omega)]
    have hte : toks.take k = toks := List.take_of_length_le (by omega)
    rw [hte] at hv
    have hsl := symB_len l 256
    refine block_sym_spec (i := 256) hv hf (by omega) (by show 0 < s.count 256; rw [hcnt]; exact cnt_eob toks) (L.le 256 (by omega)) (by show (s.bits ++ toks.flatMap (tokB l)).length + _ ≤ _; simp only [List.length_append]; omega) fun v2 h2 f2 => ?_
    refine hK v2 ?_ (fv.trans f2)
    rw [← List.append_assoc]
    exact h2

set_option maxRecDepth 10000 in
theorem block_coded_spec {kind : Nat} {tb : Nat} {toks : List Tok} {K : World → Prop} (h : PK w B s) (hk : kind = 1 ∨ kind = 2) (hcnt : s.count = cntT toks) (hpl : s.plan = planT s.count) (ht : Blk w tb (toks.flatMap tokv)) (htb : tb < B ∨ B + 33 ≤ tb)
    (hok : ∀ t ∈ toks, TokOK t) (htl : toks.length ≤ 256) (hb : s.bits.length = 3)
    (hl : 3 + ((if kind = 2 then listB (lensK kind s.count) else []) ++ toks.flatMap (tokB (lensK kind s.count)) ++ symB (lensK kind s.count) 256).length ≤ 4096)
    (hK : ∀ w' s', PK w' B s' → s'.bits = s.bits ++ ((if kind = 2 then listB (lensK kind s.count) else []) ++ toks.flatMap (tokB (lensK kind s.count)) ++ symB (lensK kind s.count) 256) → Fr B 33 w w' → K w') :
    S.block_Packer_coded (B + 28) (kind : Int) ⟨some ⟨tb, 0, none⟩, toks.length, toks.length⟩ w K := by
  unfold S.block_Packer_coded
  have hlw := LawfulK kind s.count
  refine join_ ?_
  have go : ∀ (v : World), PK v B { s with plan := lensK kind s.count } → Blk v tb (toks.flatMap tokv) → Fr B 33 w v → (Drew v fun w =>
    LdP w ⟨B + 28, 1, none⟩ fun a_1 =>
    LdS w ⟨B + 28, 5, none⟩ fun plan_2 =>
    CutS 1 plan_2 0 265 (plan_2.c : Int) fun l3 =>
    S.huff_Coder_Build a_1 l3 w (fun r4 w =>
    Drew w fun w =>
    LdP w ⟨B + 28, 2, none⟩ fun b_5 =>
    LdS w ⟨B + 28, 5, none⟩ fun plan_6 =>
    CutS 1 plan_6 265 (plan_6.l : Int) (plan_6.c : Int) fun l7 =>
    S.huff_Coder_Build b_5 l7 w (fun r8 w =>
    Join (fun (w : World) =>
      S.block_Packer_fetch (B + 28) w (fun w =>
      S.block_Packer_tokens (B + 28) ⟨some ⟨tb, 0, none⟩, toks.length, toks.length⟩ w (fun w =>
      K w))) fun J9 =>
    if ((kind : Int) == 2) = true then
      S.block_Packer_list (B + 28) true w (fun r10 w =>
      J9 w)
    else
      J9 w))) := by
    intro v hv tv fv
    generalize lensK kind s.count = l at *
    refine drew_ (ldP hv.drew.rc rfl (ldS hv.drew.rc rfl ?_))
    refine cutS (lo := 0) (hi := 265) (mx := 273) (bb := B + 30) rfl (by omega) (by omega) (by show 273 ≤ 273; omega) (by omega) ?_
    have i1 : IS v.drew ⟨some ⟨B + 30, 0 * 1, none⟩, 265 - 0, 273 - 0⟩ (B + 30) 265 l := by
      have := IS.win (c := 273) (o := 0) (n := 265) hv.drew.plan (by omega)
      simpa using this
    have hvl := hv.lt
    refine huff_Build_spec (l := l) (n := 265) hv.drew.ca i1 (by omega) (by omega) (fun i hi => hlw.le i (by omega)) (fun hz => absurd hlw.ca hz) (fun _ v1 sa c1 H1 f1 => ?_)
    have f1 : Fr (B + 2) 11 v v1 := f1
    have h1 := hv.setCa c1 f1
    have tv1 := tv.fr f1 (by omega)
    refine drew_ (ldP h1.drew.rc rfl (ldS h1.drew.rc rfl ?_))
    refine cutS (lo := 265) (hi := 273) (mx := 273) (bb := B + 30) rfl (by omega) (by omega) (by show 273 ≤ 273; omega) (by omega) ?_
    have i2 : IS v1.drew ⟨some ⟨B + 30, 265 * 1, none⟩, 273 - 265, 273 - 265⟩ (B + 30) 8 (hiL l) := IS.win (c := 8) (o := 265) (n := 8) h1.drew.plan (by omega)
    refine huff_Build_spec (l := hiL l) (n := 8) h1.drew.cb i2 (by omega) (by omega) (fun i hi => hlw.le (265 + i) (by omega)) (fun hz => absurd hlw.cb hz) (fun _ v2 sb c2 H2 f2 => ?_)
    have f2 : Fr (B + 13) 11 v1 v2 := f2
    have h2 := h1.setCb c2 f2
    have tv2 := tv1.fr f2 (by omega)
    have F2 := (fv.trans (f1.mono (q := B) (m := 33) (by omega) (by omega))).trans (f2.mono (q := B) (m := 33) (by omega) (by omega))
    refine join_ ?_
    have fin : ∀ (u : World) (pre : List Bool), PK u B { s with plan := l, sa := sa, sb := sb, bits := s.bits ++ pre } → Blk u tb (toks.flatMap tokv) → Fr B 33 w u → pre = (if kind = 2 then listB l else []) → (S.block_Packer_fetch (B + 28) u (fun w =>
      S.block_Packer_tokens (B + 28) ⟨some ⟨tb, 0, none⟩, toks.length, toks.length⟩ w (fun w =>
      K w))) := by
      intro u pre hu tu fu hpre
      rw [← hpre] at hl hK
      simp only [List.length_append] at hl
      refine block_fetch_spec (l := l) hu hlw H1 H2 fun u1 code wide k1 hf1 g1 => ?_
      refine block_tokens_spec (l := l) k1 hf1 hlw hcnt (tu.fr g1 (by omega)) htb hok htl (by show (s.bits ++ pre).length + _ ≤ _; simp only [List.length_append]; omega) fun u2 k2 g2 => ?_
      refine hK u2 _ k2 ?_ ((fu.trans g1).trans g2)
      simp only [List.append_assoc]
    by_cases k2 : kind = 2
    · rw [if_pos (by simp only [beq_iff_eq]; omega)]
      refine block_list_spec (lay := true) h2 hlw.le (fun _ => by show s.bits.length ≤ 1000; omega) fun v3 h3 f3 => ?_
      exact fin v3 (listB l) h3 (tv2.fr f3 (by omega)) (F2.trans f3) (by rw [if_pos k2])
    · rw [if_neg (by simp only [beq_iff_eq]; omega)]
      refine fin v2 [] ?_ tv2 F2 (by rw [if_neg k2])
      rw [List.append_nil]
      exact h2
  rcases hk with k1 | k2
  · rw [if_pos (by simp only [beq_iff_eq]; omega)]
    have hlk : lensK kind s.count = fixL := by unfold lensK; rw [if_neg (by omega)]
    rw [hlk] at go
    refine block_fixed_spec h fun v hv fv => ?_
    exact go v hv (ht.fr fv (by omega)) fv
  · rw [if_neg (by simp only [beq_iff_eq]; omega)]
    have hlk : lensK kind s.count = planT s.count := by unfold lensK; rw [if_pos k2]
    refine go w ?_ ht (Fr.refl _ _ _)
    rw [hlk, ← hpl]
    exact h

set_option maxRecDepth 10000 in
theorem block_Pack_spec {data : ByteArray} {level : Nat} {K : ByteArray → Int → World → Prop} (h : PK w B s) (hd : data.size ≤ 256) (hv : level ≤ 2)
    (hK : ∀ w' s', PK w' B s' → Fr B 33 w w' → K (textOf (packB level (bt data))) 0 w') : S.block_Packer_Pack (B + 28) data (level : Int) w K := by
  unfold S.block_Packer_Pack
  have hlt := h.lt
  rw [if_neg (by simp only [decide_eq_true_eq]; omega), if_neg (by simp only [decide_eq_true_eq]; omega), if_neg (by simp only [decide_eq_true_eq]; omega)]
  refine ldP h.rc rfl (lz_Parse_spec hd hv h.z fun sl w1 T1 z1 f1 => ?_)
  obtain ⟨tb, b1, rfl, htb⟩ := T1.ex
  have h1 := h.setZ z1 f1
  have hbd : ∀ x ∈ bt data, x < 256 := fun x hx => bt_lt hx
  have hok := tokens_ok (level := level) hbd
  have htl := tokens_len level (bt data)
  rw [bt_length] at htl
  have hpk := pack_len level hbd
  unfold packB at hK hpk
  rw [bt_length] at hK hpk
  generalize tokens level (bt data) = toks at *
  have htB : tb < B ∨ B + 33 ≤ tb := by omega
  have F1 := f1.mono (q := B) (m := 33) (by omega) (by omega)
  refine block_tally_spec h1 b1 htB hok (by omega) fun w2 h2 f2 => ?_
  have b2 := b1.fr f2 (by omega)
  have F2 := F1.trans (f2.mono (q := B) (m := 33) (by omega) (by omega))
  have hcl : ∀ i, cntT toks i ≤ 513 := fun i => by have := cnt_le toks i; omega
  refine block_lengths_spec h2 (fun i => by have := hcl i; show cntT toks i ≤ _; omega) fun w3 h3 f3 => ?_
  have b3 := b2.fr f3 (by omega)
  have F3 := F2.trans f3
  refine block_choose_spec h3 hd hcl rfl fun w4 h4 f4 => ?_
  have b4 := b3.fr f4 (by omega)
  have F4 := F3.trans f4
  change ByteArray → Int → World → Prop at K
  have hch : chooseK data.size ({ s with count := cntT toks, plan := planT (cntT toks) } : PS).count = chooseK data.size (cntT toks) := rfl
  have hc2 : chooseK data.size (cntT toks) ≤ 2 := by rcases choose_cases data.size (cntT toks) with h | ⟨h, _⟩ | ⟨h, _⟩ <;> omega
  show LdP w4 ⟨B + 28, 0, none⟩ _
  refine ldP h4.rc rfl (reset_spec h4.tape fun w5 t5 f5 => ?_)
  have h5 := h4.setTape t5 f5
  have b5 := b4.fr f5 (by omega)
  have F5 := F4.trans (f5.mono (q := B) (m := 33) (by omega) (by omega))
  refine ldP h5.rc rfl (put_spec (v := 1) (k := 1) h5.tape (by omega) (by omega) (by simp) fun w6 t6 f6 => ?_)
  have h6 := h5.setTape t6 f6
  have b6 := b5.fr f6 (by omega)
  have F6 := F5.trans (f6.mono (q := B) (m := 33) (by omega) (by omega))
  generalize hkd : chooseK data.size (cntT toks) = kind at *
  refine ldP h6.rc rfl (put_spec (v := kind) (k := 2) h6.tape (by omega) (by omega) (by simp) fun w7 t7 f7 => ?_)
  have h7 := h6.setTape t7 f7
  have b7 := b6.fr f7 (by omega)
  have F7 := F6.trans (f7.mono (q := B) (m := 33) (by omega) (by omega))
  have e7 : ([] : List Bool) ++ bitsOf 1 1 ++ bitsOf kind 2 = bitsOf 1 1 ++ bitsOf kind 2 := by simp
  have h7 : PK w7 B { s with count := cntT toks, plan := planT (cntT toks), bits := bitsOf 1 1 ++ bitsOf kind 2 } := by
    have : PK w7 B { s with count := cntT toks, plan := planT (cntT toks), bits := [] ++ bitsOf 1 1 ++ bitsOf kind 2 } := h7
    rw [e7] at this; exact this
  refine join_ ?_
  have text : ∀ (v : World) (s' : PS), PK v B s' → s'.bits = emitB kind (bt data) toks (lensK kind (cntT toks)) → Fr B 33 w v → (LdP v ⟨B + 28, 0, none⟩ fun t_10 => S.bits_Tape_Text t_10 v (fun r11 w => K r11 0 w)) := by
    intro v s' hv hb fv
    refine ldP hv.rc rfl (text_spec hv.tape fun v2 t2 f2 => ?_)
    rw [hb]
    exact hK v2 _ (hv.setTape t2 f2) (fv.trans (f2.mono (by omega) (by omega)))
  by_cases k0 : kind = 0
  · rw [if_pos (by simp only [beq_iff_eq]; omega)]
    refine block_stored_spec h7 hd (by simp) fun w8 h8 f8 => ?_
    refine text w8 _ h8 ?_ (F7.trans f8)
    show bitsOf 1 1 ++ bitsOf kind 2 ++ _ = emitB kind (bt data) toks _
    unfold emitB
    rw [if_pos k0, bt_length]
  · rw [if_neg (by simp only [beq_iff_eq]; omega)]
    have hem : emitB kind (bt data) toks (lensK kind (cntT toks)) = bitsOf 1 1 ++ bitsOf kind 2 ++ ((if kind = 2 then listB (lensK kind (cntT toks)) else []) ++ toks.flatMap (tokB (lensK kind (cntT toks))) ++ symB (lensK kind (cntT toks)) 256) := by unfold emitB; rw [if_neg k0]
    rw [hem] at hpk
    refine block_coded_spec h7 (by omega) rfl rfl b7 htB hok (by omega) (by simp) ?_ fun w8 s8 h8 hb8 f8 => ?_
    · show 3 + ((if kind = 2 then listB (lensK kind (cntT toks)) else []) ++ toks.flatMap (tokB (lensK kind (cntT toks))) ++ symB (lensK kind (cntT toks)) 256).length ≤ 4096
      rw [List.length_append] at hpk
      rw [show (bitsOf 1 1 ++ bitsOf kind 2).length = 3 from by simp] at hpk
      omega
    · exact text w8 s8 h8 (by rw [hem]; exact hb8) (F7.trans f8)

theorem block_New_spec {sa sb : CS} {K : Nat → World → Prop} (hB : w.heap.size = B + 28) (h1 : RTape w B [] 0) (h2 : RC w (B + 2) sa) (h3 : RC w (B + 13) sb) (h4 : RLz w (B + 24))
    (hK : ∀ w' s', PK w' B s' → Fr 0 0 w w' → w'.heap.size = B + 33 → K (B + 28) w') : S.block_New (B + 1) (B + 2) (B + 13) (B + 24) w K := by
  unfold S.block_New
  refine newB fun w1 b1 f1 s1 => ?_
  rw [hB] at b1 s1 ⊢
  refine st1 b1 (by simp) fun w2 b2 f2 s2 => ?_
  refine st1 b2 (by simp) fun w3 b3 f3 s3 => ?_
  refine st1 b3 (by simp) fun w4 b4 f4 s4 => ?_
  refine st1 b4 (by simp) fun w5 b5 f5 s5 => ?_
  have F5 : Fr (B + 28) 1 w w5 := ((((f1.any (B + 28) 1).trans f2).trans f3).trans f4).trans f5
  refine mkN (n := 273) (by omega) fun w6 b6 f6 s6 => ?_
  rw [show w5.heap.size = B + 29 from by omega] at b6 s6 ⊢
  refine st1 (b5.fr f6 (by omega)) (by simp) fun w7 b7 f7 s7 => ?_
  refine mkN (n := 273) (by omega) fun w8 b8 f8 s8 => ?_
  rw [show w7.heap.size = B + 30 from by omega] at b8 s8 ⊢
  refine st1 (b7.fr f8 (by omega)) (by simp) fun w9 b9 f9 s9 => ?_
  refine mkN (n := 273) (by omega) fun w10 b10 f10 s10 => ?_
  rw [show w9.heap.size = B + 31 from by omega] at b10 s10 ⊢
  refine st1 (b9.fr f10 (by omega)) (by simp) fun w11 b11 f11 s11 => ?_
  refine mkN (n := 273) (by omega) fun w12 b12 f12 s12 => ?_
  rw [show w11.heap.size = B + 32 from by omega] at b12 s12 ⊢
  refine st1 (b11.fr f12 (by omega)) (by simp) fun w13 b13 f13 s13 => ?_
  have G1 : Fr (B + 28) 1 w12 w13 := f13
  have G2 : Fr (B + 28) 1 w10 w13 := (f11.then0 f12).trans f13
  have G3 : Fr (B + 28) 1 w8 w13 := ((f9.then0 f10)).trans G2
  have G4 : Fr (B + 28) 1 w6 w13 := ((f7.then0 f8)).trans G3
  have F : Fr (B + 28) 1 w w13 := (F5.then0 f6).trans G4
  let z : Nat → Nat := fun _ => 0
  refine hK w13 ⟨z, z, z, z, [], sa, sb⟩ ⟨h1.fr F (by omega), h2.fr F (by omega), h3.fr F (by omega), h4.fr F (by omega), b13, b6.fr G4 (by omega), b8.fr G3 (by omega), b10.fr G2 (by omega), b12.fr G1 (by omega)⟩ ?_ (by omega)
  exact ⟨F.1, fun b hb _ => F.2 b hb (by omega)⟩
end Go.Proofs.Qxb6500563aGreat
