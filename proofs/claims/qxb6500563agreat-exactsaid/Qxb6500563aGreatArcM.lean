/-
  The model's container.
-/
import Derived.Test.Qxb6500563aGreatArcP
namespace Go.Proofs.Qxb6500563aGreat
open Go.Den Go.Zip
set_option linter.unusedVariables false
set_option linter.unusedSimpArgs false
variable {w w' : World}

theorem getD_get {l : List Nat} {i : Nat} (h : i < l.length) : l[i]? = some (l.getD i 0) := by simp [List.getD, h]
theorem bt_getD_lt (s : ByteArray) (i : Nat) : (bt s).getD i 0 < 256 := getD_mem (p := fun x => x < 256) (fun x hx => bt_lt hx) (by omega)
theorem n16_lt (s : ByteArray) (i : Nat) : n16 (bt s) i < 65536 := by have := bt_getD_lt s i; have := bt_getD_lt s (i + 1); unfold n16; omega
/-- A byte of a string. -/
theorem byteS {s : ByteArray} {i : Nat} {K : Int → Prop} (h : i < s.size) (hk : K ((bt s).getD i 0 : Int)) : IxStr s (i : Int) K :=
  ixStr (by omega) (by rw [Int.toNat_natCast]; exact getD_get (by rw [bt_length]; exact h)) hk
theorem n16_val {s : ByteArray} {i : Nat} : W (W ((bt s).getD i 0 : Int) + Shl .i64 (W ((bt s).getD (i + 1) 0 : Int)) 8) = (n16 (bt s) i : Int) := by
  have h1 := bt_getD_lt s i
  have h2 := bt_getD_lt s (i + 1)
  rw [W_nat (by omega), W_nat (by omega), show Shl .i64 ((bt s).getD (i + 1) 0 : Int) 8 = (((bt s).getD (i + 1) 0 * 2 ^ 8 : Nat) : Int) from Shl_nat _ 8 (by omega) (by omega), W_add (by omega)]
  unfold n16
  omega
theorem archm_num_spec {s : ByteArray} {i : Nat} {K : Int → World → Prop} (h : i + 1 < s.size) (hs : s.size ≤ 65536) (hK : ∀ w', w'.heap = w.heap → K (n16 (bt s) i : Int) w') : S.archm_num s (i : Int) w K := by
  unfold S.archm_num
  refine drew_ (byteS (by omega) ?_)
  rw [W_succ (by omega)]
  refine byteS h ?_
  rw [n16_val]
  exact hK _ rfl
set_option maxRecDepth 10000 in
theorem and_255 {a : Nat} (h : a < 9223372036854775808) : And .i64 (a : Int) 255 = ((a % 256 : Nat) : Int) := by
  rw [show a % 256 = a &&& (2 ^ 8 - 1) from by rw [and_mask]]
  exact_mod_cast And_nat (b := 255) h (by omega)
theorem two_lo {n : Nat} (h : n < 65536) : U8 (And .i64 (n : Int) 255) = ((n % 256 : Nat) : Int) := by rw [and_255 (by omega), U8_nat]; omega
theorem two_hi {n : Nat} (h : n < 65536) : U8 (And .i64 (Shr .i64 (n : Int) 8) 255) = ((n / 256 % 256 : Nat) : Int) := by
  rw [show Shr .i64 (n : Int) 8 = ((n / 256 : Nat) : Int) from by exact_mod_cast Shr_nat n 8 (by omega), and_255 (by omega), U8_nat]; omega
theorem archm_two_spec {n : Nat} {K : ByteArray → World → Prop} (h : n < 65536) (hK : ∀ w', Fr 0 0 w w' → K (strOf (twoB n)) w') : S.archm_two (n : Int) w K := by
  unfold S.archm_two
  rw [two_lo h, two_hi h]
  refine newB fun w1 b1 f1 s1 => ?_
  exact btS (zs := twoB n) b1 rfl rfl (twoB_lt n) (hK w1 f1)

theorem sum_take' {l : List Nat} {i : Nat} (h : i < l.length) : sumAB (l.take (i + 1)) = (((sumAB (l.take i)).1 + l.getD i 0) % 251, ((sumAB (l.take i)).2 + ((sumAB (l.take i)).1 + l.getD i 0) % 251) % 251) := by
  have : l.take (i + 1) = l.take i ++ [l.getD i 0] := by rw [List.take_succ_eq_append_getElem h]; simp [List.getD, h]
  rw [this, sumAB_snoc]
theorem tmod_nat (a b : Nat) : Int.tmod (a : Int) (b : Int) = ((a % b : Nat) : Int) := (Int.ofNat_tmod _ _).symm
theorem api_Sum_spec {s : ByteArray} {K : Int → World → Prop} (hs : s.size ≤ 65536) (hK : K (sumP (bt s) : Int) w) : S.api_Sum s w K := by
  unfold S.api_Sum
  refine join_ ?_
  refine loopN (fun m st v => ∃ i : Nat, st = (((sumAB ((bt s).take i)).1 : Int), ((sumAB ((bt s).take i)).2 : Int), (i : Int), ()) ∧ m + i = s.size ∧ v = w) s.size ⟨0, rfl, rfl, rfl⟩ ?_
  rintro m _ v ⟨i, rfl, hm, rfl⟩ Q hQ
  dsimp only
  have hlt := sumAB_lt ((bt s).take i)
  by_cases hi : i < s.size
  · rw [if_pos (by simp only [decide_eq_true_eq]; omega)]
    refine byteS hi ?_
    have hx := bt_getD_lt s i
    have hst := sum_take' (l := bt s) (i := i) (by rw [bt_length]; exact hi)
    rw [W_nat (by omega), W_add (by omega), show Int.tmod (((sumAB ((bt s).take i)).1 + (bt s).getD i 0 : Nat) : Int) 251 = (((((sumAB ((bt s).take i)).1 + (bt s).getD i 0) % 251 : Nat)) : Int) from tmod_nat _ 251]
    refine let_ ?_
    have hm2 := Nat.mod_lt ((sumAB ((bt s).take i)).1 + (bt s).getD i 0) (show 251 > 0 by omega)
    rw [W_add (by omega), show Int.tmod (((sumAB ((bt s).take i)).2 + ((sumAB ((bt s).take i)).1 + (bt s).getD i 0) % 251 : Nat) : Int) 251 = (((((sumAB ((bt s).take i)).2 + ((sumAB ((bt s).take i)).1 + (bt s).getD i 0) % 251) % 251 : Nat)) : Int) from tmod_nat _ 251, W_succ (by omega)]
    refine let_ (let_ (hQ (m - 1) _ _ (by omega) ⟨i + 1, ?_, by omega, rfl⟩))
    rw [hst]
  · rw [if_neg (by simp only [decide_eq_true_eq]; omega)]
    have hte : (bt s).take i = bt s := List.take_of_length_le (by simp; omega)
    rw [hte] at hlt ⊢
    rw [show W (W (((sumAB (bt s)).2 : Int) * 256) + ((sumAB (bt s)).1 : Int)) = (sumP (bt s) : Int) from by
      unfold sumP
      rw [W_id (x := ((sumAB (bt s)).2 : Int) * 256) (by omega) (by omega), W_id (by omega) (by omega)]; omega]
    exact hK

/-- A slice of entries that is only read. -/
structure EntS (w : World) (sl : Sl) (b : Nat) (es : List Ent) : Prop where
  len : sl.l = es.length
  ex : es = [] ∨ ∃ o vs, sl.a = some ⟨b, o, none⟩ ∧ Blk w b vs ∧ ∀ i e, es[i]? = some e → vs[o + i * 2]? = some (.string e.1) ∧ vs[o + i * 2 + 1]? = some (.string e.2)
theorem EntS.fr {sl : Sl} {b p n : Nat} {es : List Ent} (h : EntS w sl b es) (f : Fr p n w w') (hb : es = [] ∨ b < p ∨ p + n ≤ b) : EntS w' sl b es := by
  refine ⟨h.len, ?_⟩
  rcases h.ex with e | ⟨o, vs, h1, h2, h3⟩
  · exact .inl e
  · rcases hb with e | hb
    · exact .inl e
    · exact .inr ⟨o, vs, h1, h2.fr f hb, h3⟩
theorem EntS.heq {sl : Sl} {b : Nat} {es : List Ent} (h : EntS w sl b es) (e : w'.heap = w.heap) : EntS w' sl b es := h.fr (Fr.heq (Fr.refl 0 0 w) e) (by omega)
theorem EntS.lt {sl : Sl} {b : Nat} {es : List Ent} (h : EntS w sl b es) : es = [] ∨ b < w.heap.size := by
  rcases h.ex with e | ⟨o, vs, h1, h2, h3⟩
  · exact .inl e
  · exact .inr h2.lt
theorem EntS.get {sl : Sl} {b i : Nat} {es : List Ent} {e : Ent} {K : Nat → Nat → Prop} (h : EntS w sl b es) (he : es[i]? = some e)
    (hk : ∀ o vs, Blk w b vs → vs[o + i * 2]? = some (.string e.1) → vs[o + i * 2 + 1]? = some (.string e.2) → K b o) : Ix sl.a sl.l (i : Int) K := by
  obtain ⟨hi, _⟩ := List.getElem?_eq_some_iff.1 he
  rcases h.ex with e0 | ⟨o, vs, h1, h2, h3⟩
  · rw [e0] at hi; simp at hi
  · obtain ⟨g1, g2⟩ := h3 i e he
    exact ix h1 (by omega) (by have := h.len; omega) (hk o vs h2 g1 g2)
theorem EntS.name {sl : Sl} {b i : Nat} {es : List Ent} {e : Ent} {K : ByteArray → Prop} (h : EntS w sl b es) (he : es[i]? = some e) (hk : K e.1) : Ix sl.a sl.l (i : Int) fun b o => LdStr w ⟨b, o + Int.toNat (i : Int) * 2, none⟩ K :=
  h.get he fun o vs h1 h2 h3 => ldStr h1 (by rw [Int.toNat_natCast]; exact h2) hk
theorem EntS.data {sl : Sl} {b i : Nat} {es : List Ent} {e : Ent} {K : ByteArray → Prop} (h : EntS w sl b es) (he : es[i]? = some e) (hk : K e.2) : Ix sl.a sl.l (i : Int) fun b o => LdStr w ⟨b, o + Int.toNat (i : Int) * 2 + 1, none⟩ K :=
  h.get he fun o vs h1 h2 h3 => ldStr h1 (by rw [Int.toNat_natCast]; exact h3) hk

theorem archm_CheckList_spec {sl : Sl} {b : Nat} {es : List Ent} {level : Int} {K : Int → World → Prop} (h : EntS w sl b es) (hK : K (checkP es level : Int) w) : S.archm_CheckList sl level w K := by
  unfold S.archm_CheckList
  have hlen := h.len
  unfold checkP at hK
  by_cases h4 : 4 < es.length
  · rw [if_pos (by simp only [decide_eq_true_eq]; omega)]
    rw [if_pos h4] at hK; exact hK
  rw [if_neg (by simp only [decide_eq_true_eq]; omega)]
  rw [if_neg h4] at hK
  by_cases hl : level < 0
  · rw [if_pos (by simp only [decide_eq_true_eq]; omega)]
    rw [if_pos (.inl hl)] at hK; exact hK
  rw [if_neg (by simp only [decide_eq_true_eq]; omega)]
  by_cases hl2 : 2 < level
  · rw [if_pos (by simp only [decide_eq_true_eq]; omega)]
    rw [if_pos (.inr hl2)] at hK; exact hK
  rw [if_neg (by simp only [decide_eq_true_eq]; omega)]
  rw [if_neg (by omega)] at hK
  refine loopN (fun m st v => ∃ i : Nat, st = ((i : Int), ()) ∧ m + i = es.length ∧ judgeP es = judgeP (es.drop i) ∧ v = w) es.length ⟨0, rfl, rfl, rfl, rfl⟩ ?_
  rintro m _ v ⟨i, rfl, hm, hj, rfl⟩ Q hQ
  dsimp only
  by_cases hi : i < es.length
  · rw [if_pos (by simp only [decide_eq_true_eq]; omega)]
    have he : es[i]? = some es[i] := List.getElem?_eq_getElem hi
    have hjd := judge_drop he
    generalize es[i] = e at *
    refine h.name he ?_
    by_cases h0 : e.1.size = 0
    · rw [if_pos (by simp only [beq_iff_eq]; omega)]
      rw [hj, hjd, if_pos (.inl h0)] at hK; exact hK
    rw [if_neg (by simp only [beq_iff_eq]; omega)]
    refine h.name he ?_
    by_cases h8 : 8 < e.1.size
    · rw [if_pos (by simp only [decide_eq_true_eq]; omega)]
      rw [hj, hjd, if_pos (.inr h8)] at hK; exact hK
    rw [if_neg (by simp only [decide_eq_true_eq]; omega)]
    refine h.data he ?_
    rw [if_neg (by omega)] at hjd
    by_cases hd : 256 < e.2.size
    · rw [if_pos (by simp only [decide_eq_true_eq]; omega)]
      rw [hj, hjd, if_pos hd] at hK; exact hK
    rw [if_neg (by simp only [decide_eq_true_eq]; omega), W_succ (by omega)]
    rw [if_neg hd] at hjd
    exact let_ (hQ (m - 1) _ _ (by omega) ⟨i + 1, rfl, by omega, hj.trans hjd, rfl⟩)
  · rw [if_neg (by simp only [decide_eq_true_eq]; omega)]
    have hde : es.drop i = [] := List.drop_of_length_le (by omega)
    rw [hj, hde] at hK
    exact hK

/-- The model's archive. -/
structure MA (w : World) (a : Nat) : Prop where
  ex : ∃ k z h, Blk w a [.pointer (some ⟨k, 0, none⟩)] ∧ Blk w k [.pointer (some ⟨z, 0, none⟩), .pointer (some ⟨h, 0, none⟩)] ∧ k < a
theorem MA.fr {a : Nat} {p n : Nat} (h : MA w a) (f : Fr p n w w') (hb : a < p) : MA w' a := by
  obtain ⟨k, z, h', h1, h2, h3⟩ := h.ex
  exact ⟨k, z, h', h1.fr f (by omega), h2.fr f (by omega), h3⟩
theorem MA.ext {a : Nat} (h : MA w a) (f : Fr 0 0 w w') : MA w' a := by
  obtain ⟨k, z, h', h1, h2, h3⟩ := h.ex
  exact ⟨k, z, h', h1.fr f (by omega), h2.fr f (by omega), h3⟩
theorem archm_New_spec {K : Nat → World → Prop} (hK : ∀ w' a, MA w' a → Fr 0 0 w w' → w.heap.size ≤ a → a < w'.heap.size → K a w') : S.archm_New w K := by
  unfold S.archm_New S.blockm_New S.lzm_New
  refine newB fun w1 b1 f1 s1 => ?_
  refine newB fun w2 b2 f2 s2 => ?_
  have c1 := b1.fr f2 (by omega)
  refine st1 c1 (by simp) fun w3 b3 f3 s3 => ?_
  refine huffm_New_spec fun w4 b4 f4 s4 => ?_
  refine st1 (b3.fr f4 (by omega)) (by simp) fun w5 b5 f5 s5 => ?_
  refine newB fun w6 b6 f6 s6 => ?_
  have f02 : Fr 0 0 w w2 := f1.trans f2
  refine hK w6 w5.heap.size ⟨_, _, _, b6, b5.fr f6 (by omega), by omega⟩ ?_ (by omega) (by omega)
  exact ((((f02.thenNew f3 (by omega)).trans f4).thenNew f5 (by omega)).trans f6)

theorem strOf_app {a : ByteArray} {l : List Nat} (h : ∀ x ∈ l, x < 256) : bt (a ++ strOf l) = bt a ++ l := by rw [bt_append, bt_strOf h]
theorem catOk {a b : ByteArray} {K : Prop} (h : a.size + b.size ≤ 100000) (hk : K) : CatOk a b K := ⟨by omega, hk⟩
theorem one_str {n : Nat} {v : Int} {p : Nat} {K : ByteArray → Prop} (hb : Blk w p [.int .u8 v]) (hv : v = ((n % 256 : Nat) : Int)) (hk : K (strOf [n % 256])) : BtS w ⟨some ⟨p, 0, none⟩, 1, 1⟩ K := by
  subst hv
  exact btS (zs := [n % 256]) hb rfl rfl (fun x hx => by simp at hx; omega) hk

set_option maxRecDepth 10000 in
theorem archm_Pack_spec {a : Nat} {sl : Sl} {b : Nat} {es : List Ent} {level : Int} {K : ByteArray → Int → World → Prop} (hA : MA w a) (h : EntS w sl b es)
    (hbad : checkP es level ≠ 0 → K ⟨#[]⟩ (checkP es level : Int) w)
    (hK : checkP es level = 0 → ∀ w', Fr 0 0 w w' → K (strOf (archB level.toNat es)) 0 w') : S.archm_Archive_Pack a sl level w K := by
  unfold S.archm_Archive_Pack
  refine archm_CheckList_spec h ?_
  have hlen := h.len
  by_cases hz : checkP es level = 0
  · rw [hz, if_neg (by simp)]
    have hK := hK hz
    clear hbad
    have hok : EntsOK es ∧ 0 ≤ level ∧ level ≤ 2 := by
      unfold checkP at hz
      split at hz
      · omega
      · split at hz
        · omega
        · exact ⟨⟨by omega, judge_ok hz⟩, by omega, by omega⟩
    obtain ⟨hok, l0, l2⟩ := hok
    obtain ⟨lv, rfl⟩ : ∃ lv : Nat, level = (lv : Int) := ⟨level.toNat, by omega⟩
    rw [Int.toNat_natCast] at hK
    have hlv : lv ≤ 2 := by omega
    have h4 := hok.1
    refine let_ (let_ (join_ ?_))
    refine loopN (fun m st v => ∃ (i : Nat) (text dir : ByteArray), st = (text, dir, (i : Int), ()) ∧ m + i = es.length ∧ bt text = bodyTo lv es i ∧ bt dir = dirTo lv es i ∧ Fr 0 0 w v) es.length ⟨0, ⟨#[]⟩, ⟨#[]⟩, rfl, rfl, rfl, rfl, Fr.refl _ _ _⟩ ?_
    rintro m _ v ⟨i, text, dir, rfl, hm, ht, hd, fv⟩ Q hQ
    dsimp only
    have hts : text.size = offAt lv es i := by rw [← bt_length, ht]; rfl
    have hds : dir.size = 2 * i := by rw [← bt_length, hd, dir_len]
    have hbl := body_len' (level := lv) hok i (by omega)
    by_cases hi : i < es.length
    · rw [if_pos (by simp only [decide_eq_true_eq]; omega)]
      have he : es[i]? = some es[i] := List.getElem?_eq_getElem hi
      have heo := hok.2 _ (List.getElem_mem hi)
      generalize es[i] = e at *
      obtain ⟨k, z, hh, a1, a2, a3⟩ := (hA.ext fv).ex
      have hv := h.fr fv (by omega)
      refine drew_ (ldP a1.drew rfl (EntS.data (hv.heq rfl) he ?_))
      refine blockm_Pack_spec a2.drew heo.2.2 hlv fun v1 f1 => ?_
      have f1 : Fr 0 0 v v1 := f1
      have hv1 := hv.fr f1 (by omega)
      have hpt := packT_bt lv e
      have hpl := packT_len lv e heo.2.2
      have hps : (textOf (packB lv (bt e.2))).size = (packT lv e).length := by rw [← bt_length, hpt]
      generalize textOf (packB lv (bt e.2)) = txt at *
      rw [hts]
      refine archm_two_spec (by omega) fun v2 f2 => ?_
      have hv2 := hv1.fr f2 (by omega)
      refine catOk (by rw [strOf_size, hds]; show 2 * i + 2 ≤ _; omega) (let_ ?_)
      refine hv2.data he ?_
      refine archm_two_spec (by omega) fun v3 f3 => ?_
      rw [hps]
      refine archm_two_spec (by omega) fun v4 f4 => ?_
      have hv4 := (hv2.fr f3 (by omega)).fr f4 (by omega)
      refine hv4.data he ?_
      refine api_Sum_spec (by omega) ?_
      refine archm_two_spec (sumP_lt _) fun v5 f5 => ?_
      have hv5 := hv4.fr f5 (by omega)
      refine drew_ (EntS.name (hv5.heq rfl) he ?_)
      refine EntS.get (hv5.heq rfl) he fun o vs q1 q2 q3 => ?_
      show Hold _ _ _ _
      unfold Hold
      refine ldStr q1 (by rw [Int.toNat_natCast]; exact q2) ?_
      refine newB fun v6 b6 f6 s6 => ?_
      have f6 : Fr 0 0 v5 v6 := f6
      refine ⟨fun j hj => ?_, ?_⟩
      · have q1' := (show Blk v5 b vs from q1).fr f6 (by omega)
        have hj0 : j = 0 := by omega
        subst hj0
        rw [show (⟨b, o + Int.toNat (i : Int) * 2, none⟩ : Addr).add 0 = ⟨b, o + Int.toNat (i : Int) * 2, none⟩ from rfl, q1'.cell]
        exact (Blk.cell (w := v5.drew) q1 _).symm
      · refine one_str (n := e.1.size) b6 (by rw [U8_nat]) ?_
        have hnm : (strOf [e.1.size % 256]).size = 1 := by rw [strOf_size]; rfl
        have h2s : ∀ n, (strOf (twoB n)).size = 2 := fun n => by rw [strOf_size]; rfl
        refine catOk (by rw [hnm]; omega) (catOk (by rw [ByteArray.size_append, hnm]; omega) (catOk (by rw [ByteArray.size_append, ByteArray.size_append, hnm, h2s]; omega) (catOk (by rw [ByteArray.size_append, ByteArray.size_append, ByteArray.size_append, hnm, h2s, h2s]; omega) (catOk (by rw [ByteArray.size_append, ByteArray.size_append, ByteArray.size_append, ByteArray.size_append, hnm, h2s, h2s, h2s]; omega) (catOk (by rw [ByteArray.size_append, ByteArray.size_append, ByteArray.size_append, ByteArray.size_append, ByteArray.size_append, hnm, h2s, h2s, h2s, hps]; omega) ?_)))))
        rw [W_succ (by omega)]
        refine let_ (hQ (m - 1) _ _ (by omega) ⟨i + 1, _, _, rfl, by omega, ?_, ?_, ((((fv.trans f1).trans f2).trans f3).trans f4).trans (f5.trans f6)⟩)
        · rw [body_succ he, bt_append, strOf_app (twoB_lt _), strOf_app (twoB_lt _), strOf_app (twoB_lt _), bt_append, strOf_app (fun x hx => by simp at hx; omega), ht, hpt]
          unfold recB
          simp only [List.append_assoc]
        · rw [dir_succ, strOf_app (twoB_lt _), hd]
    · rw [if_neg (by simp only [decide_eq_true_eq]; omega)]
      have hie : i = es.length := by omega
      subst hie
      refine let_ (drew_ (catOk (by omega) ?_))
      rw [hts]
      have h1s : (strOf [es.length % 256]).size = 1 := by rw [strOf_size]; rfl
      have h2s : ∀ n, (strOf (twoB n)).size = 2 := fun n => by rw [strOf_size]; rfl
      have h90 : (⟨#[90]⟩ : ByteArray) = strOf [90] := rfl
      have hfin : ((text ++ dir ++ strOf [es.length % 256]) ++ strOf (twoB (offAt lv es es.length))) ++ ⟨#[90]⟩ = strOf (archB lv es) := by
        apply bt_inj
        rw [h90, strOf_app (fun x hx => by simp at hx; omega), strOf_app (twoB_lt _), strOf_app (fun x hx => by simp at hx; omega), bt_append, ht, hd, bt_strOf (arch_lt lv es)]
        rfl
      have hu8 : U8 (sl.l : Int) = ((es.length % 256 : Nat) : Int) := by rw [hlen, U8_nat]
      refine ⟨?_, ?_⟩
      · refine newB fun v1 b1 f1 s1 => ?_
        have f1 : Fr 0 0 v v1 := f1
        have b1 : Blk v1 v.heap.size [.int .u8 (U8 (sl.l : Int))] := b1
        unfold HoldB
        refine one_str (n := es.length) b1 hu8 ?_
        refine catOk (by rw [ByteArray.size_append, h1s]; omega) ?_
        refine archm_two_spec (by omega) fun v2 f2 => ?_
        refine ⟨fun vs hc => ?_, ?_⟩
        · have b2 := b1.fr f2 (by omega)
          obtain ⟨c1, c2⟩ := hc
          refine ⟨c1, ?_⟩
          rcases c2 with c2 | ⟨bb, oo, c2, c3⟩
          · exact .inl c2
          · simp at c2
            refine .inr ⟨bb, oo, by simp [c2], fun j hj => ?_⟩
            rw [← c3 j hj, ← c2.1, b2.cell, b1.cell]
        · refine catOk (by rw [ByteArray.size_append, ByteArray.size_append, h1s, h2s]; omega) (catOk (by rw [ByteArray.size_append, ByteArray.size_append, ByteArray.size_append, h1s, h2s]; show _ + 1 ≤ _; omega) ?_)
          rw [hfin]
          exact hK v2 ((fv.trans f1).trans f2)
      · refine archm_two_spec (by omega) fun v1 f1 => ?_
        have f1 : Fr 0 0 v v1 := f1
        refine newB fun v2 b2 f2 s2 => ?_
        refine one_str (n := es.length) b2 hu8 ?_
        refine catOk (by rw [ByteArray.size_append, h1s]; omega) (catOk (by rw [ByteArray.size_append, ByteArray.size_append, h1s, h2s]; omega) (catOk (by rw [ByteArray.size_append, ByteArray.size_append, ByteArray.size_append, h1s, h2s]; show _ + 1 ≤ _; omega) ?_))
        rw [hfin]
        exact hK v2 ((fv.trans f1).trans f2)
  · rw [if_pos (by simp only [bne_iff_ne, ne_eq]; omega)]
    exact hbad hz
end Go.Proofs.Qxb6500563aGreat
