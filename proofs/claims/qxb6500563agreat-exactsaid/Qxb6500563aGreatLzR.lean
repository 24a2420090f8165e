/-
  The real matcher by hash chains: its contract.
-/
import Derived.Test.Qxb6500563aGreatLzM
namespace Go.Proofs.Qxb6500563aGreat
open Go.Den Go.Zip
set_option linter.unusedVariables false
set_option linter.unusedSimpArgs false
variable {w w' : World} {B : Nat}

structure RLzW (w : World) (B : Nat) (head prev : List Int) (toks : List Tok) (junk : List Value) (pr : Int) : Prop where
  rc : Blk w B [.slice (some ⟨B + 1, 0, none⟩) 64 64, .slice (some ⟨B + 2, 0, none⟩) 16 16, .slice (some ⟨B + 3, 0, none⟩) 256 256, .int .i64 toks.length, .int .i64 pr]
  hd : Blk w (B + 1) (ints head)
  pv : Blk w (B + 2) (ints prev)
  tk : Blk w (B + 3) (toks.flatMap tokv ++ junk)
  jl : toks.length * 3 + junk.length = 768
/-- The matcher in the midst of a Parse: what is known of its chains, its tokens. -/
def LzAt (w : World) (B : Nat) (C : List Int → List Int → Prop) (toks : List Tok) : Prop := ∃ head prev junk pr, C head prev ∧ head.length = 64 ∧ prev.length = 16 ∧ RLzW w B head prev toks junk pr
/-- The matcher between calls. -/
structure RLz (w : World) (B : Nat) : Prop where
  ex : ∃ (head prev : List Int) (n pr : Int) (junk : List Value), head.length = 64 ∧ prev.length = 16 ∧ junk.length = 768 ∧
    Blk w B [.slice (some ⟨B + 1, 0, none⟩) 64 64, .slice (some ⟨B + 2, 0, none⟩) 16 16, .slice (some ⟨B + 3, 0, none⟩) 256 256, .int .i64 n, .int .i64 pr] ∧
    Blk w (B + 1) (ints head) ∧ Blk w (B + 2) (ints prev) ∧ Blk w (B + 3) junk
theorem RLz.fr {p n : Nat} (h : RLz w B) (f : Fr p n w w') (hb : B + 4 ≤ p ∨ p + n ≤ B) : RLz w' B := by
  obtain ⟨head, prev, n, pr, junk, h1, h2, h3, h4, h5, h6, h7⟩ := h.ex
  exact ⟨head, prev, n, pr, junk, h1, h2, h3, h4.fr f (by omega), h5.fr f (by omega), h6.fr f (by omega), h7.fr f (by omega)⟩
theorem LzAt.out {C : List Int → List Int → Prop} {toks : List Tok} (h : LzAt w B C toks) : RLz w B := by
  obtain ⟨head, prev, junk, pr, hc, h1, h2, r⟩ := h
  exact ⟨head, prev, _, pr, _, h1, h2, by have := r.jl; rw [List.length_append, toks_length]; exact this, r.rc, r.hd, r.pv, r.tk⟩
theorem LzAt.weak {C C' : List Int → List Int → Prop} {toks : List Tok} (h : LzAt w B C toks) (hi : ∀ a b, C a b → C' a b) : LzAt w B C' toks := by
  obtain ⟨head, prev, junk, pr, hc, h1, h2, r⟩ := h
  exact ⟨head, prev, junk, pr, hi _ _ hc, h1, h2, r⟩

theorem lz_wipe_spec {m : Nat} {head : List Int} {vs : List Value} {K : World → Prop} (hr : Blk w m vs) (hv : vs[0]? = some (.slice (some ⟨m + 1, 0, none⟩) 64 64)) (hh : Blk w (m + 1) (ints head)) (hl : head.length = 64)
    (hK : ∀ w', Blk w' (m + 1) (ints (List.replicate 64 (-1))) → Fr (m + 1) 1 w w' → w'.heap.size = w.heap.size → K w') : S.lz_Matcher_wipe m w K := by
  unfold S.lz_Matcher_wipe
  refine loopP (fun s w1 => ∃ j : Nat, s = ((j : Int), ()) ∧ j ≤ 64 ∧ Blk w1 (m + 1) (ints (List.replicate j (-1) ++ head.drop j)) ∧ Fr (m + 1) 1 w w1 ∧ w1.heap.size = w.heap.size) (fun s _ => 64 - s.1.toNat)
    ⟨0, rfl, by omega, by simpa using hh, Fr.refl _ _ _, rfl⟩ ?_
  rintro _ w1 ⟨j, rfl, hj, b1, f1, s1⟩
  dsimp only
  by_cases hlt : j < 64
  · rw [if_pos (by simp only [decide_eq_true_eq]; omega)]
    refine ldS (hr.fr f1 (by omega)) hv ?_
    refine ix rfl (by omega) (by show (j : Int) < 64; omega) ?_
    refine stA b1 (by rw [Int.toNat_natCast]; simp; omega) fun w2 b2 f2 s2 => ?_
    rw [show W ((j : Int) + 1) = ((j + 1 : Nat) : Int) from by rw [W_id (by omega) (by omega)]; omega]
    refine let_ ⟨⟨j + 1, rfl, by omega, ?_, f1.trans f2, by omega⟩, by simp; omega⟩
    have e : (List.replicate j (-1) ++ head.drop j).set j (-1) = List.replicate (j + 1) (-1) ++ head.drop (j + 1) := by
      apply List.ext_getElem (by simp; omega)
      intro i h1 h2
      rw [List.getElem_set]
      by_cases hij : j = i
      · subst hij; simp
      · rw [if_neg hij]
        by_cases hlt2 : i < j
        · rw [List.getElem_append_left (by simpa using hlt2), List.getElem_append_left (by simp; omega)]; simp
        · rw [List.getElem_append_right (by simp; omega), List.getElem_append_right (by simp; omega)]
          simp only [List.length_replicate, List.getElem_drop]
          congr 1; omega
    rw [Int.toNat_natCast, e] at b2
    exact b2
  · rw [if_neg (by simp only [decide_eq_true_eq]; omega)]
    have : j = 64 := by omega
    subst this
    rw [List.drop_eq_nil_of_le (by omega), List.append_nil] at b1
    exact hK w1 b1 f1 s1

theorem lz_New_spec {K : Nat → World → Prop} (hK : ∀ w', RLz w' w.heap.size → Fr 0 0 w w' → w'.heap.size = w.heap.size + 4 → K w.heap.size w') : S.lz_New w K := by
  unfold S.lz_New
  refine newB fun w1 b1 f1 s1 => ?_
  refine mkS (by omega) (by omega) (by omega) (by omega) fun w2 b2 f2 s2 => ?_
  have b1 := b1.fr f2 (by omega)
  refine st1 b1 (by simp) fun w3 b3 f3 s3 => ?_
  refine mkS (by omega) (by omega) (by omega) (by omega) fun w4 b4 f4 s4 => ?_
  refine st1 (b3.fr f4 (by omega)) (by simp) fun w5 b5 f5 s5 => ?_
  refine mkS (by omega) (by omega) (by omega) (by omega) fun w6 b6 f6 s6 => ?_
  refine st1 (b5.fr f6 (by omega)) (by simp) fun w7 b7 f7 s7 => ?_
  rw [s1] at b2 b7
  rw [show w3.heap.size = w.heap.size + 2 from by omega] at b4 b7
  rw [show w5.heap.size = w.heap.size + 3 from by omega] at b6 b7
  have hb2 := ((((b2.fr f3 (by omega)).fr f4 (by omega)).fr f5 (by omega)).fr f6 (by omega)).fr f7 (by omega)
  have hb4 := ((b4.fr f5 (by omega)).fr f6 (by omega)).fr f7 (by omega)
  have hb6 := b6.fr f7 (by omega)
  rw [reps_ints] at hb2 hb4
  refine lz_wipe_spec b7 rfl hb2 (by rw [List.length_replicate]; rfl) fun w8 b8 f8 s8 => ?_
  refine hK w8 ⟨_, _, _, _, _, List.length_replicate .., ?_, ?_, b7.fr f8 (by omega), b8, hb4.fr f8 (by omega), hb6.fr f8 (by omega)⟩ ?_ (by omega)
  · rw [List.length_replicate]; rfl
  · rw [reps_const]; rfl
  · exact ((((((f1.then0 f2).thenNew f3 (by omega)).then0 f4).thenNew f5 (by omega)).then0 f6).thenNew f7 (by omega)).thenNew f8 (by omega)

theorem lz_hash_spec {s : ByteArray} {p : Nat} {K : Int → World → Prop} (hs : s.size ≤ 256) (hp : p + 3 ≤ s.size) (hK : K (hsh (bt s) p : Int) w) : S.lz_hash s (p : Int) w K := by
  unfold S.lz_hash
  have g : ∀ i, i < s.size → (bt s)[i]? = some ((bt s).getD i 0) ∧ (bt s).getD i 0 < 256 := fun i hi => ⟨getD_some (by simpa using hi), bt_get_lt (getD_some (by simpa using hi))⟩
  have g0 := g p (by omega)
  have g1 := g (p + 1) (by omega)
  have g2 := g (p + 2) (by omega)
  refine ixStr (by omega) (by rw [Int.toNat_natCast]; exact g0.1) ?_
  rw [W_id (by omega) (by omega)]
  refine let_ ?_
  rw [W_id (by omega) (by omega)]
  refine ixStr (by omega) (by rw [show ((p : Int) + 1).toNat = p + 1 from by omega]; exact g1.1) ?_
  rw [W_id (by omega) (by omega)]
  refine let_ ?_
  rw [W_id (by omega) (by omega)]
  refine ixStr (by omega) (by rw [show ((p : Int) + 2).toNat = p + 2 from by omega]; exact g2.1) ?_
  rw [W_id (by omega) (by omega)]
  refine let_ ?_
  have e1 : Shl .i64 (((bt s).getD p 0 : Nat) : Int) 4 = (((bt s).getD p 0 * 16 : Nat) : Int) := by exact_mod_cast Shl_nat ((bt s).getD p 0) 4 (by omega) (by omega)
  have e2 : Shl .i64 (((bt s).getD (p + 1) 0 : Nat) : Int) 2 = (((bt s).getD (p + 1) 0 * 4 : Nat) : Int) := by exact_mod_cast Shl_nat ((bt s).getD (p + 1) 0) 2 (by omega) (by omega)
  have x1 : (bt s).getD p 0 * 16 ^^^ (bt s).getD (p + 1) 0 * 4 < 2 ^ 12 := Nat.xor_lt_two_pow (by omega) (by omega)
  have x2 : (bt s).getD p 0 * 16 ^^^ (bt s).getD (p + 1) 0 * 4 ^^^ (bt s).getD (p + 2) 0 < 2 ^ 12 := Nat.xor_lt_two_pow x1 (by omega)
  rw [e1, e2, Xor_nat (by omega) (by omega), Xor_nat (by omega) (by omega)]
  have e3 : And .i64 (((bt s).getD p 0 * 16 ^^^ (bt s).getD (p + 1) 0 * 4 ^^^ (bt s).getD (p + 2) 0 : Nat) : Int) 63 = (hsh (bt s) p : Int) := by
    rw [show hsh (bt s) p = ((bt s).getD p 0 * 16 ^^^ (bt s).getD (p + 1) 0 * 4 ^^^ (bt s).getD (p + 2) 0) &&& (2 ^ 6 - 1) from by rw [and_mask]; rfl]
    exact_mod_cast And_nat (b := 63) (by omega) (by omega)
  rw [e3]
  exact hK

theorem and_15 {p : Nat} (h : p < 9223372036854775808) : And .i64 (p : Int) 15 = ((p % 16 : Nat) : Int) := by
  rw [show p % 16 = p &&& (2 ^ 4 - 1) from by rw [and_mask]]
  exact_mod_cast And_nat (b := 15) h (by omega)

theorem lz_enter_spec {s : ByteArray} {p : Nat} {toks : List Tok} {K : World → Prop} (hs : s.size ≤ 256) (hp : p < s.size) (h : LzAt w B (Chain (bt s) p) toks)
    (hK : ∀ w', LzAt w' B (Chain (bt s) (p + 1)) toks → Fr B 4 w w' → w'.heap.size = w.heap.size → K w') : S.lz_Matcher_enter B s (p : Int) w K := by
  unfold S.lz_Matcher_enter
  obtain ⟨head, prev, junk, pr, hc, h1, h2, r⟩ := h
  rw [W_id (by omega) (by omega)]
  by_cases hp3 : p + 3 ≤ s.size
  · rw [if_neg (by simp only [decide_eq_true_eq]; omega)]
    refine lz_hash_spec hs hp3 ?_
    have hlt := hsh_lt (bt s) p
    refine drew_ (ldS r.rc.drew rfl (ldS r.rc.drew rfl ?_))
    refine ix rfl (by omega) (by show ((hsh (bt s) p : Nat) : Int) < 64; omega) ?_
    refine ldA r.hd.drew (by rw [Int.toNat_natCast]; exact hc.hd _ hlt) ?_
    rw [and_15 (by omega)]
    refine ix rfl (by omega) (by show ((p % 16 : Nat) : Int) < 16; omega) ?_
    refine stA r.pv.drew (by rw [Int.toNat_natCast]; omega) fun w1 b1 f1 s1 => ?_
    have rc1 := r.rc.drew.fr f1 (by omega)
    refine ldS rc1 rfl ?_
    refine ix rfl (by omega) (by show ((hsh (bt s) p : Nat) : Int) < 64; omega) ?_
    refine stA (r.hd.drew.fr f1 (by omega)) (by rw [Int.toNat_natCast]; omega) fun w2 b2 f2 s2 => ?_
    have hc2 := chain_enter hc (by simpa using hp3)
    rw [Int.toNat_natCast] at b1 b2
    refine hK w2 ⟨_, _, junk, pr, hc2, hc2.hl, hc2.pl, rc1.fr f2 (by omega), b2, b1.fr f2 (by omega), (r.tk.drew.fr f1 (by omega)).fr f2 (by omega), r.jl⟩ ?_ (by rw [s2, s1]; rfl)
    exact ((show Fr (B + 2) 1 w w1 from f1).mono (by omega) (by omega)).trans (f2.mono (by omega) (by omega))
  · rw [if_pos (by simp only [decide_eq_true_eq]; omega)]
    have hc2 := chain_skip hc (by simpa using hp3)
    exact hK w ⟨head, prev, junk, pr, hc2, h1, h2, r⟩ (Fr.refl _ _ _) rfl

theorem lz_enterAll_spec {s : ByteArray} {a b : Nat} {toks : List Tok} {K : World → Prop} (hs : s.size ≤ 256) (hab : a ≤ b) (hb : b ≤ s.size) (h : LzAt w B (Chain (bt s) a) toks)
    (hK : ∀ w', LzAt w' B (Chain (bt s) b) toks → Fr B 4 w w' → w'.heap.size = w.heap.size → K w') : S.lz_Matcher_enterAll B s (a : Int) (b : Int) w K := by
  unfold S.lz_Matcher_enterAll
  refine loopP (fun st w1 => ∃ j : Nat, st = ((j : Int), ()) ∧ j ≤ b ∧ LzAt w1 B (Chain (bt s) j) toks ∧ Fr B 4 w w1 ∧ w1.heap.size = w.heap.size) (fun st _ => b - st.1.toNat) ⟨a, rfl, hab, h, Fr.refl _ _ _, rfl⟩ ?_
  rintro _ w1 ⟨j, rfl, hj, h1, f1, s1⟩
  dsimp only
  by_cases hlt : j < b
  · rw [if_pos (by simp only [decide_eq_true_eq]; omega)]
    refine lz_enter_spec hs (by omega) h1 fun w2 h2 f2 s2 => ?_
    rw [show W ((j : Int) + 1) = ((j + 1 : Nat) : Int) from by rw [W_id (by omega) (by omega)]; omega]
    exact let_ ⟨⟨j + 1, rfl, by omega, h2, f1.trans f2, by omega⟩, by simp; omega⟩
  · rw [if_neg (by simp only [decide_eq_true_eq]; omega)]
    have : j = b := by omega
    subst this
    exact hK w1 h1 f1 s1

theorem lz_span_spec {s : ByteArray} {c i lim : Nat} {K : Int → World → Prop} (hs : s.size ≤ 256) (hc : c < i) (hl : i + lim ≤ s.size)
    (hK : ∀ n w', IsRun (fun n => (bt s).getD (c + n) 0 == (bt s).getD (i + n) 0) lim n → w'.heap = w.heap → K (n : Int) w') : S.lz_span s (c : Int) (i : Int) (lim : Int) w K := by
  unfold S.lz_span
  refine loopP (fun st w1 => ∃ n : Nat, st = ((n : Int), ()) ∧ n ≤ lim ∧ (∀ m, m < n → ((bt s).getD (c + m) 0 == (bt s).getD (i + m) 0) = true) ∧ w1.heap = w.heap) (fun st _ => lim - st.1.toNat) ⟨0, rfl, by omega, fun m hm => by omega, rfl⟩ ?_
  rintro _ w1 ⟨n, rfl, hn, hag, e1⟩
  refine drew_ ?_
  dsimp only
  by_cases hlt : n < lim
  · rw [if_pos (by simp only [decide_eq_true_eq]; omega), W_id (by omega) (by omega)]
    refine ixStr (m := (bt s).getD (c + n) 0) (by omega) (by rw [show ((c : Int) + (n : Int)).toNat = c + n from by omega]; exact getD_some (by simp; omega)) ?_
    rw [W_id (by omega) (by omega)]
    refine ixStr (m := (bt s).getD (i + n) 0) (by omega) (by rw [show ((i : Int) + (n : Int)).toNat = i + n from by omega]; exact getD_some (by simp; omega)) ?_
    by_cases he : (bt s).getD (c + n) 0 = (bt s).getD (i + n) 0
    · rw [if_pos (by simp only [beq_iff_eq]; omega), show W ((n : Int) + 1) = ((n + 1 : Nat) : Int) from by rw [W_id (by omega) (by omega)]; omega]
      refine let_ ⟨⟨n + 1, rfl, by omega, fun m hm => ?_, e1⟩, by simp; omega⟩
      rcases Nat.lt_or_ge m n with h' | h'
      · exact hag m h'
      · have : m = n := by omega
        subst this
        simpa using he
    · rw [if_neg (by simp only [beq_iff_eq]; omega)]
      exact hK n _ ⟨hn, hag, fun _ => by simpa using he⟩ e1
  · rw [if_neg (by simp only [decide_eq_true_eq]; omega)]
    exact hK n _ ⟨hn, hag, fun h => absurd h hlt⟩ e1

theorem RLzW.heq {head prev : List Int} {toks : List Tok} {junk : List Value} {pr : Int} (r : RLzW w B head prev toks junk pr) (e : w'.heap = w.heap) : RLzW w' B head prev toks junk pr :=
  ⟨r.rc.heq e, r.hd.heq e, r.pv.heq e, r.tk.heq e, r.jl⟩

/-- What a walk along a chain knows: every candidate at q or behind it has been tried. -/
structure Seek (s : List Nat) (i q bl bd : Nat) : Prop where
  lo : 2 ≤ bl
  all : ∀ d, 1 ≤ d → d ≤ 16 → d ≤ i → q ≤ i - d → mlen s i d ≤ bl
  hit : bl = 2 ∧ bd = 0 ∨ 3 ≤ bl ∧ 1 ≤ bd ∧ bd ≤ 16 ∧ bd ≤ i ∧ q ≤ i - bd ∧ mlen s i bd = bl ∧ ∀ d, 1 ≤ d → d < bd → mlen s i d < bl
theorem Seek.fin {s : List Nat} {i q bl bd : Nat} (h : Seek s i q bl bd) (hrest : ∀ d, 1 ≤ d → d ≤ 16 → d ≤ i → i - d < q → mlen s i d ≤ bl) : best s i = if bd = 0 then (0, 0) else (bl, bd) := by
  refine best_eq h.lo (fun d h1 h2 h3 => ?_) ?_
  · rcases Nat.lt_or_ge (i - d) q with h' | h'
    · exact hrest d h1 h2 h3 h'
    · exact h.all d h1 h2 h3 h'
  · rcases h.hit with h' | ⟨a, b, c, d, e, f, g⟩
    · exact .inl h'
    · exact .inr ⟨a, b, c, d, f, g⟩

theorem lz_seek_spec {s : ByteArray} {i : Nat} {toks : List Tok} {K : Int → Int → World → Prop} (hs : s.size ≤ 256) (hi : i ≤ s.size) (h : LzAt w B (Chain (bt s) i) toks)
    (hK : ∀ w', LzAt w' B (Chain (bt s) i) toks → Fr B 4 w w' → w'.heap.size = w.heap.size → K ((best (bt s) i).1 : Int) ((best (bt s) i).2 : Int) w') : S.lz_Matcher_seek B s (i : Int) w K := by
  unfold S.lz_Matcher_seek
  rw [W_id (by omega) (by omega)]
  rcases Nat.lt_or_ge s.size (i + 3) with hi3 | hi3
  · rw [if_pos (by simp only [decide_eq_true_eq]; omega)]
    have := hK w h (Fr.refl _ _ _) rfl
    rw [best_short (by simpa using hi3)] at this
    exact this
  rw [if_neg (by simp only [decide_eq_true_eq]; omega), W_id (by omega) (by omega)]
  refine let_ (join_ ?_)
  have main : ∀ lim : Nat, lim = min (s.size - i) 10 → (S.lz_hash s (i : Int) w (fun r3 w =>
      LdS w ⟨B, 0, none⟩ fun head_4 =>
      Ix head_4.a head_4.l r3 fun b5 o6 =>
      LdI .i64 w ⟨b5, o6 + Int.toNat r3 * 1, none⟩ fun x_7 =>
      Join (fun (best_8 : Int) (dist_9 : Int) (w : World) =>
        if (dist_9 == 0) = true then
          K 0 0 w
        else
          K best_8 dist_9 w) fun J10 =>
      LoopP (σ := Int × Int × Int × Unit) (fun st11 w next12 =>
        if (st11.1 != (-1)) = true then
          if (decide ((W ((i : Int) - st11.1)) ≤ 16)) = true then
            if (decide (st11.2.1 < (lim : Int))) = true then
              LdI .i64 w ⟨B, 4, none⟩ fun probes_13 =>
              St1 w ⟨B, 4, none⟩ (.int .i64 (W (probes_13 + 1))) fun w =>
              Drew w fun w =>
              IxStr s (W (st11.1 + st11.2.1)) fun c14 =>
              IxStr s (W ((i : Int) + st11.2.1)) fun c15 =>
              Join (fun (best_16 : Int) (dist_17 : Int) (w : World) =>
                LdS w ⟨B, 1, none⟩ fun prev_18 =>
                Ix prev_18.a prev_18.l (And .i64 st11.1 15) fun b19 o20 =>
                LdI .i64 w ⟨b19, o20 + Int.toNat (And .i64 st11.1 15) * 1, none⟩ fun x_21 =>
                next12 (x_21, best_16, dist_17, ()) w) fun J22 =>
              if (c14 == c15) = true then
                S.lz_span s st11.1 (i : Int) (lim : Int) w (fun r23 w =>
                if (decide (r23 > st11.2.1)) = true then
                  Let (W ((i : Int) - st11.1)) fun dist_24 =>
                  J22 r23 dist_24 w
                else
                  J22 st11.2.1 st11.2.2.1 w)
              else
                J22 st11.2.1 st11.2.2.1 w
            else
              J10 st11.2.1 st11.2.2.1 w
          else
            J10 st11.2.1 st11.2.2.1 w
        else
          J10 st11.2.1 st11.2.2.1 w) (x_7, 2, 0, ()) w)) := by
    intro lim hlim
    refine lz_hash_spec hs hi3 ?_
    obtain ⟨head, prev, junk, pr, hc, h1, h2, r⟩ := id h
    have hlt := hsh_lt (bt s) i
    refine ldS r.rc rfl ?_
    refine ix rfl (by omega) (by show ((hsh (bt s) i : Nat) : Int) < 64; omega) ?_
    refine ldA r.hd (by rw [Int.toNat_natCast]; exact hc.hd _ hlt) ?_
    refine join_ ?_
    refine loopP (fun st w1 => ∃ (q bl bd : Nat) (pr1 : Int), st = (lastH (bt s) q (hsh (bt s) i), (bl : Int), (bd : Int), ()) ∧ q ≤ i ∧ i ≤ q + 16 ∧ Seek (bt s) i q bl bd ∧ bl ≤ lim ∧ RLzW w1 B head prev toks junk pr1 ∧ Fr B 4 w w1 ∧ w1.heap.size = w.heap.size) (fun st _ => (st.1 + 1).toNat)
      ⟨i, 2, 0, pr, rfl, by omega, by omega, ⟨by omega, fun d a1 a2 a3 a4 => by omega, .inl ⟨rfl, rfl⟩⟩, by omega, r, Fr.refl _ _ _, rfl⟩ ?_
    rintro _ w1 ⟨q, bl, bd, pr1, rfl, hq, hqw, hseek, hbl, r1, f1, s1⟩
    dsimp only
    have done : ∀ w2, RLzW w2 B head prev toks junk pr1 → Fr B 4 w w2 → w2.heap.size = w.heap.size → (∀ d, 1 ≤ d → d ≤ 16 → d ≤ i → i - d < q → mlen (bt s) i d ≤ bl) → (if ((bd : Int) == 0) = true then K 0 0 w2 else K (bl : Int) (bd : Int) w2) := by
      intro w2 r2 f2 s2 hrest
      have e := hseek.fin hrest
      have := hK w2 ⟨head, prev, junk, pr1, hc, h1, h2, r2⟩ f2 s2
      rw [e] at this
      by_cases hz : bd = 0
      · rw [if_pos hz] at this
        rw [if_pos (by simp [hz])]
        exact this
      · rw [if_neg hz] at this
        rw [if_neg (by simp [hz])]
        exact this
    have short : ∀ d, 1 ≤ d → d ≤ i → (i - d + 3 ≤ s.size → hsh (bt s) (i - d) ≠ hsh (bt s) i) → mlen (bt s) i d ≤ bl := by
      intro d hd1 hd2 hh
      rcases Nat.lt_or_ge (mlen (bt s) i d) 3 with h' | h'
      · have := hseek.lo; omega
      · have := mlen_hash hd1 hd2 h'
        rw [bt_length] at this
        exact absurd this.1 (hh this.2)
    rcases lastH_cases (bt s) (hsh (bt s) i) q with e | ⟨c, e, c1, c2, c3, c4⟩
    · rw [e, if_neg (by simp)]
      refine done w1 r1 f1 s1 fun d d1 d2 d3 d4 => short d d1 d3 fun hd => ?_
      exact lastH_none e (i - d) d4 (by simpa using hd)
    · rw [bt_length] at c2
      rw [e, if_pos (by simp only [bne_iff_ne, ne_eq]; omega)]
      rw [W_id (by omega) (by omega)]
      by_cases h16 : i - c ≤ 16
      · rw [if_pos (by simp only [decide_eq_true_eq]; omega)]
        by_cases hb : bl < lim
        · rw [if_pos (by simp only [decide_eq_true_eq]; omega)]
          refine ldI r1.rc rfl ?_
          refine st1 r1.rc (by simp) fun w2 rc2 f2 s2 => ?_
          have r2 : RLzW w2.drew B head prev toks junk (W (pr1 + 1)) := ⟨rc2, r1.hd.fr f2 (by omega), r1.pv.fr f2 (by omega), r1.tk.fr f2 (by omega), r1.jl⟩
          have f2' : Fr B 4 w w2.drew := f1.trans ((show Fr B 1 w1 w2 from f2).mono (by omega) (by omega))
          have s2' : w2.drew.heap.size = w.heap.size := by show w2.heap.size = _; omega
          refine drew_ ?_
          rw [W_id (by omega) (by omega)]
          refine ixStr (m := (bt s).getD (c + bl) 0) (by omega) (by rw [show ((c : Int) + (bl : Int)).toNat = c + bl from by omega]; exact getD_some (by simp; omega)) ?_
          rw [W_id (by omega) (by omega)]
          refine ixStr (m := (bt s).getD (i + bl) 0) (by omega) (by rw [show ((i : Int) + (bl : Int)).toNat = i + bl from by omega]; exact getD_some (by simp; omega)) ?_
          refine join_ ?_
          have next : ∀ (bl' bd' : Nat) (w3 : World), Seek (bt s) i c bl' bd' → bl' ≤ lim → RLzW w3 B head prev toks junk (W (pr1 + 1)) → Fr B 4 w w3 → w3.heap.size = w.heap.size → (LdS w3 ⟨B, 1, none⟩ fun prev_18 =>
                Ix prev_18.a prev_18.l (And .i64 (c : Int) 15) fun b19 o20 =>
                LdI .i64 w3 ⟨b19, o20 + Int.toNat (And .i64 (c : Int) 15) * 1, none⟩ fun x_21 =>
                (∃ (q bl bd : Nat) (pr1 : Int), (x_21, (bl' : Int), (bd' : Int), ()) = (lastH (bt s) q (hsh (bt s) i), (bl : Int), (bd : Int), ()) ∧ q ≤ i ∧ i ≤ q + 16 ∧ Seek (bt s) i q bl bd ∧ bl ≤ lim ∧ RLzW w3 B head prev toks junk pr1 ∧ Fr B 4 w w3 ∧ w3.heap.size = w.heap.size) ∧ (x_21 + 1).toNat < ((c : Int) + 1).toNat) := by
            intro bl' bd' w3 hsk hbl' r3 f3 s3
            refine ldS r3.rc rfl ?_
            rw [and_15 (by omega)]
            refine ix rfl (by omega) (by show ((c % 16 : Nat) : Int) < 16; omega) ?_
            refine ldA r3.pv (by rw [Int.toNat_natCast]; exact hc.pv c (by omega) (by omega) (by simpa using c2)) ?_
            refine ⟨⟨c, bl', bd', _, by rw [c3], by omega, by omega, hsk, hbl', r3, f3, s3⟩, ?_⟩
            rcases lastH_cases (bt s) (hsh (bt s) c) c with e' | ⟨c', e', c1', _⟩
            · rw [e']; omega
            · rw [e']; omega
          have cand : ∀ d, 1 ≤ d → d ≤ 16 → d ≤ i → c < i - d → i - d < q → mlen (bt s) i d ≤ bl := fun d d1 d2 d3 d4 d5 => short d d1 d3 fun hd => c4 (i - d) d4 d5 (by simpa using hd)
          have keep : mlen (bt s) i (i - c) ≤ bl → Seek (bt s) i c bl bd := fun hm => by
            refine ⟨hseek.lo, fun d d1 d2 d3 d4 => ?_, ?_⟩
            · rcases Nat.lt_or_ge (i - d) q with h' | h'
              · rcases Nat.lt_or_ge c (i - d) with h'' | h''
                · exact cand d d1 d2 d3 h'' h'
                · have : d = i - c := by omega
                  rw [this]; exact hm
              · exact hseek.all d d1 d2 d3 h'
            · rcases hseek.hit with h' | ⟨a1, a2, a3, a4, a5, a6, a7⟩
              · exact .inl h'
              · exact .inr ⟨a1, a2, a3, a4, by omega, a6, a7⟩
          by_cases he : (bt s).getD (c + bl) 0 = (bt s).getD (i + bl) 0
          · rw [if_pos (by simp only [beq_iff_eq]; omega)]
            refine lz_span_spec hs (by omega) (by omega) fun n w3 hrun e3 => ?_
            have hm : mlen (bt s) i (i - c) = n := mlen_span (by omega) (by simpa using hi) (by rw [bt_length, ← hlim]; exact hrun)
            have r3 := r2.heq e3
            have f3 := Fr.heq f2' e3
            have s3 : w3.heap.size = w.heap.size := by rw [e3]; exact s2'
            by_cases hn : n > bl
            · rw [if_pos (by simp only [decide_eq_true_eq]; omega), show (i : Int) - (c : Int) = ((i - c : Nat) : Int) from by omega]
              refine let_ (next n (i - c) w3 ⟨by have := hseek.lo; omega, fun d d1 d2 d3 d4 => ?_, .inr ⟨by have := hseek.lo; omega, by omega, by omega, by omega, by omega, hm, fun d d1 d2 => ?_⟩⟩ hrun.1 r3 f3 s3)
              · rcases Nat.lt_or_ge (i - d) q with h' | h'
                · rcases Nat.lt_or_ge c (i - d) with h'' | h''
                  · have := cand d d1 d2 d3 h'' h'; omega
                  · have : d = i - c := by omega
                    rw [this, hm]; omega
                · have := hseek.all d d1 d2 d3 h'; omega
              · rcases Nat.lt_or_ge (i - d) q with h' | h'
                · have := cand d d1 (by omega) (by omega) (by omega) h'; omega
                · have := hseek.all d d1 (by omega) (by omega) h'; omega
            · rw [if_neg (by simp only [decide_eq_true_eq]; omega)]
              exact next bl bd w3 (keep (by omega)) hbl r3 f3 s3
          · rw [if_neg (by simp only [beq_iff_eq]; omega)]
            exact next bl bd _ (keep (mlen_reject (by omega) he)) hbl r2 f2' s2'
        · rw [if_neg (by simp only [decide_eq_true_eq]; omega)]
          refine done w1 r1 f1 s1 fun d d1 d2 d3 d4 => ?_
          have a1 := mlen_le (bt s) i d
          have a2 := mlen_fit (s := bt s) (i := i) (d := d) (by simpa using hi)
          rw [bt_length] at a2
          omega
      · rw [if_neg (by simp only [decide_eq_true_eq]; omega)]
        refine done w1 r1 f1 s1 fun d d1 d2 d3 d4 => short d d1 d3 fun hd => ?_
        exact c4 (i - d) (by omega) d4 (by simpa using hd)
  by_cases hlim : s.size - i > 10
  · rw [if_pos (by simp only [decide_eq_true_eq]; omega)]
    exact main 10 (by omega)
  · rw [if_neg (by simp only [decide_eq_true_eq]; omega), show (s.size : Int) - (i : Int) = ((s.size - i : Nat) : Int) from by omega]
    exact main (s.size - i) (by omega)

/-- A token joins. -/
theorem lz_push {C : List Int → List Int → Prop} {toks : List Tok} {t : Tok} {a b c : Int} {K : World → Prop} (hl : toks.length < 256) (h : LzAt w B C toks) (ha : a = t.1) (hb : b = t.2.1) (hc : c = t.2.2)
    (hK : ∀ w', LzAt w' B C (toks ++ [t]) → Fr B 4 w w' → w'.heap.size = w.heap.size → K w') :
    (Drew w fun w =>
  LdS w ⟨B, 2, none⟩ fun toks_1 =>
  LdI .i64 w ⟨B, 3, none⟩ fun n_2 =>
  Ix toks_1.a toks_1.l n_2 fun b3 o4 =>
  St1 w ⟨b3, o4 + Int.toNat n_2 * 3, none⟩ (.int .i64 a) fun w =>
  St1 w ⟨b3, o4 + Int.toNat n_2 * 3 + 1, none⟩ (.int .i64 b) fun w =>
  St1 w ⟨b3, o4 + Int.toNat n_2 * 3 + 2, none⟩ (.int .i64 c) fun w =>
  LdI .i64 w ⟨B, 3, none⟩ fun n_5 =>
  St1 w ⟨B, 3, none⟩ (.int .i64 (W (n_5 + 1))) fun w =>
  K w) := by
  obtain ⟨head, prev, junk, pr, hcc, h1, h2, r⟩ := h
  have hjl := r.jl
  have htl := toks_length toks
  refine drew_ (ldS r.rc.drew rfl (ldI r.rc.drew rfl ?_))
  refine ix rfl (by omega) (by show (toks.length : Int) < 256; omega) ?_
  rw [Int.toNat_natCast]
  refine stJ r.tk.drew (by rw [htl]; omega) (by omega) fun w1 b1 f1 s1 => ?_
  refine stJ b1 (by rw [List.length_append, htl]; simp) (by rw [List.length_tail]; omega) fun w2 b2 f2 s2 => ?_
  refine stJ b2 (by rw [List.length_append, List.length_append, htl]; simp) (by rw [List.length_tail, List.length_tail]; omega) fun w3 b3 f3 s3 => ?_
  have f13 := ((show Fr (B + 3) 1 w w1 from f1).trans f2).trans f3
  have rc3 := r.rc.fr f13 (by omega)
  refine ldI rc3 rfl ?_
  refine st1 rc3 (by simp) fun w4 rc4 f4 s4 => ?_
  rw [W_id (by omega) (by omega)] at rc4
  refine hK w4 ⟨head, prev, junk.tail.tail.tail, pr, hcc, h1, h2, ?_, (r.hd.fr f13 (by omega)).fr f4 (by omega), (r.pv.fr f13 (by omega)).fr f4 (by omega), ?_, ?_⟩ ((f13.mono (by omega) (by omega)).trans (f4.mono (by omega) (by omega))) ?_
  · rw [List.length_append]
    exact rc4
  · have := b3.fr f4 (by omega)
    rw [List.flatMap_append]
    simp only [List.flatMap_cons, List.flatMap_nil, List.append_nil, tokv, ← ha, ← hb, ← hc]
    simpa using this
  · simp only [List.length_append, List.length_tail, List.length_cons, List.length_nil]; omega
  · rw [s4, s3, s2, s1]; rfl

theorem lz_lit_spec {C : List Int → List Int → Prop} {toks : List Tok} {c : Nat} {K : World → Prop} (hl : toks.length < 256) (hc : c < 256) (h : LzAt w B C toks)
    (hK : ∀ w', LzAt w' B C (toks ++ [(0, 0, c)]) → Fr B 4 w w' → w'.heap.size = w.heap.size → K w') : S.lz_Matcher_lit B (c : Int) w K := by
  unfold S.lz_Matcher_lit
  rw [W_id (by omega) (by omega)]
  exact lz_push hl h rfl rfl rfl hK
theorem lz_dup_spec {C : List Int → List Int → Prop} {toks : List Tok} {n d : Nat} {K : World → Prop} (hl : toks.length < 256) (h : LzAt w B C toks)
    (hK : ∀ w', LzAt w' B C (toks ++ [(n, d, 0)]) → Fr B 4 w w' → w'.heap.size = w.heap.size → K w') : S.lz_Matcher_dup B (n : Int) (d : Int) w K := by
  unfold S.lz_Matcher_dup
  exact lz_push hl h rfl rfl rfl hK

theorem pst_step {level : Nat} {s : List Nat} {k : Nat} (h : (pst level s k).1 < s.length) :
    pst level s (k + 1) = ((pst level s k).1 + adv (tokAt level s (pst level s k).1), (pst level s k).2 ++ [tokAt level s (pst level s k).1]) := by
  simp only [pst]; rw [if_pos h]
theorem bt_at {s : ByteArray} {i : Nat} (h : i < s.size) : (bt s)[i]? = some ((bt s).getD i 0) ∧ (bt s).getD i 0 < 256 :=
  ⟨getD_some (by simpa using h), bt_get_lt (getD_some (by simpa using h))⟩

theorem lz_plain_spec {C : List Int → List Int → Prop} {s : ByteArray} {K : World → Prop} (hs : s.size ≤ 256) (h : LzAt w B C [])
    (hK : ∀ w', LzAt w' B C (tokens 0 (bt s)) → Fr B 4 w w' → w'.heap.size = w.heap.size → K w') : S.lz_Matcher_plain B s w K := by
  unfold S.lz_Matcher_plain
  refine loopP (fun st w1 => ∃ k : Nat, st = (((pst 0 (bt s) k).1 : Int), ()) ∧ LzAt w1 B C (pst 0 (bt s) k).2 ∧ Fr B 4 w w1 ∧ w1.heap.size = w.heap.size) (fun st _ => s.size - st.1.toNat) ⟨0, rfl, h, Fr.refl _ _ _, rfl⟩ ?_
  rintro _ w1 ⟨k, rfl, h1, f1, s1⟩
  dsimp only
  obtain ⟨p1, p2, p3⟩ := pst_le 0 (bt s) k
  rw [bt_length] at p1 p2
  by_cases hlt : (pst 0 (bt s) k).1 < s.size
  · rw [if_pos (by simp only [decide_eq_true_eq]; omega)]
    have hst := pst_step (level := 0) (s := bt s) (k := k) (by simpa using hlt)
    have hc := bt_at hlt
    refine ixStr (by omega) (by rw [Int.toNat_natCast]; exact hc.1) ?_
    refine lz_lit_spec (by omega) hc.2 h1 fun w2 h2 f2 s2 => ?_
    rw [show W (((pst 0 (bt s) k).1 : Int) + 1) = (((pst 0 (bt s) (k + 1)).1 : Nat) : Int) from by rw [W_id (by omega) (by omega), hst]; simp [tokAt, pickAt, adv]]
    refine let_ ⟨⟨k + 1, rfl, ?_, f1.trans f2, by omega⟩, ?_⟩
    · rw [hst]; exact h2
    · rw [hst]; simp [tokAt, pickAt, adv]; omega
  · rw [if_neg (by simp only [decide_eq_true_eq]; omega)]
    have et := tokens_eq (level := 0) (s := bt s) (k := k) (by rw [bt_length]; omega)
    rw [← et] at h1
    exact hK w1 h1 f1 s1

theorem lz_greedy_spec {s : ByteArray} {K : World → Prop} (hs : s.size ≤ 256) (h : LzAt w B (Chain (bt s) 0) [])
    (hK : ∀ w', LzAt w' B (fun _ _ => True) (tokens 1 (bt s)) → Fr B 4 w w' → w'.heap.size = w.heap.size → K w') : S.lz_Matcher_greedy B s w K := by
  unfold S.lz_Matcher_greedy
  refine loopP (fun st w1 => ∃ k : Nat, st = (((pst 1 (bt s) k).1 : Int), ()) ∧ LzAt w1 B (Chain (bt s) (pst 1 (bt s) k).1) (pst 1 (bt s) k).2 ∧ Fr B 4 w w1 ∧ w1.heap.size = w.heap.size) (fun st _ => s.size - st.1.toNat) ⟨0, rfl, h, Fr.refl _ _ _, rfl⟩ ?_
  rintro _ w1 ⟨k, rfl, h1, f1, s1⟩
  dsimp only
  obtain ⟨p1, p2, p3⟩ := pst_le 1 (bt s) k
  rw [bt_length] at p1 p2
  by_cases hlt : (pst 1 (bt s) k).1 < s.size
  · rw [if_pos (by simp only [decide_eq_true_eq]; omega)]
    have hst := pst_step (level := 1) (s := bt s) (k := k) (by simpa using hlt)
    have hadv := adv_fit (level := 1) (s := bt s) (i := (pst 1 (bt s) k).1) (by simpa using hlt)
    rw [bt_length] at hadv
    generalize hi : (pst 1 (bt s) k).1 = i at *
    have hpick : pickAt 1 (bt s) i = best (bt s) i := by simp [pickAt]
    refine lz_seek_spec hs (by omega) h1 fun w2 h2 f2 s2 => ?_
    refine join_ ?_
    have fin : ∀ (n : Nat) (w3 : World), n = adv (tokAt 1 (bt s) i) → LzAt w3 B (Chain (bt s) i) ((pst 1 (bt s) k).2 ++ [tokAt 1 (bt s) i]) → Fr B 4 w w3 → w3.heap.size = w.heap.size →
        S.lz_Matcher_enterAll B s (i : Int) (W ((i : Int) + (n : Int))) w3 (fun v =>
        Let (W ((i : Int) + (n : Int))) fun i_6 =>
        (∃ k : Nat, (i_6, ()) = (((pst 1 (bt s) k).1 : Int), ()) ∧ LzAt v B (Chain (bt s) (pst 1 (bt s) k).1) (pst 1 (bt s) k).2 ∧ Fr B 4 w v ∧ v.heap.size = w.heap.size) ∧ s.size - i_6.toNat < s.size - (i : Int).toNat) := by
      intro n w3 hn h3 f3 s3
      rw [show W ((i : Int) + (n : Int)) = ((i + n : Nat) : Int) from by rw [W_id (by omega) (by omega)]; omega]
      refine lz_enterAll_spec hs (by omega) (by omega) h3 fun w4 h4 f4 s4 => ?_
      refine let_ ⟨⟨k + 1, ?_, ?_, f3.trans f4, by omega⟩, by omega⟩
      · rw [hst, hn]
      · rw [hst, ← hn]; exact h4
    by_cases hz : (best (bt s) i).1 = 0
    · rw [if_pos (by simp [hz])]
      have hc := bt_at hlt
      refine ixStr (by omega) (by rw [Int.toNat_natCast]; exact hc.1) ?_
      have ht : tokAt 1 (bt s) i = (0, 0, (bt s).getD i 0) := by simp [tokAt, hpick, hz]
      refine lz_lit_spec (by omega) hc.2 h2 fun w3 h3 f3 s3 => ?_
      rw [← ht] at h3
      exact fin 1 w3 (by rw [ht]; rfl) h3 ((f1.trans f2).trans f3) (by omega)
    · rw [if_neg (by simp only [beq_iff_eq]; omega)]
      have ht : tokAt 1 (bt s) i = ((best (bt s) i).1, (best (bt s) i).2, 0) := by simp [tokAt, hpick, hz]
      refine lz_dup_spec (by omega) h2 fun w3 h3 f3 s3 => ?_
      rw [← ht] at h3
      exact fin (best (bt s) i).1 w3 (by rw [ht]; simp [adv, hz]) h3 ((f1.trans f2).trans f3) (by omega)
  · rw [if_neg (by simp only [decide_eq_true_eq]; omega)]
    have et := tokens_eq (level := 1) (s := bt s) (k := k) (by rw [bt_length]; omega)
    rw [← et] at h1
    exact hK w1 (h1.weak fun _ _ _ => trivial) f1 s1

theorem lz_lazy_spec {s : ByteArray} {K : World → Prop} (hs : s.size ≤ 256) (h : LzAt w B (Chain (bt s) 0) [])
    (hK : ∀ w', LzAt w' B (fun _ _ => True) (tokens 2 (bt s)) → Fr B 4 w w' → w'.heap.size = w.heap.size → K w') : S.lz_Matcher_lazy B s w K := by
  unfold S.lz_Matcher_lazy
  refine lz_seek_spec (i := 0) hs (by omega) h fun w0 h0 f0 s0 => ?_
  refine loopP (fun st w1 => ∃ k : Nat, st = (((pst 2 (bt s) k).1 : Int), ((best (bt s) (pst 2 (bt s) k).1).1 : Int), ((best (bt s) (pst 2 (bt s) k).1).2 : Int), ()) ∧ LzAt w1 B (Chain (bt s) (pst 2 (bt s) k).1) (pst 2 (bt s) k).2 ∧ Fr B 4 w w1 ∧ w1.heap.size = w.heap.size) (fun st _ => s.size - st.1.toNat)
    ⟨0, rfl, h0, f0, s0⟩ ?_
  rintro _ w1 ⟨k, rfl, h1, f1, s1⟩
  dsimp only
  obtain ⟨p1, p2, p3⟩ := pst_le 2 (bt s) k
  rw [bt_length] at p1 p2
  by_cases hlt : (pst 2 (bt s) k).1 < s.size
  · rw [if_pos (by simp only [decide_eq_true_eq]; omega)]
    have hst := pst_step (level := 2) (s := bt s) (k := k) (by simpa using hlt)
    have hadv := adv_fit (level := 2) (s := bt s) (i := (pst 2 (bt s) k).1) (by simpa using hlt)
    rw [bt_length] at hadv
    generalize hi : (pst 2 (bt s) k).1 = i at *
    have hbf := best_fit (s := bt s) (i := i) (by simp; omega)
    rw [bt_length] at hbf
    have hc := bt_at hlt
    have hW1 : W ((i : Int) + 1) = ((i + 1 : Nat) : Int) := by rw [W_id (by omega) (by omega)]; omega
    refine lz_enter_spec hs hlt h1 fun w2 h2 f2 s2 => ?_
    by_cases hz : (best (bt s) i).1 = 0
    · rw [if_pos (by simp [hz])]
      have ht : tokAt 2 (bt s) i = (0, 0, (bt s).getD i 0) := by simp [tokAt, pickAt, hz]
      refine ixStr (by omega) (by rw [Int.toNat_natCast]; exact hc.1) ?_
      refine lz_lit_spec (by omega) hc.2 h2 fun w3 h3 f3 s3 => ?_
      rw [← ht] at h3
      rw [hW1]
      refine let_ (lz_seek_spec hs (by omega) h3 fun w4 h4 f4 s4 => ?_)
      have e1 : (pst 2 (bt s) (k + 1)).1 = i + 1 := by rw [hst, ht]; rfl
      refine ⟨⟨k + 1, by rw [e1], ?_, ((f1.trans f2).trans f3).trans f4, by omega⟩, by omega⟩
      rw [e1, hst]; exact h4
    · rw [if_neg (by simp only [beq_iff_eq]; omega)]
      refine join_ ?_
      have dup : ∀ w3, LzAt w3 B (Chain (bt s) (i + 1)) (pst 2 (bt s) k).2 → Fr B 4 w w3 → w3.heap.size = w.heap.size → ¬ ((best (bt s) i).1 < 10 ∧ (best (bt s) i).1 < (best (bt s) (i + 1)).1) →
          S.lz_Matcher_dup B ((best (bt s) i).1 : Int) ((best (bt s) i).2 : Int) w3 (fun v =>
            S.lz_Matcher_enterAll B s (W ((i : Int) + 1)) (W ((i : Int) + ((best (bt s) i).1 : Int))) v (fun v =>
            Let (W ((i : Int) + ((best (bt s) i).1 : Int))) fun i_13 =>
            S.lz_Matcher_seek B s i_13 v (fun r14 r15 v =>
            (∃ k : Nat, (i_13, r14, r15, ()) = (((pst 2 (bt s) k).1 : Int), ((best (bt s) (pst 2 (bt s) k).1).1 : Int), ((best (bt s) (pst 2 (bt s) k).1).2 : Int), ()) ∧ LzAt v B (Chain (bt s) (pst 2 (bt s) k).1) (pst 2 (bt s) k).2 ∧ Fr B 4 w v ∧ v.heap.size = w.heap.size) ∧ s.size - i_13.toNat < s.size - (i : Int).toNat))) := by
        intro w3 h3 f3 s3 hno
        have ht : tokAt 2 (bt s) i = ((best (bt s) i).1, (best (bt s) i).2, 0) := by
          have : pickAt 2 (bt s) i = best (bt s) i := by simp only [pickAt]; rw [if_neg (by omega), if_neg (fun x => hno ⟨x.2.2.1, x.2.2.2⟩)]
          simp [tokAt, this, hz]
        refine lz_dup_spec (by omega) h3 fun w4 h4 f4 s4 => ?_
        rw [← ht] at h4
        rw [hW1, show W ((i : Int) + ((best (bt s) i).1 : Int)) = ((i + (best (bt s) i).1 : Nat) : Int) from by rw [W_id (by omega) (by omega)]; omega]
        refine lz_enterAll_spec hs (by omega) hbf h4 fun w5 h5 f5 s5 => ?_
        refine let_ (lz_seek_spec hs hbf h5 fun w6 h6 f6 s6 => ?_)
        have e1 : (pst 2 (bt s) (k + 1)).1 = i + (best (bt s) i).1 := by rw [hst, ht]; simp [adv, hz]
        refine ⟨⟨k + 1, by rw [e1], ?_, ((f3.trans f4).trans f5).trans f6, by omega⟩, by omega⟩
        rw [e1, hst]; exact h6
      by_cases h10 : (best (bt s) i).1 < 10
      · rw [if_pos (by simp only [decide_eq_true_eq]; omega)]
        have h10' := h10
        generalize hWv : W ((i : Int) + 1) = iv at *
        subst hW1
        refine lz_seek_spec hs (by omega) h2 fun w3 h3 f3 s3 => ?_
        dsimp only
        by_cases hon : (best (bt s) i).1 < (best (bt s) (i + 1)).1
        · rw [if_pos (by simp only [decide_eq_true_eq]; omega)]
          have ht : tokAt 2 (bt s) i = (0, 0, (bt s).getD i 0) := by
            have : pickAt 2 (bt s) i = (0, 0) := by simp only [pickAt]; rw [if_neg (by omega), if_pos ⟨trivial, by omega, h10, hon⟩]
            simp [tokAt, this]
          refine ixStr (by omega) (by rw [Int.toNat_natCast]; exact hc.1) ?_
          refine lz_lit_spec (by omega) hc.2 h3 fun w4 h4 f4 s4 => ?_
          rw [← ht] at h4
          have e1 : (pst 2 (bt s) (k + 1)).1 = i + 1 := by rw [hst, ht]; rfl
          refine let_ ⟨⟨k + 1, by rw [e1], ?_, ((f1.trans f2).trans f3).trans f4, by omega⟩, by omega⟩
          rw [e1, hst]; exact h4
        · rw [if_neg (by simp only [decide_eq_true_eq]; omega)]
          exact dup w3 h3 ((f1.trans f2).trans f3) (by omega) (fun x => hon x.2)
      · rw [if_neg (by simp only [decide_eq_true_eq]; omega)]
        dsimp only
        rw [if_neg (by simp only [decide_eq_true_eq]; omega)]
        exact dup w2 h2 (f1.trans f2) (by omega) (fun x => h10 x.1)
  · rw [if_neg (by simp only [decide_eq_true_eq]; omega)]
    have et := tokens_eq (level := 2) (s := bt s) (k := k) (by rw [bt_length]; omega)
    rw [← et] at h1
    exact hK w1 (h1.weak fun _ _ _ => trivial) f1 s1

theorem tokens_length (level : Nat) (s : List Nat) : (tokens level s).length ≤ s.length := by
  have := pst_le level s s.length
  unfold tokens
  omega

theorem lz_Parse_spec {s : ByteArray} {level : Nat} {K : Sl → Int → World → Prop} (hs : s.size ≤ 256) (hv : level ≤ 2) (h : RLz w B)
    (hK : ∀ sl w', ToksOut w w' sl (tokens level (bt s)) → RLz w' B → Fr B 4 w w' → K sl 0 w') : S.lz_Matcher_Parse B s (level : Int) w K := by
  unfold S.lz_Matcher_Parse
  obtain ⟨head, prev, n, pr, junk, h1, h2, h3, h4, h5, h6, h7⟩ := h.ex
  refine st1 h4 (by simp) fun w1 rc1 f1 s1 => ?_
  rw [if_neg (by simp only [decide_eq_true_eq]; omega), if_neg (by simp only [decide_eq_true_eq]; omega), if_neg (by simp only [decide_eq_true_eq]; omega)]
  refine st1 rc1 (by simp) fun w2 rc2 f2 s2 => ?_
  have r2 : RLzW w2 B head prev [] junk 0 := ⟨rc2, (h5.fr f1 (by omega)).fr f2 (by omega), (h6.fr f1 (by omega)).fr f2 (by omega), (h7.fr f1 (by omega)).fr f2 (by omega), by simpa using h3⟩
  have f02 : Fr B 4 w w2 := (f1.trans f2).mono (by omega) (by omega)
  have s02 : w2.heap.size = w.heap.size := by omega
  refine join_ ?_
  have fin : ∀ w3, LzAt w3 B (fun _ _ => True) (tokens level (bt s)) → Fr B 4 w w3 → w3.heap.size = w.heap.size → (LdI .i64 w3 ⟨B, 3, none⟩ fun n_1 =>
          MkS 170 [.int .i64 0, .int .i64 0, .int .i64 0] 24 w3 n_1 n_1 fun l2 w =>
          Drew w fun w =>
          LdS w ⟨B, 2, none⟩ fun toks_3 =>
          LdI .i64 w ⟨B, 3, none⟩ fun n_4 =>
          CutS 3 toks_3 0 n_4 (toks_3.c : Int) fun l5 =>
          CopyS 3 w l2 l5 fun n6 w =>
          K l2 0 w) := by
    intro w3 h3 f3 s3
    have htl := tokens_length level (bt s)
    rw [bt_length] at htl
    generalize tokens level (bt s) = toks at *
    have hout := h3.out
    obtain ⟨head', prev', junk', pr', _, g1, g2, r⟩ := h3
    refine ldI r.rc rfl ?_
    refine mkS (by omega) (by omega) (by omega) (by omega) fun w4 b4 f4 s4 => ?_
    have rc4 := r.rc.fr f4 (by omega)
    refine drew_ (ldS rc4.drew rfl (ldI rc4.drew rfl ?_))
    refine ⟨by omega, by omega, by show (toks.length : Int) ≤ 256; omega, by show (256 : Int) ≤ 256; omega, ?_⟩
    have hne : ¬ (((256 : Nat) : Int)).toNat = Int.toNat 0 := by simp
    have tk4 := r.tk.fr f4 (by omega)
    have hjl := r.jl
    refine copyS (n := toks.length) (us := toks.flatMap tokv) (bx := B + 3) (ox := 0) (bd := w3.heap.size) (od := 0) tk4.drew ?_ b4.drew rfl ?_ ?_ ?_ (toks_ok _) ?_ ?_
    · simp [Addr.add]
    · show _ = Nat.min ((toks.length : Int).toNat - 0) ((toks.length : Int).toNat)
      simp [Nat.min]
    · rw [List.drop_zero, List.take_left' (toks_length toks)]
    · exact toks_length toks
    · rw [toks_length, reps_const]; show 0 + _ * 3 ≤ _ * 3; omega
    · intro w5 b5 f5 s5
      have hj : List.drop (0 + (toks.flatMap tokv).length) (reps [.int .i64 0, .int .i64 0, .int .i64 0] ((toks.length : Int)).toNat) = [] := by
        apply List.drop_eq_nil_of_le
        rw [toks_length, reps_const]; show _ * 3 ≤ 0 + _ * 3; omega
      rw [hj, List.take_zero, List.append_nil, List.nil_append] at b5
      have f5' : Fr w3.heap.size 1 w4 w5 := f5
      have hB := r.tk.lt
      refine hK _ w5 ⟨⟨w3.heap.size, b5, ?_, by omega⟩⟩ ?_ ?_
      · rw [Int.toNat_natCast]
      · exact (hout.fr f4 (by omega)).fr f5' (by omega)
      · exact (f3.then0 f4).thenNew f5' (by omega)
  have hall : level = 0 ∨ level = 1 ∨ level = 2 := by omega
  rcases hall with rfl | rfl | rfl
  · rw [if_pos (by simp)]
    refine lz_plain_spec (C := fun _ _ => True) hs ⟨head, prev, junk, 0, trivial, h1, h2, r2⟩ fun w3 h3 f3 s3 => ?_
    exact fin w3 h3 (f02.trans f3) (by omega)
  · rw [if_neg (by simp), if_pos (by simp)]
    refine lz_wipe_spec r2.rc rfl r2.hd h1 fun w3 b3 f3 s3 => ?_
    have r3 : LzAt w3 B (Chain (bt s) 0) [] := ⟨_, prev, junk, 0, chain_nil _ h2, List.length_replicate .., h2, r2.rc.fr f3 (by omega), b3, r2.pv.fr f3 (by omega), r2.tk.fr f3 (by omega), r2.jl⟩
    refine lz_greedy_spec hs r3 fun w4 h4 f4 s4 => ?_
    exact fin w4 h4 ((f02.trans (f3.mono (by omega) (by omega))).trans f4) (by omega)
  · rw [if_neg (by simp), if_neg (by simp), if_pos (by simp)]
    refine lz_wipe_spec r2.rc rfl r2.hd h1 fun w3 b3 f3 s3 => ?_
    have r3 : LzAt w3 B (Chain (bt s) 0) [] := ⟨_, prev, junk, 0, chain_nil _ h2, List.length_replicate .., h2, r2.rc.fr f3 (by omega), b3, r2.pv.fr f3 (by omega), r2.tk.fr f3 (by omega), r2.jl⟩
    refine lz_lazy_spec hs r3 fun w4 h4 f4 s4 => ?_
    exact fin w4 h4 ((f02.trans (f3.mono (by omega) (by omega))).trans f4) (by omega)
end Go.Proofs.Qxb6500563aGreat
