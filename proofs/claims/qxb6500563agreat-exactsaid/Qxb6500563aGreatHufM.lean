/-
  The model's Plan: its contract.
-/
import Derived.Test.Qxb6500563aGreatHufR
namespace Go.Den
open Go.Zip
set_option linter.unusedVariables false
set_option linter.unusedSimpArgs false
/-- A slice of numbers that is only read: its block, its length, its values. -/
structure IS (w : World) (sl : Sl) (b n : Nat) (f : Nat → Nat) : Prop where
  ex : ∃ o vs, sl.a = some ⟨b, o, none⟩ ∧ sl.l = n ∧ Blk w b vs ∧ ∀ i, i < n → vs[o + i]? = some (.int .i64 (f i))
section
variable {w w' w'' : World} {b n : Nat} {f : Nat → Nat} {sl : Sl}
theorem IS.fr {p m : Nat} (h : IS w sl b n f) (g : Fr p m w w') (hb : b < p ∨ p + m ≤ b) : IS w' sl b n f := by
  obtain ⟨o, vs, h1, h2, h3, h4⟩ := h.ex
  exact ⟨o, vs, h1, h2, h3.fr g hb, h4⟩
theorem IS.heq (h : IS w sl b n f) (e : w'.heap = w.heap) : IS w' sl b n f := by
  obtain ⟨o, vs, h1, h2, h3, h4⟩ := h.ex
  exact ⟨o, vs, h1, h2, h3.heq e, h4⟩
theorem IS.lt (h : IS w sl b n f) : b < w.heap.size := by
  obtain ⟨o, vs, h1, h2, h3, h4⟩ := h.ex
  exact h3.lt
theorem IS.len (h : IS w sl b n f) : sl.l = n := by
  obtain ⟨o, vs, h1, h2, h3, h4⟩ := h.ex
  exact h2
theorem IS.congr {g : Nat → Nat} (h : IS w sl b n f) (e : ∀ i, i < n → f i = g i) : IS w sl b n g := by
  obtain ⟨o, vs, h1, h2, h3, h4⟩ := h.ex
  exact ⟨o, vs, h1, h2, h3, fun i hi => by rw [h4 i hi, e i hi]⟩
theorem IS.of {c : Nat} (h : Blk w b (nats n f)) : IS w ⟨some ⟨b, 0, none⟩, n, c⟩ b n f := ⟨0, _, rfl, rfl, h, fun i hi => by rw [Nat.zero_add]; exact nats_get hi⟩
/-- A window of a row. -/
theorem IS.win {c m o : Nat} (h : Blk w b (nats m f)) (ho : o + n ≤ m) : IS w ⟨some ⟨b, o, none⟩, n, c⟩ b n (fun i => f (o + i)) := ⟨o, _, rfl, rfl, h, fun i hi => nats_get (by omega)⟩
theorem W_pred {a : Nat} (h : 1 ≤ a) (ha : a < 9223372036854775808) : W ((a : Int) - 1) = ((a - 1 : Nat) : Int) := by rw [W_id (by omega) (by omega)]; omega
theorem rdS {i : Nat} {K : Int → Prop} (h : IS w sl b n f) (hi : i < n) (hk : K (f i : Int)) : Ix sl.a sl.l (i : Int) fun b o => LdI .i64 w ⟨b, o + Int.toNat (i : Int) * 1, none⟩ K := by
  obtain ⟨o, vs, h1, h2, h3, h4⟩ := h.ex
  refine ix h1 (by omega) (by omega) ?_
  exact ldI h3 (by rw [Nat.mul_one, Int.toNat_natCast]; exact h4 i hi) hk
theorem rdS' {i : Nat} {K : Int → Prop} (h : IS w sl b n f) (hi : i < n) (hk : K (f i : Int)) : Ix sl.a n (i : Int) fun b o => LdI .i64 w ⟨b, o + Int.toNat (i : Int) * 1, none⟩ K := by
  have := rdS h hi hk
  rw [h.len] at this
  exact this
theorem rdN {i m : Nat} {K : Int → Prop} (h : Blk w b (nats n f)) (hi : i < n) (hk : K (f i : Int)) (hm : m = n := by rfl) : Ix (some ⟨b, 0, none⟩) m (i : Int) fun b o => LdI .i64 w ⟨b, o + Int.toNat (i : Int) * 1, none⟩ K :=
  ix rfl (by omega) (by omega) (ldN h hi hk)
theorem wrN {i v m : Nat} {x : Int} {K : World → Prop} (h : Blk w b (nats n f)) (hi : i < n) (hx : x = (v : Int))
    (hk : ∀ w', Blk w' b (nats n (fset f i v)) → Fr b 1 w w' → w'.heap.size = w.heap.size → K w') (hm : m = n := by rfl) : Ix (some ⟨b, 0, none⟩) m (i : Int) fun b o => St1 w ⟨b, o + Int.toNat (i : Int) * 1, none⟩ (.int .i64 x) K :=
  ix rfl (by omega) (by omega) (stN h hi hx hk)
theorem mkN {e : TypeId} {K : Sl → World → Prop} (hn : n ≤ 1048576) (hk : ∀ w', Blk w' w.heap.size (nats n fun _ => 0) → Fr 0 0 w w' → w'.heap.size = w.heap.size + 1 → K ⟨some ⟨w.heap.size, 0, none⟩, n, n⟩ w') :
    MkS e [.int .i64 0] 8 w (n : Int) (n : Int) K := by
  refine mkS (by omega) (by omega) (by omega) (by omega) fun w' b' f' s' => ?_
  rw [Int.toNat_natCast, nats_zero] at b'
  rw [Int.toNat_natCast]
  exact hk w' b' f' s'
end
end Go.Den
namespace Go.Proofs.Qxb6500563aGreat
open Go.Den Go.Zip
set_option linter.unusedVariables false
set_option linter.unusedSimpArgs false
variable {w w' : World} {sl : Sl} {cb n : Nat} {c : Nat → Nat}

theorem api_CopyInts_spec {K : Sl → World → Prop} (h : IS w sl cb n c) (hn : n ≤ 1048576)
    (hK : ∀ w', Blk w' w.heap.size (nats n c) → Fr 0 0 w w' → w'.heap.size = w.heap.size + 1 → K ⟨some ⟨w.heap.size, 0, none⟩, n, n⟩ w') : S.api_CopyInts sl w K := by
  unfold S.api_CopyInts
  rw [h.len]
  refine mkN hn fun w1 b1 f1 s1 => ?_
  obtain ⟨o, vs, h1, h2, h3, h4⟩ := (h.fr f1 (by omega)).ex
  have hu : (vs.drop o).take (n * 1) = nats n c := by
    apply List.ext_getElem?
    intro i
    rcases Nat.lt_or_ge i n with hi | hi
    · rw [List.getElem?_take, if_pos (by omega), List.getElem?_drop, h4 i hi, nats_get hi]
    · rw [List.getElem?_take, if_neg (by omega), List.getElem?_eq_none (by simpa using hi)]
  refine copyS (n := n) (us := nats n c) h3 h1 b1 rfl (by simp [h2, Nat.min]) hu (by simp) (nats_ok _ _) (by simp) fun w2 b2 f2 s2 => ?_
  have e : List.take 0 (nats n fun _ => 0) ++ nats n c ++ List.drop (0 + (nats n c).length) (nats n fun _ => 0) = nats n c := by simp
  rw [e] at b2
  exact hK w2 b2 (f1.thenNew f2 (by omega)) (by omega)

theorem huffm_Used_spec {K : Int → World → Prop} (h : IS w sl cb n c) (hn : n ≤ 1048576) (hK : K (usedN n c : Int) w) : S.huffm_Used sl w K := by
  unfold S.huffm_Used
  refine loopP (fun st w1 => ∃ i : Nat, st = ((usedN i c : Int), (i : Int), ()) ∧ i ≤ n ∧ w1 = w) (fun st _ => n - st.2.1.toNat) ⟨0, rfl, by omega, rfl⟩ ?_
  rintro _ w1 ⟨i, rfl, hi, rfl⟩
  dsimp only
  have hlen := h.len
  have hle := cntTo_le i fun i => decide (0 < c i)
  have hle' : usedN i c ≤ i := hle
  by_cases hlt : i < n
  · rw [if_pos (by simp only [decide_eq_true_eq]; omega)]
    refine join_ (rdS h hlt ?_)
    have e : usedN (i + 1) c = usedN i c + if decide (0 < c i) = true then 1 else 0 := rfl
    dsimp only
    by_cases hc : 0 < c i
    · rw [if_pos (by simp only [decide_eq_true_eq]; omega)]
      simp only [hc, decide_true, if_true] at e
      rw [W_succ (by omega), W_succ (by omega)]
      exact let_ (let_ ⟨⟨i + 1, by rw [e], by omega, rfl⟩, by omega⟩)
    · rw [if_neg (by simp only [decide_eq_true_eq]; omega)]
      simp only [hc, decide_false, Bool.false_eq_true, if_false] at e
      rw [W_succ (by omega)]
      exact let_ ⟨⟨i + 1, by rw [e]; rfl, by omega, rfl⟩, by omega⟩
  · rw [if_neg (by simp only [decide_eq_true_eq]; omega)]
    have : i = n := by omega
    subst this
    exact hK

theorem huffm_CheckPlan_spec {K : Int → World → Prop} (h : IS w sl cb n c) (hn : n ≤ 265) (hc : ∀ i, i < n → c i ≤ 1048576) (hK : K 0 w) : S.huffm_CheckPlan sl 10 w K := by
  unfold S.huffm_CheckPlan
  have hlen := h.len
  rw [if_neg (by simp only [decide_eq_true_eq]; omega), if_neg (by simp), if_neg (by simp)]
  refine join_ ?_
  refine loopP (fun st w1 => ∃ i : Nat, st = ((i : Int), ()) ∧ i ≤ n ∧ w1 = w) (fun st _ => n - st.1.toNat) ⟨0, rfl, by omega, rfl⟩ ?_
  rintro _ w1 ⟨i, rfl, hi, rfl⟩
  dsimp only
  by_cases hlt : i < n
  · rw [if_pos (by simp only [decide_eq_true_eq]; omega)]
    have := hc i hlt
    refine rdS h hlt ?_
    rw [if_neg (by simp only [decide_eq_true_eq]; omega)]
    refine rdS h hlt ?_
    rw [if_neg (by simp only [decide_eq_true_eq]; omega), W_succ (by omega)]
    exact let_ ⟨⟨i + 1, rfl, by omega, rfl⟩, by omega⟩
  · rw [if_neg (by simp only [decide_eq_true_eq]; omega)]
    refine huffm_Used_spec h (by omega) ?_
    have hle : usedN n c ≤ n := cntTo_le n fun i => decide (0 < c i)
    rw [U64_id (by omega) (by omega)]
    refine ⟨by omega, ?_⟩
    rw [show Shl .i64 1 10 = 1024 from rfl]
    rw [if_neg (by simp only [decide_eq_true_eq]; omega)]
    exact hK

def optI : Option Nat → Int
  | none => -1
  | some b => b
theorem huffm_least_spec {wb hb : Nat} {wt ht : Nat → Nat} {no : Int} {K : Int → World → Prop} (hw : Blk w wb (nats n wt)) (hh : Blk w hb (nats n ht)) (hn : n ≤ 265)
    (hK : ∀ w', w'.heap = w.heap → K (optI (leastTo wt ht (fun g => ((g : Int) != no)) n)) w') : S.huffm_least ⟨some ⟨wb, 0, none⟩, n, n⟩ ⟨some ⟨hb, 0, none⟩, n, n⟩ no w K := by
  unfold S.huffm_least
  refine loopP (fun st w1 => ∃ g : Nat, st = (optI (leastTo wt ht (fun g => ((g : Int) != no)) g), (g : Int), ()) ∧ g ≤ n ∧ w1.heap = w.heap) (fun st _ => n - st.2.1.toNat) ⟨0, rfl, by omega, rfl⟩ ?_
  rintro _ w1 ⟨g, rfl, hg, e1⟩
  dsimp only
  by_cases hlt : g < n
  · rw [if_pos (by simp only [decide_eq_true_eq]; omega)]
    have hw1 := hw.heq e1
    have hh1 := hh.heq e1
    refine join_ ?_
    dsimp only
    have next : ∀ (r : Int) (w2 : World), r = optI (leastTo wt ht (fun g => ((g : Int) != no)) (g + 1)) → w2.heap = w.heap → (Let (W ((g : Int) + 1)) fun g_4 =>
        (∃ g : Nat, (r, g_4, ()) = (optI (leastTo wt ht (fun g => ((g : Int) != no)) g), (g : Int), ()) ∧ g ≤ n ∧ w2.heap = w.heap) ∧ n - g_4.toNat < n - (g : Int).toNat) := by
      intro r w2 hr e2
      rw [W_succ (by omega)]
      exact let_ ⟨⟨g + 1, by rw [hr], by omega, e2⟩, by omega⟩
    refine rdN hw1 hlt ?_
    have hsp := leastTo_spec wt ht (fun g => ((g : Int) != no)) g
    by_cases hwg : 0 < wt g
    · rw [if_pos (by simp only [decide_eq_true_eq]; omega)]
      by_cases hno : (g : Int) ≠ no
      · rw [if_pos (by simpa using hno)]
        refine drew_ ?_
        have hp : (decide (0 < wt g) && ((g : Int) != no)) = true := by simp [hwg, hno]
        rcases hsp with ⟨e, _⟩ | ⟨b, e, b1, _⟩
        · rw [e]
          rw [if_pos (by simp [optI])]
          refine next _ _ ?_ e1
          simp only [leastTo, hp, if_true, e]; rfl
        · rw [e]
          rw [show optI (some b) = (b : Int) from rfl, if_neg (by simp only [decide_eq_true_eq]; omega)]
          refine rdN hw1.drew hlt ?_
          refine rdN hw1.drew (by omega) ?_
          by_cases h1 : wt g < wt b
          · rw [if_pos (by simp only [decide_eq_true_eq]; omega)]
            refine next _ _ ?_ e1
            have hb : better wt ht g b = true := (better_iff ..).2 (.inl h1)
            simp only [leastTo, hp, if_true, e, hb]; rfl
          · rw [if_neg (by simp only [decide_eq_true_eq]; omega)]
            refine rdN hw1.drew hlt (rdN hw1.drew (by omega) ?_)
            by_cases h2 : wt g = wt b
            · rw [if_pos (by simp only [beq_iff_eq]; omega)]
              refine rdN hh1.drew hlt (rdN hh1.drew (by omega) ?_)
              by_cases h3 : ht g < ht b
              · rw [if_pos (by simp only [decide_eq_true_eq]; omega)]
                refine next _ _ ?_ e1
                have hb : better wt ht g b = true := (better_iff ..).2 (.inr ⟨h2, h3⟩)
                simp only [leastTo, hp, if_true, e, hb]; rfl
              · rw [if_neg (by simp only [decide_eq_true_eq]; omega)]
                refine next _ _ ?_ e1
                have hb : better wt ht g b = false := by rw [← Bool.not_eq_true, better_iff]; omega
                simp [leastTo, hp, e, hb, optI]
            · rw [if_neg (by simp only [beq_iff_eq]; omega)]
              refine next _ _ ?_ e1
              have hb : better wt ht g b = false := by rw [← Bool.not_eq_true, better_iff]; omega
              simp [leastTo, hp, e, hb, optI]
      · rw [if_neg (by simpa using hno)]
        refine next _ _ ?_ e1
        have hp : (decide (0 < wt g) && ((g : Int) != no)) = false := by simp [hwg]; simpa using hno
        simp only [leastTo, hp, Bool.false_eq_true, if_false]
    · rw [if_neg (by simp only [decide_eq_true_eq]; omega)]
      refine next _ _ ?_ e1
      have hp : (decide (0 < wt g) && ((g : Int) != no)) = false := by simp [hwg]
      simp only [leastTo, hp, Bool.false_eq_true, if_false]
  · rw [if_neg (by simp only [decide_eq_true_eq]; omega)]
    have : g = n := by omega
    subst this
    exact hK w1 e1

/-- The first i places of the one, then the other. -/
def mix (i : Nat) (f g : Nat → Nat) : Nat → Nat := fun t => if t < i then f t else g t
theorem mix_set (i : Nat) (f g : Nat → Nat) : fset (mix i f g) i (f i) = mix (i + 1) f g := by
  funext t
  unfold fset mix
  by_cases h : t = i
  · subst h; simp
  · rw [if_neg h]
    by_cases h2 : t < i
    · rw [if_pos h2, if_pos (by omega)]
    · rw [if_neg h2, if_neg (by omega)]
theorem mix_skip {i : Nat} {f g : Nat → Nat} (h : f i = g i) : mix i f g = mix (i + 1) f g := by
  funext t
  unfold mix
  by_cases h2 : t < i
  · rw [if_pos h2, if_pos (by omega)]
  · rw [if_neg h2]
    by_cases h3 : t = i
    · subst h3; rw [if_pos (by omega), h]
    · rw [if_neg (by omega)]
theorem mix_zero (f g : Nat → Nat) : mix 0 f g = g := by funext t; simp [mix]
theorem mix_all {n : Nat} (f g : Nat → Nat) : ∀ i, i < n → mix n f g i = f i := fun i hi => by simp [mix, hi]
theorem mix_get {i : Nat} {f g : Nat → Nat} : mix i f g i = g i := by simp [mix]

theorem sum_bound {n : Nat} {c : Nat → Nat} (hn : n ≤ 265) (hc : ∀ i, i < n → c i ≤ 1048576) : sumTo n c ≤ 277872640 := by
  have := sumTo_le (n := n) (f := c) (g := fun _ => 1048576) hc
  rw [sumTo_const] at this
  omega

theorem huffm_plain_spec {K : Sl → World → Prop} (h : IS w sl cb n c) (hn : n ≤ 265) (hc : ∀ i, i < n → c i ≤ 1048576) (h2 : 2 ≤ usedN n c)
    (hK : ∀ w' x, Blk w' x (nats n (plainL n c)) → w.heap.size ≤ x → Fr 0 0 w w' → K ⟨some ⟨x, 0, none⟩, n, n⟩ w') : S.huffm_plain sl w K := by
  unfold S.huffm_plain
  have hlen := h.len
  have hcb := h.lt
  rw [hlen]
  refine mkN (by omega) fun w1 b1 f1 s1 => ?_
  refine mkN (by omega) fun w2 b2 f2 s2 => ?_
  refine api_CopyInts_spec ((h.fr f1 (by omega)).fr f2 (by omega)) (by omega) fun w3 b3 f3 s3 => ?_
  refine mkN (by omega) fun w4 b4 f4 s4 => ?_
  have f04 := ((f1.trans f2).trans f3).trans f4
  have h4 := h.fr f04 (by omega)
  have c1 := ((b1.fr f2 (by omega)).fr f3 (by omega)).fr f4 (by omega)
  have c2 := (b2.fr f3 (by omega)).fr f4 (by omega)
  have c3 := b3.fr f4 (by omega)
  clear b1 b2 b3 h
  rw [show w1.heap.size = w.heap.size + 1 from by omega] at *
  rw [show w2.heap.size = w.heap.size + 2 from by omega] at *
  rw [show w3.heap.size = w.heap.size + 3 from by omega] at *
  generalize hX : w.heap.size = X at *
  refine join_ ?_
  refine loopP (fun st v => ∃ i : Nat, st = ((i : Int), ()) ∧ i ≤ n ∧ Blk v (X + 1) (nats n (mix i id fun _ => 0)) ∧ Fr (X + 1) 1 w4 v) (fun st _ => n - st.1.toNat) ⟨0, rfl, by omega, by rw [mix_zero]; exact c2, Fr.refl _ _ _⟩ ?_
  rintro _ v ⟨i, rfl, hi, d2, g1⟩
  dsimp only
  by_cases hlt : i < n
  · rw [if_pos (by simp only [decide_eq_true_eq]; omega)]
    refine wrN (v := i) d2 hlt rfl fun v' d2' g2 _ => ?_
    rw [W_succ (by omega)]
    refine let_ ⟨⟨i + 1, rfl, by omega, ?_, g1.trans g2⟩, by omega⟩
    have := mix_set i id fun _ => 0
    rw [← this]; exact d2'
  · rw [if_neg (by simp only [decide_eq_true_eq]; omega)]
    have : i = n := by omega
    subst this
    have d2' : Blk v (X + 1) (nats i (initS c).grp) := by rw [nats_congr (mix_all id fun _ => 0)] at d2; exact d2
    refine huffm_Used_spec (h4.fr g1 (by omega)) (by omega) ?_
    refine loopP (fun st u => ∃ k : Nat, st = (((usedN i c - k : Nat) : Int), ()) ∧ k + 1 ≤ usedN i c ∧ Blk u X (nats i (hst i c k).lens) ∧ Blk u (X + 1) (nats i (hst i c k).grp) ∧ Blk u (X + 2) (nats i (hst i c k).wt) ∧ Blk u (X + 3) (nats i (hst i c k).ht) ∧ IS u sl cb i c ∧ Fr 0 0 w u) (fun st _ => st.1.toNat)
      ⟨0, rfl, by omega, c1.fr g1 (by omega), d2', c3.fr g1 (by omega), b4.fr g1 (by omega), h4.fr g1 (by omega), f04.thenNew g1 (by omega)⟩ ?_
    rintro _ u ⟨k, rfl, hk, e1, e2, e3, e4, e5, g3⟩
    dsimp only
    have hinv := hinv_all (n := i) (c := c) k hk
    have hcnt := hinv.cnt
    have hsum := hinv.sum
    have hbound := sum_bound hn hc
    generalize hst_eq : hst i c k = s at *
    by_cases hgo : 1 < usedN i c - k
    · rw [if_pos (by simp only [decide_eq_true_eq]; omega)]
      obtain ⟨a, b, ea, eb, ej, a1, b1', hab, a2, b2', hinv'⟩ := hinv_step hinv (by omega)
      have hnext : hst i c (k + 1) = joinAB c a b s := by show joinS i c (hst i c k) = _; rw [hst_eq, ej]
      have hwab : s.wt a + s.wt b ≤ sumTo i s.wt := by
        have h3 := sumTo_set s.wt a 0 a1
        have h4 := sumTo_pos (f := fset s.wt a 0) b1'
        rw [fset_ne (fun x => hab x.symm)] at h4
        omega
      refine huffm_least_spec (no := -1) e3 e4 hn fun u1 eu1 => ?_
      rw [show leastTo s.wt s.ht (fun g => ((g : Int) != -1)) i = some a from by
        rw [← ea]
        congr 1, show optI (some a) = (a : Int) from rfl]
      refine huffm_least_spec (no := (a : Int)) (e3.heq eu1) (e4.heq eu1) hn fun u2 eu2 => ?_
      rw [show leastTo s.wt s.ht (fun g => ((g : Int) != (a : Int))) i = some b from by
        rw [← eb]
        congr 1
        funext g
        rw [Bool.eq_iff_iff]
        simp only [bne_iff_ne, ne_eq]; omega, show optI (some b) = (b : Int) from rfl]
      have eu : u2.heap = u.heap := by rw [eu2, eu1]
      refine join_ ?_
      refine loopN (fun m st v => ∃ j : Nat, st = ((j : Int), ()) ∧ m = i - j ∧ j ≤ i ∧ Blk v X (nats i (mix j (joinAB c a b s).lens s.lens)) ∧ Blk v (X + 1) (nats i (mix j (joinAB c a b s).grp s.grp)) ∧ Fr X 2 u2 v) i
        ⟨0, rfl, rfl, by omega, by rw [mix_zero]; exact e1.heq eu, by rw [mix_zero]; exact e2.heq eu, Fr.refl _ _ _⟩ ?_
      rintro m _ v ⟨j, rfl, hm, hj, l1, l2, g4⟩ Q hQ
      dsimp only
      by_cases hjlt : j < i
      · rw [if_pos (by simp only [decide_eq_true_eq]; omega)]
        have h5 : IS v sl cb i c := (e5.heq eu).fr g4 (by omega)
        have nx : ∀ v', Blk v' X (nats i (mix (j + 1) (joinAB c a b s).lens s.lens)) → Blk v' (X + 1) (nats i (mix (j + 1) (joinAB c a b s).grp s.grp)) → Fr X 2 u2 v' → (Let (W ((j : Int) + 1)) fun i_41 => Q (i_41, ()) v') := by
          intro v' m1 m2 g5
          rw [W_succ (by omega)]
          exact let_ (hQ (i - (j + 1)) _ _ (by omega) ⟨j + 1, rfl, rfl, by omega, m1, m2, g5⟩)
        refine join_ (join_ ?_)
        dsimp only
        have skip : inAB c s a b j = false → (Let (W ((j : Int) + 1)) fun i_41 => Q (i_41, ()) v) := fun hin => by
          refine nx v ?_ ?_ g4
          · rw [← mix_skip (by simp [joinAB, hin])]; exact l1
          · rw [← mix_skip (by simp [joinAB, hin])]; exact l2
        have hit : inAB c s a b j = true → (Ix (some ⟨X, 0, none⟩) i (j : Int) fun b43 o44 =>
              LdI .i64 v ⟨b43, o44 + Int.toNat (j : Int) * 1, none⟩ fun x_45 =>
              Ix (some ⟨X, 0, none⟩) i (j : Int) fun b46 o47 =>
              St1 v ⟨b46, o47 + Int.toNat (j : Int) * 1, none⟩ (.int .i64 (W (x_45 + 1))) fun w =>
              Ix (some ⟨X + 1, 0, none⟩) i (j : Int) fun b48 o49 =>
              St1 w ⟨b48, o49 + Int.toNat (j : Int) * 1, none⟩ (.int .i64 (a : Int)) fun w =>
              (Let (W ((j : Int) + 1)) fun i_41 => Q (i_41, ()) w)) := fun hin => by
          have hlj := hinv.lens j
          have hle : usedN i c ≤ i := cntTo_le i fun i => decide (0 < c i)
          refine rdN l1 hjlt ?_
          rw [mix_get]
          refine wrN (v := (joinAB c a b s).lens j) l1 hjlt ?_ fun v1 m1 g5 _ => ?_
          · simp only [joinAB, hin, if_true]; rw [W_succ (by omega)]
          · refine wrN (v := (joinAB c a b s).grp j) (l2.fr g5 (by omega)) hjlt (by simp [joinAB, hin]) fun v2 m2 g6 _ => ?_
            refine nx v2 ?_ ?_ ((g4.trans (g5.mono (by omega) (by omega))).trans (g6.mono (by omega) (by omega)))
            · rw [← mix_set]; exact m1.fr g6 (by omega)
            · rw [← mix_set]; exact m2
        refine rdS' h5 hjlt ?_
        by_cases hcj : 0 < c j
        · rw [if_pos (by simp only [decide_eq_true_eq]; omega)]
          refine rdN l2 hjlt ?_
          rw [mix_get]
          by_cases hga : s.grp j = a
          · rw [if_pos (by simp only [beq_iff_eq]; omega)]
            exact hit (by simp [inAB, hcj, hga])
          · rw [if_neg (by simp only [beq_iff_eq]; omega)]
            refine rdN l2 hjlt ?_
            rw [mix_get]
            by_cases hgb : s.grp j = b
            · rw [if_pos (by simp only [beq_iff_eq]; omega)]
              exact hit (by simp [inAB, hcj, hgb])
            · rw [if_neg (by simp only [beq_iff_eq]; omega)]
              exact skip (by simp [inAB, hga, hgb])
        · rw [if_neg (by simp only [decide_eq_true_eq]; omega)]
          exact skip (by simp [inAB, hcj])
      · rw [if_neg (by simp only [decide_eq_true_eq]; omega)]
        have : j = i := by omega
        subst this
        rw [nats_congr (mix_all _ _)] at l1 l2
        have e3' := (e3.heq eu).fr g4 (by omega)
        have e4' := (e4.heq eu).fr g4 (by omega)
        have e5' := (e5.heq eu).fr g4 (by omega)
        have gg : Fr 0 0 w v := (Fr.heq g3 eu).thenNew g4 (by omega)
        refine drew_ ?_
        refine rdN e3'.drew a1 (rdN e3'.drew b1' ?_)
        refine wrN (v := s.wt a + s.wt b) e3'.drew a1 (by rw [W_add (by omega)]) fun v1 m3 g5 _ => ?_
        refine wrN (v := 0) m3 b1' rfl fun v2 m3' g6 _ => ?_
        have gg2 := (gg.thenNew (show Fr (X + 2) 1 v v1 from g5) (by omega)).thenNew g6 (by omega)
        have e4'' := ((show Blk v.drew _ _ from e4').fr g5 (by omega)).fr g6 (by omega)
        refine drew_ ?_
        refine rdN e4''.drew b1' (rdN e4''.drew a1 ?_)
        refine join_ ?_
        dsimp only
        have ha := hinv.ht a
        have hb := hinv.ht b
        have hle : usedN j c ≤ j := cntTo_le j fun i => decide (0 < c i)
        have fin : ∀ (t : Nat → Nat) (v3 : World), Blk v3 (X + 3) (nats j t) → t a = max (s.ht a) (s.ht b) → (∀ x, x ≠ a → t x = s.ht x) → Fr (X + 3) 1 v2 v3 → (Ix (some ⟨X + 3, 0, none⟩) j (a : Int) fun b26 o27 =>
            LdI .i64 v3 ⟨b26, o27 + Int.toNat (a : Int) * 1, none⟩ fun x_28 =>
            Ix (some ⟨X + 3, 0, none⟩) j (a : Int) fun b29 o30 =>
            St1 v3 ⟨b29, o30 + Int.toNat (a : Int) * 1, none⟩ (.int .i64 (W (x_28 + 1))) fun u =>
            Let (W (((usedN j c - k : Nat) : Int) - 1)) fun n_31 =>
            (∃ k : Nat, (n_31, ()) = (((usedN j c - k : Nat) : Int), ()) ∧ k + 1 ≤ usedN j c ∧ Blk u X (nats j (hst j c k).lens) ∧ Blk u (X + 1) (nats j (hst j c k).grp) ∧ Blk u (X + 2) (nats j (hst j c k).wt) ∧ Blk u (X + 3) (nats j (hst j c k).ht) ∧ IS u sl cb j c ∧ Fr 0 0 w u) ∧ n_31.toNat < ((usedN j c - k : Nat) : Int).toNat) := by
          intro t v3 m4 ht1 ht2 g7
          refine rdN m4 a1 ?_
          refine wrN (v := max (s.ht a) (s.ht b) + 1) m4 a1 (by rw [ht1, W_succ (by omega)]) fun v4 m4' g8 _ => ?_
          rw [show W (((usedN j c - k : Nat) : Int) - 1) = ((usedN j c - (k + 1) : Nat) : Int) from by rw [W_id (by omega) (by omega)]; omega]
          have g9 : Fr (X + 2) 2 v v4 := (((show Fr (X + 2) 1 v v1 from g5).mono (by omega) (by omega)).trans (g6.mono (by omega) (by omega))).trans ((g7.mono (by omega) (by omega)).trans (g8.mono (by omega) (by omega)))
          refine let_ ⟨⟨k + 1, rfl, by omega, ?_, ?_, ?_, ?_, e5'.fr g9 (by omega), gg.thenNew g9 (by omega)⟩, by omega⟩
          · rw [hnext]; exact l1.fr g9 (by omega)
          · rw [hnext]; exact l2.fr g9 (by omega)
          · rw [hnext]; exact (m3'.fr g7 (by omega)).fr g8 (by omega)
          · rw [hnext, nats_congr (g := fset t a (max (s.ht a) (s.ht b) + 1)) fun x hx => ?_]
            · exact m4'
            · simp only [joinAB, fset]
              split
              · rfl
              · rename_i hxa; rw [ht2 x hxa]
        by_cases hgt : s.ht b > s.ht a
        · rw [if_pos (by simp only [decide_eq_true_eq]; omega)]
          refine rdN e4''.drew b1' ?_
          refine wrN (v := s.ht b) e4''.drew a1 rfl fun v3 m4 g7 _ => ?_
          exact fin _ v3 m4 (by rw [fset_eq]; omega) (fun x hx => fset_ne hx) g7
        · rw [if_neg (by simp only [decide_eq_true_eq]; omega)]
          exact fin _ v2.drew e4'' (by omega) (fun x hx => rfl) (Fr.refl _ _ _)
    · rw [if_neg (by simp only [decide_eq_true_eq]; omega)]
      have : k = usedN i c - 1 := by omega
      subst this
      refine hK u X ?_ (by omega) g3
      unfold plainL
      rw [hst_eq]; exact e1
end Go.Proofs.Qxb6500563aGreat
