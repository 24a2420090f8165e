/-
  The encoder, plain: counts, costs, the run-length form, the bits of a block.
-/
import Derived.Test.Qxb6500563aGreatStrD
import Derived.Test.Qxb6500563aGreatLzR
namespace Go.Proofs.Qxb6500563aGreat
open Go.Den Go.Zip
set_option linter.unusedVariables false
set_option linter.unusedSimpArgs false

def dCode (d : Nat) : Nat := if d ≤ 4 then d - 1 else if d ≤ 8 then 4 + (d - 5) / 2 else 6 + (d - 9) / 4
theorem dCode_facts {d : Nat} (h1 : 1 ≤ d) (h2 : d ≤ 16) : dCode d < 8 ∧ dBase (dCode d) ≤ d ∧ d - dBase (dCode d) < 2 ^ dMore (dCode d) := by
  have : d = 1 ∨ d = 2 ∨ d = 3 ∨ d = 4 ∨ d = 5 ∨ d = 6 ∨ d = 7 ∨ d = 8 ∨ d = 9 ∨ d = 10 ∨ d = 11 ∨ d = 12 ∨ d = 13 ∨ d = 14 ∨ d = 15 ∨ d = 16 := by omega
  rcases this with e | e | e | e | e | e | e | e | e | e | e | e | e | e | e | e <;> subst e <;> decide
def symsOf (t : Tok) : List Nat := if t.1 = 0 then [t.2.2] else [254 + t.1, 265 + dCode t.2.1]
def incC (c : Nat → Nat) (s : Nat) : Nat → Nat := fset c s (c s + 1)
def addTok (c : Nat → Nat) (t : Tok) : Nat → Nat := (symsOf t).foldl incC c
def cnt0 : Nat → Nat := fset (fun _ => 0) 256 1
def cntT (toks : List Tok) : Nat → Nat := toks.foldl addTok cnt0
/-- A lawful token. -/
def TokOK (t : Tok) : Prop := (t.1 = 0 ∧ t.2.2 < 256) ∨ (3 ≤ t.1 ∧ t.1 ≤ 10 ∧ 1 ≤ t.2.1 ∧ t.2.1 ≤ 16)
theorem syms_lt {t : Tok} (h : TokOK t) : ∀ s ∈ symsOf t, s < 273 := fun s hs => by
  unfold symsOf at hs
  rcases h with ⟨h1, h2⟩ | ⟨h1, h2, h3, h4⟩
  · rw [if_pos h1] at hs; simp at hs; omega
  · rw [if_neg (by omega)] at hs
    have := (dCode_facts h3 h4).1
    simp at hs; omega
theorem tok_ok {level : Nat} {s : List Nat} {i : Nat} (hs : ∀ x ∈ s, x < 256) : TokOK (tokAt level s i) := by
  unfold tokAt
  rcases pick_cases level s i with e | ⟨e, e2⟩
  · rw [e]; left
    refine ⟨rfl, ?_⟩
    exact getD_mem (p := fun x => x < 256) hs (by omega)
  · rw [e, if_neg (by omega)]
    right
    rcases best_cases s i with h | ⟨h1, h2, h3, h4, _⟩
    · rw [h] at e2; simp at e2
    · exact ⟨h1, h2, h3, h4⟩
theorem pst_ok {level : Nat} {s : List Nat} (hs : ∀ x ∈ s, x < 256) : ∀ k, ∀ t ∈ (pst level s k).2, TokOK t
  | 0, t, ht => by simp [pst] at ht
  | k + 1, t, ht => by
    simp only [pst] at ht
    split at ht
    · simp only [List.mem_append, List.mem_cons, List.not_mem_nil, or_false] at ht
      rcases ht with ht | ht
      · exact pst_ok hs k t ht
      · subst ht; exact tok_ok hs
    · exact pst_ok hs k t ht
theorem tokens_ok {level : Nat} {s : List Nat} (hs : ∀ x ∈ s, x < 256) : ∀ t ∈ tokens level s, TokOK t := pst_ok hs _
theorem tokens_len (level : Nat) (s : List Nat) : (tokens level s).length ≤ s.length := by
  have := pst_le level s s.length
  unfold tokens; omega

/-! ### Counts -/
theorem inc_le (c : Nat → Nat) (x s : Nat) : c s ≤ incC c x s ∧ incC c x s ≤ c s + 1 := by
  unfold incC fset
  by_cases h : s = x
  · subst h; simp
  · rw [if_neg h]; omega
theorem inc_hit (c : Nat → Nat) (x : Nat) : 0 < incC c x x := by simp [incC, fset]
theorem incs_le : ∀ (l : List Nat) (c : Nat → Nat) (s : Nat), c s ≤ l.foldl incC c s ∧ l.foldl incC c s ≤ c s + l.length ∧ (s ∈ l → 0 < l.foldl incC c s)
  | [], c, s => by simp
  | x :: l, c, s => by
    obtain ⟨h1, h2, h3⟩ := incs_le l (incC c x) s
    have h4 := inc_le c x s
    simp only [List.foldl_cons, List.length_cons, List.mem_cons]
    refine ⟨by omega, by omega, fun h => ?_⟩
    rcases h with h | h
    · subst h; have := inc_hit c s; omega
    · exact h3 h
theorem syms_len (t : Tok) : (symsOf t).length ≤ 2 := by unfold symsOf; split <;> simp
theorem toks_le : ∀ (l : List Tok) (c : Nat → Nat) (s : Nat), c s ≤ l.foldl addTok c s ∧ l.foldl addTok c s ≤ c s + 2 * l.length ∧ (∀ t ∈ l, s ∈ symsOf t → 0 < l.foldl addTok c s)
  | [], c, s => by simp
  | x :: l, c, s => by
    obtain ⟨h1, h2, h3⟩ := toks_le l (addTok c x) s
    obtain ⟨g1, g2, g3⟩ := incs_le (symsOf x) c s
    have h5 := syms_len x
    simp only [List.foldl_cons, List.length_cons, List.mem_cons]
    have e : addTok c x s = (symsOf x).foldl incC c s := rfl
    refine ⟨by omega, by omega, fun t ht hs => ?_⟩
    rcases ht with ht | ht
    · subst ht; have := g3 hs; omega
    · exact h3 t ht hs
theorem cnt_le (toks : List Tok) (s : Nat) : cntT toks s ≤ 1 + 2 * toks.length := by
  have := (toks_le toks cnt0 s).2.1
  have h0 : cnt0 s ≤ 1 := by unfold cnt0 fset; split <;> (try dsimp only) <;> omega
  unfold cntT; omega
theorem cnt_pos {toks : List Tok} {t : Tok} {s : Nat} (ht : t ∈ toks) (hs : s ∈ symsOf t) : 0 < cntT toks s := (toks_le toks cnt0 s).2.2 t ht hs
theorem cnt_eob (toks : List Tok) : 0 < cntT toks 256 := by
  have := (toks_le toks cnt0 256).1
  have : cnt0 256 = 1 := by unfold cnt0; rw [fset_eq]
  unfold cntT; omega
theorem cnt_succ {toks : List Tok} {k : Nat} {t : Tok} (h : toks[k]? = some t) : cntT (toks.take (k + 1)) = addTok (cntT (toks.take k)) t := by
  have hk : k < toks.length := by
    rcases Nat.lt_or_ge k toks.length with h' | h'
    · exact h'
    · simp [h'] at h
  have ht : toks[k] = t := by rw [List.getElem?_eq_getElem hk] at h; exact Option.some.inj h
  unfold cntT
  rw [List.take_succ_eq_append_getElem hk, List.foldl_append, ht]
  rfl

/-! ### Costs -/
def gW (l : Nat → Nat) (s : Nat) : Nat := l s + if s < 265 then 0 else dMore (s - 265)
def costTo (c l : Nat → Nat) (n : Nat) : Nat := sumTo n fun s => c s * gW l s
def costT (l : Nat → Nat) (t : Tok) : Nat := ((symsOf t).map (gW l)).sum
theorem cost_inc (c l : Nat → Nat) {s : Nat} (hs : s < 273) : costTo (incC c s) l 273 = costTo c l 273 + gW l s := by
  unfold costTo
  have e : (fun t => incC c s t * gW l t) = fset (fun t => c t * gW l t) s ((c s + 1) * gW l s) := by
    funext t
    unfold incC fset
    by_cases h : t = s
    · subst h; simp
    · rw [if_neg h, if_neg h]
  have := sumTo_set (fun t => c t * gW l t) s ((c s + 1) * gW l s) hs
  rw [e]
  rw [Nat.add_mul, Nat.one_mul] at *
  omega
theorem cost_incs (l : Nat → Nat) : ∀ (ss : List Nat) (c : Nat → Nat), (∀ s ∈ ss, s < 273) → costTo (ss.foldl incC c) l 273 = costTo c l 273 + (ss.map (gW l)).sum
  | [], c, _ => by simp
  | s :: ss, c, h => by
    simp only [List.foldl_cons, List.map_cons, List.sum_cons]
    rw [cost_incs l ss (incC c s) fun x hx => h x (by simp [hx]), cost_inc c l (h s (by simp))]
    omega
theorem cost_toks (l : Nat → Nat) : ∀ (toks : List Tok) (c : Nat → Nat), (∀ t ∈ toks, TokOK t) → costTo (toks.foldl addTok c) l 273 = costTo c l 273 + (toks.map (costT l)).sum
  | [], c, _ => by simp
  | t :: toks, c, h => by
    simp only [List.foldl_cons, List.map_cons, List.sum_cons]
    rw [cost_toks l toks (addTok c t) fun x hx => h x (by simp [hx])]
    have : costTo (addTok c t) l 273 = costTo c l 273 + costT l t := cost_incs l (symsOf t) c (syms_lt (h t (by simp)))
    omega
theorem cost_zero (l : Nat → Nat) : costTo cnt0 l 273 = gW l 256 := by
  have e : cnt0 = incC (fun _ => 0) 256 := rfl
  rw [e, cost_inc _ l (by omega)]
  have : costTo (fun _ => 0) l 273 = 0 := sumTo_zero fun i _ => by simp
  omega
theorem cost_all (l : Nat → Nat) {toks : List Tok} (h : ∀ t ∈ toks, TokOK t) : costTo (cntT toks) l 273 = gW l 256 + (toks.map (costT l)).sum := by
  unfold cntT
  rw [cost_toks l toks cnt0 h, cost_zero]

/-! ### The planned lengths -/
def planT (c : Nat → Nat) : Nat → Nat := fun i => if i < 265 then planL 265 c i else planL 8 (hiL c) (i - 265)
theorem hi_plan (c : Nat → Nat) : hiL (planT c) = planL 8 (hiL c) := by
  funext i
  show planT c (265 + i) = _
  unfold planT
  rw [if_neg (by omega), show 265 + i - 265 = i from by omega]
theorem check_congr {n : Nat} {f g : Nat → Nat} (h : ∀ i, i < n → f i = g i) : checkE n f = checkE n g := by
  have h1 : kr n f = kr n g := sumTo_congr fun i hi => by rw [h i hi]
  have h2 : usedN n f = usedN n g := cntTo_congr fun i hi => by rw [h i hi]
  unfold checkE
  rw [h1, h2]
theorem used_le (n : Nat) (c : Nat → Nat) : usedN n c ≤ n := cntTo_le n _
theorem check_plan {n : Nat} (c : Nat → Nat) (hn : n ≤ 265) : checkE n (planL n c) = 0 := by
  have hu := used_le n c
  obtain ⟨g, hk⟩ := plan_good (n := n) (c := c) (by omega)
  by_cases h2 : 2 ≤ usedN n c
  · have := hk h2
    unfold checkE
    rw [if_neg (by omega), if_neg (by omega)]
  · have e : planL n c = fun i => if 0 < c i then 1 else 0 := by unfold planL; rw [if_pos (by omega)]
    obtain ⟨a, b, d, f⟩ := cnt_facts (planL n c) n
    have hu2 : usedN n (planL n c) = usedN n c := cntTo_congr fun i hi => by
      rw [e]; dsimp only
      by_cases hc : 0 < c i
      · simp [hc]
      · simp [hc]
    have hc1 : cntL n (planL n c) 1 = usedN n c := cntTo_congr fun i hi => by
      rw [e]; dsimp only
      by_cases hc : 0 < c i
      · simp [hc]
      · simp [hc]
    unfold checkE
    rw [if_neg (by omega), if_neg (by omega)]
theorem plan_le (c : Nat → Nat) : ∀ i, i < 273 → planT c i ≤ 10 ∧ (0 < planT c i ↔ 0 < c i) := fun i hi => by
  unfold planT
  by_cases h : i < 265
  · rw [if_pos h]
    have g := (plan_good (n := 265) (c := c) (by have := used_le 265 c; omega)).1
    have h1 := g.le i h
    have h2 := g.pos i h
    exact ⟨h1, h2⟩
  · rw [if_neg h]
    have g := (plan_good (n := 8) (c := hiL c) (by have := used_le 8 (hiL c); omega)).1
    have h1 := g.le (i - 265) (by omega)
    have h2 := g.pos (i - 265) (by omega)
    have e : hiL c (i - 265) = c i := by unfold hiL; rw [show 265 + (i - 265) = i from by omega]
    rw [e] at h2
    exact ⟨h1, h2⟩
/-- Lengths that a coded block may be written under, for these counts. -/
structure LawfulL (c l : Nat → Nat) : Prop where
  le : ∀ i, i < 273 → l i ≤ 10
  pos : ∀ i, i < 273 → 0 < c i → 0 < l i
  ca : checkE 265 l = 0
  cb : checkE 8 (hiL l) = 0
theorem lawful_plan (c : Nat → Nat) : LawfulL c (planT c) :=
  ⟨fun i hi => (plan_le c i hi).1, fun i hi h => (plan_le c i hi).2.2 h, by
    rw [check_congr (g := planL 265 c) fun i hi => by unfold planT; rw [if_pos hi]]
    exact check_plan c (by omega), by rw [hi_plan]; exact check_plan _ (by omega)⟩
theorem lawful_fix (c : Nat → Nat) : LawfulL c fixL := by
  obtain ⟨h1, h2, h3, h4, h5⟩ := sets_lens fix_sets fun i _ => fix_le i
  refine ⟨fun i _ => fix_le i, fun i _ _ => ?_, h1, h2⟩
  unfold fixL
  split
  · omega
  · split <;> omega

/-! ### The run-length form -/
def runAt (l : Nat → Nat) (i : Nat) : Nat := upto (fun k => l (i + k) == l i) (273 - i)
theorem run_facts (l : Nat → Nat) {i : Nat} (hi : i < 273) : 1 ≤ runAt l i ∧ i + runAt l i ≤ 273 ∧ (∀ k, k < runAt l i → l (i + k) = l i) ∧ (i + runAt l i < 273 → l (i + runAt l i) ≠ l i) := by
  obtain ⟨h1, h2, h3⟩ := upto_run (fun k => l (i + k) == l i) (273 - i)
  change runAt l i ≤ 273 - i at h1
  change ∀ m, m < runAt l i → (l (i + m) == l i) = true at h2
  change runAt l i < 273 - i → (l (i + runAt l i) == l i) = false at h3
  refine ⟨?_, by omega, fun k hk => by simpa using h2 k hk, fun h => by simpa using h3 (by omega)⟩
  rcases Nat.eq_zero_or_pos (runAt l i) with h | h
  · have := h3 (by omega)
    rw [h] at this
    simp at this
  · exact h
theorem run_eq {l : Nat → Nat} {i n : Nat} (h1 : i + n ≤ 273) (h2 : ∀ k, k < n → l (i + k) = l i) (h3 : i + n < 273 → l (i + n) ≠ l i) : runAt l i = n :=
  upto_eq ⟨by omega, fun m hm => by simpa using h2 m hm, fun h => by simpa using h3 (by omega)⟩
theorem run_ge {l : Nat → Nat} {i n : Nat} (h1 : i + n ≤ 273) (h2 : ∀ k, k < n → l (i + k) = l i) (hi : i < 273) : n ≤ runAt l i := by
  obtain ⟨a, b, c, d⟩ := run_facts l hi
  rcases Nat.lt_or_ge (runAt l i) n with h | h
  · exact absurd (h2 _ h) (d (by omega))
  · exact h
abbrev Item := Nat × Nat × Nat
def itemAt (l : Nat → Nat) (i : Nat) : Item × Nat :=
  if l i = 0 ∧ 3 ≤ runAt l i then ((11, min (runAt l i) 130 - 3, 7), min (runAt l i) 130)
  else if 0 < i ∧ l i = l (i - 1) ∧ 3 ≤ runAt l i then ((12, min (runAt l i) 6 - 3, 2), min (runAt l i) 6)
  else ((l i, 0, 0), 1)
/-- Behind k items: the place, the items. -/
def ist (l : Nat → Nat) : Nat → Nat × List Item
  | 0 => (0, [])
  | k + 1 => if (ist l k).1 < 273 then ((ist l k).1 + (itemAt l (ist l k).1).2, (ist l k).2 ++ [(itemAt l (ist l k).1).1]) else ist l k
def itemsL (l : Nat → Nat) : List Item := (ist l 273).2
theorem item_adv (l : Nat → Nat) {i : Nat} (hi : i < 273) : 1 ≤ (itemAt l i).2 ∧ i + (itemAt l i).2 ≤ 273 := by
  obtain ⟨a, b, c, d⟩ := run_facts l hi
  unfold itemAt
  split
  · simp only; omega
  · split
    · simp only; omega
    · simp only; omega
theorem ist_le (l : Nat → Nat) : ∀ k, (ist l k).1 ≤ 273 ∧ ((ist l k).1 < 273 → k ≤ (ist l k).1) ∧ (ist l k).2.length ≤ (ist l k).1
  | 0 => ⟨by simp [ist], by simp [ist], by simp [ist]⟩
  | k + 1 => by
    obtain ⟨h1, h2, h3⟩ := ist_le l k
    simp only [ist]
    by_cases h : (ist l k).1 < 273
    · rw [if_pos h]
      have := item_adv l h
      have := h2 h
      simp only [List.length_append, List.length_cons, List.length_nil]
      omega
    · rw [if_neg h]; exact ⟨h1, fun h' => absurd h' h, h3⟩
theorem ist_stop {l : Nat → Nat} {k : Nat} (h : 273 ≤ (ist l k).1) : ∀ j, ist l (k + j) = ist l k
  | 0 => rfl
  | j + 1 => by
    have ih := ist_stop h j
    rw [← Nat.add_assoc]
    simp only [ist]
    rw [ih, if_neg (by omega)]
theorem items_eq {l : Nat → Nat} {k : Nat} (h : 273 ≤ (ist l k).1) : itemsL l = (ist l k).2 := by
  have hk : 273 ≤ (ist l 273).1 := by
    have := ist_le l 273
    rcases Nat.lt_or_ge (ist l 273).1 273 with h' | h'
    · have := this.2.1 h'; omega
    · exact h'
  unfold itemsL
  rcases Nat.le_total k 273 with h' | h'
  · have := ist_stop h (273 - k)
    rw [show k + (273 - k) = 273 from by omega] at this
    rw [this]
  · have := ist_stop hk (k - 273)
    rw [show 273 + (k - 273) = k from by omega] at this
    rw [this]
def ItemOK (t : Item) : Prop := t.1 ≤ 12 ∧ t.2.2 ≤ 7 ∧ t.2.1 < 2 ^ t.2.2
theorem item_ok {l : Nat → Nat} (hl : ∀ i, i < 273 → l i ≤ 10) {i : Nat} (hi : i < 273) : ItemOK (itemAt l i).1 := by
  have := hl i hi
  unfold itemAt
  split
  · exact ⟨by simp, by simp, by show min (runAt l i) 130 - 3 < 128; omega⟩
  · split
    · exact ⟨by simp, by simp, by show min (runAt l i) 6 - 3 < 4; omega⟩
    · exact ⟨by show l i ≤ 12; omega, by simp, by simp⟩
theorem ist_ok {l : Nat → Nat} (hl : ∀ i, i < 273 → l i ≤ 10) : ∀ k, ∀ t ∈ (ist l k).2, ItemOK t
  | 0, t, ht => by simp [ist] at ht
  | k + 1, t, ht => by
    simp only [ist] at ht
    split at ht
    · rename_i h
      simp only [List.mem_append, List.mem_cons, List.not_mem_nil, or_false] at ht
      rcases ht with ht | ht
      · exact ist_ok hl k t ht
      · subst ht; exact item_ok hl h
    · exact ist_ok hl k t ht

/-! ### The bits -/
def itemB (t : Item) : List Bool := bitsOf t.1 4 ++ bitsOf t.2.1 t.2.2
def itemC (t : Item) : Nat := 4 + t.2.2
def listB (l : Nat → Nat) : List Bool := (itemsL l).flatMap itemB
def listC (l : Nat → Nat) : Nat := ((itemsL l).map itemC).sum
def symB (l : Nat → Nat) (s : Nat) : List Bool := if s < 265 then bitsOf (codeOf 265 l s) (l s) else bitsOf (codeOf 8 (hiL l) (s - 265)) (l s)
def tokB (l : Nat → Nat) (t : Tok) : List Bool :=
  if t.1 = 0 then symB l t.2.2 else symB l (254 + t.1) ++ symB l (265 + dCode t.2.1) ++ bitsOf (t.2.1 - dBase (dCode t.2.1)) (dMore (dCode t.2.1))
def emitB (kind : Nat) (data : List Nat) (toks : List Tok) (l : Nat → Nat) : List Bool :=
  bitsOf 1 1 ++ bitsOf kind 2 ++ (if kind = 0 then List.replicate 5 false ++ bitsOf data.length 16 ++ sbits data else (if kind = 2 then listB l else []) ++ toks.flatMap (tokB l) ++ symB l 256)
theorem flat_sum {α β : Type} (f : α → List β) : ∀ l : List α, (l.flatMap f).length = (l.map fun x => (f x).length).sum
  | [] => rfl
  | x :: l => by simp [flat_sum f l]
theorem symB_len (l : Nat → Nat) (s : Nat) : (symB l s).length = l s := by unfold symB; split <;> simp
theorem tokB_len (l : Nat → Nat) {t : Tok} (h : TokOK t) : (tokB l t).length = costT l t := by
  unfold tokB costT symsOf
  rcases h with ⟨h1, h2⟩ | ⟨h1, h2, h3, h4⟩
  · rw [if_pos h1, if_pos h1]
    simp [symB_len, gW]
    intro h; omega
  · rw [if_neg (by omega), if_neg (by omega)]
    have := (dCode_facts h3 h4).1
    simp only [List.length_append, symB_len, bitsOf_length, List.map_cons, List.map_nil, List.sum_cons, List.sum_nil, gW]
    rw [if_pos (by omega), if_neg (by omega), show 265 + dCode t.2.1 - 265 = dCode t.2.1 from by omega]
    omega
theorem listB_len (l : Nat → Nat) : (listB l).length = listC l := by
  unfold listB listC
  rw [flat_sum, List.map_congr_left (g := itemC) fun t _ => by simp [itemB, itemC]]
theorem toksB_len (l : Nat → Nat) {toks : List Tok} (h : ∀ t ∈ toks, TokOK t) : (toks.flatMap (tokB l)).length = (toks.map (costT l)).sum := by
  rw [flat_sum]
  congr 1
  exact List.map_congr_left fun t ht => tokB_len l (h t ht)
set_option maxRecDepth 10000 in
theorem body_len (l : Nat → Nat) {toks : List Tok} (h : ∀ t ∈ toks, TokOK t) : (toks.flatMap (tokB l) ++ symB l 256).length = costTo (cntT toks) l 273 := by
  rw [List.length_append, toksB_len l h, symB_len, cost_all l h]
  unfold gW
  rw [if_pos (by omega)]
  omega

/-! ### The choice, the text -/
def chooseK (n : Nat) (c : Nat → Nat) : Nat :=
  if 24 + 8 * n ≤ 3 + costTo c fixL 273 ∧ 24 + 8 * n ≤ 3 + listC (planT c) + costTo c (planT c) 273 then 0
  else if 3 + costTo c fixL 273 ≤ 3 + listC (planT c) + costTo c (planT c) 273 then 1 else 2
def lensK (k : Nat) (c : Nat → Nat) : Nat → Nat := if k = 2 then planT c else fixL
def packB (level : Nat) (data : List Nat) : List Bool :=
  emitB (chooseK data.length (cntT (tokens level data))) data (tokens level data) (lensK (chooseK data.length (cntT (tokens level data))) (cntT (tokens level data)))
theorem choose_cases (n : Nat) (c : Nat → Nat) : (chooseK n c = 0) ∨ (chooseK n c = 1 ∧ 3 + costTo c fixL 273 ≤ 24 + 8 * n) ∨ (chooseK n c = 2 ∧ 3 + listC (planT c) + costTo c (planT c) 273 ≤ 24 + 8 * n) := by
  unfold chooseK
  by_cases h1 : 24 + 8 * n ≤ 3 + costTo c fixL 273 ∧ 24 + 8 * n ≤ 3 + listC (planT c) + costTo c (planT c) 273
  · rw [if_pos h1]; exact .inl rfl
  · rw [if_neg h1]
    by_cases h2 : 3 + costTo c fixL 273 ≤ 3 + listC (planT c) + costTo c (planT c) 273
    · rw [if_pos h2]; exact .inr (.inl ⟨rfl, by omega⟩)
    · rw [if_neg h2]; exact .inr (.inr ⟨rfl, by omega⟩)
theorem emit_len0 (data : List Nat) (toks : List Tok) (l : Nat → Nat) : (emitB 0 data toks l).length = 24 + 8 * data.length := by
  unfold emitB
  rw [if_pos rfl]
  simp only [List.length_append, bitsOf_length, List.length_replicate, sbits_length]
  omega
theorem emit_len1 (data : List Nat) {toks : List Tok} (l : Nat → Nat) (h : ∀ t ∈ toks, TokOK t) : (emitB 1 data toks l).length = 3 + costTo (cntT toks) l 273 := by
  unfold emitB
  rw [if_neg (by omega), if_neg (by omega)]
  have := body_len l h
  simp only [List.length_append, bitsOf_length, List.length_nil, List.nil_append] at *
  omega
theorem emit_len2 (data : List Nat) {toks : List Tok} (l : Nat → Nat) (h : ∀ t ∈ toks, TokOK t) : (emitB 2 data toks l).length = 3 + listC l + costTo (cntT toks) l 273 := by
  unfold emitB
  rw [if_neg (by omega), if_pos rfl]
  have := body_len l h
  have h2 := listB_len l
  simp only [List.length_append, bitsOf_length] at *
  omega
theorem pack_len (level : Nat) {data : List Nat} (hd : ∀ x ∈ data, x < 256) : (packB level data).length ≤ 24 + 8 * data.length := by
  have hok := tokens_ok (level := level) hd
  unfold packB
  rcases choose_cases data.length (cntT (tokens level data)) with h | ⟨h, h2⟩ | ⟨h, h2⟩
  · rw [h, emit_len0]; omega
  · rw [h, emit_len1 data _ hok]; exact h2
  · rw [h, emit_len2 data _ hok]; exact h2
end Go.Proofs.Qxb6500563aGreat
