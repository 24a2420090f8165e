/-
  The real heap: the arena; calls on roots.
-/
import Derived.Test.Qxb6500562aGreatHmE
namespace Go.Proofs.Qxb6500562aGreat
open Go.Den Go.Zip
set_option linter.unusedVariables false
set_option linter.unusedSimpArgs false

def ofsL (os : List Ob) (k : Nat) : Nat := ((os.take k).map osz).sum
def ofs (M : SH) (k : Nat) : Nat := ofsL M.objs k
def tot (M : SH) : Nat := ofs M M.objs.length
def adr (M : SH) (b : Nat) (x : Int) : Int := if x < 0 then -1 else ((b + ofs M x.toNat : Nat) : Int)
def hdr (o : Ob) : Int := ((o.refs.length * 49 + o.ints.length : Nat) : Int)
def memB (f : Nat → Int) : List Value := tab 124 (fun i => .int .i64 (f i))
def obN (M : SH) (k : Nat) : Ob := M.objs.getD k ob0
structure RL (f : Nat → Int) (M : SH) (b : Nat) : Prop where
  bb : b = 0 ∨ b = 48
  bs : f 96 = b
  fr : f 97 = (b + tot M : Nat)
  le : tot M ≤ 48
  tp : f 122 = M.roots.length
  rt : ∀ i, i < M.roots.length → f (98 + i) = adr M b (M.roots.getD i (-1))
  hd : ∀ k, k < M.objs.length → f (b + ofs M k) = hdr (obN M k)
  rf : ∀ k j, k < M.objs.length → j < (obN M k).refs.length → f (b + ofs M k + 1 + j) = adr M b ((obN M k).refs.getD j (-1))
  it : ∀ k j, k < M.objs.length → j < (obN M k).ints.length → f (b + ofs M k + 1 + (obN M k).refs.length + j) = (obN M k).ints.getD j 0
theorem ofsL_succ (os : List Ob) (k : Nat) (h : k < os.length) : ofsL os (k + 1) = ofsL os k + osz (os.getD k ob0) := by
  unfold ofsL
  rw [List.take_add_one, List.getElem?_eq_getElem h, List.map_append, List.sum_append, List.getD_eq_getElem?_getD, List.getElem?_eq_getElem h]
  simp
theorem ofsL_mono (os : List Ob) {k j : Nat} (h : k ≤ j) (hj : j ≤ os.length) : ofsL os k ≤ ofsL os j := by
  induction j with
  | zero => rw [show k = 0 by omega]; exact Nat.le_refl _
  | succ j ih =>
    by_cases e : k = j + 1
    · rw [e]; exact Nat.le_refl _
    · have := ih (by omega) (by omega)
      rw [ofsL_succ os j (by omega)]
      omega
/-- Object j lies behind object k. -/
theorem ofs_lt {M : SH} {k j : Nat} (h : k < j) (hj : j ≤ M.objs.length) : ofs M k + osz (obN M k) ≤ ofs M j := by
  have := ofsL_mono M.objs (k := k + 1) (j := j) h hj
  rw [ofsL_succ M.objs k (by omega)] at this
  exact this
theorem ofs_tot {M : SH} {k : Nat} (h : k < M.objs.length) : ofs M k + osz (obN M k) ≤ tot M := ofs_lt h (Nat.le_refl _)
theorem osz_eq (o : Ob) : osz o = 1 + o.refs.length + o.ints.length := rfl
variable {w w' : World} {h : Nat} {f : Nat → Int} {M H : SH} {b : Nat}

theorem memB_set (f : Nat → Int) (i : Nat) (v : Int) : (memB f).set i (.int .i64 v) = memB (fset f i v) := by
  unfold memB
  rw [tab_set]
  refine tab_congr fun j hj => ?_
  unfold fset
  split <;> rfl
theorem ldH {j : Nat} {K : Int → Prop} (hb : Blk w h (memB f)) (hj : j < 124) (hK : K (f j)) : LdI .i64 w ⟨h, j, none⟩ K := ldI hb (by unfold memB; rw [tab_get hj]) hK
theorem stH {j : Nat} {v : Int} {K : World → Prop} (hb : Blk w h (memB f)) (hj : j < 124) (hK : ∀ w', Blk w' h (memB (fset f j v)) → Fr h 1 w w' → K w') : St1 w ⟨h, j, none⟩ (.int .i64 v) K :=
  st1 hb (by simpa [memB] using hj) fun w' b' f' _ => hK w' (by rw [memB_set] at b'; exact b') f'
def HR (w : World) (h : Nat) (M : SH) : Prop := WM M ∧ ∃ f b, Blk w h (memB f) ∧ RL f M b
theorem HR.fr {p n : Nat} (m : HR w h M) (f : Fr p n w w') (hn : h < p ∨ p + n ≤ h) : HR w' h M := by
  obtain ⟨h1, k, b, h2, h3⟩ := m
  exact ⟨h1, k, b, h2.fr f hn, h3⟩
theorem HR.frp {P : Nat → Prop} (m : HR w h M) (f : FrP P w w') (hn : ¬ P h) : HR w' h M := by
  obtain ⟨h1, k, b, h2, h3⟩ := m
  exact ⟨h1, k, b, h2.frp f hn, h3⟩
theorem HR.drew (m : HR w h M) : HR w.drew h M := m.fr (Fr.refl 0 0 w).drew (by omega)
theorem rdepth {K : Int → World → Prop} (m : HR w h M) (hK : K M.roots.length w) : S.heap_Heap_Depth h w K := by
  unfold S.heap_Heap_Depth
  obtain ⟨_, f, b, hb, r⟩ := m
  refine ldH hb (by omega) ?_
  rw [r.tp]; exact hK
/-- The roots turn; the arena stands. -/
theorem RL.turn {f' : Nat → Int} {roots' : List Int} (r : RL f M b) (hl : roots'.length ≤ 24) (he : ∀ j, j < 98 → f' j = f j) (ht : f' 122 = roots'.length) (hr : ∀ i, i < roots'.length → f' (98 + i) = adr M b (roots'.getD i (-1))) : RL f' ⟨M.objs, roots'⟩ b := by
  have hle := r.le
  have hbb := r.bb
  have tt : ∀ k, k < M.objs.length → ofs M k + osz (obN M k) ≤ tot M := fun k hk => ofs_tot hk
  refine ⟨r.bb, by rw [he _ (by omega)]; exact r.bs, by rw [he _ (by omega)]; exact r.fr, r.le, ht, hr, fun k hk => ?_, fun k j hk hj => ?_, fun k j hk hj => ?_⟩
  · have := tt k hk
    rw [osz_eq] at this
    show f' (b + ofs M k) = hdr (obN M k)
    rw [he _ (by omega)]; exact r.hd k hk
  · have := tt k hk
    rw [osz_eq] at this
    have hj : j < (obN M k).refs.length := hj
    show f' (b + ofs M k + 1 + j) = adr M b ((obN M k).refs.getD j (-1))
    rw [he _ (by omega)]; exact r.rf k j hk hj
  · have := tt k hk
    rw [osz_eq] at this
    have hj : j < (obN M k).ints.length := hj
    show f' (b + ofs M k + 1 + (obN M k).refs.length + j) = (obN M k).ints.getD j 0
    rw [he _ (by omega)]; exact r.it k j hk hj
theorem WM.turnR {roots' : List Int} (m : WM M) (hl : roots'.length ≤ 24) (hr : ∀ x ∈ roots', x = -1 ∨ x ∈ M.roots) : WM ⟨M.objs, roots'⟩ :=
  ⟨hl, m.ol, m.fl, fun x hx => by
    rcases hr x hx with h1 | h1
    · rw [h1]; exact ⟨by omega, by show (-1 : Int) < (M.objs.length : Int); omega⟩
    · exact m.rr x h1, m.fr⟩
theorem getD_snoc (l : List Int) (x : Int) (i : Nat) (h : i < l.length) : (l ++ [x]).getD i (-1) = l.getD i (-1) := by
  rw [List.getD_eq_getElem?_getD, List.getD_eq_getElem?_getD, List.getElem?_append_left h]
theorem getD_end (l : List Int) (x : Int) : (l ++ [x]).getD l.length (-1) = x := by simp
theorem rpush {K : Int → World → Prop} (m : HR w h M) (hK : ∀ w', HR w' h (hPush M).2 → Fr h 1 w w' → K (hPush M).1 w') : S.heap_Heap_PushNil h w K := by
  unfold S.heap_Heap_PushNil
  have m0 := m
  obtain ⟨wm, f, b, hb, r⟩ := m
  refine ldH hb (by omega) ?_
  rw [r.tp]
  unfold hPush at hK
  by_cases h24 : 24 ≤ M.roots.length
  · rw [if_pos (by simp only [decide_eq_true_eq]; omega)]
    rw [if_pos h24] at hK
    exact hK w m0 (Fr.refl _ _ _)
  rw [if_neg (by simp only [decide_eq_true_eq]; omega)]
  rw [if_neg h24] at hK
  refine drew_ ?_
  have hb := hb.drew
  have F0 : Fr h 1 w w.drew := (Fr.refl _ _ _).drew
  generalize w.drew = v at *
  refine ldH hb (by omega) ?_
  rw [r.tp]
  refine ⟨by omega, by omega, ?_⟩
  rw [Int.toNat_natCast, Nat.mul_one]
  refine stH hb (by omega) fun u1 b1 f1 => ldH b1 (by omega) ?_
  rw [fset_ne (by omega), r.tp, W_succ (by omega)]
  refine stH b1 (by omega) fun u2 b2 f2 => ?_
  refine hK u2 ⟨wm.turnR (by simp; omega) fun x hx => ?_, _, b, b2, r.turn (by simp; omega) (fun j hj => by rw [fset_ne (by omega), fset_ne (by omega)]) (by rw [fset_eq]; simp) fun i hi => ?_⟩ ((F0.trans f1).trans f2)
  · rcases List.mem_append.1 hx with hx | hx
    · exact .inr hx
    · exact .inl (by simpa using hx)
  · simp only [List.length_append, List.length_cons, List.length_nil] at hi
    rw [fset_ne (by omega)]
    by_cases e : i = M.roots.length
    · subst e; rw [fset_eq, getD_end]; rfl
    · rw [fset_ne (by omega), getD_snoc _ _ _ (by omega)]; exact r.rt i (by omega)
theorem rpop {n : Int} {K : Int → World → Prop} (m : HR w h M) (hK : ∀ w', HR w' h (hPop M n).2 → Fr h 1 w w' → K (hPop M n).1 w') : S.heap_Heap_Pop h n w K := by
  unfold S.heap_Heap_Pop
  have m0 := m
  obtain ⟨wm, f, b, hb, r⟩ := m
  have h24 := wm.rl
  have bad : (n < 0 ∨ (M.roots.length : Int) < n) → K 1 w := fun hc => by
    have hp : hPop M n = (1, M) := by unfold hPop; rw [if_pos hc]
    rw [hp] at hK
    exact hK w m0 (Fr.refl _ _ _)
  by_cases h1 : n < 0
  · rw [if_pos (by simpa using h1)]
    exact bad (.inl h1)
  rw [if_neg (by simpa using h1)]
  refine ldH hb (by omega) ?_
  rw [r.tp]
  by_cases h2 : (M.roots.length : Int) < n
  · rw [if_pos (by simpa using h2)]
    exact bad (.inr h2)
  rw [if_neg (by simpa using h2)]
  have hp : hPop M n = (0, ⟨M.objs, M.roots.take (M.roots.length - n.toNat)⟩) := by unfold hPop; rw [if_neg (by omega)]
  rw [hp] at hK
  refine ldH hb (by omega) ?_
  rw [r.tp, W_id (by omega) (by omega)]
  refine stH hb (by omega) fun u1 b1 f1 => ?_
  have hlen : (M.roots.take (M.roots.length - n.toNat)).length = M.roots.length - n.toNat := by simp
  refine hK u1 ⟨wm.turnR (by omega) fun x hx => .inr (List.mem_of_mem_take hx), _, b, b1, r.turn (by omega) (fun j hj => by rw [fset_ne (by omega)]) (by rw [fset_eq, hlen]; omega) fun i hi => ?_⟩ f1
  rw [hlen] at hi
  rw [fset_ne (by omega), r.rt i (by omega), List.getD_eq_getElem?_getD, List.getD_eq_getElem?_getD, List.getElem?_take, if_pos hi]
theorem rslide {n : Int} {K : Int → World → Prop} (m : HR w h M) (hK : ∀ w', HR w' h (hSlide M n).2 → Fr h 1 w w' → K (hSlide M n).1 w') : S.heap_Heap_Slide h n w K := by
  unfold S.heap_Heap_Slide
  have m0 := m
  obtain ⟨wm, f, b, hb, r⟩ := m
  have h24 := wm.rl
  have bad : (n < 0 ∨ (M.roots.length : Int) ≤ n) → K 1 w := fun hc => by
    have hp : hSlide M n = (1, M) := by unfold hSlide; rw [if_pos hc]
    rw [hp] at hK
    exact hK w m0 (Fr.refl _ _ _)
  by_cases h1 : n < 0
  · rw [if_pos (by simpa using h1)]
    exact bad (.inl h1)
  rw [if_neg (by simpa using h1)]
  refine ldH hb (by omega) ?_
  rw [r.tp]
  by_cases h2 : (M.roots.length : Int) ≤ n
  · rw [if_pos (by simpa using h2)]
    exact bad (.inr h2)
  rw [if_neg (by simpa using h2)]
  have hp : hSlide M n = (0, ⟨M.objs, M.roots.take (M.roots.length - 1 - n.toNat) ++ [M.roots.getD (M.roots.length - 1) (-1)]⟩) := by unfold hSlide; rw [if_neg (by omega)]
  rw [hp] at hK
  refine drew_ ?_
  have hb := hb.drew
  have F0 : Fr h 1 w w.drew := (Fr.refl _ _ _).drew
  generalize w.drew = v at *
  refine ldH hb (by omega) (ldH hb (by omega) ?_)
  rw [r.tp]
  have e1 : W ((M.roots.length : Int) - 1) = ((M.roots.length - 1 : Nat) : Int) := by rw [W_id (by omega) (by omega)]; omega
  have e2 : W (((M.roots.length - 1 : Nat) : Int) - n) = ((M.roots.length - 1 - n.toNat : Nat) : Int) := by rw [W_id (by omega) (by omega)]; omega
  rw [e1]
  refine ⟨by omega, by omega, ?_⟩
  rw [Int.toNat_natCast, Nat.mul_one]
  refine ldH hb (by omega) ?_
  rw [e2]
  refine ⟨by omega, by omega, ?_⟩
  rw [Int.toNat_natCast, Nat.mul_one]
  refine stH hb (by omega) fun u1 b1 f1 => ldH b1 (by omega) ?_
  rw [fset_ne (by omega), r.tp, W_id (by omega) (by omega)]
  refine stH b1 (by omega) fun u2 b2 f2 => ?_
  have hlen : (M.roots.take (M.roots.length - 1 - n.toNat)).length = M.roots.length - 1 - n.toNat := by simp; omega
  refine hK u2 ⟨wm.turnR (by simp; omega) fun x hx => ?_, _, b, b2, r.turn (by simp; omega) (fun j hj => by rw [fset_ne (by omega), fset_ne (by omega)]) (by rw [fset_eq]; simp; omega) fun i hi => ?_⟩ ((F0.trans f1).trans f2)
  · rcases List.mem_append.1 hx with hx | hx
    · exact .inr (List.mem_of_mem_take hx)
    · simp only [List.mem_singleton] at hx; subst hx; exact .inr (getD_in (by omega))
  · simp only [List.length_append, List.length_cons, List.length_nil, hlen] at hi
    rw [fset_ne (by omega)]
    by_cases e : i = M.roots.length - 1 - n.toNat
    · rw [e, fset_eq, r.rt _ (by omega)]
      have := getD_end (M.roots.take (M.roots.length - 1 - n.toNat)) (M.roots.getD (M.roots.length - 1) (-1))
      rw [hlen] at this
      rw [this]
    · rw [fset_ne (by omega), getD_snoc _ _ _ (by omega), r.rt i (by omega), List.getD_eq_getElem?_getD, List.getD_eq_getElem?_getD, List.getElem?_take, if_pos (by omega)]
theorem rdup {i : Int} {K : Int → World → Prop} (m : HR w h M) (hK : ∀ w', HR w' h (hDup M i).2 → Fr h 1 w w' → K (hDup M i).1 w') : S.heap_Heap_Dup h i w K := by
  unfold S.heap_Heap_Dup
  have m0 := m
  obtain ⟨wm, f, b, hb, r⟩ := m
  have h24 := wm.rl
  have bad : (i < 0 ∨ (M.roots.length : Int) ≤ i) → K 2 w := fun hc => by
    have hp : hDup M i = (2, M) := by unfold hDup; rw [if_pos hc]
    rw [hp] at hK
    exact hK w m0 (Fr.refl _ _ _)
  by_cases h1 : i < 0
  · rw [if_pos (by simpa using h1)]
    exact bad (.inl h1)
  rw [if_neg (by simpa using h1)]
  refine ldH hb (by omega) ?_
  rw [r.tp]
  by_cases h2 : (M.roots.length : Int) ≤ i
  · rw [if_pos (by simpa using h2)]
    exact bad (.inr h2)
  rw [if_neg (by simpa using h2)]
  refine ldH hb (by omega) ?_
  rw [r.tp]
  by_cases h3 : 24 ≤ M.roots.length
  · rw [if_pos (by simp only [decide_eq_true_eq]; omega)]
    have hp : hDup M i = (3, M) := by unfold hDup; rw [if_neg (by omega), if_pos h3]
    rw [hp] at hK
    exact hK w m0 (Fr.refl _ _ _)
  rw [if_neg (by simp only [decide_eq_true_eq]; omega)]
  have hp : hDup M i = (0, ⟨M.objs, M.roots ++ [rtAt M i]⟩) := by unfold hDup; rw [if_neg (by omega), if_neg h3]
  rw [hp] at hK
  refine drew_ ?_
  have hb := hb.drew
  have F0 : Fr h 1 w w.drew := (Fr.refl _ _ _).drew
  generalize w.drew = v at *
  obtain ⟨k, rfl⟩ : ∃ k : Nat, i = k := ⟨i.toNat, by omega⟩
  refine ldH hb (by omega) ?_
  refine ⟨by omega, by omega, ?_⟩
  rw [Int.toNat_natCast, Nat.mul_one]
  refine ldH hb (by omega) ?_
  rw [r.tp]
  refine ⟨by omega, by omega, ?_⟩
  rw [Int.toNat_natCast, Nat.mul_one]
  refine stH hb (by omega) fun u1 b1 f1 => ldH b1 (by omega) ?_
  rw [fset_ne (by omega), r.tp, W_succ (by omega)]
  refine stH b1 (by omega) fun u2 b2 f2 => ?_
  refine hK u2 ⟨wm.turnR (by simp; omega) fun x hx => ?_, _, b, b2, r.turn (by simp; omega) (fun j hj => by rw [fset_ne (by omega), fset_ne (by omega)]) (by rw [fset_eq]; simp) fun i hi => ?_⟩ ((F0.trans f1).trans f2)
  · rcases List.mem_append.1 hx with hx | hx
    · exact .inr hx
    · simp only [List.mem_singleton] at hx; subst hx; exact .inr (getD_in (by simp; omega))
  · simp only [List.length_append, List.length_cons, List.length_nil] at hi
    rw [fset_ne (by omega)]
    by_cases e : i = M.roots.length
    · subst e; rw [fset_eq, getD_end, r.rt k (by omega)]; unfold rtAt; rw [Int.toNat_natCast]
    · rw [fset_ne (by omega), getD_snoc _ _ _ (by omega)]; exact r.rt i (by omega)
theorem rset {i : Int} {K : Int → World → Prop} (m : HR w h M) (hK : ∀ w', HR w' h (hSet M i).2 → Fr h 1 w w' → K (hSet M i).1 w') : S.heap_Heap_Set h i w K := by
  unfold S.heap_Heap_Set
  have m0 := m
  obtain ⟨wm, f, b, hb, r⟩ := m
  have h24 := wm.rl
  have bad : (i < 0 ∨ (M.roots.length : Int) - 1 ≤ i) → K 2 w := fun hc => by
    have hp : hSet M i = (2, M) := by unfold hSet; rw [if_pos hc]
    rw [hp] at hK
    exact hK w m0 (Fr.refl _ _ _)
  by_cases h1 : i < 0
  · rw [if_pos (by simpa using h1)]
    exact bad (.inl h1)
  rw [if_neg (by simpa using h1)]
  refine ldH hb (by omega) ?_
  rw [r.tp, W_id (x := (M.roots.length : Int) - 1) (by omega) (by omega)]
  by_cases h2 : (M.roots.length : Int) - 1 ≤ i
  · rw [if_pos (by simpa using h2)]
    exact bad (.inr h2)
  rw [if_neg (by simpa using h2)]
  have hp : hSet M i = (0, ⟨M.objs, (M.roots.set i.toNat (M.roots.getD (M.roots.length - 1) (-1))).take (M.roots.length - 1)⟩) := by unfold hSet; rw [if_neg (by omega)]
  rw [hp] at hK
  refine drew_ ?_
  have hb := hb.drew
  have F0 : Fr h 1 w w.drew := (Fr.refl _ _ _).drew
  generalize w.drew = v at *
  obtain ⟨k, rfl⟩ : ∃ k : Nat, i = k := ⟨i.toNat, by omega⟩
  refine ldH hb (by omega) ?_
  rw [r.tp]
  have e1 : W ((M.roots.length : Int) - 1) = ((M.roots.length - 1 : Nat) : Int) := by rw [W_id (by omega) (by omega)]; omega
  rw [e1]
  refine ⟨by omega, by omega, ?_⟩
  rw [Int.toNat_natCast, Nat.mul_one]
  refine ldH hb (by omega) ?_
  refine ⟨by omega, by omega, ?_⟩
  rw [Int.toNat_natCast, Nat.mul_one]
  refine stH hb (by omega) fun u1 b1 f1 => ldH b1 (by omega) ?_
  rw [fset_ne (by omega), r.tp, e1]
  refine stH b1 (by omega) fun u2 b2 f2 => ?_
  have hlen : ((M.roots.set k (M.roots.getD (M.roots.length - 1) (-1))).take (M.roots.length - 1)).length = M.roots.length - 1 := by simp
  rw [Int.toNat_natCast] at hK
  refine hK u2 ⟨wm.turnR (by omega) fun x hx => ?_, _, b, b2, r.turn (by omega) (fun j hj => by rw [fset_ne (by omega), fset_ne (by omega)]) (by rw [fset_eq, hlen]) fun i hi => ?_⟩ ((F0.trans f1).trans f2)
  · rcases List.mem_or_eq_of_mem_set (List.mem_of_mem_take hx) with hx | hx
    · exact .inr hx
    · subst hx; exact .inr (getD_in (by omega))
  · rw [hlen] at hi
    rw [fset_ne (by omega), List.getD_eq_getElem?_getD, List.getElem?_take, if_pos hi, List.getElem?_set]
    by_cases e : i = k
    · subst e; rw [fset_eq, if_pos rfl, if_pos (by omega), r.rt _ (by omega)]; rfl
    · rw [fset_ne (by omega), if_neg (fun h => e h.symm), r.rt i (by omega), List.getD_eq_getElem?_getD]
end Go.Proofs.Qxb6500562aGreat
