/-
  The real coder: its record; the heap's walks.
-/
import Derived.Test.Qxb6500563aGreatHufN
import Derived.Test.Qxb6500563aGreatHufH
namespace Go.Proofs.Qxb6500563aGreat
open Go.Den Go.Zip
set_option linter.unusedVariables false
set_option linter.unusedSimpArgs false
variable {w w' : World} {C : Nat}

/-- All that a coder holds. -/
structure CS where
  n : Nat
  top : Nat
  fill : Nat
  lens : Nat → Nat
  code : Nat → Nat
  sub : Nat → Nat
  root : Nat → Int
  wt : Nat → Nat
  ht : Nat → Nat
  num : Nat → Nat
  par : Nat → Nat
  dep : Nat → Nat
  heap : Nat → Nat
def rcd (C : Nat) (s : CS) : List Value :=
  [.int .i64 s.n, .slice (some ⟨C + 1, 0, none⟩) 265 265, .slice (some ⟨C + 2, 0, none⟩) 265 265, .slice (some ⟨C + 3, 0, none⟩) 64 64, .slice (some ⟨C + 4, 0, none⟩) 1024 1024, .int .i64 s.top,
   .slice (some ⟨C + 5, 0, none⟩) 529 529, .slice (some ⟨C + 6, 0, none⟩) 529 529, .slice (some ⟨C + 7, 0, none⟩) 529 529, .slice (some ⟨C + 8, 0, none⟩) 529 529, .slice (some ⟨C + 9, 0, none⟩) 529 529,
   .slice (some ⟨C + 10, 0, none⟩) 265 265, .int .i64 s.fill]
structure PW (w : World) (C : Nat) (s : CS) : Prop where
  rc : Blk w C (rcd C s)
  lens : Blk w (C + 1) (nats 265 s.lens)
  code : Blk w (C + 2) (nats 265 s.code)
  root : Blk w (C + 3) (ints (tab 64 s.root))
  sub : Blk w (C + 4) (nats 1024 s.sub)
  wt : Blk w (C + 5) (nats 529 s.wt)
  ht : Blk w (C + 6) (nats 529 s.ht)
  num : Blk w (C + 7) (nats 529 s.num)
  par : Blk w (C + 8) (nats 529 s.par)
  dep : Blk w (C + 9) (nats 529 s.dep)
  heap : Blk w (C + 10) (nats 265 s.heap)
variable {s : CS}
theorem PW.fr {p n : Nat} (h : PW w C s) (f : Fr p n w w') (hb : C + 11 ≤ p ∨ p + n ≤ C) : PW w' C s :=
  ⟨h.rc.fr f (by omega), h.lens.fr f (by omega), h.code.fr f (by omega), h.root.fr f (by omega), h.sub.fr f (by omega), h.wt.fr f (by omega), h.ht.fr f (by omega), h.num.fr f (by omega), h.par.fr f (by omega), h.dep.fr f (by omega), h.heap.fr f (by omega)⟩
theorem PW.heq (h : PW w C s) (e : w'.heap = w.heap) : PW w' C s :=
  ⟨h.rc.heq e, h.lens.heq e, h.code.heq e, h.root.heq e, h.sub.heq e, h.wt.heq e, h.ht.heq e, h.num.heq e, h.par.heq e, h.dep.heq e, h.heap.heq e⟩
theorem PW.drew (h : PW w C s) : PW w.drew C s := h.heq rfl
theorem PW.setFill (h : PW w C s) {v : Nat} (hb : Blk w' C ((rcd C s).set 12 (.int .i64 (v : Int)))) (f : Fr C 1 w w') : PW w' C { s with fill := v } :=
  ⟨hb, h.lens.fr f (by omega), h.code.fr f (by omega), h.root.fr f (by omega), h.sub.fr f (by omega), h.wt.fr f (by omega), h.ht.fr f (by omega), h.num.fr f (by omega), h.par.fr f (by omega), h.dep.fr f (by omega), h.heap.fr f (by omega)⟩
theorem PW.setHeap (h : PW w C s) {v : Nat → Nat} (hb : Blk w' (C + 10) (nats 265 v)) (f : Fr (C + 10) 1 w w') : PW w' C { s with heap := v } :=
  ⟨h.rc.fr f (by omega), h.lens.fr f (by omega), h.code.fr f (by omega), h.root.fr f (by omega), h.sub.fr f (by omega), h.wt.fr f (by omega), h.ht.fr f (by omega), h.num.fr f (by omega), h.par.fr f (by omega), h.dep.fr f (by omega), hb⟩
theorem PW.setWt (h : PW w C s) {v : Nat → Nat} (hb : Blk w' (C + 5) (nats 529 v)) (f : Fr (C + 5) 1 w w') : PW w' C { s with wt := v } :=
  ⟨h.rc.fr f (by omega), h.lens.fr f (by omega), h.code.fr f (by omega), h.root.fr f (by omega), h.sub.fr f (by omega), hb, h.ht.fr f (by omega), h.num.fr f (by omega), h.par.fr f (by omega), h.dep.fr f (by omega), h.heap.fr f (by omega)⟩
theorem PW.setHt (h : PW w C s) {v : Nat → Nat} (hb : Blk w' (C + 6) (nats 529 v)) (f : Fr (C + 6) 1 w w') : PW w' C { s with ht := v } :=
  ⟨h.rc.fr f (by omega), h.lens.fr f (by omega), h.code.fr f (by omega), h.root.fr f (by omega), h.sub.fr f (by omega), h.wt.fr f (by omega), hb, h.num.fr f (by omega), h.par.fr f (by omega), h.dep.fr f (by omega), h.heap.fr f (by omega)⟩
theorem PW.setNum (h : PW w C s) {v : Nat → Nat} (hb : Blk w' (C + 7) (nats 529 v)) (f : Fr (C + 7) 1 w w') : PW w' C { s with num := v } :=
  ⟨h.rc.fr f (by omega), h.lens.fr f (by omega), h.code.fr f (by omega), h.root.fr f (by omega), h.sub.fr f (by omega), h.wt.fr f (by omega), h.ht.fr f (by omega), hb, h.par.fr f (by omega), h.dep.fr f (by omega), h.heap.fr f (by omega)⟩
theorem PW.setPar (h : PW w C s) {v : Nat → Nat} (hb : Blk w' (C + 8) (nats 529 v)) (f : Fr (C + 8) 1 w w') : PW w' C { s with par := v } :=
  ⟨h.rc.fr f (by omega), h.lens.fr f (by omega), h.code.fr f (by omega), h.root.fr f (by omega), h.sub.fr f (by omega), h.wt.fr f (by omega), h.ht.fr f (by omega), h.num.fr f (by omega), hb, h.dep.fr f (by omega), h.heap.fr f (by omega)⟩
theorem PW.setDep (h : PW w C s) {v : Nat → Nat} (hb : Blk w' (C + 9) (nats 529 v)) (f : Fr (C + 9) 1 w w') : PW w' C { s with dep := v } :=
  ⟨h.rc.fr f (by omega), h.lens.fr f (by omega), h.code.fr f (by omega), h.root.fr f (by omega), h.sub.fr f (by omega), h.wt.fr f (by omega), h.ht.fr f (by omega), h.num.fr f (by omega), h.par.fr f (by omega), hb, h.heap.fr f (by omega)⟩

theorem huff_less_spec {x y : Nat} {K : Bool → World → Prop} (h : PW w C s) (hx : x < 529) (hy : y < 529) (hK : ∀ w', w'.heap = w.heap → K (nlB s.wt s.ht s.num x y) w') : S.huff_Coder_less C (x : Int) (y : Int) w K := by
  unfold S.huff_Coder_less
  refine drew_ (ldS h.rc.drew rfl (rdN h.wt.drew hx (ldS h.rc.drew rfl (rdN h.wt.drew hy ?_))))
  by_cases h1 : s.wt x = s.wt y
  · rw [if_neg (by simp only [bne_iff_ne, ne_eq]; omega)]
    refine drew_ (ldS h.rc.drew.drew rfl (rdN h.ht.drew.drew hx (ldS h.rc.drew.drew rfl (rdN h.ht.drew.drew hy ?_))))
    by_cases h2 : s.ht x = s.ht y
    · rw [if_neg (by simp only [bne_iff_ne, ne_eq]; omega)]
      refine drew_ (ldS h.rc.drew.drew.drew rfl (rdN h.num.drew.drew.drew hx (ldS h.rc.drew.drew.drew rfl (rdN h.num.drew.drew.drew hy ?_))))
      have := hK w.drew.drew.drew rfl
      unfold nlB at this
      rw [if_pos h1, if_pos h2] at this
      simpa using this
    · rw [if_pos (by simp only [bne_iff_ne, ne_eq]; omega)]
      refine drew_ (ldS h.rc.drew.drew.drew rfl (rdN h.ht.drew.drew.drew hx (ldS h.rc.drew.drew.drew rfl (rdN h.ht.drew.drew.drew hy ?_))))
      have := hK w.drew.drew.drew rfl
      unfold nlB at this
      rw [if_pos h1, if_neg h2] at this
      simpa using this
  · rw [if_pos (by simp only [bne_iff_ne, ne_eq]; omega)]
    refine drew_ (ldS h.rc.drew.drew rfl (rdN h.wt.drew.drew hx (ldS h.rc.drew.drew rfl (rdN h.wt.drew.drew hy ?_))))
    have := hK w.drew.drew rfl
    unfold nlB at this
    rw [if_neg h1] at this
    simpa using this

theorem fset_lt {f : Nat → Nat} {i v m k : Nat} (hf : ∀ t, t < k → f t < m) (hv : v < m) : ∀ t, t < k → fset f i v t < m := fun t ht => by
  unfold fset; split
  · exact hv
  · exact hf t ht

theorem huff_push_spec {x : Nat} {L : Nat → Prop} {K : World → Prop} (h : PW w C s) (hf : s.fill < 265) (hx : x < 529) (hlt : ∀ t, t < 265 → s.heap t < 529) (hp : Hp s.wt s.ht s.num s.heap s.fill L) (hnx : ¬ L x)
    (hK : ∀ w' H', PW w' C { s with fill := s.fill + 1, heap := H' } → (∀ t, t < 265 → H' t < 529) → Hp s.wt s.ht s.num H' (s.fill + 1) (fun v => v = x ∨ L v) → Fr C 11 w w' → w'.heap.size = w.heap.size → K w') : S.huff_Coder_push C (x : Int) w K := by
  unfold S.huff_Coder_push
  refine ldI h.rc rfl (ldI h.rc rfl ?_)
  refine st1 h.rc (by simp [rcd]) fun w1 b1 f1 s1 => ?_
  rw [W_succ (by omega)] at b1
  have h1 := h.setFill b1 f1
  refine join_ ?_
  refine loopN (fun m st w2 => ∃ (i : Nat) (H : Nat → Nat), st = ((i : Int), ()) ∧ m = i ∧ PW w2 C { s with fill := s.fill + 1, heap := H } ∧ (∀ t, t < 265 → H t < 529) ∧ Up s.wt s.ht s.num H s.fill x i L ∧ Fr C 11 w w2 ∧ w2.heap.size = w.heap.size) s.fill
    ⟨s.fill, s.heap, rfl, rfl, h1, hlt, up_init hp hnx, f1.mono (by omega) (by omega), s1⟩ ?_
  rintro m _ w2 ⟨i, H, rfl, hm, h2, hH, hup, f2, s2⟩ Q hQ
  dsimp only
  have hle := hup.le
  have fin : ∀ w3, w3.heap = w2.heap → (i = 0 ∨ ¬ nl s.wt s.ht s.num x (H ((i - 1) / 2))) → (LdS w3 ⟨C, 11, none⟩ fun heap_4 =>
    Ix heap_4.a heap_4.l (i : Int) fun b5 o6 =>
    St1 w3 ⟨b5, o6 + Int.toNat (i : Int) * 1, none⟩ (.int .i64 (x : Int)) fun w =>
    K w) := by
    intro w3 e3 hend
    have h3 := h2.heq e3
    refine ldS h3.rc rfl (wrN (v := x) h3.heap (by omega) rfl fun w4 b4 f4 s4 => ?_)
    exact hK w4 _ (h3.setHeap b4 f4) (fset_lt hH hx) (up_fin hup hend) ((Fr.heq f2 e3).trans (f4.mono (by omega) (by omega))) (by rw [s4, e3]; exact s2)
  by_cases hi : 0 < i
  · rw [if_pos (by simp only [decide_eq_true_eq]; omega)]
    have hup' : W (Int.tdiv (W ((i : Int) - 1)) 2) = (((i - 1) / 2 : Nat) : Int) := by
      rw [W_id (x := (i : Int) - 1) (by omega) (by omega), Int.tdiv_eq_ediv_of_nonneg (by omega), W_id (by omega) (by omega)]; omega
    rw [hup']
    refine let_ (ldS h2.rc rfl (rdN h2.heap (by omega) ?_))
    have hb := hH ((i - 1) / 2) (by omega)
    refine huff_less_spec h2 hx hb fun w3 e3 => ?_
    have h3 := h2.heq e3
    by_cases hl : nl s.wt s.ht s.num x (H ((i - 1) / 2))
    · have : nlB s.wt s.ht s.num x (H ((i - 1) / 2)) = true := (nlB_iff ..).2 hl
      show (if (!(nlB s.wt s.ht s.num x (H ((i - 1) / 2)))) = true then _ else _)
      rw [this, if_neg (by simp)]
      refine drew_ (ldS h3.rc.drew rfl (ldS h3.rc.drew rfl (rdN h3.heap.drew (by omega) ?_)))
      refine wrN (v := H ((i - 1) / 2)) h3.heap.drew (by omega) rfl fun w4 b4 f4 s4 => ?_
      refine hQ ((i - 1) / 2) _ _ (by omega) ⟨(i - 1) / 2, _, rfl, rfl, h3.drew.setHeap b4 f4, fset_lt hH hb, up_step' hup hi hl, ?_, ?_⟩
      · exact (Fr.heq f2 e3).trans ((show Fr (C + 10) 1 w3 w4 from f4).mono (by omega) (by omega))
      · rw [s4]; show w3.heap.size = _; rw [e3]; exact s2
    · have : nlB s.wt s.ht s.num x (H ((i - 1) / 2)) = false := by rw [← Bool.not_eq_true, nlB_iff]; exact hl
      show (if (!(nlB s.wt s.ht s.num x (H ((i - 1) / 2)))) = true then _ else _)
      rw [this, if_pos (by simp)]
      exact fin w3 e3 (.inr hl)
  · rw [if_neg (by simp only [decide_eq_true_eq]; omega)]
    exact fin w2 rfl (.inl (by omega))

theorem huff_pop_spec {L : Nat → Prop} {K : Int → World → Prop} (h : PW w C s) (hf0 : 0 < s.fill) (hf : s.fill ≤ 265) (hlt : ∀ t, t < 265 → s.heap t < 529) (hp : Hp s.wt s.ht s.num s.heap s.fill L)
    (hK : ∀ w' H' a, PW w' C { s with fill := s.fill - 1, heap := H' } → (∀ t, t < 265 → H' t < 529) → a < 529 → L a → (∀ v, L v → ¬ nl s.wt s.ht s.num v a) → Hp s.wt s.ht s.num H' (s.fill - 1) (fun v => L v ∧ v ≠ a) → Fr C 11 w w' → w'.heap.size = w.heap.size → K (a : Int) w') : S.huff_Coder_pop C w K := by
  unfold S.huff_Coder_pop
  refine ldS h.rc rfl (rdN (i := 0) h.heap (by omega) ?_)
  refine ldI h.rc rfl ?_
  refine st1 h.rc (by simp [rcd]) fun w1 b1 f1 s1 => ?_
  rw [W_pred (by omega) (by omega)] at b1
  have h1 := h.setFill b1 f1
  have hL0 : L (s.heap 0) := (hp.rep.mem _).2 ⟨0, hf0, rfl⟩
  have hleast : ∀ v, L v → ¬ nl s.wt s.ht s.num v (s.heap 0) := fun v hv => by
    obtain ⟨i, hi, rfl⟩ := (hp.rep.mem v).1 hv
    exact hp.least i hi
  refine drew_ (ldS h1.rc.drew rfl (ldI h1.rc.drew rfl ?_))
  refine rdN h1.heap.drew (by show s.fill - 1 < 265; omega) ?_
  show Join _ _
  refine join_ ?_
  have hxl : s.heap (s.fill - 1) < 529 := hlt _ (by omega)
  have hwr : ∀ (i : Nat) (H : Nat → Nat) (w3 : World), i < 265 → PW w3 C { s with fill := s.fill - 1, heap := H } → (∀ t, t < 265 → H t < 529) → Hp s.wt s.ht s.num (fset H i (s.heap (s.fill - 1))) (s.fill - 1) (fun v => L v ∧ v ≠ s.heap 0) → Fr C 11 w w3 → w3.heap.size = w.heap.size → (LdS w3 ⟨C, 11, none⟩ fun heap_12 =>
    Ix heap_12.a heap_12.l (i : Int) fun b13 o14 =>
    St1 w3 ⟨b13, o14 + Int.toNat (i : Int) * 1, none⟩ (.int .i64 (s.heap (s.fill - 1) : Int)) fun w =>
    K (s.heap 0 : Int) w) := by
    intro i H w3 hi h3 hH hp3 f3 s3
    refine ldS h3.rc rfl (wrN (v := s.heap (s.fill - 1)) h3.heap hi rfl fun w4 b4 f4 s4 => ?_)
    exact hK w4 _ _ (h3.setHeap b4 f4) (fset_lt hH hxl) (hlt 0 (by omega)) hL0 hleast hp3 (f3.trans (f4.mono (by omega) (by omega))) (by omega)
  by_cases hone : s.fill = 1
  · -- the last node: nothing is left
    refine loopP (fun st w2 => st = ((0 : Int), ()) ∧ PW w2 C { s with fill := s.fill - 1, heap := s.heap } ∧ Fr C 11 w w2 ∧ w2.heap.size = w.heap.size) (fun _ _ => 0) ⟨rfl, h1.drew, (show Fr C 1 w w1 from f1).mono (by omega) (by omega), s1⟩ ?_
    rintro _ w2 ⟨rfl, h2, f2, s2⟩
    refine ldI h2.rc rfl ?_
    dsimp only
    rw [if_neg (by rw [hone]; decide)]
    refine hwr 0 s.heap w2 (by omega) h2 hlt ?_ f2 s2
    rw [hone]
    refine ⟨⟨fun v => ?_, fun i j hi => by omega⟩, fun j hj hjf => by omega⟩
    constructor
    · rintro ⟨hv, hne⟩
      obtain ⟨i, hi, rfl⟩ := (hp.rep.mem v).1 hv
      exact absurd (by rw [show i = 0 from by omega]) hne
    · rintro ⟨i, hi, _⟩; omega
  · have hp' : Hp s.wt s.ht s.num s.heap (s.fill - 1 + 1) L := by rw [show s.fill - 1 + 1 = s.fill from by omega]; exact hp
    refine loopN (fun m st w2 => ∃ (i : Nat) (H : Nat → Nat), st = ((i : Int), ()) ∧ m + i = 265 ∧ PW w2 C { s with fill := s.fill - 1, heap := H } ∧ (∀ t, t < 265 → H t < 529) ∧ Dn s.wt s.ht s.num H (s.fill - 1) (s.heap (s.fill - 1)) i (fun v => L v ∧ v ≠ s.heap 0) ∧ Fr C 11 w w2 ∧ w2.heap.size = w.heap.size) 265
      ⟨0, s.heap, rfl, rfl, h1.drew, hlt, dn_init hp' (by omega), (show Fr C 1 w w1 from f1).mono (by omega) (by omega), s1⟩ ?_
    rintro m _ w2 ⟨i, H, rfl, hm, h2, hH, hdn, f2, s2⟩ Q hQ
    refine ldI h2.rc rfl ?_
    dsimp only
    have hil := hdn.lt
    have hk1 : W (W (2 * (i : Int)) + 1) = ((2 * i + 1 : Nat) : Int) := by rw [W_id (x := 2 * (i : Int)) (by omega) (by omega), W_id (by omega) (by omega)]; omega
    rw [hk1]
    by_cases hkid : 2 * i + 1 < s.fill - 1
    · rw [if_pos (by simp only [decide_eq_true_eq]; omega)]
      refine let_ (ldI h2.rc rfl (join_ ?_))
      dsimp only
      rw [show W (((2 * i + 1 : Nat) : Int) + 1) = ((2 * i + 2 : Nat) : Int) from by rw [W_succ (by omega)]]
      have go : ∀ (k : Nat) (w3 : World), w3.heap = w2.heap → (k = 2 * i + 1 ∨ k = 2 * i + 2) → k < s.fill - 1 → (∀ j, j < s.fill - 1 → j = 2 * i + 1 ∨ j = 2 * i + 2 → ¬ nl s.wt s.ht s.num (H j) (H k)) → (LdS w3 ⟨C, 11, none⟩ fun heap_22 =>
        Ix heap_22.a heap_22.l (k : Int) fun b23 o24 =>
        LdI .i64 w3 ⟨b23, o24 + Int.toNat (k : Int) * 1, none⟩ fun x_25 =>
        S.huff_Coder_less C x_25 (s.heap (s.fill - 1) : Int) w3 (fun r26 w =>
        if (!r26) = true then
          (LdS w ⟨C, 11, none⟩ fun heap_12 =>
    Ix heap_12.a heap_12.l (i : Int) fun b13 o14 =>
    St1 w ⟨b13, o14 + Int.toNat (i : Int) * 1, none⟩ (.int .i64 (s.heap (s.fill - 1) : Int)) fun w =>
    K (s.heap 0 : Int) w)
        else
          Drew w fun w =>
          LdS w ⟨C, 11, none⟩ fun heap_27 =>
          LdS w ⟨C, 11, none⟩ fun heap_28 =>
          Ix heap_28.a heap_28.l (k : Int) fun b29 o30 =>
          LdI .i64 w ⟨b29, o30 + Int.toNat (k : Int) * 1, none⟩ fun x_31 =>
          Ix heap_27.a heap_27.l (i : Int) fun b32 o33 =>
          St1 w ⟨b32, o33 + Int.toNat (i : Int) * 1, none⟩ (.int .i64 x_31) fun w =>
          Q ((k : Int), ()) w)) := by
        intro k w3 e3 hk hkf hmin
        have h3 := h2.heq e3
        have hb := hH k (by omega)
        refine ldS h3.rc rfl (rdN h3.heap (by omega) ?_)
        refine huff_less_spec h3 hb hxl fun w4 e4 => ?_
        have h4 := h3.heq e4
        have e24 : w4.heap = w2.heap := by rw [e4, e3]
        by_cases hl : nl s.wt s.ht s.num (H k) (s.heap (s.fill - 1))
        · have : nlB s.wt s.ht s.num (H k) (s.heap (s.fill - 1)) = true := (nlB_iff ..).2 hl
          show (if (!(nlB s.wt s.ht s.num (H k) (s.heap (s.fill - 1)))) = true then _ else _)
          rw [this, if_neg (by simp)]
          refine drew_ (ldS h4.rc.drew rfl (ldS h4.rc.drew rfl (rdN h4.heap.drew (by omega) ?_)))
          refine wrN (v := H k) h4.heap.drew (by omega) rfl fun w5 b5 f5 s5 => ?_
          refine hQ (265 - k) _ _ (by omega) ⟨k, _, rfl, by omega, h4.drew.setHeap b5 f5, fset_lt hH hb, dn_step' hdn hk hkf hmin hl, ?_, ?_⟩
          · exact (Fr.heq f2 e24).trans ((show Fr (C + 10) 1 w4 w5 from f5).mono (by omega) (by omega))
          · rw [s5]; show w4.heap.size = _; rw [e24]; exact s2
        · have : nlB s.wt s.ht s.num (H k) (s.heap (s.fill - 1)) = false := by rw [← Bool.not_eq_true, nlB_iff]; exact hl
          show (if (!(nlB s.wt s.ht s.num (H k) (s.heap (s.fill - 1)))) = true then _ else _)
          rw [this, if_pos (by simp)]
          exact hwr i H w4 (by omega) h4 hH (dn_fin hdn fun j hj hjk => nl_trans hl (hmin j hj hjk)) (Fr.heq f2 e24) (by rw [e24]; exact s2)
      by_cases hk2 : 2 * i + 2 < s.fill - 1
      · rw [if_pos (by simp only [decide_eq_true_eq]; omega)]
        have b1 := hH (2 * i + 1) (by omega)
        have b2 := hH (2 * i + 2) (by omega)
        refine drew_ (ldS h2.rc.drew rfl (rdN h2.heap.drew (by omega) (ldS h2.rc.drew rfl (rdN h2.heap.drew (by omega) ?_))))
        refine huff_less_spec h2.drew b2 b1 fun w3 e3 => ?_
        have e3' : w3.heap = w2.heap := e3
        by_cases hl : nl s.wt s.ht s.num (H (2 * i + 2)) (H (2 * i + 1))
        · have : nlB s.wt s.ht s.num (H (2 * i + 2)) (H (2 * i + 1)) = true := (nlB_iff ..).2 hl
          show (if (nlB s.wt s.ht s.num (H (2 * i + 2)) (H (2 * i + 1))) = true then _ else _)
          rw [this, if_pos rfl]
          refine let_ (go (2 * i + 2) w3 e3' (.inr rfl) hk2 fun j hj hjk => ?_)
          rcases hjk with rfl | rfl
          · exact nl_asymm hl
          · exact nl_irrefl
        · have : nlB s.wt s.ht s.num (H (2 * i + 2)) (H (2 * i + 1)) = false := by rw [← Bool.not_eq_true, nlB_iff]; exact hl
          show (if (nlB s.wt s.ht s.num (H (2 * i + 2)) (H (2 * i + 1))) = true then _ else _)
          rw [this, if_neg (by simp)]
          refine go (2 * i + 1) w3 e3' (.inl rfl) hkid fun j hj hjk => ?_
          rcases hjk with rfl | rfl
          · exact nl_irrefl
          · exact hl
      · rw [if_neg (by simp only [decide_eq_true_eq]; omega)]
        refine go (2 * i + 1) w2 rfl (.inl rfl) hkid fun j hj hjk => ?_
        rcases hjk with rfl | rfl
        · exact nl_irrefl
        · omega
    · rw [if_neg (by simp only [decide_eq_true_eq]; omega)]
      exact hwr i H w2 (by omega) h2 hH (dn_fin hdn fun j hj hjk => by omega) f2 s2
end Go.Proofs.Qxb6500563aGreat
