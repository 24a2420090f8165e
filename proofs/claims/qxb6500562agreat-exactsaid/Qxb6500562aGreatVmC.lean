/-
  The machine: opcodes' tables, numbers in the code, jumps, the way back out of a frame.
-/
import Derived.Test.Qxb6500562aGreatVmB
namespace Go.Proofs.Qxb6500562aGreat
open Go.Den Go.Zip
set_option linter.unusedVariables false
set_option linter.unusedSimpArgs false
variable {w w' : World} {m h : Nat} {c : List Nat} {inp : List Int} {s : MS} {g g' : Nat → Value} {sc si so : Sl} {O O' : Nat → Prop} {H : SH} {out : List Int} {f : Fm} {r : List Fm}

theorem op37 {op : Nat} (h : op < 37) : op = 0 ∨ op = 1 ∨ op = 2 ∨ op = 3 ∨ op = 4 ∨ op = 5 ∨ op = 6 ∨ op = 7 ∨ op = 8 ∨ op = 9 ∨ op = 10 ∨ op = 11 ∨ op = 12 ∨ op = 13 ∨ op = 14 ∨ op = 15 ∨ op = 16 ∨ op = 17 ∨ op = 18 ∨ op = 19 ∨ op = 20 ∨ op = 21 ∨ op = 22 ∨ op = 23 ∨ op = 24 ∨ op = 25 ∨ op = 26 ∨ op = 27 ∨ op = 28 ∨ op = 29 ∨ op = 30 ∨ op = 31 ∨ op = 32 ∨ op = 33 ∨ op = 34 ∨ op = 35 ∨ op = 36 := by omega
theorem wantI_spec {op : Nat} {K : Int → World → Prop} (ho : op < 37) (hK : K (wI op : Nat) w) : S.vm_wantI (op : Nat) w K := by
  rcases op37 ho with rfl | rfl | rfl | rfl | rfl | rfl | rfl | rfl | rfl | rfl | rfl | rfl | rfl | rfl | rfl | rfl | rfl | rfl | rfl | rfl | rfl | rfl | rfl | rfl | rfl | rfl | rfl | rfl | rfl | rfl | rfl | rfl | rfl | rfl | rfl | rfl | rfl <;> exact hK
theorem wantR_spec {op : Nat} {K : Int → World → Prop} (ho : op < 37) (hK : K (wR op : Nat) w) : S.vm_wantR (op : Nat) w K := by
  rcases op37 ho with rfl | rfl | rfl | rfl | rfl | rfl | rfl | rfl | rfl | rfl | rfl | rfl | rfl | rfl | rfl | rfl | rfl | rfl | rfl | rfl | rfl | rfl | rfl | rfl | rfl | rfl | rfl | rfl | rfl | rfl | rfl | rfl | rfl | rfl | rfl | rfl | rfl <;> exact hK
theorem opArgs_spec {op : Nat} {K : Int → World → Prop} (hK : K (if 37 ≤ op then -1 else (nargs op : Nat)) w) : S.api_OpArgs (op : Nat) w K := by
  by_cases ho : op < 37
  · rw [if_neg (by omega)] at hK
    rcases op37 ho with rfl | rfl | rfl | rfl | rfl | rfl | rfl | rfl | rfl | rfl | rfl | rfl | rfl | rfl | rfl | rfl | rfl | rfl | rfl | rfl | rfl | rfl | rfl | rfl | rfl | rfl | rfl | rfl | rfl | rfl | rfl | rfl | rfl | rfl | rfl | rfl | rfl <;> exact hK
  · rw [if_pos (by omega)] at hK
    unfold S.api_OpArgs
    rw [if_neg (by simp only [decide_eq_true_eq]; omega), if_pos (by simp only [decide_eq_true_eq]; omega)]
    exact hK
theorem or_add {a b k : Nat} (h : a < 2 ^ k) : a ||| b * 2 ^ k = a + b * 2 ^ k := by
  have := Nat.shiftLeft_add_eq_or_of_lt h b
  rw [Nat.shiftLeft_eq] at this
  rw [Nat.or_comm, ← this, Nat.add_comm]
theorem Or_u64 {a b : Nat} (ha : a < 18446744073709551616) (hb : b < 18446744073709551616) : Or .u64 (a : Int) (b : Int) = ((a ||| b : Nat) : Int) := by
  have h : (a ||| b) < 2 ^ 64 := Nat.or_lt_two_pow ha hb
  have e : ((BitVec.ofInt 64 (a : Int) ||| BitVec.ofInt 64 (b : Int)).toNat) = a ||| b := by
    rw [ofInt_nat, ofInt_nat, BitVec.toNat_or, BitVec.toNat_ofNat, BitVec.toNat_ofNat, Nat.mod_eq_of_lt (by omega), Nat.mod_eq_of_lt (by omega)]
  show IntKind.u64.wrap (((BitVec.ofInt 64 (a : Int) ||| BitVec.ofInt 64 (b : Int)).toNat : Nat) : Int) = _
  rw [e]
  exact U64_id (by omega) (by omega)
theorem Shl_u64 (m k : Nat) (hk : k ≤ 64) (h : m * 2 ^ k < 18446744073709551616) : Shl .u64 (m : Int) (k : Int) = ((m * 2 ^ k : Nat) : Int) := by
  simp only [Shl, IntKind.bits, Int.toNat_natCast, Nat.min_eq_left hk]
  have : ((m : Int) * 2 ^ k) = ((m * 2 ^ k : Nat) : Int) := by push_cast; rfl
  rw [this]
  exact U64_id (by omega) (by omega)
def hbN (c : List Nat) (p : Nat) : Nat → Nat
  | 0 => 0
  | k + 1 => hbN c p k * 256 + c.getD (p + (7 - k)) 0
theorem i64At_hb (c : List Nat) (p : Nat) : i64At c p = W ((hbN c p 8 : Nat) : Int) := by
  unfold i64At
  congr 2
  simp only [hbN]
  simp only [Nat.sub_self, Nat.add_zero, Nat.reduceSub]
  omega
theorem i64At_spec {p : Nat} {K : Int → World → Prop} (o : OS w sc (byts c) 1) (hc : ∀ i, c.getD i 0 < 256) (hl : c.length ≤ 4096) (hp : p + 8 ≤ c.length) (hK : K (i64At c p) w) : S.api_I64At sc (p : Nat) w K := by
  unfold S.api_I64At
  have csl : sc.l = c.length := by have := o.len; simpa using this.symm
  rw [if_neg (by simp only [decide_eq_true_eq]; omega), if_neg (by simp only [decide_eq_true_eq]; rw [csl, W_id (by omega) (by omega)]; omega)]
  refine join_ ?_
  refine loopN (fun n v u => u = w ∧ n ≤ 8 ∧ v = (((hbN c p (8 - n) : Nat) : Int), (n : Int) - 1, ()) ∧ hbN c p (8 - n) < 256 ^ (8 - n)) 8 ⟨rfl, by omega, rfl, Nat.one_pos⟩ ?_
  rintro n _ u ⟨rfl, hn, rfl, hb⟩ Q hQ
  dsimp only
  cases n with
  | zero =>
    rw [if_neg (by simp only [decide_eq_true_eq]; omega)]
    rw [i64At_hb] at hK
    exact hK
  | succ n =>
    rw [if_pos (by simp only [decide_eq_true_eq]; omega)]
    have e1 : W ((p : Nat) + (((n + 1 : Nat) : Int) - 1)) = ((p + n : Nat) : Int) := by rw [W_id (by omega) (by omega)]; omega
    rw [e1]
    refine OS.rd o (x := c.getD (p + n) 0) (by rw [List.getD_eq_getElem?_getD, List.getElem?_eq_getElem (by omega)]; rfl) ?_
    have hx := hc (p + n)
    have hb' : hbN c p (8 - (n + 1)) < 256 ^ 7 := Nat.lt_of_lt_of_le hb (Nat.pow_le_pow_right (by omega) (by omega))
    have e2 : Or .u64 (Shl .u64 ((hbN c p (8 - (n + 1)) : Nat) : Int) 8) (U64 ((c.getD (p + n) 0 : Nat) : Int)) = ((hbN c p (8 - n) : Nat) : Int) := by
      rw [show (8 : Int) = ((8 : Nat) : Int) from rfl, Shl_u64 _ _ (by omega) (by omega), U64_id (by omega) (by omega), Or_u64 (by omega) (by omega), Nat.or_comm, or_add (by omega)]
      rw [show 8 - n = (8 - (n + 1)) + 1 by omega]
      show _ = ((hbN c p (8 - (n + 1)) * 256 + c.getD (p + (7 - (8 - (n + 1)))) 0 : Nat) : Int)
      rw [show 7 - (8 - (n + 1)) = n by omega]
      omega
    rw [e2]
    refine let_ (let_ ?_)
    refine hQ n _ u (by omega) ⟨rfl, by omega, ?_, ?_⟩
    · rw [W_id (by omega) (by omega)]
      congr 2
      omega
    · rw [show 8 - n = (8 - (n + 1)) + 1 by omega]
      show hbN c p (8 - (n + 1)) * 256 + c.getD (p + (7 - (8 - (n + 1)))) 0 < _
      rw [show 7 - (8 - (n + 1)) = n by omega, Nat.pow_succ]
      omega
theorem u16At_spec {p : Nat} {K : Int → World → Prop} (o : OS w sc (byts c) 1) (hc : ∀ i, c.getD i 0 < 256) (hl : c.length ≤ 4096) (hp : p + 2 ≤ c.length) (hK : K (u16At c p : Nat) w.drew) : S.api_U16At sc (p : Nat) w K := by
  unfold S.api_U16At
  have csl : sc.l = c.length := by have := o.len; simpa using this.symm
  rw [if_neg (by simp only [decide_eq_true_eq]; omega), if_neg (by simp only [decide_eq_true_eq]; rw [csl, W_id (by omega) (by omega)]; omega)]
  refine drew_ ?_
  have o : OS w.drew sc (byts c) 1 := o.frp (P := fun _ => False) (FrP.refl _ w).drew fun _ _ h => h
  refine OS.rd o (x := c.getD p 0) (by rw [List.getD_eq_getElem?_getD, List.getElem?_eq_getElem (by omega)]; rfl) ?_
  rw [W_succ (by omega)]
  refine OS.rd o (x := c.getD (p + 1) 0) (by rw [List.getD_eq_getElem?_getD, List.getElem?_eq_getElem (by omega)]; rfl) ?_
  have h1 := hc p
  have h2 := hc (p + 1)
  rw [W_id (x := ((c.getD p 0 : Nat) : Int)) (by omega) (by omega), W_id (x := ((c.getD (p + 1) 0 : Nat) : Int)) (by omega) (by omega), show (8 : Int) = ((8 : Nat) : Int) from rfl, Shl_nat _ _ (by omega) (by omega), Or_nat (by omega) (by omega), or_add (by omega)]
  exact hK
theorem flag_spec {b : Bool} {K : Int → World → Prop} (hK : K (if b = true then 1 else 0) w) : S.vm_flag b w K := by
  unfold S.vm_flag
  cases b
  · exact hK
  · exact hK
theorem endOf_spec {e : Int} {K : Int → World → Prop} (hK : K (endOf e) w) : S.vm_endOf e w K := by
  unfold S.vm_endOf
  unfold endOf at hK
  simp only [beq_iff_eq]
  split <;> rename_i h1
  · rw [if_pos h1] at hK; exact hK
  · rw [if_neg h1] at hK
    split <;> rename_i h1
    · rw [if_pos h1] at hK; exact hK
    · rw [if_neg h1] at hK
      split <;> rename_i h1
      · rw [if_pos h1] at hK; exact hK
      · rw [if_neg h1] at hK
        split <;> rename_i h1
        · rw [if_pos h1] at hK; exact hK
        · rw [if_neg h1] at hK
          split <;> rename_i h1
          · rw [if_pos h1] at hK; exact hK
          · rw [if_neg h1] at hK; exact hK
theorem heapDid_spec {e : Int} {K : Bool → World → Prop} (q : VQ w m h c inp s sc si so) (h1 : e ≠ 0 → ∀ w', VQ w' m h c inp (trap (endOf e) s) sc si so → FrP (vmo m h sc si so) w w' → K false w') (h2 : e = 0 → K true w) : S.vm_VM_heapDid m e w K := by
  unfold S.vm_VM_heapDid
  by_cases he : e = 0
  · rw [if_neg (by simp [he])]; exact h2 he
  · rw [if_pos (by simp [he])]
    exact endOf_spec (q.trap (h1 he))
/-- The last word on it. -/
theorem did_spec {e : Int} {K : World → Prop} (q : VQ w m h c inp s sc si so) (hK : ∀ w', VQ w' m h c inp (did e s) sc si so → FrP (vmo m h sc si so) w w' → K w') : S.vm_VM_heapDid m e w (fun _ w => K w) := by
  refine heapDid_spec q (fun he w' q' F => hK w' ?_ F) (fun he => hK w ?_ (FrP.refl _ _))
  · unfold did; rw [if_pos he]; exact q'
  · unfold did; rw [if_neg (by simp [he])]; exact q
/-- A heap call. -/
theorem VQ.heap {H' : SH} (q : VQ w m h c inp s sc si so) (a : RS w' h H') (F : Fr h 1 w w') : VQ w' m h c inp { s with H := H' } sc si so ∧ FrP (vmo m h sc si so) w w' := by
  obtain ⟨g, X, v⟩ := q
  obtain ⟨X', F'⟩ := X.heap a F
  exact ⟨⟨g, X', v.heap⟩, F'⟩
theorem VQ.ldP {K : Nat → Prop} (q : VQ w m h c inp s sc si so) (hK : K h) : LdP w ⟨m, 0, none⟩ K := by
  obtain ⟨g, X, v⟩ := q
  exact X.ldP v.hp hK
theorem VQ.rs (q : VQ w m h c inp s sc si so) : RS w h s.H := by obtain ⟨g, X, v⟩ := q; exact X.hp
theorem VQ.ldC {K : Sl → Prop} (q : VQ w m h c inp s sc si so) (hK : K sc) : LdS w ⟨m, 56, none⟩ K := by
  obtain ⟨g, X, v⟩ := q
  exact X.ldS (by omega) v.co hK
theorem VQ.oc (q : VQ w m h c inp s sc si so) : OS w sc (byts c) 1 := by obtain ⟨g, X, v⟩ := q; exact X.oc
theorem VQ.csl (q : VQ w m h c inp s sc si so) : sc.l = c.length := by obtain ⟨g, X, v⟩ := q; exact X.csl
theorem VQ.cl (q : VQ w m h c inp s sc si so) : c.length ≤ 4096 := by obtain ⟨g, X, v⟩ := q; exact X.cl
theorem VQ.byteLt (q : VQ w m h c inp s sc si so) (i : Nat) : c.getD i 0 < 256 := by obtain ⟨g, X, v⟩ := q; exact X.byteLt i
theorem VQ.byte {i : Nat} {K : Int → Prop} (q : VQ w m h c inp s sc si so) (hi : i < c.length) (hK : K (c.getD i 0 : Nat)) : Ix sc.a sc.l (i : Int) fun b o => LdI .u8 w ⟨b, o + Int.toNat (i : Int) * 1, none⟩ K := by
  obtain ⟨g, X, v⟩ := q
  exact X.byte hi hK
theorem vjump_spec {p a : Nat} {K : World → Prop} (q : VQ w m h c inp s sc si so) (hK : ∀ w', VQ w' m h c inp (mjump c p a s) sc si so → FrP (vmo m h sc si so) w w' → K w') : S.vm_VM_jump m (p : Nat) (a : Nat) w K := by
  unfold S.vm_VM_jump
  have csl := q.csl
  have cl := q.cl
  refine q.ldC ?_
  unfold mjump at hK
  rw [csl]
  by_cases h1 : c.length ≤ a
  · rw [if_pos (by simp only [decide_eq_true_eq]; omega)]
    rw [if_pos h1] at hK
    exact q.trap hK
  · rw [if_neg (by simp only [decide_eq_true_eq]; omega)]
    rw [if_neg h1] at hK
    by_cases h2 : a ≤ p
    · refine join_ ?_
      rw [if_pos (by simp only [decide_eq_true_eq]; omega)]
      rw [if_pos h2] at hK
      unfold mspend at hK
      refine q.spend (fun hf w1 q1 F1 => ?_) (fun hf w1 q1 F1 => ?_)
      · rw [if_pos hf] at hK
        exact hK w1 q1 F1
      · rw [if_neg (by omega)] at hK
        exact q1.setPc (by omega) fun w2 q2 F2 => hK w2 q2 (F1.trans F2)
    · refine join_ ?_
      rw [if_neg (by simp only [decide_eq_true_eq]; omega)]
      rw [if_neg h2] at hK
      exact q.setPc (by omega) hK
theorem pack_eq {li lr rb : Nat} (h1 : li < 256) (h2 : lr < 256) (h3 : rb ≤ 24) : Or .i64 (Or .i64 (li : Nat) (Shl .i64 (lr : Nat) 8)) (Shl .i64 (rb : Nat) 16) = packW li lr rb := by
  rw [show (8 : Int) = ((8 : Nat) : Int) from rfl, show (16 : Int) = ((16 : Nat) : Int) from rfl, Shl_nat _ _ (by omega) (by omega), Shl_nat _ _ (by omega) (by omega), Or_nat (by omega) (by omega), or_add (by omega), Or_nat (by omega) (by omega), or_add (by omega)]
  unfold packW; congr 1
theorem unLi {li lr rb : Nat} (h1 : li < 256) (h2 : lr < 256) (h3 : rb ≤ 24) : W (U8 (packW li lr rb)) = (li : Nat) := by
  unfold packW
  rw [U8_nat, W_id (by omega) (by omega)]; omega
theorem unLr {li lr rb : Nat} (h1 : li < 256) (h2 : lr < 256) (h3 : rb ≤ 24) : W (U8 (Shr .i64 (packW li lr rb) 8)) = (lr : Nat) := by
  unfold packW
  rw [show (8 : Int) = ((8 : Nat) : Int) from rfl, Shr_nat _ _ (by omega), U8_nat, W_id (by omega) (by omega)]; omega
theorem unRb {li lr rb : Nat} (h1 : li < 256) (h2 : lr < 256) (h3 : rb ≤ 24) : Shr .i64 (packW li lr rb) 16 = (rb : Nat) := by
  unfold packW
  rw [show (16 : Int) = ((16 : Nat) : Int) from rfl, Shr_nat _ _ (by omega)]; omega
theorem len_wsz : ∀ l : List Fm, l.length ≤ wsz l
  | [] => Nat.le_refl _
  | a :: l => by have := len_wsz l; show l.length + 1 ≤ wsz l + a.loc.length + 3 + a.ops.length; omega
theorem topOK (hf : ∀ f ∈ r, FOK f) : topLi r < 256 ∧ topLr r < 256 ∧ topRb r ≤ 24 := by
  cases r with
  | nil => exact ⟨by decide, by decide, by decide⟩
  | cons f r =>
    have := hf f (List.mem_cons_self ..)
    exact ⟨this.1, this.2.1, this.2.2.1⟩
theorem vleave_spec {K : World → Prop} (q : VQ w m h c inp s sc si so) (hs : s.fs = f :: r) (hK : ∀ w', VQ w' m h c inp (mleave s) sc si so → FrP (vmo m h sc si so) w w' → K w') : S.vm_VM_leave m w K := by
  obtain ⟨g, X, v⟩ := q
  unfold S.vm_VM_leave
  have hb := v.bnd hs
  have e3 : bs f r = wsz r + f.loc.length + 3 := rfl
  have fk : ∀ f ∈ r, FOK f := fun f' h' => v.fk f' (by rw [hs]; exact List.mem_cons_of_mem _ h')
  have ff := v.fk f (by rw [hs]; exact List.mem_cons_self ..)
  obtain ⟨k1, k2, k3⟩ := topOK fk
  have sv : ∀ j, j < 3 → g (1 + (wsz r + f.loc.length + j)) = .int .i64 ([(f.ret : Int), (wsz r.tail : Int), packW (topLi r) (topLr r) (topRb r)].getD j 0) := fun j hj => by
    rw [v.st _ (by rw [hs, wsz_cons]; omega), hs, words_sv hj]
  have g50 : g 50 = .int .i64 (wsz r : Nat) := by rw [v.fp, hs]; rfl
  have g51 : g 51 = .int .i64 (f.loc.length : Nat) := by rw [v.li, hs]; rfl
  have g54 : g 54 = .int .i64 ((r.length + 1 : Nat) : Int) := by rw [v.nf, hs]; rfl
  have X := X.drew
  refine drew_ (X.ld (by omega) g50 (X.ld (by omega) g51 (let_ ?_)))
  rw [W_id (x := ((wsz r : Nat) : Int) + (f.loc.length : Nat)) (by omega) (by omega)]
  have ej : ∀ j : Nat, j < 3 → W (((wsz r : Nat) : Int) + (f.loc.length : Nat) + (j : Nat)) = ((wsz r + f.loc.length + j : Nat) : Int) := fun j hj => by rw [W_id (by omega) (by omega)]; omega
  have ej0 := ej 0 (by omega)
  have ej1 := ej 1 (by omega)
  have ej2 := ej 2 (by omega)
  simp only [Int.natCast_zero, Int.natCast_one] at ej0 ej1
  rw [show ((2 : Nat) : Int) = 2 from rfl] at ej2
  rw [ej0, ej1, ej2]
  refine ⟨by omega, by omega, ?_⟩
  rw [Int.toNat_natCast, Nat.mul_one]
  refine X.ld (by omega) (sv 2 (by omega)) ⟨by omega, by omega, ?_⟩
  rw [Int.toNat_natCast, Nat.mul_one]
  refine X.ld (by omega) (sv 0 (by omega)) ?_
  refine X.st (by omega) fun w1 X1 F1 _ => ?_
  refine X1.ld (by omega) (by rw [fset_ne (by omega)]; exact g50) ?_
  refine X1.st (by omega) fun w2 X2 F2 _ => ⟨by omega, by omega, ?_⟩
  rw [Int.toNat_natCast, Nat.mul_one]
  refine X2.ld (by omega) (by rw [fset_ne (by omega), fset_ne (by omega)]; exact sv 1 (by omega)) ?_
  refine X2.st (by omega) fun w3 X3 F3 _ => ?_
  unfold S.vm_packedLi S.vm_packedLr S.vm_packedRbase
  have p2 : [(f.ret : Int), (wsz r.tail : Int), packW (topLi r) (topLr r) (topRb r)].getD 2 0 = packW (topLi r) (topLr r) (topRb r) := rfl
  rw [p2, unLi k1 k2 k3, unLr k1 k2 k3, unRb k1 k2 k3]
  refine X3.st (by omega) fun w4 X4 F4 _ => ?_
  refine X4.st (by omega) fun w5 X5 F5 _ => ?_
  refine X5.st (by omega) fun w6 X6 F6 _ => ?_
  refine X6.ld (by omega) (by rw [fset_ne (by omega), fset_ne (by omega), fset_ne (by omega), fset_ne (by omega), fset_ne (by omega), fset_ne (by omega)]; exact g54) ?_
  have hlw := len_wsz r
  rw [W_id (by omega) (by omega), show ((r.length + 1 : Nat) : Int) - 1 = (r.length : Nat) by omega]
  refine X6.st (by omega) fun w7 X7 F7 _ => hK w7 ⟨_, X7, ?_⟩ ((((((F1.trans F2).trans F3).trans F4).trans F5).trans F6).trans F7)
  have hm : mleave s = { s with fs := r, pc := f.ret } := by unfold mleave; rw [top_eq hs, hs]; rfl
  rw [hm]
  have lo : ∀ j, (j < 49 ∨ 55 < j) → (fset (fset (fset (fset (fset (fset (fset g 55 (.int .i64 ([(f.ret : Int), (wsz r.tail : Int), packW (topLi r) (topLr r) (topRb r)].getD 0 0))) 49 (.int .i64 (wsz r : Nat))) 50 (.int .i64 ([(f.ret : Int), (wsz r.tail : Int), packW (topLi r) (topLr r) (topRb r)].getD 1 0))) 51 (.int .i64 (topLi r : Nat))) 52 (.int .i64 (topLr r : Nat))) 53 (.int .i64 (topRb r : Nat))) 54 (.int .i64 (r.length : Nat))) j = g j := fun j hj => by
    rw [fset_ne (by omega), fset_ne (by omega), fset_ne (by omega), fset_ne (by omega), fset_ne (by omega), fset_ne (by omega), fset_ne (by omega)]
  refine ⟨by rw [lo _ (by omega)]; exact v.hp, fun i hi => by rw [lo _ (by omega)]; exact v.sk i hi, fun i hi => ?_, ?_, ?_, ?_, ?_, ?_, ?_, ?_, ?_, ?_, ?_, ?_, ?_, ?_, ?_, ?_, ?_, ?_, fk, ff.2.2.2, v.fb⟩
  · dsimp only at hi ⊢
    rw [lo _ (by omega), v.st i (by rw [hs, wsz_cons]; omega), hs, words_low hi]
  · simp [fset]
  · simp [fset]
  · simp [fset]
  · simp [fset]
  · simp [fset]
  · simp [fset]
  · simp [fset]
  · rw [lo _ (by omega)]; exact v.co
  · rw [lo _ (by omega)]; exact v.ii
  · rw [lo _ (by omega)]; exact v.ip
  · rw [lo _ (by omega)]; exact v.fu
  · rw [lo _ (by omega)]; exact v.ou
  · rw [lo _ (by omega)]; exact v.en
  · rw [lo _ (by omega)]; exact v.rv
  · rw [lo _ (by omega)]; exact v.sv
  · rw [lo _ (by omega)]; exact v.mx
  · dsimp only; omega
end Go.Proofs.Qxb6500562aGreat
