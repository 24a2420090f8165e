/-
  The forest: Get, Seek, Next, Insert.
-/
import Derived.Test.Qxb6500564aGreatBtQ
namespace Go.Proofs.Qxb6500564aGreat
open Go.Den Go.Zip
set_option linter.unusedVariables false
set_option linter.unusedSimpArgs false
variable {dq : Nat}
variable {w w' : World} {f p i j n : Nat} {d : Nd} {D : List Bk} {R : List Wr} {cur cur' : Nat → Bk} {op : Bool} {O : Nat → Prop} {T : Nat → Option Es} {pg : Nat → List Nat} {es : Es} {k v : ByteArray}

theorem eLen_some (es : Es) : eLen (some es) = es.length := rfl
theorem eLen_le (T : Nat → Option Es) (hi : i < 8) : eLen (T i) ≤ sumTo 8 fun j => eLen (T j) := sumTo_pos (f := fun j => eLen (T j)) hi
theorem FCp.hgt (c : FCp cur T pg) (hi : i < 8) (hT : T i = some es) : es.length ≤ 64 := by
  have h1 := eLen_le T hi
  rw [hT] at h1
  have := c.max
  exact Nat.le_trans h1 this
theorem FCp.uses (c : FCp cur T pg) (hi : i < 8) : ∀ q ∈ pg i, us cur q = true := fun q hq => (c.own.2 q).2 (by simp [allP_mem hi hq])
theorem fget_spec {K : ByteArray → Int → World → Prop} (s : FW dq w f p D R cur op O) (c : FCp cur T pg) (hi : i < 8) (hT : T i = some es) (hK : ∀ w', FW dq w' f p D R cur op O → FrP O w w' → FindA (gt k es) fun v e => K v e w') : S.btree_Forest_Get f (i : Int) k w K := by
  unfold S.btree_Forest_Get
  obtain ⟨h1, h, h2⟩ := c.som i es hi hT
  refine root_spec s c.one fun w1 s1 F1 => ?_
  rw [rootP_nat hi, if_neg (by simp only [beq_iff_eq]; omega)]
  have rf := root_fact h2 (c.hgt hi hT)
  exact bfind_spec (fl := 8) s1 h2 (c.uses hi) (bnd0 k) rf.1 (by omega) fun w2 s2 F2 => by
    have := hK w2 s2 (F1.trans F2)
    exact this
theorem fseek_spec {K : ByteArray → ByteArray → Int → World → Prop} (s : FW dq w f p D R cur op O) (c : FCp cur T pg) (hi : i < 8) (hT : T i = some es) (hK : ∀ w', FW dq w' f p D R cur op O → FrP O w w' → ScanA (sk k false es) fun v u e => K v u e w') : S.btree_Forest_Seek f (i : Int) k w K := by
  unfold S.btree_Forest_Seek
  obtain ⟨h1, h, h2⟩ := c.som i es hi hT
  refine newB fun w0 q0 f0 s0 => ?_
  have q0 : Blk w0 w.heap.size [.string ⟨#[]⟩, .string ⟨#[]⟩] := q0
  have nO : ¬ O w.heap.size := fun h => by have := s.2.1.lt h; omega
  refine root_spec (s.fr0 f0) c.one fun w1 s1 F1 => ?_
  rw [rootP_nat hi, if_neg (by simp only [beq_iff_eq]; omega)]
  have rf := root_fact h2 (c.hgt hi hT)
  refine bscan_spec (fl := 8) s1 h2 (c.uses hi) rf.1 (by omega) fun w2 s2 F2 => ?_
  have q2 := q0.frp (F1.trans F2) nO
  have out : ∀ u, Fr w.heap.size 1 w2 u → FW dq u f p D R cur op O ∧ FrP O w u := fun u fu => ⟨s2.frq fu s (Nat.le_refl _), ((FrP.of0 f0).trans (F1.trans F2)).trans' (Q := fun b => b = w.heap.size) (FrP.of fu fun b h1 h2 => by omega) fun b hb => .inr (by omega)⟩
  cases hx : sk k false es with
  | none =>
    refine two_spec q2 fun u fu => ?_
    have := hK u (out u fu).1 (out u fu).2
    rw [hx] at this
    exact this
  | some e =>
    refine two_spec q2 fun u fu => ?_
    have := hK u (out u fu).1 (out u fu).2
    rw [hx] at this
    exact this
theorem fnext_spec {K : ByteArray → ByteArray → Int → World → Prop} (s : FW dq w f p D R cur op O) (c : FCp cur T pg) (hi : i < 8) (hT : T i = some es) (hK : ∀ w', FW dq w' f p D R cur op O → FrP O w w' → ScanA (sk k true es) fun v u e => K v u e w') : S.btree_Forest_Next f (i : Int) k w K := by
  unfold S.btree_Forest_Next
  obtain ⟨h1, h, h2⟩ := c.som i es hi hT
  refine newB fun w0 q0 f0 s0 => ?_
  have q0 : Blk w0 w.heap.size [.string ⟨#[]⟩, .string ⟨#[]⟩] := q0
  have nO : ¬ O w.heap.size := fun h => by have := s.2.1.lt h; omega
  refine root_spec (s.fr0 f0) c.one fun w1 s1 F1 => ?_
  rw [rootP_nat hi, if_neg (by simp only [beq_iff_eq]; omega)]
  have rf := root_fact h2 (c.hgt hi hT)
  refine bscan_spec (fl := 8) s1 h2 (c.uses hi) rf.1 (by omega) fun w2 s2 F2 => ?_
  have q2 := q0.frp (F1.trans F2) nO
  have out : ∀ u, Fr w.heap.size 1 w2 u → FW dq u f p D R cur op O ∧ FrP O w u := fun u fu => ⟨s2.frq fu s (Nat.le_refl _), ((FrP.of0 f0).trans (F1.trans F2)).trans' (Q := fun b => b = w.heap.size) (FrP.of fu fun b h1 h2 => by omega) fun b hb => .inr (by omega)⟩
  cases hx : sk k true es with
  | none =>
    refine two_spec q2 fun u fu => ?_
    have := hK u (out u fu).1 (out u fu).2
    rw [hx] at this
    exact this
  | some e =>
    refine two_spec q2 fun u fu => ?_
    have := hK u (out u fu).1 (out u fu).2
    rw [hx] at this
    exact this
theorem intxn_spec {K : Bool → World → Prop} (s : FW dq w f p D R cur op O) (hK : K op w) : S.pager_Pager_InTxn p w K := by
  unfold S.pager_Pager_InTxn
  exact s.2.1.opn hK
/-- The number of pages of the other trees. -/
theorem FCp.rest (c : FCp cur T pg) (hi : i < 8) : (allP (fset pg i []) 8).length + eLen (T i) ≤ 7 + sumTo 8 fun j => eLen (T j) := by
  rw [allP_len]
  have m1 : (fun t => (fset pg i [] t).length) = fset (fun t => (pg t).length) i 0 := fset_map (fun l : List Nat => l.length) pg i []
  rw [m1]
  have h1 : sumTo 8 (fset (fun t => (pg t).length) i 0) ≤ sumTo 8 (fset (fun t => 1 + eLen (T t)) i 0) := sumTo_le fun t ht => by
    unfold fset
    split
    · exact Nat.le_refl _
    · cases hT : T t with
      | none =>
        dsimp only
        rw [(c.non t ht hT).2]; simp
      | some es =>
        obtain ⟨_, h, h2⟩ := c.som t es ht hT
        dsimp only
        rw [hT]
        exact (root_fact h2 (c.hgt ht hT)).2.1
  have h2 := sumTo_set (fun t => 1 + eLen (T t)) i 0 hi
  have h3 : (sumTo 8 fun t => 1 + eLen (T t)) = 8 + sumTo 8 fun t => eLen (T t) := by
    rw [sumTo_add (fun _ => 1) (fun t => eLen (T t)) 8]
    rfl
  omega
theorem U8_succ {m : Nat} (h : m < 255) : U8 ((m : Int) + 1) = ((m + 1 : Nat) : Int) := by
  have := U8_nat (m + 1)
  rw [Nat.mod_eq_of_lt (by omega)] at this
  exact this
theorem IxB8 {b : Bk} {K : Int → Prop} (hb : b.size = 128) (hk : K (byteAt b 8 : Nat)) : IxStr b 8 K := ixB (o := 8) (byteAt_get (by omega)) hk
set_option maxHeartbeats 2000000 in
theorem finsert_spec {K : Int → World → Prop} (s : FW dq w f p D R cur true O) (c : FCp cur T pg) (hi : i < 8) (hT : T i = some es) (hk : k.size ≤ 16) (hv : v.size ≤ 16) (hfull : gt k es = none → (sumTo 8 fun j => eLen (T j)) < 64)
    (hK : ∀ cur' pg' w', FW dq w' f p D R cur' true O → FCp cur' (fset T i (some (ins k v es))) pg' → FrP O w w' → K 0 w') : S.btree_Forest_Insert f (i : Int) k v w K := by
  unfold S.btree_Forest_Insert
  obtain ⟨h1, h, h2⟩ := c.som i es hi hT
  refine s.pt (intxn_spec s ?_)
  rw [if_neg (by simp)]
  refine root_spec s c.one fun w1 s1 F1 => ?_
  rw [rootP_nat hi, if_neg (by simp only [beq_iff_eq]; omega), if_neg (by simp; omega), if_neg (by simp; omega)]
  have rf := root_fact h2 (c.hgt hi hT)
  have o := c.tree hi
  have hz : (cur 1).size = 128 := s.2.1.siz (by omega)
  have hrest := c.rest hi
  have hsum := sumT T (some (ins k v es)) hi
  have hlen := ins_len (k := k) (v := v) h2.srt
  rw [hT] at hrest hsum
  rw [eLen_some] at hrest
  rw [eLen_some, eLen_some] at hsum
  have hlt := byteAt_lt (cur 1) i
  refine bfind_spec (fl := 8) s1 h2 (c.uses hi) (bnd0 k) rf.1 (by omega) fun w2 s2 F2 => ?_
  cases hg : gt k es with
  | some x =>
    dsimp only [FindA]
    rw [if_neg (by simp), if_pos (by simp)]
    rw [hg, if_pos (by rfl)] at hlen
    refine bput_spec (fl := 8) s2 h2 o (bnd0 k) hk hv rf.2.2 rf.1 (by omega) (fun h0 => by rw [hg] at h0; cases h0) fun cur' sep right w3 s3 F3 hA => ?_
    obtain ⟨kp, hA⟩ := hA
    rcases hA with ⟨_, _, ps', t', o'⟩ | ⟨_, _, _, hl, _⟩
    · have e1 : fset cur' 1 (cur 1) = cur' := by rw [← kp 1 (by simp)]; exact fset_same _ _
      have u := c.upd (t' := some (ins k v es)) (dir := cur 1) hi o' kp (fun _ _ _ => rfl) (by rw [c.cnt]; omega) (by have := c.max; omega) (fun h => by cases h) fun es' he => by cases he; exact ⟨h1, h, t'⟩
      rw [e1] at u
      exact hK cur' _ w3 s3 u ((F1.trans F2).trans F3)
    · omega
  | none =>
    dsimp only [FindA]
    rw [if_neg (by simp), if_neg (by simp)]
    have hful := hfull hg
    rw [hg, if_neg (by simp)] at hlen
    refine IxB8 hz ?_
    have c8 := c.cnt
    rw [W_id (by omega) (by omega), if_neg (by simp; omega)]
    have hbud : (1 :: allP (fset pg i []) 8).length + es.length ≤ 71 := by
      simp only [List.length_cons]
      omega
    refine bput_spec (fl := 8) s2 h2 o (bnd0 k) hk hv rf.2.2 rf.1 (by omega) (fun _ => hbud) fun cur' sep right w3 s3 F3 hA => ?_
    rw [if_neg (by simp)]
    obtain ⟨kp, hA⟩ := hA
    have F13 := (F1.trans F2).trans F3
    refine join_P (fun dd u => ∃ cur2 ps', FW dq u f p D R cur2 true O ∧ FrP O w u ∧ Own cur2 (ps' ++ (1 :: allP (fset pg i []) 8)) ∧ (∀ q ∈ 1 :: allP (fset pg i []) 8, cur2 q = cur q) ∧ dd.size = 128 ∧ (∀ j, j ≠ i → byteAt dd j = byteAt (cur 1) j) ∧ byteAt dd i ≠ 0 ∧
        ∃ h, Sub cur2 h (if h = 0 then 0 else 2) none none (byteAt dd i) (ins k v es) ps') ?_ ?_
    · rintro dd u ⟨cur2, ps', su, Fu, ou, ku, hdz, hdj, hdi, hs, tS⟩
      have e8 : byteAt dd 8 = sumTo 8 fun j => eLen (T j) := by rw [hdj 8 (by omega), c8]
      refine IxB8 hdz ?_
      rw [U8_succ (by omega)]
      refine setAt_spec (i := 8) hdz (by omega) (by omega) fun u1 g1 => ?_
      have su1 := su.fr0 g1
      refine putDir_spec su1 ((ou.2 1).2 (by simp)) (by rw [setY_size]; exact hdz) fun u2 su2 Fu2 => ?_
      have sb : ∀ j, byteAt (setY dd 8 (byteAt dd 8 + 1)) j = if j = 8 then byteAt dd 8 + 1 else byteAt dd j := fun j => setY_byte (by omega) (by omega)
      refine hK _ _ u2 su2 (c.upd (t' := some (ins k v es)) hi ou ku (fun j hj hne => ?_) ?_ ?_ (fun h => by cases h) fun es' he => ?_) ((Fu.trans (FrP.of0 g1)).trans Fu2)
      · rw [sb, if_neg (by omega), hdj j hne]
      · rw [sb, if_pos rfl, e8]; omega
      · omega
      · cases he
        rw [sb, if_neg (by omega)]
        exact ⟨hdi, hs, tS⟩
    · intro J hJ
      rcases hA with ⟨rfl, _, ps', t', o'⟩ | ⟨hr0, hr72, hs16, hl, eL, eR, pL, pR, tL, tR, hes, o'⟩
      · rw [if_neg (by simp)]
        exact hJ _ _ ⟨cur', ps', s3, F13, o', kp, hz, fun _ _ => rfl, h1, h, t'⟩
      · rw [if_pos (by simp only [bne_iff_ne, ne_eq]; omega)]
        refine newZ fun w4 z4 f4 s4 => st15 z4 rfl fun w5 z5 f5 => ?_
        have z5 : NB w5 w3.heap.size { nd0 with kd := 2, n := 2 } := z5
        refine ⟨by omega, by omega, z5.sc (i := 0) (by omega) rfl fun w6 z6 f6 => ⟨by omega, by omega, z6.sc (i := 1) (by omega) rfl fun w7 z7 f7 => ⟨by omega, by omega, z7.sk (i := 0) (by omega) fun w8 z8 f8 => ?_⟩⟩⟩
        have G := ((f5.trans f6).trans f7).trans f8
        have s8 := (s3.fr0 f4).frq G s3 (Nat.le_refl _)
        have n8 : ¬ O w3.heap.size := fun h => by have := s3.2.1.lt h; omega
        have F8 : FrP O w w8 := F13.trans (FrP.of0 (f4.thenNew G (Nat.le_refl _)))
        have pL1 := subPg _ _ _ _ _ tL
        have pR1 := subPg _ _ _ _ _ tR
        have hl2 : eL.length + eR.length = es.length + 1 := by rw [hes, List.length_append] at hl; exact hl
        refine s8.pt (balloc_spec s8 o' (by simp only [List.length_append] at hbud ⊢; omega) fun rp x w9 q1 q2 q3 o9 s9 F9 => ?_)
        rw [if_neg (by simp)]
        generalize hN : ({ kd := 2, n := 2, ky := fset (fun _ => (⟨#[]⟩ : ByteArray)) 0 sep, vl := fun _ => (⟨#[]⟩ : ByteArray), kid := fset (fset (fun _ => 0) 0 (byteAt (cur 1) i)) 1 right } : Nd) = top
        have z8 : NB w8 w3.heap.size top := by rw [← hN]; exact z8
        have z9 := z8.frp F9 n8
        have tk : top.ks = [byteAt (cur 1) i, right] := by rw [← hN]; rfl
        have ts : top.ss = [sep] := by rw [← hN]; rfl
        have nd : NodeOf cur' (h + 1) top none none (eL ++ eR) (pL ++ pR) := by
          refine ⟨by rw [← hN], by rw [← hN]; show 1 ≤ 2; omega, ?_, fun k hk => ?_, fun k hk => ?_⟩
          · rw [tk, ts]
            exact ⟨_, _, _, _, _, _, rfl, tL, ⟨_, rfl, tR⟩, rfl, rfl⟩
          · rw [tk] at hk
            simp only [List.mem_cons, List.not_mem_nil, or_false] at hk
            omega
          · rw [ts] at hk
            rw [List.mem_singleton.1 hk]; exact hs16
        refine rd15 z9 (store_spec s9 ((o9.2 rp).2 (by simp)) (nd.ok (by rw [← hN]; simp)) fun bt' w10 hb s10 F10 => ?_)
        rw [if_neg (by simp)]
        rw [U8_nat, Nat.mod_eq_of_lt (by omega)]
        refine setAt_spec hz (by omega) (by omega) fun w11 f11 => ?_
        have sb : ∀ j, byteAt (setY (cur 1) i rp) j = if j = i then rp else byteAt (cur 1) j := fun j => setY_byte (by omega) (by omega)
        have kq : ∀ q, q ∈ pL ++ pR ++ (1 :: allP (fset pg i []) 8) → fset (fset (fset cur' 0 x) rp blk0) rp bt' q = cur' q := fun q hq => by
          have h0 := pgs o' hq
          have hne : q ≠ rp := fun e => q3 (by rw [← e]; exact hq)
          rw [fset_ne hne, fset_ne hne, fset_ne (by omega)]
        refine hJ _ _ ⟨_, rp :: (pL ++ pR), s10.fr0 f11, (((F8.trans F9).trans F10).trans (FrP.of0 f11)), o9.set (by omega), fun q hq => (kq q (List.mem_append_right _ hq)).trans (kp q hq), by rw [setY_size]; exact hz, fun j hj => by rw [sb, if_neg hj], by rw [sb, if_pos rfl]; omega, h + 1, ?_⟩
        rw [sb, if_pos rfl, hes, if_neg (by omega)]
        exact (nd.keep fun q hq => kq q (List.mem_append_left _ hq)).sub (by rw [fset_eq]; exact hb) (by rw [← hN]; show 2 ≤ 2; omega)
end Go.Proofs.Qxb6500564aGreat
