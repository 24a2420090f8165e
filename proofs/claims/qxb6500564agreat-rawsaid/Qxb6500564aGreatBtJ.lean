/-
  The forest: put.
-/
import Derived.Test.Qxb6500564aGreatBtI
namespace Go.Proofs.Qxb6500564aGreat
open Go.Den Go.Zip
set_option linter.unusedVariables false
set_option linter.unusedSimpArgs false
variable {dq : Nat}
variable {w w' : World} {f p i j n : Nat} {d : Nd} {D : List Bk} {R : List Wr} {cur cur' : Nat → Bk} {O : Nat → Prop}

/-- Alloc where a page is free. -/
theorem balloc_spec {L : List Nat} {K : Int → Int → World → Prop} (s : FW dq w f p D R cur true O) (o : Own cur L) (hl : L.length < 71)
    (hK : ∀ (r : Nat) x w', 1 ≤ r → r < 72 → r ∉ L → Own (fset (fset cur 0 x) r blk0) (r :: L) → FW dq w' f p D R (fset (fset cur 0 x) r blk0) true O → FrP O w w' → K (r : Int) 0 w') : S.pager_Pager_Alloc p w K := by
  refine palloc_spec s.2.1 (fun r w1 h1 h2 h3 h4 s1 G1 => ?_) fun hall => ?_
  · exact hK r _ w1 h1 h2 (fun hm => by rw [(o.2 r).2 hm] at h3; cases h3) (o.add (s.2.1.siz (by omega)) h1 h2 h3) (s.ofO G1.1 s1) G1.1
  · have := fill 71 L fun i h1 h2 => (o.2 i).1 (hall i h1 (by omega))
    omega
/-- Free. -/
theorem bfree_spec {L : List Nat} {r : Nat} {K : Int → World → Prop} (s : FW dq w f p D R cur true O) (o : Own cur (r :: L))
    (hK : ∀ x y w', Own (fset (fset cur 0 x) r y) L → FW dq w' f p D R (fset (fset cur 0 x) r y) true O → FrP O w w' → K 0 w') : S.pager_Pager_Free p (r : Int) w K := by
  refine pfree_spec s.2.1 ((o.2 r).2 (by simp)) fun w1 y s1 G1 => ?_
  exact hK _ _ w1 (o.del (s.2.1.siz (by omega))) (s.ofO G1.1 s1) G1.1
/-- What put answers: the node took it in, or it has split. -/
def PutA (m : Nat) (cur : Nat → Bk) (h lo : Nat) (a b : Bo) (pg : Nat) (es' : Es) (rest : List Nat) (cur' : Nat → Bk) (sep : ByteArray) (right : Nat) : Prop :=
  (∀ q ∈ rest, cur' q = cur q) ∧ ((right = 0 ∧ sep = ⟨#[]⟩ ∧ ∃ ps', Sub cur' h lo a b pg es' ps' ∧ Own cur' (ps' ++ rest)) ∨
    (right ≠ 0 ∧ right < 72 ∧ sep.size ≤ 16 ∧ es'.length = m + 1 ∧ ∃ eL eR pL pR, Sub cur' h 2 a (some sep) pg eL pL ∧ Sub cur' h 2 (some sep) b right eR pR ∧ es' = eL ++ eR ∧ Own cur' (pL ++ pR ++ rest)))
theorem pgs {L : List Nat} (o : Own cur L) {q : Nat} (h : q ∈ L) : 1 ≤ q ∧ q < 72 ∧ us cur q = true := by
  have := (o.2 q).2 h
  exact ⟨(us_iff.1 this).1, (us_iff.1 this).2.1, this⟩
set_option maxHeartbeats 4000000 in
/-- The end of put: the turned node e lies in block q; it is stored, or taken apart. -/
theorem putEnd {e : Nd} {m h lo pg q most : Nat} {a b : Bo} {es' : Es} {qs rest : List Nat} {w0 : World} {K : ByteArray → Int → Int → World → Prop} (s : FW dq w f p D R cur true O) (c : NB w q e) (hq : ¬ O q) (hm : most = if h = 0 then 3 else 4) (nd : NodeOf cur h e a b es' qs) (o : Own cur (pg :: qs ++ rest))
    (hn : e.n ≤ most + 1) (hlo : lo ≤ e.n) (hl : e.n = most + 1 → es'.length = m + 1 ∧ (pg :: qs ++ rest).length < 71)
    (hK : ∀ cur' sep right w', FW dq w' f p D R cur' true O → FrP O w w' → PutA m cur h lo a b pg es' rest cur' sep right → K sep (right : Int) 0 w') :
    LdI .i64 w ⟨q, 1, none⟩ fun n_21 =>
        if (decide (n_21 ≤ (most : Int))) = true then
          LdI .i64 w ⟨q, 0, none⟩ fun a0 => LdI .i64 w ⟨q, 1, none⟩ fun a1 => LdStr w ⟨q, 2, none⟩ fun a2 => LdStr w ⟨q, 3, none⟩ fun a3 => LdStr w ⟨q, 4, none⟩ fun a4 => LdStr w ⟨q, 5, none⟩ fun a5 => LdStr w ⟨q, 6, none⟩ fun a6 => LdStr w ⟨q, 7, none⟩ fun a7 => LdStr w ⟨q, 8, none⟩ fun a8 => LdStr w ⟨q, 9, none⟩ fun a9 => LdI .i64 w ⟨q, 10, none⟩ fun a10 => LdI .i64 w ⟨q, 11, none⟩ fun a11 => LdI .i64 w ⟨q, 12, none⟩ fun a12 => LdI .i64 w ⟨q, 13, none⟩ fun a13 => LdI .i64 w ⟨q, 14, none⟩ fun a14 =>
          S.btree_Forest_store f (pg : Int) a0 a1 a2 a3 a4 a5 a6 a7 a8 a9 a10 a11 a12 a13 a14 w (fun r37 w =>
          K (⟨#[]⟩ : ByteArray) 0 r37 w)
        else
          LdI .i64 w ⟨q, 0, none⟩ fun a0 => LdI .i64 w ⟨q, 1, none⟩ fun a1 => LdStr w ⟨q, 2, none⟩ fun a2 => LdStr w ⟨q, 3, none⟩ fun a3 => LdStr w ⟨q, 4, none⟩ fun a4 => LdStr w ⟨q, 5, none⟩ fun a5 => LdStr w ⟨q, 6, none⟩ fun a6 => LdStr w ⟨q, 7, none⟩ fun a7 => LdStr w ⟨q, 8, none⟩ fun a8 => LdStr w ⟨q, 9, none⟩ fun a9 => LdI .i64 w ⟨q, 10, none⟩ fun a10 => LdI .i64 w ⟨q, 11, none⟩ fun a11 => LdI .i64 w ⟨q, 12, none⟩ fun a12 => LdI .i64 w ⟨q, 13, none⟩ fun a13 => LdI .i64 w ⟨q, 14, none⟩ fun a14 =>
          S.btree_split a0 a1 a2 a3 a4 a5 a6 a7 a8 a9 a10 a11 a12 a13 a14 w (fun l0 l1 l2 l3 l4 l5 l6 l7 l8 l9 l10 l11 l12 l13 l14 r0 r1 r2 r3 r4 r5 r6 r7 r8 r9 r10 r11 r12 r13 r14 r83 w =>
          New w (.cells #[.int .i64 0, .int .i64 0, .string ⟨#[]⟩, .string ⟨#[]⟩, .string ⟨#[]⟩, .string ⟨#[]⟩, .string ⟨#[]⟩, .string ⟨#[]⟩, .string ⟨#[]⟩, .string ⟨#[]⟩, .int .i64 0, .int .i64 0, .int .i64 0, .int .i64 0, .int .i64 0] 289) fun p84 w =>
          New w (.cells #[.int .i64 0, .int .i64 0, .string ⟨#[]⟩, .string ⟨#[]⟩, .string ⟨#[]⟩, .string ⟨#[]⟩, .string ⟨#[]⟩, .string ⟨#[]⟩, .string ⟨#[]⟩, .string ⟨#[]⟩, .int .i64 0, .int .i64 0, .int .i64 0, .int .i64 0, .int .i64 0] 289) fun p85 w =>
          St1 w ⟨p84, 0, none⟩ (.int .i64 l0) fun w => St1 w ⟨p84, 1, none⟩ (.int .i64 l1) fun w => St1 w ⟨p84, 2, none⟩ (.string l2) fun w => St1 w ⟨p84, 3, none⟩ (.string l3) fun w => St1 w ⟨p84, 4, none⟩ (.string l4) fun w => St1 w ⟨p84, 5, none⟩ (.string l5) fun w => St1 w ⟨p84, 6, none⟩ (.string l6) fun w => St1 w ⟨p84, 7, none⟩ (.string l7) fun w => St1 w ⟨p84, 8, none⟩ (.string l8) fun w => St1 w ⟨p84, 9, none⟩ (.string l9) fun w => St1 w ⟨p84, 10, none⟩ (.int .i64 l10) fun w => St1 w ⟨p84, 11, none⟩ (.int .i64 l11) fun w => St1 w ⟨p84, 12, none⟩ (.int .i64 l12) fun w => St1 w ⟨p84, 13, none⟩ (.int .i64 l13) fun w => St1 w ⟨p84, 14, none⟩ (.int .i64 l14) fun w =>
          St1 w ⟨p85, 0, none⟩ (.int .i64 r0) fun w => St1 w ⟨p85, 1, none⟩ (.int .i64 r1) fun w => St1 w ⟨p85, 2, none⟩ (.string r2) fun w => St1 w ⟨p85, 3, none⟩ (.string r3) fun w => St1 w ⟨p85, 4, none⟩ (.string r4) fun w => St1 w ⟨p85, 5, none⟩ (.string r5) fun w => St1 w ⟨p85, 6, none⟩ (.string r6) fun w => St1 w ⟨p85, 7, none⟩ (.string r7) fun w => St1 w ⟨p85, 8, none⟩ (.string r8) fun w => St1 w ⟨p85, 9, none⟩ (.string r9) fun w => St1 w ⟨p85, 10, none⟩ (.int .i64 r10) fun w => St1 w ⟨p85, 11, none⟩ (.int .i64 r11) fun w => St1 w ⟨p85, 12, none⟩ (.int .i64 r12) fun w => St1 w ⟨p85, 13, none⟩ (.int .i64 r13) fun w => St1 w ⟨p85, 14, none⟩ (.int .i64 r14) fun w =>
          LdP w ⟨f, 0, none⟩ fun p_86 =>
          S.pager_Pager_Alloc p_86 w (fun r87 r88 w =>
          if (r88 != 0) = true then
            K (⟨#[]⟩ : ByteArray) 0 23 w
          else
            LdI .i64 w ⟨p84, 0, none⟩ fun x0 => LdI .i64 w ⟨p84, 1, none⟩ fun x1 => LdStr w ⟨p84, 2, none⟩ fun x2 => LdStr w ⟨p84, 3, none⟩ fun x3 => LdStr w ⟨p84, 4, none⟩ fun x4 => LdStr w ⟨p84, 5, none⟩ fun x5 => LdStr w ⟨p84, 6, none⟩ fun x6 => LdStr w ⟨p84, 7, none⟩ fun x7 => LdStr w ⟨p84, 8, none⟩ fun x8 => LdStr w ⟨p84, 9, none⟩ fun x9 => LdI .i64 w ⟨p84, 10, none⟩ fun x10 => LdI .i64 w ⟨p84, 11, none⟩ fun x11 => LdI .i64 w ⟨p84, 12, none⟩ fun x12 => LdI .i64 w ⟨p84, 13, none⟩ fun x13 => LdI .i64 w ⟨p84, 14, none⟩ fun x14 =>
            S.btree_Forest_store f (pg : Int) x0 x1 x2 x3 x4 x5 x6 x7 x8 x9 x10 x11 x12 x13 x14 w (fun r104 w =>
            if (r104 != 0) = true then
              K (⟨#[]⟩ : ByteArray) 0 23 w
            else
              LdI .i64 w ⟨p85, 0, none⟩ fun y0 => LdI .i64 w ⟨p85, 1, none⟩ fun y1 => LdStr w ⟨p85, 2, none⟩ fun y2 => LdStr w ⟨p85, 3, none⟩ fun y3 => LdStr w ⟨p85, 4, none⟩ fun y4 => LdStr w ⟨p85, 5, none⟩ fun y5 => LdStr w ⟨p85, 6, none⟩ fun y6 => LdStr w ⟨p85, 7, none⟩ fun y7 => LdStr w ⟨p85, 8, none⟩ fun y8 => LdStr w ⟨p85, 9, none⟩ fun y9 => LdI .i64 w ⟨p85, 10, none⟩ fun y10 => LdI .i64 w ⟨p85, 11, none⟩ fun y11 => LdI .i64 w ⟨p85, 12, none⟩ fun y12 => LdI .i64 w ⟨p85, 13, none⟩ fun y13 => LdI .i64 w ⟨p85, 14, none⟩ fun y14 =>
              S.btree_Forest_store f r87 y0 y1 y2 y3 y4 y5 y6 y7 y8 y9 y10 y11 y12 y13 y14 w (fun r120 w =>
              if (r120 != 0) = true then
                K (⟨#[]⟩ : ByteArray) 0 23 w
              else
                K r83 r87 0 w)))) := by
  have hpg := pgs o (q := pg) (by simp)
  refine c.cn (ifd (fun h1 => ?_) fun h1 => ?_)
  · refine rd15 c (store_spec s hpg.2.2 (nd.ok (by omega)) fun bk w1 hb s1 F1 => ?_)
    refine hK (fset cur pg bk) ⟨#[]⟩ 0 w1 s1 F1 ⟨fun x hx => fset_ne fun e => ?_, .inl ⟨rfl, rfl, pg :: qs, ?_, o.set (by omega)⟩⟩
    · have := o.1
      rw [List.cons_append, List.nodup_cons] at this
      exact this.1 (by rw [← e]; simp [hx])
    · have nn : pg ∉ qs := fun hm => by
        have := o.1
        rw [List.cons_append, List.nodup_cons] at this
        exact this.1 (by simp [hm])
      exact (nd.keep fun x hx => fset_ne fun e => nn (by rw [← e]; exact hx)).sub (by rw [fset_eq]; exact hb) hlo
  · have hen : e.n = most + 1 := by omega
    refine rd15 c (split_spec (by split at hm <;> omega) (by split at hm <;> omega) fun l r w1 l1 l2 l3 l4 l5 r1 r2 r3 r4 r5 f1 => ?_)
    obtain ⟨eL, eR, qL, qR, nL, nR, rfl, rfl, hsz⟩ := nd.split (by by_cases hh : h = 0 <;> simp [hh] at hm ⊢ <;> omega) l1 l2 l3 l4 l5 r1 r2 r3 r4 r5
    refine newZ fun w2 z2 f2 s2 => newZ fun w3 z3 f3 s3 => ?_
    have x3 := z2.fr f3 (by omega)
    refine st15 x3 rfl fun w4 x4 f4 => ?_
    have x4 : NB w4 w1.heap.size l := x4
    refine st15 (z3.fr f4 (by omega)) rfl fun w5 y5 f5 => ?_
    have y5 : NB w5 w2.heap.size r := y5
    have x5 := x4.fr f5 (by omega)
    have lw1 := f1.1.1
    have s5 := ((((s.fr0 f1).fr0 f2).fr0 f3).frq f4 s lw1).frq f5 s (by omega)
    have F5 : FrP O w w5 := FrP.of0 ((((f1.then0 f2).then0 f3).thenNew f4 (by omega)).thenNew f5 (by omega))
    have nx : ¬ O w1.heap.size := fun h => by have := s.2.1.lt h; omega
    have ny : ¬ O w2.heap.size := fun h => by have := s.2.1.lt h; omega
    refine s5.pt (balloc_spec s5 o (hl hen).2 fun rp x w6 h1 h2 h3 o6 s6 F6 => ?_)
    rw [if_neg (by simp)]
    have x6 := x5.frp F6 nx
    have y6 := y5.frp F6 ny
    have hne : pg ≠ rp := fun e => h3 (by rw [← e]; simp)
    refine rd15 x6 (store_spec s6 ((o6.2 pg).2 (by simp)) (nL.ok (by rw [l2]; split <;> omega)) fun bl w7 hbl s7 F7 => ?_)
    rw [if_neg (by simp)]
    have o7 := o6.set (n := pg) (x := bl) (by omega)
    refine rd15 (y6.frp F7 ny) (store_spec s7 ((o7.2 rp).2 (by simp)) (nR.ok (by by_cases hh : h = 0 <;> simp [hh] at hm ⊢ <;> omega)) fun br w8 hbr s8 F8 => ?_)
    rw [if_neg (by simp)]
    have o8 := o7.set (n := rp) (x := br) (by omega)
    have nd0' := o.1
    rw [List.cons_append, List.nodup_cons] at nd0'
    have keep : ∀ q, q ≠ 0 → q ≠ pg → q ≠ rp → fset (fset (fset (fset cur 0 x) rp blk0) pg bl) rp br q = cur q := fun q g1 g2 g3 => by rw [fset_ne g3, fset_ne g2, fset_ne g3, fset_ne g1]
    have kq : ∀ q ∈ (qL ++ qR) ++ rest, fset (fset (fset (fset cur 0 x) rp blk0) pg bl) rp br q = cur q := fun q hq => by
      have h0 := pgs o (q := q) (by simp at hq ⊢; simp [hq])
      exact keep q (by omega) (fun e => nd0'.1 (by rw [← e]; exact hq)) fun e => h3 (by rw [← e]; simp at hq ⊢; simp [hq])
    refine hK _ _ rp w8 s8 (((F5.trans F6).trans F7).trans F8) ⟨fun q hq => kq q (by simp at hq ⊢; simp [hq]), .inr ⟨by omega, h2, hsz, (hl hen).1, eL, eR, pg :: qL, rp :: qR, ?_, ?_, rfl, ?_⟩⟩
    · exact (nL.keep fun q hq => kq q (by simp [hq])).sub (by rw [fset_ne hne, fset_eq]; exact hbl) (by omega)
    · exact (nR.keep fun q hq => kq q (by simp [hq])).sub (by rw [fset_eq]; exact hbr) (by split at hm <;> omega)
    · refine o8.perm (List.perm_iff_count.2 fun z => ?_)
      simp only [List.count_append, List.count_cons]
      omega
def PutP (dq : Nat) (f p : Nat) (D : List Bk) (R : List Wr) (O : Nat → Prop) (k v : ByteArray) : Nat → Nat → Int → ByteArray → ByteArray → Int → World → (ByteArray → Int → Int → World → Prop) → Prop := fun n f' pg' k' v' fuel' w K =>
  ∃ (cur : Nat → Bk) (h lo : Nat) (a b : Bo) (pg : Nat) (es : Es) (ps rest : List Nat) (fl : Nat), n = h ∧ f' = f ∧ pg' = (pg : Int) ∧ k' = k ∧ v' = v ∧ fuel' = (fl : Int) ∧ h < fl ∧ fl ≤ 8 ∧ FW dq w f p D R cur true O ∧ Sub cur h lo a b pg es ps ∧ Own cur (ps ++ rest) ∧ Bnd a b k ∧ k.size ≤ 16 ∧ v.size ≤ 16 ∧ (1 ≤ h → 2 ≤ lo) ∧
    (gt k es = none → rest.length + es.length ≤ 71) ∧ ∀ cur' sep right w', FW dq w' f p D R cur' true O → FrP O w w' → PutA es.length cur h lo a b pg (ins k v es) rest cur' sep right → K sep (right : Int) 0 w'
/-- A node with a child that has split. -/
theorem node_put {e e' : Nd} {h c right : Nat} {a b a' b' : Bo} {e1 eL eR e3 : Es} {p1 pL pR p3 : List Nat} {sep : ByteArray} (hc : c < e.n) (hk : e.kd = 2) (sz1 : ∀ k ∈ e.ks, k < 256) (sz2 : ∀ s ∈ e.ss, s.size ≤ 16) (hr : right < 72) (hs : sep.size ≤ 16)
    (g1 : ChL (fun a b k es ps => Sub cur h 2 a b k es ps) a a' (tab c e.kid) (tab c e.ky) e1 p1) (gL : Sub cur h 2 a' (some sep) (e.kid c) eL pL) (gR : Sub cur h 2 (some sep) b' right eR pR)
    (g3 : Tl (fun a b k es ps => Sub cur h 2 a b k es ps) b' b (tab (e.n - c - 1) (fun t => e.kid (c + t + 1))) (tab (e.n - 1 - c) (fun t => e.ky (c + t))) e3 p3)
    (x1 : e'.kd = e.kd) (x2 : e'.n = e.n + 1) (x3 : e'.kid = fset (shf e.kid (c + 1) e.n) (c + 1) right) (x4 : e'.ky = fset (shf e.ky c (e.n - 1)) c sep) :
    NodeOf cur (h + 1) e' a b (e1 ++ ((eL ++ eR) ++ e3)) (p1 ++ ((pL ++ pR) ++ p3)) := by
  have k1 : e'.ks = tab c e.kid ++ e.kid c :: right :: tab (e.n - c - 1) (fun t => e.kid (c + t + 1)) := by
    unfold Nd.ks
    rw [x2, x3, tab_insert (i := c + 1) (by omega), tab_mid (i := c) (by omega), show c + 1 - c - 1 = 0 by omega, show e.n - (c + 1) = e.n - c - 1 by omega]
    have : (fun t => e.kid (c + 1 + t)) = fun t => e.kid (c + t + 1) := funext fun t => by congr 1; omega
    rw [this]
    simp [tab]
  have k2 : e'.ss = tab c e.ky ++ sep :: tab (e.n - 1 - c) (fun t => e.ky (c + t)) := by
    unfold Nd.ss
    rw [x2, x4, show e.n + 1 - 1 = (e.n - 1) + 1 by omega, tab_insert (by omega)]
  refine ⟨x1.trans hk, by omega, ?_, fun k hk => ?_, fun k hk => ?_⟩
  · rw [k1, k2]
    have t := Tl.kds gR g3
    have t2 : Kds (fun a b k es ps => Sub cur h 2 a b k es ps) a' b (e.kid c :: right :: tab (e.n - c - 1) (fun t => e.kid (c + t + 1))) (sep :: tab (e.n - 1 - c) (fun t => e.ky (c + t))) (eL ++ (eR ++ e3)) (pL ++ (pR ++ p3)) := ⟨_, _, _, _, _, _, rfl, gL, t, rfl, rfl⟩
    have := g1.app t2
    simpa [List.append_assoc] using this
  · obtain ⟨y1, y2⟩ := Nd.parts hc
    rw [y1] at sz1
    rw [k1] at hk
    simp only [List.mem_append, List.mem_cons] at hk sz1
    rcases hk with hk | hk | hk | hk
    · exact sz1 k (.inl hk)
    · exact sz1 k (.inr (.inl hk))
    · omega
    · exact sz1 k (.inr (.inr hk))
  · obtain ⟨y1, y2⟩ := Nd.parts hc
    rw [y2] at sz2
    rw [k2] at hk
    simp only [List.mem_append, List.mem_cons] at hk sz2
    rcases hk with hk | hk | hk
    · exact sz2 k (.inl hk)
    · rw [hk]; exact hs
    · exact sz2 k (.inr hk)
set_option maxHeartbeats 4000000 in
theorem put_G {k v : ByteArray} : T.G251 (PutP dq f p D R O k v) := by
  rintro n f' pg' k' v' fuel' w K ⟨cur, h, lo, a, b, pg, es, ps, rest, fl, rfl, rfl, rfl, rfl, rfl, rfl, hfl, hf8, s, t, o, hb, hk16, hv16, hlo2, hbud, hK⟩
  unfold B.btree_Forest_put
  have hsrt := t.srt
  have hbnd := t.bnd
  obtain ⟨d, qs, t1, rfl, t3, t4, t5⟩ := t.node
  have hpg := pgs o (q := pg) (by simp)
  refine load_spec s hpg.2.2 t1 fun e w1 he s1 F1 => ?_
  refine lay_spec (e := e) s1 fun w2 c2 s2 F2 l2 => ?_
  obtain ⟨nd, en⟩ := t5 e he
  rw [join_eq, if_neg (by simp; omega), if_neg (by simp)]
  refine c2.kd ?_
  have nq : ¬ O w1.heap.size := fun h => by have := s1.2.1.lt h; omega
  cases n with
  | zero =>
    obtain ⟨h1, h2, h3, h4, h5, rfl⟩ := nd
    simp only [if_true] at t4
    rw [join_eq, if_pos (by rw [h1]; simp)]
    rw [← h2] at hsrt
    refine rd15 c2 (leafPut_spec (by omega) hsrt fun e' w3 x1 x2 x3 f3 => ?_)
    refine st15 (c2.fr f3 (by omega)) rfl fun w4 c4 f4 => ?_
    have c4 : NB w4 w1.heap.size e' := c4
    have s4 := (s2.fr0 f3).frq f4 s1 (by omega)
    have lw := F1.1.1
    have F4 : FrP O w w4 := ((F1.trans F2).trans (FrP.of0 f3)).trans' (Q := fun b => b = w1.heap.size) (FrP.of f4 fun b h1 h2 => by omega) fun b hb => .inr (by omega)
    rw [h2] at x2 hsrt
    have hlen := ins_len (k := k') (v := v') hsrt
    rw [← x2, es_len, ← h2, es_len] at hlen
    have hin : gt k' es = none ∨ (gt k' es).isSome = true := by cases gt k' es <;> simp
    refine putEnd (m := es.length) (h := 0) (lo := lo) (most := 3) (w0 := w) s4 c4 nq (by simp) ⟨by rw [x1, h1], x2, ins_srt hsrt, fun y hy => ?_, fun y hy => ?_, rfl⟩ o (by omega) (by split at hlen <;> omega) (fun h6 => ?_) fun cur' sep right w' s' F' hA => hK cur' sep right w' s' (F4.trans F') hA
    · rcases ins_mem hy with rfl | hy
      · exact hb
      · exact hbnd y hy
    · rcases ins_mem hy with rfl | hy
      · exact ⟨hk16, hv16⟩
      · exact h5 y hy
    · rw [h2] at hlen
      rcases hin with hin | hin
      · have := hbud hin
        have hl := es_len e
        rw [h2] at hl
        refine ⟨by rw [← x2, es_len, hl]; omega, ?_⟩
        simp only [List.cons_append, List.length_cons, List.nil_append]
        omega
      · rw [if_pos hin] at hlen
        omega
  | succ h =>
    obtain ⟨h1, h2, h3, h4, h5⟩ := nd
    have hlo : 2 ≤ lo := hlo2 (by omega)
    rw [if_neg (by omega)] at t4
    rw [join_eq, if_neg (by rw [h1]; simp)]
    refine rd15 c2 (childOf_spec (by omega) (by omega) fun c w3 hc hlo' hhi f3 => ?_)
    have c3 := c2.fr f3 (by omega)
    refine ⟨by omega, by omega, c3.gc (by omega) ?_⟩
    obtain ⟨a', b', e1, e2, e3, p1, p2, p3, g1, g2, g3, rfl, rfl, g4⟩ := h3.at (k := k') hc
    have hb' := g4 hb hlo' hhi
    have pg1 := g1.page subPg
    have pg3 := g3.page subPg
    rw [tab_len] at pg1 pg3
    have gte : gt k' (e1 ++ (e2 ++ e3)) = gt k' e2 := by rw [gt_app_l fun e he => sl_ne (way_l g1 hb' e he), gt_app_r fun e he => (sl_ne (way_r g3 hb' e he)).symm]
    have ine : ins k' v' (e1 ++ (e2 ++ e3)) = e1 ++ (ins k' v' e2 ++ e3) := by rw [ins_app fun e he => way_l g1 hb' e he, ins_end fun e he => way_r g3 hb' e he]
    have F3 : FrP O w w3 := (F1.trans F2).trans (FrP.of0 f3)
    refine ⟨h, by omega, cur, h, 2, a', b', e.kid c, e2, p2, pg :: (p1 ++ p3) ++ rest, fl - 1, rfl, rfl, rfl, rfl, rfl, by rw [W_id (by omega) (by omega)]; omega, by omega, by omega, s2.fr0 f3, g2, o.perm (List.perm_iff_count.2 fun z => by simp only [List.count_append, List.count_cons]; omega), hb', hk16, hv16, fun _ => by omega, fun hn => ?_, fun cur' sep right w4 s4 F4 hA => ?_⟩
    · have := hbud (by rw [gte]; exact hn)
      simp only [List.length_append, List.length_cons] at this ⊢
      omega
    · obtain ⟨kp, hA⟩ := hA
      rw [join_eq, if_neg (by simp)]
      have c4 := c3.frp F4 nq
      have kpl : ∀ q ∈ p1, cur' q = cur q := fun q hq => kp q (by simp [hq])
      have kpr : ∀ q ∈ p3, cur' q = cur q := fun q hq => kp q (by simp [hq])
      have g1' := g1.mono (Q := fun a b k es ps => Sub cur' h 2 a b k es ps) (p3 := p1) (fun a b k es ps hp s => Sub.keep s fun q hq => kpl q (hp q hq)) fun q hq => hq
      have g3' := g3.mono (Q := fun a b k es ps => Sub cur' h 2 a b k es ps) (p3 := p3) (fun a b k es ps hp s => Sub.keep s fun q hq => kpr q (hp q hq)) fun q hq => hq
      rcases hA with ⟨rfl, rfl, ps', tA, oA⟩ | ⟨hr0, hr72, hs16, hlen, eL, eR, pL, pR, tL, tR, hes, oA⟩
      · rw [if_pos (by simp)]
        refine hK cur' _ 0 w4 s4 (F3.trans F4) ⟨fun q hq => kp q (by simp [hq]), .inl ⟨rfl, rfl, pg :: (p1 ++ (ps' ++ p3)), ?_, oA.perm (List.perm_iff_count.2 fun z => by simp only [List.count_append, List.count_cons]; omega)⟩⟩
        obtain ⟨y1, y2⟩ := Nd.parts hc
        rw [ine]
        have hk2 : d.kd = 2 := by rw [← he.1]; exact h1
        refine ⟨d, p1 ++ (ps' ++ p3), by rw [kp pg (by simp)]; exact t1, hk2, t3, ?_, rfl⟩
        rw [← he.ks hk2, ← he.ss hk2, y1, y2]
        exact g1'.app (Tl.kds tA g3')
      · rw [if_neg (by simp only [beq_iff_eq]; omega)]
        refine rd15 c4 (innerPut_spec (by omega) hc fun e' w5 x1 x2 x3 x4 f5 => ?_)
        refine st15 (c4.fr f5 (by omega)) rfl fun w6 c6 f6 => ?_
        have c6 : NB w6 w1.heap.size e' := c6
        have s6 := (s4.fr0 f5).frq f6 s1 (by omega)
        have lw := F1.1.1
        have l2' := F2.1.1
        have F6 : FrP O w w6 := ((F3.trans F4).trans (FrP.of0 f5)).trans' (Q := fun b => b = w1.heap.size) (FrP.of f6 fun b h1 h2 => by omega) fun b hb => .inr (by omega)
        have nd' := node_put hc h1 h4 h5 hr72 hs16 g1' tL tR g3' x1 x2 x3 x4
        rw [← hes, ← ine] at nd'
        refine putEnd (m := (e1 ++ (e2 ++ e3)).length) (h := h + 1) (lo := lo) (most := 4) (w0 := w) s6 c6 nq (by simp) nd' (rest := rest) (oA.perm (List.perm_iff_count.2 fun z => by simp only [List.count_append, List.count_cons]; omega)) (by omega) (by omega) (fun h6 => ?_) fun cur'' sep' right' w' s' F' hA' => hK cur'' sep' right' w' s' (F6.trans F') ⟨fun q hq => (hA'.1 q hq).trans (kp q (by simp [hq])), hA'.2⟩
        have hn : gt k' e2 = none := by
          cases hg : gt k' e2 with
          | none => rfl
          | some x =>
            exfalso
            have hl := ins_len (k := k') (v := v') g2.srt
            rw [hg, if_pos (by rfl)] at hl
            omega
        have hb2 := hbud (by rw [gte]; exact hn)
        have pL1 := subPg _ _ _ _ _ tL
        have pR1 := subPg _ _ _ _ _ tR
        have hl := ins_len (k := k') (v := v') g2.srt
        rw [hn, if_neg (by simp), hes, List.length_append] at hl
        rw [ine, hes]
        simp only [List.length_append, List.length_cons, List.cons_append] at hb2 ⊢
        omega
theorem bput_spec {k v : ByteArray} {h lo pg fl : Nat} {a b : Bo} {es : Es} {ps rest : List Nat} {K : ByteArray → Int → Int → World → Prop} (s : FW dq w f p D R cur true O) (t : Sub cur h lo a b pg es ps) (o : Own cur (ps ++ rest)) (hb : Bnd a b k) (hk : k.size ≤ 16) (hv : v.size ≤ 16) (hlo : 1 ≤ h → 2 ≤ lo) (hfl : h < fl) (hf8 : fl ≤ 8)
    (hbud : gt k es = none → rest.length + es.length ≤ 71) (hK : ∀ cur' sep right w', FW dq w' f p D R cur' true O → FrP O w w' → PutA es.length cur h lo a b pg (ins k v es) rest cur' sep right → K sep (right : Int) 0 w') : S.btree_Forest_put f (pg : Int) k v (fl : Int) w K :=
  ⟨PutP dq f p D R O k v, put_G, h, cur, h, lo, a, b, pg, es, ps, rest, fl, rfl, rfl, rfl, rfl, rfl, rfl, hfl, hf8, s, t, o, hb, hk, hv, hlo, hbud, hK⟩
end Go.Proofs.Qxb6500564aGreat
