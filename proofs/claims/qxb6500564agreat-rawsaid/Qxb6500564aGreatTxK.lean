/-
  The manager: put and drop in a write set.
-/
import Derived.Test.Qxb6500564aGreatTxJ
namespace Go.Proofs.Qxb6500564aGreat
open Go.Den Go.Zip
set_option linter.unusedVariables false
set_option linter.unusedSimpArgs false
variable {dq : Nat}
variable {w w' u v w0 : World} {i j k n t g b q : Nat} {D : List Bk} {R : List Wr} {cur cur' : Nat → Bk} {op : Bool} {O Os P : Nat → Prop} {db : Db} {s x rs : Sl} {nm : ByteArray} {key : Vl} {r : Rs} {sw : Nat → Sl} {cw : Nat → List CR} {l L : List CR} {y y' : CR} {c : Ch}

theorem lay6 {A B z : List Value} {K : World → Prop} (h : Blk w q (A ++ (z ++ B))) (hz : z.length = 6) (hA : A.length = i * 6) (hk : ∀ w', Blk w' q (A ++ (crC y ++ B)) → Fr q 1 w w' → K w') :
    St1 w ⟨q, 0 + Int.toNat (i : Int) * 6, none⟩ (.string y.c.tab) fun w => St1 w ⟨q, 0 + Int.toNat (i : Int) * 6 + 1, none⟩ (.bool y.c.key.st) fun w => St1 w ⟨q, 0 + Int.toNat (i : Int) * 6 + 2, none⟩ (.int .i64 y.c.key.i) fun w => St1 w ⟨q, 0 + Int.toNat (i : Int) * 6 + 3, none⟩ (.string y.c.key.s) fun w => St1 w ⟨q, 0 + Int.toNat (i : Int) * 6 + 4, none⟩ (.bool y.c.gone) fun w => St1 w ⟨q, 0 + Int.toNat (i : Int) * 6 + 5, none⟩ (.slice y.rs.a y.rs.l y.rs.c) fun w => K w := by
  have e : ∀ k, 0 + Int.toNat (i : Int) * 6 + k = A.length + k := fun k => by rw [Int.toNat_natCast, Nat.zero_add, hA]
  have e0 : 0 + Int.toNat (i : Int) * 6 = A.length + 0 := e 0
  rw [e 1, e 2, e 3, e 4, e 5, e0]
  have hl : ∀ y : List Value, y.length = 6 → (A ++ (y ++ B)).length = A.length + 6 + B.length := fun y hy => by rw [List.length_append, List.length_append, hy]; omega
  match z, hz with
  | [_, _, _, _, _, _], _ =>
    refine st1 h (by rw [hl _ rfl]; omega) fun w1 h f1 _ => ?_
    rw [set_in A B _ 0 _ (by show 0 < 6; omega)] at h
    refine st1 h (by rw [hl _ rfl]; omega) fun w2 h f2 _ => ?_
    rw [set_in A B _ 1 _ (by show 1 < 6; omega)] at h
    refine st1 h (by rw [hl _ rfl]; omega) fun w3 h f3 _ => ?_
    rw [set_in A B _ 2 _ (by show 2 < 6; omega)] at h
    refine st1 h (by rw [hl _ rfl]; omega) fun w4 h f4 _ => ?_
    rw [set_in A B _ 3 _ (by show 3 < 6; omega)] at h
    refine st1 h (by rw [hl _ rfl]; omega) fun w5 h f5 _ => ?_
    rw [set_in A B _ 4 _ (by show 4 < 6; omega)] at h
    refine st1 h (by rw [hl _ rfl]; omega) fun w6 h f6 _ => ?_
    rw [set_in A B _ 5 _ (by show 5 < 6; omega)] at h
    exact hk w6 h (((((f1.trans f2).trans f3).trans f4).trans f5).trans f6)
theorem cr_split (h : l[i]? = some y) : crsC l = crsC (l.take i) ++ (crC y ++ crsC (l.drop (i + 1))) := by
  have hi : i < l.length := (List.getElem?_eq_some_iff.1 h).1
  have e : l = l.take i ++ y :: l.drop (i + 1) := by
    have hm : l[i] = y := by rw [List.getElem?_eq_getElem hi] at h; exact Option.some.inj h
    rw [← hm, ← List.drop_eq_getElem_cons hi, List.take_append_drop]
  show l.flatMap crC = _
  rw [e, List.flatMap_append, List.flatMap_cons, ← e]
  rfl
theorem cr_setC (h : l[i]? = some y) (y' : CR) : crsC (l.set i y') = crsC (l.take i) ++ (crC y' ++ crsC (l.drop (i + 1))) := by
  have hi : i < l.length := (List.getElem?_eq_some_iff.1 h).1
  rw [cr_split (y := y') (by rw [List.getElem?_set_self hi]), List.take_set_of_le (Nat.le_refl _), List.drop_set_of_lt (by omega)]
theorem cr_take_len (h : l[i]? = some y) : (crsC (l.take i)).length = i * 6 := by
  have hi : i < l.length := (List.getElem?_eq_some_iff.1 h).1
  rw [crsC_len, List.length_take, Nat.min_eq_left (by omega)]
theorem crL (o : OS w s (crsC l) 6) : s.l = l.length := by
  have := o.len
  rw [crsC_len] at this
  omega
/-- A change is laid into a place. -/
theorem cr_set {K : World → Prop} (o : OS w s (crsC l) 6) (hi : i < l.length) (hk : ∀ w', OS w' s (crsC (l.set i y')) 6 → FrP (owns s) w w' → K w') :
    Ix s.a s.l (i : Int) fun b42 o43 => St1 w ⟨b42, o43 + Int.toNat (i : Int) * 6, none⟩ (.string y'.c.tab) fun w => St1 w ⟨b42, o43 + Int.toNat (i : Int) * 6 + 1, none⟩ (.bool y'.c.key.st) fun w => St1 w ⟨b42, o43 + Int.toNat (i : Int) * 6 + 2, none⟩ (.int .i64 y'.c.key.i) fun w => St1 w ⟨b42, o43 + Int.toNat (i : Int) * 6 + 3, none⟩ (.string y'.c.key.s) fun w => St1 w ⟨b42, o43 + Int.toNat (i : Int) * 6 + 4, none⟩ (.bool y'.c.gone) fun w => St1 w ⟨b42, o43 + Int.toNat (i : Int) * 6 + 5, none⟩ (.slice y'.rs.a y'.rs.l y'.rs.c) fun w => K w := by
  have h : l[i]? = some l[i] := List.getElem?_eq_getElem hi
  have hsl := crL o
  rcases o with ⟨rfl, e⟩ | ⟨g', a, e, c, junk, d, e2⟩
  · have : (0 : Nat) = l.length := hsl
    omega
  · refine ix a (by omega) (by omega) ?_
    rw [cr_split h, List.append_assoc, List.append_assoc] at d
    refine lay6 d rfl (cr_take_len h) fun w' b' f' => hk w' (.inr ⟨g', a, ?_, c, junk, ?_, ?_⟩) (FrP.of f' fun b h1 h2 => by rw [show b = g' by omega]; exact a)
    · rw [crsC_len, List.length_set, ← crsC_len]; exact e
    · rw [cr_setC h, List.append_assoc, List.append_assoc]; exact b'
    · rw [List.length_append, crsC_len, List.length_set, ← crsC_len, ← List.length_append]; exact e2
/-- A change is moved within the list. -/
theorem cr_move {K : World → Prop} (o : OS w s (crsC L) 6) (hi : L[i]? = some y) (hj : j < L.length) (hk : ∀ w', OS w' s (crsC (L.set j y)) 6 → FrP (owns s) w w' → K w') :
    Ix s.a s.l (i : Int) fun b o => LdStr w ⟨b, o + Int.toNat (i : Int) * 6, none⟩ fun a1 => LdB w ⟨b, o + Int.toNat (i : Int) * 6 + 1, none⟩ fun a2 => LdI .i64 w ⟨b, o + Int.toNat (i : Int) * 6 + 2, none⟩ fun a3 => LdStr w ⟨b, o + Int.toNat (i : Int) * 6 + 3, none⟩ fun a4 => LdB w ⟨b, o + Int.toNat (i : Int) * 6 + 4, none⟩ fun a5 => LdS w ⟨b, o + Int.toNat (i : Int) * 6 + 5, none⟩ fun a6 =>
      Ix s.a s.l (j : Int) fun b42 o43 => St1 w ⟨b42, o43 + Int.toNat (j : Int) * 6, none⟩ (.string a1) fun w => St1 w ⟨b42, o43 + Int.toNat (j : Int) * 6 + 1, none⟩ (.bool a2) fun w => St1 w ⟨b42, o43 + Int.toNat (j : Int) * 6 + 2, none⟩ (.int .i64 a3) fun w => St1 w ⟨b42, o43 + Int.toNat (j : Int) * 6 + 3, none⟩ (.string a4) fun w => St1 w ⟨b42, o43 + Int.toNat (j : Int) * 6 + 4, none⟩ (.bool a5) fun w => St1 w ⟨b42, o43 + Int.toNat (j : Int) * 6 + 5, none⟩ (.slice a6.a a6.l a6.c) fun w => K w :=
  crGet o hi (cr_set (y' := y) o hj hk)
theorem crsC_snoc (l : List CR) (y : CR) : crsC (l ++ [y]) = crsC l ++ crC y := by
  unfold crsC
  rw [List.flatMap_append]
  simp
theorem rd6 {q : Nat} {y : CR} {K : ByteArray → Bool → Int → ByteArray → Bool → Sl → Prop} (b : Blk w q (crC y)) (hk : K y.c.tab y.c.key.st y.c.key.i y.c.key.s y.c.gone y.rs) :
    LdStr w ⟨q, 0, none⟩ fun a1 => LdB w ⟨q, 1, none⟩ fun a2 => LdI .i64 w ⟨q, 2, none⟩ fun a3 => LdStr w ⟨q, 3, none⟩ fun a4 => LdB w ⟨q, 4, none⟩ fun a5 => LdS w ⟨q, 5, none⟩ fun a6 => K a1 a2 a3 a4 a5 a6 := ldStr b rfl (ldB b rfl (ldI b rfl (ldStr b rfl (ldB b rfl (ldS b rfl hk)))))
def putC (c : Ch) (l : List Ch) : List Ch := if (fdC c.tab c.key l).2 then l.set (fdC c.tab c.key l).1 c else l.take (fdC c.tab c.key l).1 ++ c :: l.drop (fdC c.tab c.key l).1
def dropC (nm : ByteArray) (key : Vl) (l : List Ch) : List Ch := if (fdC nm key l).2 then l.take (fdC nm key l).1 ++ l.drop ((fdC nm key l).1 + 1) else l
set_option maxHeartbeats 8000000 in
theorem put_spec {K : World → Prop} (h : GM dq w0 g t D R cur op Os db r sw cw) (f0 : Fr 0 0 w0 w) (hk : k < 4) (hl : (r.ws k).length ≤ 900) (orow : OS w rs (rowC c.row) 3) (hrs : ∀ b, owns rs b → w0.heap.size ≤ b)
    (hK : ∀ w' sw' cw', GM dq w' g t D R cur op Os db { r with ws := fset r.ws k (putC c (r.ws k)) } sw' cw' → Gw (gw g Os sw cw) w0 (gw g Os sw' cw') w' → K w') : S.txn_Mgr_put g (k : Int) c.tab c.key.st c.key.i c.key.s c.gone rs w K := by
  unfold S.txn_Mgr_put
  have ek := h.eq k hk
  have hlen : (cw k).length = (r.ws k).length := by rw [← ek, List.length_map]
  have glt := h.bl.lt
  let y0 : CR := ⟨c, rs⟩
  refine newB fun w1 c1 f1 s1 => ?_
  have c1 : Blk w1 w.heap.size (crC y0) := c1
  have l0 := f0.1.1
  refine ldStr c1 rfl (ldB c1 rfl (ldI c1 rfl (ldStr c1 rfl (gfind_spec (h.fr0 (f0.then0 f1)) hk (by omega) fun w2 f2 => ?_))))
  have F2 : Fr 0 0 w0 w2 := (f0.then0 f1).then0 f2
  have c2 := c1.fr f2 (by omega)
  have g2 := h.fr0 F2
  have or2 : OS w2 rs (rowC c.row) 3 := OS.fr0 (OS.fr0 orow f1) f2
  have hpl := fdC_le c.tab c.key (r.ws k)
  have hrsl : ∀ b, owns rs b → b < w.heap.size := fun b hb => orow.lt hb
  have wlt : ∀ b, wo (sw k) (cw k) b → b < w0.heap.size := fun b hb => (h.wm k hk).lt hb
  -- the last store
  have fin : ∀ {u : World} {s' : Sl} {A : List CR} {p : Nat}, p < A.length → Blk u g (mgC t r.act r.lks (fset sw k s')) → OS u s' (crsC A) 6 → Blk u w.heap.size (crC y0) → FrP (fun b => owns (sw k) b ∨ b = g ∨ w.heap.size < b) w2 u → (∀ b, owns s' b → owns (sw k) b ∨ w.heap.size < b) → (A.set p y0).map (·.c) = putC c (r.ws k) → (∀ z ∈ A.set p y0, z = y0 ∨ z ∈ cw k) →
      Drew u fun w_1 => IxA 4 (k : Int) <| LdS w_1 ⟨g, 23 + Int.toNat (k : Int) * 1, none⟩ fun ws_8 => LdStr w_1 ⟨w.heap.size, 0, none⟩ fun tab_9 => LdB w_1 ⟨w.heap.size, 1, none⟩ fun key_IsStr_10 => LdI .i64 w_1 ⟨w.heap.size, 2, none⟩ fun key_I_11 => LdStr w_1 ⟨w.heap.size, 3, none⟩ fun key_S_12 => LdB w_1 ⟨w.heap.size, 4, none⟩ fun gone_13 => LdS w_1 ⟨w.heap.size, 5, none⟩ fun row_14 =>
        Ix ws_8.a ws_8.l (p : Int) fun b15 o16 => St1 w_1 ⟨b15, o16 + Int.toNat (p : Int) * 6, none⟩ (.string tab_9) fun w => St1 w ⟨b15, o16 + Int.toNat (p : Int) * 6 + 1, none⟩ (.bool key_IsStr_10) fun w => St1 w ⟨b15, o16 + Int.toNat (p : Int) * 6 + 2, none⟩ (.int .i64 key_I_11) fun w => St1 w ⟨b15, o16 + Int.toNat (p : Int) * 6 + 3, none⟩ (.string key_S_12) fun w => St1 w ⟨b15, o16 + Int.toNat (p : Int) * 6 + 4, none⟩ (.bool gone_13) fun w => St1 w ⟨b15, o16 + Int.toNat (p : Int) * 6 + 5, none⟩ (.slice row_14.a row_14.l row_14.c) fun w => K w := fun {u s' A p} hp B o bu F ho hput hmem => by
    have Bd := B.drew
    have bud := bu.drew
    refine drew_ ⟨by omega, by omega, ?_⟩
    rw [Int.toNat_natCast, Nat.mul_one]
    refine ldS Bd (by rw [mgC_ws hk, fset_eq]; rfl) (rd6 bud (cr_set (y' := y0) (OS.dr o) hp fun u2 o2 F2' => ?_))
    have ng : ¬ owns s' g := fun hb => by
      rcases ho g hb with h' | h'
      · exact h.nw k hk (.inl h')
      · omega
    have B2 := Bd.frp F2' ng
    have FT : FrP (fun b => wo (sw k) (cw k) b ∨ b = g ∨ w0.heap.size ≤ b) w0 u2 := ((FrP.of0 F2).trans (F.mono fun b hb => by
      rcases hb with h' | h' | h'
      · exact .inl (.inl h')
      · exact .inr (.inl h')
      · exact .inr (.inr (by omega)))).drew.trans (F2'.mono fun b hb => by
      rcases ho b hb with h' | h'
      · exact .inl (.inl h')
      · exact .inr (.inr (by omega)))
    have FQ : FrP (fun b => owns (sw k) b ∨ b = g ∨ w.heap.size < b) w2 u2 := F.drew.trans (F2'.mono fun b hb => (ho b hb).elim .inl fun h' => .inr (.inr h'))
    have row2 : ∀ z ∈ A.set p y0, OS u2 z.rs (rowC z.c.row) 3 ∧ ∀ b, owns z.rs b → ¬ owns s' b := fun z hz => by
      rcases hmem z hz with rfl | hz'
      · refine ⟨or2.frp FQ fun b hb hq => ?_, fun b hb hb' => ?_⟩
        · rcases hq with h' | h' | h'
          · have := wlt b (.inl h'); have := hrs b hb; omega
          · have := hrs b hb; omega
          · have := hrsl b hb; omega
        · rcases ho b hb' with h' | h'
          · have := wlt b (.inl h'); have := hrs b hb; omega
          · have := hrsl b hb; omega
      · refine ⟨((g2.wm k hk).row z hz').frp FQ fun b hb hq => ?_, fun b hb hb' => ?_⟩
        · rcases hq with h' | h' | h'
          · exact (h.wm k hk).sI z hz' b hb h'
          · exact h.nw k hk (by rw [← h']; exact .inr ⟨z, hz', hb⟩)
          · have := wlt b (.inr ⟨z, hz', hb⟩); omega
        · rcases ho b hb' with h' | h'
          · exact (h.wm k hk).sI z hz' b hb h'
          · have := wlt b (.inr ⟨z, hz', hb⟩); omega
    have M2 : WM u2 s' (A.set p y0) := ⟨o2, fun z hz => (row2 z hz).1, fun z hz => (row2 z hz).2⟩
    obtain ⟨gm, G⟩ := h.put hk B2 M2 FT fun b hb => by
      rcases hb with hb | ⟨z, hz, hb⟩
      · rcases ho b hb with h' | h'
        · exact .inl (.inl h')
        · exact .inr (by omega)
      · rcases hmem z hz with rfl | hz'
        · exact .inr (hrs b hb)
        · exact .inl (.inr ⟨z, hz', hb⟩)
    rw [hput] at gm
    exact hK u2 _ _ gm G
  have hsl := (g2.wm k hk).ln
  cases hh : (fdC c.tab c.key (r.ws k)).2 with
  | true =>
    rw [join_eq, if_neg (by simp)]
    obtain ⟨c', hc', _⟩ := fdC_hit hh
    have hp : (fdC c.tab c.key (r.ws k)).1 < (cw k).length := by rw [hlen]; exact (List.getElem?_eq_some_iff.1 hc').1
    refine fin (s' := sw k) hp (by rw [fset_same]; exact g2.bl) (g2.wm k hk).arr c2 (FrP.refl _ _) (fun b hb => .inl hb) ?_ fun z hz => ?_
    · rw [List.map_set, ek]
      unfold putC
      rw [hh, if_pos rfl]
    · rcases List.mem_or_eq_of_mem_set hz with hz | rfl
      · exact .inr hz
      · exact .inl rfl
  | false =>
    have eput : putC c (r.ws k) = (r.ws k).take (fdC c.tab c.key (r.ws k)).1 ++ c :: (r.ws k).drop (fdC c.tab c.key (r.ws k)).1 := by unfold putC; rw [hh, if_neg (by simp)]
    generalize hpe : (fdC c.tab c.key (r.ws k)).1 = p at *
    rw [join_eq, if_pos (by rfl)]
    have g2d := g2.dr
    have c2d := c2.drew
    refine drew_ ⟨by omega, by omega, hold_ (g2d.ws hk (rd6 c2d (newB fun w3 c3 f3 s3 => ⟨holdS g2d.bl (g2d.bl.fr f3 (by omega)), ?_⟩)))⟩
    have e2 : w2.drew.heap.size = w2.heap.size := rfl
    have c3 : Blk w3 w2.drew.heap.size (crC y0) := c3
    have g3 := g2d.fr0 f3
    have l12 : w1.heap.size = w.heap.size + 1 := s1
    have l2 := f2.1.1
    have l3 := f3.1.1
    refine app1 (g3.wm k hk).arr c3 rfl rfl rfl (by rw [hsl, hlen]; omega) fun l4 w4 o4 ll4 own4 F4 => ⟨by omega, by omega, ?_⟩
    have own4' : ∀ b, owns l4 b → owns (sw k) b ∨ w.heap.size < b := fun b hb => (own4 b hb).elim .inl fun h' => .inr (by omega)
    have b4 := g3.bl.frp F4 fun hb => h.nw k hk (.inl hb)
    refine st1 b4 (by rw [mgC_len, Int.toNat_natCast]; omega) fun w5 b5 f5 _ => ⟨by omega, by omega, ?_⟩
    rw [Int.toNat_natCast, Nat.mul_one] at b5 ⊢
    have b5 := (mgC_setW (t := t) (act := r.act) (lks := r.lks) (sw := sw) (a := l4) hk) ▸ b5
    have G5 : FrP (fun b => b = g) w4 w5 := FrP.of f5 fun b h1 h2 => by omega
    have ng4 : ∀ b, owns l4 b → b ≠ g := fun b hb e => by
      rcases own4' b hb with h' | h'
      · exact h.nw k hk (by rw [← e]; exact .inl h')
      · omega
    have o5 : OS w5 l4 (crsC ((cw k).take (cw k).length ++ y0 :: (cw k).drop (cw k).length)) 6 := by
      rw [List.take_length, List.drop_length, crsC_snoc]
      exact o4.frp G5 ng4
    have FQ5 : FrP (fun b => owns (sw k) b ∨ b = g ∨ w.heap.size < b) w2 w5 := (((FrP.refl _ w2).drew.trans (FrP.of0 f3)).trans (F4.mono fun b hb => .inl hb)).trans (G5.mono fun b hb => .inr (.inl hb))
    have cw5 : Blk w5 w.heap.size (crC y0) := ((c2d.fr f3 (by omega)).frp F4 fun hb => by have := wlt _ (.inl hb); omega).frp G5 fun (e : w.heap.size = g) => by omega
    refine ldS b5 (by rw [mgC_ws hk, fset_eq]; rfl) (let_ ?_)
    have hl4 : l4.l = (cw k).length + 1 := by rw [ll4, hsl]
    show LoopP _ ((W ((l4.l : Int) - 1)), ()) _
    rw [hl4, show W ((((cw k).length + 1 : Nat) : Int) - 1) = ((cw k).length : Int) by rw [W_id (by omega) (by omega)]; omega]
    refine loopN (fun n st u => ∃ (j : Nat) (z : CR), st = ((j : Int), ()) ∧ j = p + n ∧ j ≤ (cw k).length ∧ Blk u g (mgC t r.act r.lks (fset sw k l4)) ∧ OS u l4 (crsC ((cw k).take j ++ z :: (cw k).drop j)) 6 ∧ Blk u w.heap.size (crC y0) ∧ FrP (fun b => owns (sw k) b ∨ b = g ∨ w.heap.size < b) w2 u) ((cw k).length - p)
      ⟨(cw k).length, y0, rfl, by omega, Nat.le_refl _, b5, o5, cw5, FQ5⟩ ?_
    rintro n _ u ⟨j, z, rfl, hj, hjn, bu, ou, cu, Fu⟩ Q hQ
    dsimp only
    have nw4 : ∀ b, owns l4 b → b ≠ w.heap.size := fun b hb e => by
      rcases own4' b hb with h' | h'
      · have := wlt b (.inl h'); omega
      · omega
    refine ifd (fun hjp => ?_) fun hjp => ?_
    · obtain ⟨j', rfl⟩ : ∃ j', j = j' + 1 := ⟨j - 1, by omega⟩
      have ew : W (((j' + 1 : Nat) : Int) - 1) = (j' : Int) := by rw [W_id (by omega) (by omega)]; omega
      rw [ew]
      have hjl : j' < (cw k).length := by omega
      obtain ⟨y, hy⟩ : ∃ y, (cw k)[j']? = some y := ⟨_, List.getElem?_eq_getElem hjl⟩
      obtain ⟨e1, e2', e3⟩ := shift_up (z := z) hjl hy
      have bud := bu.drew
      refine drew_ ⟨by omega, by omega, ?_⟩
      refine ldS bud (by rw [mgC_ws hk, fset_eq]; rfl) ⟨by omega, by omega, ldS bud (by rw [mgC_ws hk, fset_eq]; rfl) (cr_move (OS.dr ou) e2' (by rw [List.length_append, List.length_take, List.length_cons, List.length_drop]; omega) fun u2 o2 F2' => let_ ?_)⟩
      rw [e1, e3] at o2
      exact hQ (n - 1) _ _ (by omega) ⟨j', y, rfl, by omega, by omega, bud.frp F2' fun hb => ng4 g hb rfl, o2, cu.drew.frp F2' fun hb => nw4 _ hb rfl, Fu.drew.trans (F2'.mono fun b hb => (own4' b hb).elim .inl fun h' => .inr (.inr h'))⟩
    · have hjp' : j = p := by omega
      subst hjp'
      have htl : ((cw k).take j).length = j := by rw [List.length_take]; omega
      have es : ((cw k).take j ++ z :: (cw k).drop j).set j y0 = (cw k).take j ++ y0 :: (cw k).drop j := by
        have := List.set_append_right (s := (cw k).take j) (t := z :: (cw k).drop j) j y0 (by omega)
        rw [this, htl, Nat.sub_self, List.set_cons_zero]
      rw [show 23 + k = 23 + Int.toNat (k : Int) * 1 by rw [Int.toNat_natCast, Nat.mul_one]]
      refine fin (s' := l4) (p := j) (A := (cw k).take j ++ z :: (cw k).drop j) (by rw [List.length_append, List.length_cons, htl]; omega) bu ou cu Fu own4' ?_ fun z' hz' => ?_
      · rw [es, eput, ← ek, List.map_append, List.map_cons, List.map_take, List.map_drop]
      · rw [es] at hz'
        rcases List.mem_append.1 hz' with hz' | hz'
        · exact .inr (List.mem_of_mem_take hz')
        · rcases List.mem_cons.1 hz' with hz' | hz'
          · exact .inl hz'
          · exact .inr (List.mem_of_mem_drop hz')
set_option maxHeartbeats 8000000 in
theorem drop_spec {K : World → Prop} (h : GM dq w g t D R cur op Os db r sw cw) (hk : k < 4) (hl : (r.ws k).length ≤ 900)
    (hK : ∀ w' sw' cw', GM dq w' g t D R cur op Os db { r with ws := fset r.ws k (dropC nm key (r.ws k)) } sw' cw' → Gw (gw g Os sw cw) w (gw g Os sw' cw') w' → K w') : S.txn_Mgr_drop g (k : Int) nm key.st key.i key.s w K := by
  unfold S.txn_Mgr_drop
  have ek := h.eq k hk
  have hlen : (cw k).length = (r.ws k).length := by rw [← ek, List.length_map]
  refine newB fun w1 c1 f1 s1 => ?_
  have c1 : Blk w1 w.heap.size (valC key) := c1
  refine ldB c1 rfl (ldI c1 rfl (ldStr c1 rfl (gfind_spec (h.fr0 f1) hk (by omega) fun w2 f2 => ?_)))
  have F2 := f1.then0 f2
  have g2 := h.fr0 F2
  have hsl := (g2.wm k hk).ln
  cases hh : (fdC nm key (r.ws k)).2 with
  | false =>
    rw [if_neg (by simp)]
    have e : dropC nm key (r.ws k) = r.ws k := by unfold dropC; rw [hh, if_neg (by simp)]
    rw [e, fset_same] at hK
    exact hK w2 sw cw g2 (Gw.new F2)
  | true =>
    rw [if_pos rfl]
    obtain ⟨c', hc', _⟩ := fdC_hit hh
    have e : dropC nm key (r.ws k) = (r.ws k).take (fdC nm key (r.ws k)).1 ++ (r.ws k).drop ((fdC nm key (r.ws k)).1 + 1) := by unfold dropC; rw [hh, if_pos rfl]
    have hp : (fdC nm key (r.ws k)).1 < (cw k).length := by rw [hlen]; exact (List.getElem?_eq_some_iff.1 hc').1
    generalize hpe : (fdC nm key (r.ws k)).1 = p at *
    have nsg : ∀ b, owns (sw k) b → b ≠ g := fun b hb e => h.nw k hk (by rw [← e]; exact .inl hb)
    rw [join_eq]
    have hM : ((cw k).take p ++ (cw k).drop (p + 1)).length = (cw k).length - 1 := by rw [List.length_append, List.length_take, List.length_drop]; omega
    have hMm : ∀ z ∈ (cw k).take p ++ (cw k).drop (p + 1), z ∈ cw k := fun z hz => by
      rcases List.mem_append.1 hz with hz | hz
      · exact List.mem_of_mem_take hz
      · exact List.mem_of_mem_drop hz
    have hMc : ((cw k).take p ++ (cw k).drop (p + 1)).map (·.c) = dropC nm key (r.ws k) := by rw [e, ← ek, List.map_append, List.map_take, List.map_drop]
    have hst : ∀ z, ((cw k).take p ++ (cw k).drop (p + 1)).take p ++ z :: ((cw k).take p ++ (cw k).drop (p + 1)).drop p = (cw k).take p ++ z :: (cw k).drop (p + 1) := fun z => by
      have : ((cw k).take p).length = p := by rw [List.length_take]; omega
      rw [List.take_append_of_le_length (by omega), List.take_of_length_le (by omega), List.drop_append_of_le_length (by omega), List.drop_of_length_le (by omega)]
      rfl
    generalize hMe : (cw k).take p ++ (cw k).drop (p + 1) = M at *
    have o2 : OS w2 (sw k) (crsC (M.take p ++ (cw k)[p] :: M.drop p)) 6 := by
      rw [hst, ← List.drop_eq_getElem_cons hp, List.take_append_drop]
      exact (g2.wm k hk).arr
    refine loopN (fun m st u => ∃ (j : Nat) (z : CR), st = ((j : Int), ()) ∧ j + m = M.length ∧ Blk u g (mgC t r.act r.lks sw) ∧ OS u (sw k) (crsC (M.take j ++ z :: M.drop j)) 6 ∧ FrP (owns (sw k)) w u) (M.length - p)
      ⟨p, (cw k)[p], rfl, by omega, g2.bl, o2, FrP.of0 F2⟩ ?_
    rintro m _ u ⟨j, z, rfl, hj, bu, ou, Fu⟩ Q hQ
    dsimp only
    rw [W_succ (by omega)]
    refine ⟨by omega, by omega, ?_⟩
    rw [Int.toNat_natCast k, Nat.mul_one]
    refine ldS bu (mgC_ws hk) ?_
    show if decide (((j + 1 : Nat) : Int) < ((sw k).l : Int)) = true then _ else _
    refine ifd (fun hjp => ?_) fun hjp => ?_
    · have hjl : j < M.length := by omega
      obtain ⟨y, hy⟩ : ∃ y, M[j]? = some y := ⟨_, List.getElem?_eq_getElem hjl⟩
      have hyj : M[j] = y := by rw [List.getElem?_eq_getElem hjl] at hy; exact Option.some.inj hy
      have htl : (M.take j).length = j := by rw [List.length_take]; omega
      have e2 : (M.take j ++ z :: M.drop j)[j + 1]? = some y := by
        rw [List.getElem?_append_right (by omega), htl, show j + 1 - j = 0 + 1 by omega, List.getElem?_cons_succ, List.getElem?_drop, Nat.add_zero]
        exact hy
      have e1 : (M.take j ++ z :: M.drop j).set j y = M.take (j + 1) ++ y :: M.drop (j + 1) := by
        have := List.set_append_right (s := M.take j) (t := z :: M.drop j) j y (by omega)
        rw [this, htl, Nat.sub_self, List.set_cons_zero, List.take_add_one, hy, List.drop_eq_getElem_cons hjl, hyj]
        simp
      have bud := bu.drew
      refine drew_ ⟨by omega, by omega, ldS bud (mgC_ws hk) ⟨by omega, by omega, ldS bud (mgC_ws hk) (cr_move (OS.dr ou) e2 (by rw [List.length_append, List.length_cons, List.length_drop, htl]; omega) fun u2 o2 F2' => let_ ?_)⟩⟩
      rw [e1] at o2
      exact hQ (m - 1) _ _ (by omega) ⟨j + 1, y, rfl, by omega, bud.frp F2' fun hb => nsg g hb rfl, o2, Fu.drew.trans F2'⟩
    · have hjl : j = M.length := by omega
      subst hjl
      rw [List.take_length, List.drop_length] at ou
      have bud := bu.drew
      refine drew_ ⟨by omega, by omega, ldS bud (mgC_ws hk) ⟨by omega, by omega, ldS bud (mgC_ws hk) ?_⟩⟩
      show CutS 6 (sw k) 0 (W (((sw k).l : Int) - 1)) ((sw k).c : Int) _
      have ew : W (((sw k).l : Int) - 1) = (M.length : Int) := by rw [W_id (by omega) (by omega)]; omega
      rw [ew]
      have oud := OS.dr ou
      rcases oud with ⟨er, _⟩ | ⟨gr, ga, ge, gc, junk, gd, ge2⟩
      · rw [er] at hsl
        have : (0 : Nat) = (cw k).length := hsl
        omega
      · refine cutS (lo := 0) (hi := M.length) (mx := (sw k).c) ga (by omega) (by omega) (Nat.le_refl _) (.inr rfl) ⟨by omega, by omega, ?_⟩
        rw [Nat.zero_mul, Nat.sub_zero, Nat.sub_zero]
        refine st1 bud (by rw [mgC_len]; omega) fun u3 b3 f3 _ => ?_
        have b3 : Blk u3 g ((mgC t r.act r.lks sw).set (23 + k) (slV ⟨some ⟨gr, 0, none⟩, M.length, (sw k).c⟩)) := b3
        rw [mgC_setW hk] at b3
        have G3 : FrP (fun b => b = g) u.drew u3 := FrP.of f3 fun b h1 h2 => by omega
        have hgr : owns (sw k) gr := ga
        have o3 : OS u3 ⟨some ⟨gr, 0, none⟩, M.length, (sw k).c⟩ (crsC M) 6 := by
          refine .inr ⟨gr, rfl, crsC_len M, ?_, crC z ++ junk, ?_, ?_⟩
          · show M.length ≤ (sw k).c
            omega
          · rw [← List.append_assoc, ← crsC_snoc]
            exact gd.frp G3 fun e => nsg gr hgr e
          · rw [← List.append_assoc, ← crsC_snoc]
            exact ge2
        have FT : FrP (fun b => owns (sw k) b ∨ b = g) w u3 := (Fu.drew.mono fun b hb => .inl hb).trans (G3.mono fun b hb => .inr hb)
        have own1 : ∀ b, owns (⟨some ⟨gr, 0, none⟩, M.length, (sw k).c⟩ : Sl) b → owns (sw k) b := fun b hb => by
          have hb : (some ⟨gr, 0, none⟩ : Option Addr) = some ⟨b, 0, none⟩ := hb
          have : gr = b := by simpa using hb
          rw [← this]; exact ga
        have M3 : WM u3 ⟨some ⟨gr, 0, none⟩, M.length, (sw k).c⟩ M := ⟨o3, fun z' hz' => ((h.wm k hk).row z' (hMm z' hz')).frp FT fun b hb hq => by
            rcases hq with h' | h'
            · exact (h.wm k hk).sI z' (hMm z' hz') b hb h'
            · exact h.nw k hk (by rw [← h']; exact .inr ⟨z', hMm z' hz', hb⟩), fun z' hz' b hb hb' => (h.wm k hk).sI z' (hMm z' hz') b hb (own1 b hb')⟩
        obtain ⟨gm, G⟩ := h.put hk b3 M3 (FT.mono fun b hb => hb.elim (fun h' => .inl (.inl h')) fun h' => .inr (.inl h')) fun b hb => .inl (by
          rcases hb with hb | ⟨z', hz', hb⟩
          · exact .inl (own1 b hb)
          · exact .inr ⟨z', hMm z' hz', hb⟩)
        rw [hMc] at gm
        exact hK u3 _ _ gm G
end Go.Proofs.Qxb6500564aGreat
