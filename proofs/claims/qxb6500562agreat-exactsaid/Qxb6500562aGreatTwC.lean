/-
  towerexact: compiled, executed, Raw.
-/
import Derived.Test.Qxb6500562aGreatTwB
namespace Go.Proofs.Qxb6500562aGreat
open Go.Den Go.Zip
set_option linter.unusedVariables false
set_option linter.unusedSimpArgs false
variable {w w' w1 w2 : World} {g : Nat} {inp : List Int} {O O' O1 O2 : Nat → Prop} {k : IntKind} {s a b l : Sl} {zs : List Int}

theorem CkA.long {src : ByteArray} {res : Except (Int × Int) Prg} (h : CkA src res) (hl : 4096 < src.size) : res = .error (31, 4096) := by
  obtain ⟨tr, h1, h2⟩ := h
  rcases h1 with ⟨_, rfl⟩ | ⟨h1, _⟩
  · exact h2
  · omega
theorem RunA.err {src : ByteArray} {fuel : Int} {r : Res} {q : Int × Int} (h : RunA src inp fuel r) (hi : inp.length ≤ 128) (hc : CkA src (.error q)) : r = ⟨q.1, q.2, 0, 0, [], fuel⟩ := by
  rcases h with ⟨h1, rfl⟩ | ⟨h1, h2, rfl⟩ | ⟨h1, h2, res, h3, h4⟩
  · have := hc.long h1
    cases this; rfl
  · omega
  · have := h3.uniq hc
    subst this
    exact h4
theorem RunA.ok {src : ByteArray} {fuel : Int} {r : Res} {P : Prg} (h : RunA src inp fuel r) (hi : inp.length ≤ 128) (hc : CkA src (.ok P)) : ∃ s, MRun (pCode P) inp fuel s ∧ r = ⟨0, 0, s.en, s.rv, s.out, s.fuel⟩ := by
  rcases h with ⟨h1, rfl⟩ | ⟨h1, h2, rfl⟩ | ⟨h1, h2, res, h3, h4⟩
  · have := hc.long h1
    cases this
  · omega
  · have := h3.uniq hc
    subst this
    exact h4
theorem byts_int (c : List Nat) : byts c = (c.map Int.ofNat).map (.int .u8) := by simp [byts]
theorem RdS.ofB {bl n m : Nat} {c : List Nat} (h : Blk w bl (byts c)) (hn : n = c.length) : RdS .u8 w ⟨some ⟨bl, 0, none⟩, n, m⟩ (c.map Int.ofNat) := RdS.ofBlk h (by rw [List.drop_zero, List.take_of_length_le (by simp [byts]; omega), byts_int]) (by simpa using hn)
theorem RdS.ofSrcB {c : List Nat} (h : Src w O s (byts c)) : RdS .u8 w s (c.map Int.ofNat) := by
  obtain ⟨h1, h2⟩ := h
  have hl : s.l = (c.map Int.ofNat).length := by simpa [byts] using h1.symm
  rcases h2 with h2 | ⟨b, o, us, h3, h4, h5, _⟩
  · exact ⟨hl, .inl (List.length_eq_zero_iff.1 (by omega))⟩
  · have := RdS.ofBlk (k := .u8) (zs := c.map Int.ofNat) (c := s.c) h4 (n := s.l) (by rw [h5, byts_int]) hl
    rw [← h3] at this; exact this
/-- What is new stays new. -/
theorem frNew {w0 : World} (F : Fr 0 0 w0 w) (hO : ∀ b, O b → w0.heap.size ≤ b) (G : Gw O w O' w') : Fr 0 0 w0 w' :=
  (FrP.trans' (P := fun _ => False) (FrP.of0 F) G.1 fun b hb => .inr (hO b hb)).ofR fun _ h => h.elim
theorem newO {w0 : World} (F : Fr 0 0 w0 w) (hO : ∀ b, O b → w0.heap.size ≤ b) (G : Gw O w O' w') : ∀ b, O' b → w0.heap.size ≤ b := fun b hb => (G.2 b hb).elim (hO b) fun h => by have := F.1.1; omega
set_option maxHeartbeats 1000000 in
theorem compiled_spec {x : Nat} {src : ByteArray} {K : Sl → Bool → Bool → World → Prop} (e : RE w x O) (hsz : src.size < 9223372036854775808)
    (hE : ∀ w' O' q, RE w' x O' → Gw O w O' w' → CkA src (.error q) → K ⟨none, 0, 0⟩ false true w')
    (hO : ∀ w' O' P b, RE w' x O' → Gw O w O' w' → CkA src (.ok P) → P.ns.length ≤ 200 → w.heap.size ≤ b → ¬ O' b → Blk w' b (byts (pCode P)) → K ⟨some ⟨b, 0, none⟩, (pCode P).length, (pCode P).length⟩ true true w') : S.towerexact_compiled x src w K := by
  unfold S.towerexact_compiled
  refine re_compile e hsz fun w1 O1 c er pos res e1 G1 A1 o1 => ?_
  refine mnew_spec fun w2 m Om me2 n2 f2 => ?_
  refine mrun_spec (inp := []) me2 ⟨rfl, .inl rfl⟩ hsz (by omega) fun w3 Om3 y r me3 G3 A3 o3 l3 => ?_
  have F13 : Fr 0 0 w1 w3 := frNew f2 n2 G3
  refine new6 fun w4 c4 f4 => ?_
  have F14 := F13.trans f4
  have e4 := e1.fr0 F14
  have G4 : Gw O w O1 w4 := G1.trans (Gw.new F14)
  refine ldI c4 (m := r.e) rfl ?_
  cases res with
  | error q =>
    obtain ⟨rfl, rfl, rfl, hne⟩ := o1
    have := A3.err (by simp) A1
    subst this
    rw [if_pos (by simpa using hne)]
    rw [join_eq]
    refine ldI c4 (m := q.1) rfl ?_
    rw [if_pos (by simp)]
    refine ldI c4 (m := q.2) rfl ?_
    rw [if_pos (by simp)]
    exact hE w4 O1 q e4 G4 A1
  | ok P =>
    obtain ⟨rfl, rfl, h200, b, hb1, hb2, rfl, hb3⟩ := o1
    obtain ⟨s, _, rfl⟩ := A3.ok (by simp) A1
    rw [if_neg (by simp)]
    refine re_new fun w5 x5 O5 e5 n5 f5 => ?_
    refine re_compile e5 hsz fun w6 O6 d er6 pos6 res6 e6 G6 A6 o6 => ?_
    have := A6.uniq A1
    subst this
    obtain ⟨_, _, _, d', hd1, hd2, rfl, hd3⟩ := o6
    have F46 : Fr 0 0 w4 w6 := frNew f5 n5 G6
    have F16 := F14.trans F46
    have cl := pCode_len A1.pt h200
    rw [if_pos (by simp), if_pos (by simp), if_pos (by simp), if_pos (by simp)]
    refine sameBytes_spec (RdS.ofB (hb3.fr F16 (by omega)) rfl) (RdS.ofB hd3 rfl) (by simp; omega) fun w7 _ f7 => ?_
    have F17 := F16.trans f7
    exact hO w7 O1 P b (e1.fr0 F17) (G1.trans (Gw.new F17)) A1 h200 hb1 hb2 (hb3.fr F17 (by omega))
set_option maxHeartbeats 1000000 in
theorem executed_spec {m h : Nat} {src : ByteArray} {c mine : Sl} {fuel : Int} {P : Prg} {K : Int → Int → Int → Int → Sl → Int → Bool → World → Prop} (v : VI w m h O) (A : CkA src (.ok P)) (h200 : P.ns.length ≤ 200) (hc : Src w O c (byts (pCode P))) (hi : Src w O mine (ints inp)) (hil : inp.length ≤ 128) (hsz : src.size < 9223372036854775808) (fb : -9223372036854775808 ≤ fuel ∧ fuel < 9223372036854775808)
    (hK : ∀ w' O' y (r : Res), VI w' m h O' → Gw O w O' w' → OutS w.heap.size O' w' y r.out → r.out.length ≤ 1024 → K r.e r.pos r.en r.rv y r.fuel true w') : S.towerexact_executed m c src mine fuel w K := by
  unfold S.towerexact_executed
  have cl := pCode_len A.pt h200
  have cl' : ((pCode P).map Int.ofNat).length ≤ 3000 := by simp; omega
  refine newB fun w1 c1 f1 s1 => ?_
  refine copyInts_spec (RdS.ofSrc (hi.gw (Gw.new f1))) (by omega) fun w2 c2 f2 => ?_
  have F02 := f1.trans f2
  refine copyBytes_spec (RdS.ofSrcB (hc.gw (Gw.new F02))) (by omega) fun w3 c3 f3 => ?_
  have F03 := F02.trans f3
  have z1 := f1.1.1; have z2 := f2.1.1; have z3 := f3.1.1
  have l1 := c1.lt; have l2 := c2.lt; have l3 := c3.lt
  have v3 : VI w3 m h O := v.frp (FrP.of0 F03 (P := fun _ => False)) fun _ _ h => h
  refine vrun_spec v3 (hc.gw (Gw.new F03)) (hi.gw (Gw.new F03)) (pCode_lt P) (by omega) hil fb fun w4 O4 s y v4 G4 hm ho => ?_
  refine new6 fun w5 c5 f5 => ?_
  refine mnew_spec fun w6 mm Om me6 n6 f6 => ?_
  have ltO : ∀ b, O b → b < w.heap.size := fun b hb => v.lt hb
  have k6 : ∀ {b : Nat} {vs : List Value}, Blk w3 b vs → w.heap.size ≤ b → Blk w6 b vs ∧ ¬ O4 b := fun hb hn => keepB hb (fun h' => by have := ltO _ h'; omega) (G4.trans (Gw.new (f5.trans f6)))
  obtain ⟨c16, n16⟩ := k6 (c1.fr (f2.trans f3) (by omega)) (by omega)
  obtain ⟨c26, n26⟩ := k6 (c2.fr f3 (by omega)) (by omega)
  obtain ⟨c36, n36⟩ := k6 c3 (by omega)
  have z4 := G4.1.1.1; have z5 := f5.1.1; have z6 := f6.1.1
  have hi6 : Src w6 Om ⟨some ⟨w1.heap.size, 0, none⟩, inp.length, inp.length⟩ (ints inp) := ⟨by simp [ints], .inr ⟨_, 0, _, rfl, c26, by rw [List.drop_zero, List.take_of_length_le (by simp [ints])], fun hb => by have := n6 _ hb; omega⟩⟩
  refine mrun_spec me6 hi6 hsz fb fun w7 Om7 y2 r me7 G7 A7 o7 l7 => ?_
  obtain ⟨s', hm', rfl⟩ := A7.ok hil A
  have := hm'.uniq hm
  subst this
  refine new6 fun w8 c8 f8 => ?_
  have F58 : Fr 0 0 w5 w8 := (frNew f6 n6 G7).trans f8
  have k8 : ∀ {b : Nat} {vs : List Value}, Blk w6 b vs → b < w5.heap.size → Blk w8 b vs := fun hb hn => (hb.frp G7.1 fun h' => by have := n6 _ h'; omega).fr f8 (by omega)
  refine drew_ ?_
  unfold Hold
  have F9 : Fr 0 0 w5 w8.drew := F58.drew
  have c58 := c5.fr F9 (by omega)
  have c8d := c8.drew
  have lc5 := c5.lt
  refine read6 c58 (read6 c58 (read6 c8d ?_))
  have G49 : Gw O4 w4 O4 w8.drew := Gw.new (f5.trans F9)
  have oy9 := ho.gw G49
  have oz9 : RdS .i64 w8.drew y2 s'.out := (o7.rd).fr f8.drew
  have l7 : s'.out.length ≤ 1024 := l7
  refine same_spec oy9.rd oz9 (by omega) fun wa fa => ?_
  have ca := c58.fr fa (by omega)
  refine ⟨hold_same c58 ca, ?_⟩
  rw [if_pos rfl]
  have GA : Gw O w O4 wa := ((Gw.new F03).trans G4).trans (G49.trans (Gw.new fa))
  have k3a : ∀ {b : Nat} {vs : List Value}, Blk w3 b vs → w.heap.size ≤ b → Blk wa b vs ∧ ¬ O4 b := fun hb hn => keepB hb (fun h' => by have := ltO _ h'; omega) (G4.trans (G49.trans (Gw.new fa)))
  obtain ⟨c1a, n1a⟩ := k3a (c1.fr (f2.trans f3) (by omega)) (by omega)
  obtain ⟨c2a, n2a⟩ := k3a (c2.fr f3 (by omega)) (by omega)
  obtain ⟨c3a, n3a⟩ := k3a c3 (by omega)
  refine sameInts_spec (RdS.ofSrc (hi.gw GA)) (RdS.ofI c2a rfl) (by omega) fun wb _ fb' => ?_
  have cb := ca.fr fb' (by omega)
  refine ⟨hold_same c58 cb, ?_⟩
  rw [if_pos rfl]
  have GB : Gw O w O4 wb := GA.trans (Gw.new fb')
  have c3b := c3a.fr fb' (by omega)
  refine sameBytes_spec (RdS.ofSrcB (hc.gw GB)) (RdS.ofBlk c3b (by rw [List.drop_zero, List.take_of_length_le (by simp)]) rfl) (by omega) fun wc _ fc => ?_
  have cc := cb.fr fc (by omega)
  refine ⟨hold_same c58 cc, ?_⟩
  rw [if_pos rfl]
  refine ldS cc (a := y.a) (l := y.l) (c := y.c) rfl ?_
  have oyc := ((oy9.gw (Gw.new fa)).gw (Gw.new fb')).gw (Gw.new fc)
  refine tidy_spec oyc ⟨hold_same c58 cc, ?_⟩
  have c1c := (c1a.fr fb' (by omega)).fr fc (by omega)
  refine lay6 c1c rfl fun wd cd fd sd => read6 cd ?_
  have Fd : FrP (fun b => b = w.heap.size) wc wd := FrP.of fd fun b h1 h2 => by omega
  have GC : Gw O w O4 wc := GB.trans (Gw.new fc)
  refine hK wd O4 y ⟨0, 0, s'.en, s'.rv, s'.out, s'.fuel⟩ ?_ ⟨GC.1.trans' Fd fun b e => .inr (by omega), GC.2⟩ ?_ l7
  · have v9 : VI wc m h O4 := v4.frp (FrP.of0 ((((f5.trans F9).trans fa).trans fb').trans fc) (P := fun _ => False)) fun _ _ h => h
    exact v9.frp Fd fun b hb e => n1a (e ▸ hb)
  · rcases oyc with h | ⟨h1, b, h2, h3, h4, h5⟩
    · exact .inl h
    · exact .inr ⟨h1, b, by omega, h3, h4, h5.frp Fd fun e => by omega⟩
theorem cut_any {l : Sl} {n mx : Nat} {K : Sl → Prop} (h1 : n ≤ mx) (h2 : mx ≤ l.c) (hK : ∀ x : Sl, x.l = n → x.c = mx → K x) : CutS 1 l 0 (n : Int) (mx : Int) K := by
  refine ⟨by omega, by omega, by omega, by omega, hK _ ?_ ?_⟩
  · show ((n : Nat) : Int).toNat - (0 : Int).toNat = n
    rw [Int.toNat_natCast]; rfl
  · show ((mx : Nat) : Int).toNat - (0 : Int).toNat = mx
    rw [Int.toNat_natCast]; rfl
theorem short_len {K : Sl → World → Prop} {x : Sl} (hc : x.l ≤ x.c) (hK : ∀ y : Sl, y.l = (if 128 < x.l then 128 else x.l) → K y w) : S.towerexact_short x w K := by
  unfold S.towerexact_short
  by_cases h : 128 < x.l
  · rw [if_pos (by simp only [decide_eq_true_eq]; omega)]
    refine cut_any (n := 128) (mx := x.c) (by omega) (by omega) fun y h1 h2 => hK y ?_
    rw [h1, if_pos h]
  · rw [if_neg (by simp only [decide_eq_true_eq]; omega)]
    exact hK x (by rw [if_neg h])
set_option maxHeartbeats 2000000 in
theorem Raw_spec {src : ByteArray} {list : Sl} {n fuel : Int} {K : Bool → World → Prop} (hl : RdS .i64 w list zs) (hcap : zs.length ≤ list.c) (hn : -9223372036854775808 ≤ n ∧ n < 9223372036854775808) (fb : -9223372036854775808 ≤ fuel ∧ fuel < 9223372036854775808)
    (hK : ∀ w', Fr 0 0 w w' → K true w') : S.towerexact_Raw src list n fuel w K := by
  unfold S.towerexact_Raw
  have hll := hl.len
  by_cases h1 : 1073741824 < src.size
  · rw [if_pos (by simp only [decide_eq_true_eq]; omega)]
    exact hK w (Fr.refl _ _ _)
  rw [if_neg (by simp only [decide_eq_true_eq]; omega)]
  by_cases h2 : 1073741824 < list.l
  · rw [if_pos (by simp only [decide_eq_true_eq]; omega)]
    exact hK w (Fr.refl _ _ _)
  rw [if_neg (by simp only [decide_eq_true_eq]; omega)]
  rw [W_id (x := (list.l : Int) + 1) (by omega) (by omega), show (list.l : Int) + 1 = ((list.l + 1 : Nat) : Int) by omega]
  refine pick_spec hn.1 hn.2 (by omega) fun r hr => ?_
  refine cut_any (by omega) (Nat.le_refl _) fun l2 hl2 hc2 => ?_
  refine re_new fun w1 x Oe e1 n1 f1 => mnew_spec fun w2 m Om me2 n2 f2 => ?_
  have F02 := f1.trans f2
  refine copyInts_spec (hl.fr F02) (by omega) fun w3 c3 f3 => ?_
  have F03 := F02.trans f3
  have e3 := e1.fr0 (f2.trans f3)
  have me3 := me2.fr0 f3
  have z1 := f1.1.1; have z2 := f2.1.1; have z3 := f3.1.1
  have d3 : ∀ b, Oe b → ¬ Om b := fun b hb hm => by have := e1.lt hb; have := n2 b hm; omega
  have nU : ∀ b, U Oe Om b → w.heap.size ≤ b := fun b hb => hb.elim (n1 b) fun h => by have := n2 b h; omega
  have hc3 : CaL w3 (U Oe Om) ⟨some ⟨w2.heap.size, 0, none⟩, zs.length, zs.length⟩ zs := ⟨rfl, rfl, .inr ⟨_, rfl, c3, fun hb => hb.elim (fun h => by have := e1.lt h; omega) fun h => by have := me2.lt h; omega⟩⟩
  rw [W_id (by dsimp only; omega) (by dsimp only; omega)]
  have ee : ((Sl.l ⟨some ⟨w2.heap.size, 0, none⟩, zs.length, zs.length⟩ : Nat) : Int) - (r : Int) = ((zs.length - r : Nat) : Int) := by show ((zs.length : Nat) : Int) - _ = _; omega
  rw [ee]
  refine ran_spec (lo := 0) e3 me3 d3 hc3 (by omega) (by omega) (by omega) fb fun w4 Oe4 Om4 y res e4 me4 d4 G4 A4 o4 l4 _ _ => ?_
  have F04 : Fr 0 0 w w4 := frNew F03 nU G4
  refine new6 fun w5 c5 f5 => ?_
  rw [if_neg (by simp)]
  have F05 := F04.trans f5
  refine re_new fun w6 x6 O6 e6 n6 f6 => ?_
  have z5 := F05.1.1
  have n6' : ∀ b, O6 b → w.heap.size ≤ b := fun b hb => by have := n6 b hb; omega
  refine compiled_spec e6 (by omega) (fun w7 O7 q e7 G7 A7 => ?_) fun w7 O7 P b e7 G7 A7 h200 hb1 hb2 hb3 => ?_
  · rw [if_neg (by simp), if_pos (by simp)]
    exact hK w7 (frNew (F05.trans f6) n6' G7)
  · rw [if_neg (by simp), if_neg (by simp)]
    have F07 : Fr 0 0 w w7 := frNew (F05.trans f6) n6' G7
    refine machine_spec fun w8 mm h v8 f8 g1 g2 => ?_
    have F08 := F07.trans f8
    refine copyInts_spec (hl.fr F08) (by omega) fun w9 c9 f9 => ?_
    have F09 := F08.trans f9
    refine short_len (by omega) fun l20 hl20 => ?_
    have hlr : l20.l ≤ 128 ∧ l20.l ≤ zs.length := by rw [hl20, hl2]; split <;> omega
    have z7 := F07.1.1; have z8 := f8.1.1
    have hOv : ∀ b, (b = mm ∨ b = h) → w7.heap.size ≤ b := fun b hb => hb.elim (fun e => by omega) fun e => by omega
    have ltv : ∀ b, (b = mm ∨ b = h) → b < w8.heap.size := fun b hb => v8.lt hb
    have hc9 : CaL w9 (fun b => b = mm ∨ b = h) ⟨some ⟨w8.heap.size, 0, none⟩, zs.length, zs.length⟩ zs := ⟨rfl, rfl, .inr ⟨_, rfl, c9, fun hb => by have := ltv _ hb; omega⟩⟩
    have cut := CaL.cut (lo := 0) (n := l20.l) (mx := zs.length) hc9 (K := fun x => S.towerexact_executed mm ⟨some ⟨b, 0, none⟩, (pCode P).length, (pCode P).length⟩ src x fuel w9 (fun Err_22 Pos_23 End_24 Ret_25 Out_26 Fuel_27 r28 w =>
            if r28 = true then
              S.towerexact_sameInts ⟨some ⟨w8.heap.size, 0, none⟩, zs.length, zs.length⟩ list w (fun r29 w =>
              K r29 w)
            else
              K false w)) (by omega) (Nat.le_refl _) fun l21 hs21 => ?_
    · rw [Nat.zero_add] at cut
      exact cut
    have v9 : VI w9 mm h (fun b => b = mm ∨ b = h) := v8.frp (FrP.of0 f9 (P := fun _ => False)) fun _ _ h => h
    have lb := hb3.lt
    have hb9 := (hb3.fr f8 (by omega)).fr f9 (by omega)
    have hcd : Src w9 (fun b => b = mm ∨ b = h) ⟨some ⟨b, 0, none⟩, (pCode P).length, (pCode P).length⟩ (byts (pCode P)) := ⟨by simp [byts], .inr ⟨b, 0, _, rfl, hb9, by rw [List.drop_zero]; exact List.take_of_length_le (by simp [byts]), fun hb => by have := hOv _ hb; omega⟩⟩
    refine executed_spec v9 A7 h200 hcd hs21 (by rw [take_len (by omega)]; omega) (by omega) fb fun w10 O10 y10 r10 v10 G10 o10 l10 => ?_
    rw [if_pos rfl]
    have F10 : Fr 0 0 w w10 := frNew F09 (fun b hb => by have := hOv b hb; omega) G10
    have hca := hc9.gw G10
    exact sameInts_spec hca.rd (hl.fr F10) (by omega) fun wb _ fb => hK wb (F10.trans fb)
end Go.Proofs.Qxb6500562aGreat
