/-
  towerexact: ran.
-/
import Derived.Test.Qxb6500562aGreatTwA
namespace Go.Proofs.Qxb6500562aGreat
open Go.Den Go.Zip
set_option linter.unusedVariables false
set_option linter.unusedSimpArgs false
variable {w w' w1 w2 : World} {g : Nat} {inp : List Int} {O O' O1 O2 : Nat → Prop} {k : IntKind} {s a b l : Sl} {zs : List Int}

/-- A list of the caller's: with no spare room. -/
structure CaL (w : World) (O : Nat → Prop) (l : Sl) (zs : List Int) : Prop where
  len : l.l = zs.length
  cap : l.c = zs.length
  ex : zs = [] ∨ ∃ b, l.a = some ⟨b, 0, none⟩ ∧ Blk w b (ints zs) ∧ ¬ O b
theorem CaL.gw (h : CaL w O l zs) (G : Gw O w O' w') : CaL w' O' l zs := by
  refine ⟨h.len, h.cap, ?_⟩
  rcases h.ex with e | ⟨b, h1, h2, h3⟩
  · exact .inl e
  · obtain ⟨p, q⟩ := keepB h2 h3 G
    exact .inr ⟨b, h1, p, q⟩
theorem CaL.rd (h : CaL w O l zs) : RdS .i64 w l zs := by
  rcases h.ex with e | ⟨b, h1, h2, h3⟩
  · exact ⟨h.len, .inl e⟩
  · have := RdS.ofI (c := l.c) h2 h.len
    rw [← h1] at this; exact this
theorem CaL.cut {lo n mx : Nat} {K : Sl → Prop} (h : CaL w O l zs) (h1 : lo + n ≤ mx) (h2 : mx ≤ zs.length) (hK : ∀ x, Src w O x (ints ((zs.drop lo).take n)) → K x) : CutS 1 l (lo : Int) ((lo + n : Nat) : Int) (mx : Int) K := by
  have hc := h.cap
  refine ⟨by omega, by omega, by omega, by omega, hK _ ⟨?_, ?_⟩⟩
  · show _ = ((lo + n : Nat) : Int).toNat - ((lo : Nat) : Int).toNat
    simp only [ints, List.length_map, List.length_take, List.length_drop, Int.toNat_natCast]
    omega
  · dsimp only
    rw [Int.toNat_natCast, Int.toNat_natCast, Int.toNat_natCast, show lo + n - lo = n by omega]
    by_cases hn : n = 0
    · exact .inl hn
    · right
      rcases h.ex with e | ⟨b, e1, e2, e3⟩
      · rw [e] at h2; simp at h2; omega
      · refine ⟨b, lo, ints zs, ?_, e2, ?_, e3⟩
        · rw [if_neg (by omega), e1]
          show some ((⟨b, 0, none⟩ : Addr).add (lo * 1)) = _
          rw [add_mk, Nat.mul_one, Nat.zero_add]
        · simp [ints, List.map_drop, List.map_take]
theorem OutS.gw {n0 : Nat} (h : OutS n0 O w s zs) (G : Gw O w O' w') : OutS n0 O' w' s zs := by
  rcases h with h | ⟨h1, b, h2, h3, h4, h5⟩
  · exact .inl h
  · obtain ⟨p, q⟩ := keepB h5 h3 G
    exact .inr ⟨h1, b, h2, q, h4, p⟩
theorem OutS.wide {n0 n1 : Nat} (h : OutS n0 O w s zs) (hn : n1 ≤ n0) (ho : ∀ b, n0 ≤ b → O' b → O b) : OutS n1 O' w s zs := by
  rcases h with h | ⟨h1, b, h2, h3, h4, h5⟩
  · exact .inl h
  · exact .inr ⟨h1, b, by omega, fun hb => h3 (ho b h2 hb), h4, h5⟩
/-- A fresh record of six cells. -/
theorem new6 {a0 a1 a2 a3 a5 : Int} {a4 : Sl} {K : Nat → World → Prop} (hK : ∀ w', Blk w' w.heap.size [.int .i64 a0, .int .i64 a1, .int .i64 a2, .int .i64 a3, .slice a4.a a4.l a4.c, .int .i64 a5] → Fr 0 0 w w' → K w.heap.size w') :
    New w (.cells #[.int .i64 0, .int .i64 0, .int .i64 0, .int .i64 0, .slice none 0 0, .int .i64 0] 31) fun p w => St1 w ⟨p, 0, none⟩ (.int .i64 a0) fun w => St1 w ⟨p, 1, none⟩ (.int .i64 a1) fun w => St1 w ⟨p, 2, none⟩ (.int .i64 a2) fun w => St1 w ⟨p, 3, none⟩ (.int .i64 a3) fun w => St1 w ⟨p, 4, none⟩ (.slice a4.a a4.l a4.c) fun w => St1 w ⟨p, 5, none⟩ (.int .i64 a5) fun w => K p w :=
  newB fun w1 c1 f1 s1 => lay6 c1 rfl fun w2 c2 f2 s2 => hK w2 c2 ((f1.any _ 1).trans f2 |>.fresh (Nat.le_refl _) 0 0)
theorem take_len {lo n : Nat} (h : lo + n ≤ zs.length) : ((zs.drop lo).take n).length = n := by simp; omega
set_option maxHeartbeats 2000000 in
theorem ran_spec {x m lo n ex : Nat} {src : ByteArray} {list : Sl} {fuel : Int} {Oe Om : Nat → Prop} {K : Int → Int → Int → Int → Sl → Int → Bool → World → Prop} (e : RE w x Oe) (me : ME w m Om) (hd : ∀ b, Oe b → ¬ Om b) (hl : CaL w (U Oe Om) list zs) (hle : lo + n + ex ≤ zs.length) (hzs : zs.length ≤ 17592186044416) (hsz : src.size < 9223372036854775808) (fb : -9223372036854775808 ≤ fuel ∧ fuel < 9223372036854775808)
    (hK : ∀ w' Oe' Om' y r, RE w' x Oe' → ME w' m Om' → (∀ b, Oe' b → ¬ Om' b) → Gw (U Oe Om) w (U Oe' Om') w' → RunA src ((zs.drop lo).take n) fuel r → OutS w.heap.size (U Oe' Om') w' y r.out → r.out.length ≤ 1024 → (∀ b, Oe' b → Oe b ∨ w.heap.size ≤ b) → (∀ b, Om' b → Om b ∨ w.heap.size ≤ b) → K r.e r.pos r.en r.rv y r.fuel true w') : S.towerexact_ran x m src list (lo : Int) (n : Int) (ex : Int) fuel w K := by
  unfold S.towerexact_ran
  refine newB fun w1 c1 f1 s1 => ?_
  have ltU : ∀ b, U Oe Om b → b < w.heap.size := fun b hb => hb.elim e.lt me.lt
  have hcap := hl.cap
  have hl1 := hl.gw (Gw.new f1)
  refine copyInts_spec hl1.rd hzs fun w2 c2 f2 => ?_
  have hl2 := hl1.gw (Gw.new f2)
  rw [W_id (x := (lo : Int) + (n : Int)) (by omega) (by omega), show (lo : Int) + (n : Int) = ((lo + n : Nat) : Int) by omega, W_id (by omega) (by omega), show ((lo + n : Nat) : Int) + (ex : Int) = ((lo + n + ex : Nat) : Int) by omega]
  have hcz : (list.c : Int) = ((zs.length : Nat) : Int) := by rw [hcap]
  rw [hcz]
  refine hl2.cut (by omega) (by omega) fun l3 hs3 => ?_
  have tl : ((zs.drop lo).take n).length = n := take_len (by omega)
  refine copyInts_spec (RdS.ofSrc hs3) (by omega) fun w3 c3 f3 => ?_
  have hl3 := hl2.gw (Gw.new f3)
  have F13 := f2.trans f3
  have F03 := f1.trans F13
  refine hl3.cut (by omega) (by omega) fun l5 hs5 => ?_
  have e3 := e.fr0 F03
  have me3 := me.fr0 F03
  have z1 := f1.1.1; have z2 := f2.1.1; have z3 := f3.1.1
  have l1 := c1.lt; have l2 := c2.lt; have l3' := c3.lt
  refine re_run e3 (hs5.mono fun b _ hb => .inl hb) hsz fb fun w4 Oe4 y r e4 G4 A4 o4 => ?_
  have GU4 := Gw.u1 G4 Om
  have z4 := G4.1.1.1
  have me4 : ME w4 m Om := me3.frp G4.1 fun b hb he => hd b he hb
  refine new6 fun w5 c5 f5 => ?_
  have l5' := c5.lt
  have nU : ∀ b, w.heap.size ≤ b → ¬ U Oe Om b := fun b hb hu => by have := ltU b hu; omega
  -- what lay there stands behind the real run
  have k5 : ∀ {b : Nat} {vs : List Value}, Blk w3 b vs → w.heap.size ≤ b → Blk w5 b vs ∧ ¬ U Oe4 Om b := fun hb hn => keepB hb (nU _ hn) (GU4.trans (Gw.new f5))
  obtain ⟨c15, n15⟩ := k5 (c1.fr F13 (by omega)) (by omega)
  obtain ⟨c25, n25⟩ := k5 (c2.fr f3 (by omega)) (by omega)
  obtain ⟨c35, n35⟩ := k5 c3 (by omega)
  have e5 := e4.fr0 f5
  have me5 := me4.fr0 f5
  have hi5 : Src w5 Om ⟨some ⟨w2.heap.size, 0, none⟩, ((zs.drop lo).take n).length, ((zs.drop lo).take n).length⟩ (ints ((zs.drop lo).take n)) := ⟨by simp [ints], .inr ⟨_, 0, _, rfl, c35, by rw [List.drop_zero, List.take_of_length_le (by simp [ints])], fun hb => n35 (.inr hb)⟩⟩
  refine mrun_spec me5 hi5 hsz fb fun w6 Om6 y2 r2 me6 G6 A6 o6 out1 => ?_
  have := A4.uniq A6
  subst this
  have GU6 := Gw.u2 G6 Oe4
  have d4 : ∀ b, Oe4 b → ¬ Om b := fun b hb hm => (G4.2 b hb).elim (fun h => hd b h hm) fun h => by have := me.lt hm; omega
  have e6 : RE w6 x Oe4 := e5.frp G6.1 d4
  have d6 : ∀ b, Oe4 b → ¬ Om6 b := fun b hb hm => (G6.2 b hm).elim (d4 b hb) fun h => by have := e5.lt hb; omega
  refine new6 fun w7 c7 f7 => ?_
  have z6 := G6.1.1.1; have z5 := f5.1.1; have z7 := f7.1.1
  have G67 : Gw (U Oe4 Om6) w6 (U Oe4 Om6) w7 := Gw.new f7
  have GA : Gw (U Oe4 Om) w5 (U Oe4 Om6) w7 := GU6.trans G67
  obtain ⟨c17, n17⟩ := keepB c15 n15 GA
  obtain ⟨c27, n27⟩ := keepB c25 n25 GA
  have n55 : ¬ U Oe4 Om w4.heap.size := fun hb => hb.elim (fun h => by have := e4.lt h; omega) fun h => by have := me4.lt h; omega
  obtain ⟨c57, n57⟩ := keepB c5 n55 GA
  have oy4 : OutS w3.heap.size (U Oe4 Om) w4 y r.out := o4.wide (Nat.le_refl _) fun b hb hu => hu.elim id fun h => by have := me3.lt h; omega
  have oy7 := (oy4.gw (Gw.new f5)).gw GA
  have oz7 : RdS .i64 w7 y2 r.out := (o6.rd).fr f7
  have hl7 := (hl3.gw (GU4.trans (Gw.new f5))).gw GA
  refine join_ ?_
  refine read6 c57 (read6 c7 ?_)
  refine same_spec oy7.rd oz7 (by omega) fun w8 f8 => ?_
  rw [if_neg (by simp)]
  have hl8 := hl7.gw (Gw.new f8)
  refine sameInts_spec hl8.rd (RdS.ofI (c27.fr f8 (by omega)) rfl) (by omega) fun w9 _ f9 => ?_
  rw [if_neg (by simp)]
  have F9 := f8.trans f9.drew
  refine drew_ ?_
  unfold Hold
  have c59 := c57.fr F9 (by omega)
  have c19 := c17.fr F9 (by omega)
  refine read6 c59 (ldS c59 rfl ?_)
  have oy9 := oy7.gw (Gw.new F9)
  refine tidy_spec oy9 ⟨hold_same c59 c59, ?_⟩
  refine lay6 c19 rfl fun w10 c10 f10 s10 => read6 c10 ?_
  have F10 : FrP (fun b => b = w.heap.size) w9.drew w10 := FrP.of f10 fun b h1 h2 => by omega
  have GB : Gw (U Oe Om) w (U Oe4 Om6) w9.drew := (((Gw.new F03).trans (GU4.trans (Gw.new f5))).trans GA).trans (Gw.new F9)
  refine hK w10 Oe4 Om6 y r (((e6.fr0 f7).fr0 F9).frp F10 fun b hb e => n17 (e ▸ .inl hb)) (((me6.fr0 f7).fr0 F9).frp F10 fun b hb e => n17 (e ▸ .inr hb)) d6 ⟨GB.1.trans' F10 fun b e => .inr (by omega), GB.2⟩ A4 ?_ out1 (fun b hb => (G4.2 b hb).elim .inl fun h => .inr (by omega)) (fun b hb => (G6.2 b hb).elim .inl fun h => .inr (by omega))
  rcases oy9 with h | ⟨h1, b, h2, h3, h4, h5⟩
  · exact .inl h
  · exact .inr ⟨h1, b, by omega, h3, h4, h5.frp F10 fun e => by omega⟩
end Go.Proofs.Qxb6500562aGreat
