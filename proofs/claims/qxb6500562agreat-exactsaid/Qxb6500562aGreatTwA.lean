/-
  towerexact's small helpers: pick, sameInts, sameBytes, copyInts, copyBytes, same, tidy, short; the three engines, each with what it owns.
-/
import Derived.Test.Qxb6500562aGreatSmR
namespace Go.Proofs.Qxb6500562aGreat
open Go.Den Go.Zip
set_option linter.unusedVariables false
set_option linter.unusedSimpArgs false
variable {w w' w1 w2 : World} {g : Nat} {inp : List Int} {O O' O1 O2 : Nat → Prop}

theorem cell_fr {b o : Nat} (f : Fr 0 0 w w') (hb : b < w.heap.size) : w'.cell? ⟨b, o, none⟩ = w.cell? ⟨b, o, none⟩ := by
  unfold World.cell?
  show (match w'.heap[b]? with | some (.cells c _ _) => _ | _ => _) = (match w.heap[b]? with | some (.cells c _ _) => _ | _ => _)
  rw [f.2 b hb (by omega)]
/-- A slice of numbers that is only read. -/
structure RdS (k : IntKind) (w : World) (s : Sl) (zs : List Int) : Prop where
  len : s.l = zs.length
  ex : zs = [] ∨ ∃ b o, s.a = some ⟨b, o, none⟩ ∧ b < w.heap.size ∧ ∀ i x, zs[i]? = some x → w.cell? ⟨b, o + i, none⟩ = some (.int k x)
variable {k : IntKind} {s a b : Sl} {zs : List Int}
theorem RdS.fr (h : RdS k w s zs) (f : Fr 0 0 w w') : RdS k w' s zs := by
  refine ⟨h.len, ?_⟩
  rcases h.ex with e | ⟨b, o, h1, h2, h3⟩
  · exact .inl e
  · exact .inr ⟨b, o, h1, Nat.lt_of_lt_of_le h2 f.1.1, fun i x hx => by rw [cell_fr f h2]; exact h3 i x hx⟩
theorem RdS.get {i : Nat} {x : Int} {K : Int → Prop} (h : RdS k w s zs) (hx : zs[i]? = some x) (hk : K x) : Ix s.a s.l (i : Int) fun b o => LdI k w ⟨b, o + Int.toNat (i : Int) * 1, none⟩ K := by
  obtain ⟨hi, _⟩ := List.getElem?_eq_some_iff.1 hx
  rcases h.ex with e | ⟨b, o, h1, h2, h3⟩
  · rw [e] at hi; simp at hi
  · exact ix h1 (by omega) (by have := h.len; omega) ⟨x, by rw [Int.toNat_natCast, Nat.mul_one]; exact h3 i x hx, hk⟩
theorem RdS.cells (h : RdS k w s zs) : CellsAt w s.a s.l (zs.map (.int k)) := by
  refine ⟨by simp [h.len], ?_⟩
  rcases h.ex with e | ⟨b, o, h1, h2, h3⟩
  · left; rw [h.len, e]; rfl
  · right
    refine ⟨b, o, h1, fun i hi => ?_⟩
    have hi' : i < zs.length := by rw [← h.len]; exact hi
    rw [h3 i zs[i] (List.getElem?_eq_getElem hi'), List.getElem?_map, List.getElem?_eq_getElem hi']; rfl
theorem RdS.ofBlk {bl o n c : Nat} {us : List Value} (h : Blk w bl us) (he : (us.drop o).take n = zs.map (.int k)) (hn : n = zs.length) : RdS k w ⟨some ⟨bl, o, none⟩, n, c⟩ zs := by
  refine ⟨hn, .inr ⟨bl, o, rfl, h.lt, fun i x hx => ?_⟩⟩
  rw [h.cell]
  have := congrArg (fun l : List Value => l[i]?) he
  obtain ⟨hi, _⟩ := List.getElem?_eq_some_iff.1 hx
  simp only [List.getElem?_take, List.getElem?_drop, List.getElem?_map, hx] at this
  rw [if_pos (by omega)] at this
  exact this
theorem RdS.ofI {bl : Nat} {n c : Nat} (h : Blk w bl (ints zs)) (hn : n = zs.length) : RdS .i64 w ⟨some ⟨bl, 0, none⟩, n, c⟩ zs := RdS.ofBlk h (by rw [List.drop_zero, List.take_of_length_le (by simp [ints]; omega)]; rfl) hn
theorem RdS.ofSrc (h : Src w O s (ints zs)) : RdS .i64 w s zs := by
  obtain ⟨h1, h2⟩ := h
  have hl : s.l = zs.length := by simpa [ints] using h1.symm
  rcases h2 with h2 | ⟨b, o, us, h3, h4, h5, _⟩
  · exact ⟨hl, .inl (List.length_eq_zero_iff.1 (by omega))⟩
  · have := RdS.ofBlk (k := .i64) (zs := zs) (c := s.c) h4 (n := s.l) h5 hl
    rw [← h3] at this; exact this
theorem OutS.rd {n0 : Nat} (h : OutS n0 O w s zs) : RdS .i64 w s zs := by
  rcases h with ⟨rfl, rfl⟩ | ⟨_, b, _, _, rfl, h⟩
  · exact ⟨rfl, .inl rfl⟩
  · exact RdS.ofI h rfl
theorem RdS.heq (h : RdS k w s zs) (e : w'.heap = w.heap) : RdS k w' s zs := by
  refine ⟨h.len, ?_⟩
  rcases h.ex with e' | ⟨b, o, h1, h2, h3⟩
  · exact .inl e'
  · exact .inr ⟨b, o, h1, by rw [e]; exact h2, fun i x hx => by rw [← h3 i x hx]; unfold World.cell?; rw [e]⟩
theorem RdS.nil : RdS k w ⟨none, 0, 0⟩ [] := ⟨rfl, .inl rfl⟩
theorem sameInts_spec {K : Bool → World → Prop} (ha : RdS .i64 w a zs) (hb : RdS .i64 w b zs) (hl : zs.length < 4611686018427387904) (hK : ∀ w', w'.heap = w.heap → Fr 0 0 w w' → K true w') : S.towerexact_sameInts a b w K := by
  unfold S.towerexact_sameInts
  have h1 := ha.len
  have h2 := hb.len
  rw [if_neg (by simp only [bne_iff_ne, ne_eq]; omega)]
  refine loopN (fun m st v => ∃ i : Nat, st = ((i : Int), ()) ∧ m + i = zs.length ∧ v.heap = w.heap ∧ Fr 0 0 w v) zs.length ⟨0, rfl, rfl, rfl, Fr.refl _ _ _⟩ ?_
  rintro m _ v ⟨i, rfl, hm, hv, fv⟩ Q hQ
  dsimp only
  by_cases hi : i < zs.length
  · rw [if_pos (by simp only [decide_eq_true_eq]; omega)]
    have he : zs[i]? = some zs[i] := List.getElem?_eq_getElem hi
    refine drew_ ((ha.heq (w' := v.drew) hv).get he ((hb.heq (w' := v.drew) hv).get he ?_))
    rw [if_neg (by simp), W_succ (by omega)]
    exact let_ (hQ (m - 1) _ _ (by omega) ⟨i + 1, rfl, by omega, hv, fv.drew⟩)
  · rw [if_neg (by simp only [decide_eq_true_eq]; omega)]
    exact hK v hv fv
theorem sameBytes_spec {K : Bool → World → Prop} (ha : RdS .u8 w a zs) (hb : RdS .u8 w b zs) (hl : zs.length < 4611686018427387904) (hK : ∀ w', w'.heap = w.heap → Fr 0 0 w w' → K true w') : S.towerexact_sameBytes a b w K := by
  unfold S.towerexact_sameBytes
  have h1 := ha.len
  have h2 := hb.len
  rw [if_neg (by simp only [bne_iff_ne, ne_eq]; omega)]
  refine loopN (fun m st v => ∃ i : Nat, st = ((i : Int), ()) ∧ m + i = zs.length ∧ v.heap = w.heap ∧ Fr 0 0 w v) zs.length ⟨0, rfl, rfl, rfl, Fr.refl _ _ _⟩ ?_
  rintro m _ v ⟨i, rfl, hm, hv, fv⟩ Q hQ
  dsimp only
  by_cases hi : i < zs.length
  · rw [if_pos (by simp only [decide_eq_true_eq]; omega)]
    have he : zs[i]? = some zs[i] := List.getElem?_eq_getElem hi
    refine drew_ ((ha.heq (w' := v.drew) hv).get he ((hb.heq (w' := v.drew) hv).get he ?_))
    rw [if_neg (by simp), W_succ (by omega)]
    exact let_ (hQ (m - 1) _ _ (by omega) ⟨i + 1, rfl, by omega, hv, fv.drew⟩)
  · rw [if_neg (by simp only [decide_eq_true_eq]; omega)]
    exact hK v hv fv
/-- A fresh block filled from a slice. -/
theorem copyFill {bl : Nat} {K : Int → World → Prop} (h : RdS k w s zs) (hb : Blk w bl (List.replicate zs.length (.int k 0))) (hK : ∀ n w', Blk w' bl (zs.map (.int k)) → Fr bl 1 w w' → K n w') : CopyS 1 w ⟨some ⟨bl, 0, none⟩, zs.length, zs.length⟩ s K := by
  have hm : Nat.min s.l zs.length = zs.length := by rw [h.len]; exact Nat.min_self _
  refine ⟨zs.map (.int k), ?_, by simp [okV], ?_⟩
  · rw [show Nat.min s.l (Sl.l ⟨some ⟨bl, 0, none⟩, zs.length, zs.length⟩) * 1 = s.l by rw [Nat.mul_one]; show Nat.min s.l zs.length = _; rw [hm, h.len]]
    exact h.cells
  · refine putS_blk hb (by simp) fun w' b' f' _ => hK _ w' ?_ f'
    simpa using b'
theorem copyInts_spec {K : Sl → World → Prop} (h : RdS .i64 w s zs) (hl : zs.length ≤ 17592186044416) (hK : ∀ w', Blk w' w.heap.size (ints zs) → Fr 0 0 w w' → K ⟨some ⟨w.heap.size, 0, none⟩, zs.length, zs.length⟩ w') : S.towerexact_copyInts s w K := by
  unfold S.towerexact_copyInts
  have hsl := h.len
  rw [hsl]
  refine mkS (by omega) (by omega) (by omega) (by omega) fun w1 b1 f1 s1 => ?_
  rw [Int.toNat_natCast] at *
  rw [reps_int] at b1
  refine copyFill (h.fr f1) b1 fun n w2 b2 f2 => hK w2 b2 ((f1.any _ 1).trans f2 |>.fresh (Nat.le_refl _) 0 0)
theorem copyBytes_spec {K : Sl → World → Prop} (h : RdS .u8 w s zs) (hl : zs.length ≤ 17592186044416) (hK : ∀ w', Blk w' w.heap.size (zs.map (.int .u8)) → Fr 0 0 w w' → K ⟨some ⟨w.heap.size, 0, none⟩, zs.length, zs.length⟩ w') : S.towerexact_copyBytes s w K := by
  unfold S.towerexact_copyBytes
  have hsl := h.len
  rw [hsl]
  refine mkS (by omega) (by omega) (by omega) (by omega) fun w1 b1 f1 s1 => ?_
  rw [Int.toNat_natCast] at *
  rw [reps_int] at b1
  refine copyFill (h.fr f1) b1 fun n w2 b2 f2 => hK w2 b2 ((f1.any _ 1).trans f2 |>.fresh (Nat.le_refl _) 0 0)
theorem tmod_nat (a b : Nat) : Int.tmod (a : Int) (b : Int) = ((a % b : Nat) : Int) := (Int.ofNat_tmod _ _).symm
theorem pick_spec {c : Int} {n : Nat} {K : Int → World → Prop} (h0 : -9223372036854775808 ≤ c) (h1 : c < 9223372036854775808) (hn : 0 < n) (hK : ∀ r : Nat, r < n → K (r : Int) w) : S.towerexact_pick c n w K := by
  unfold S.towerexact_pick
  have fin : ∀ x : Int, 0 ≤ x → NonZ (n : Int) (K (Int.tmod x n) w) := fun x hx => by
    refine ⟨by omega, ?_⟩
    have e : Int.tmod x n = ((x.toNat % n : Nat) : Int) := by
      have : x = (x.toNat : Int) := by omega
      rw [this]; exact tmod_nat _ _
    rw [e]
    exact hK _ (Nat.mod_lt _ hn)
  refine join_ ?_
  dsimp only
  by_cases hc : c < 0
  · rw [if_pos (by simp only [decide_eq_true_eq]; omega)]
    rw [W_id (x := c + 1) (by omega) (by omega), W_id (by omega) (by omega)]
    exact let_ (fin _ (by omega))
  · rw [if_neg (by simp only [decide_eq_true_eq]; omega)]
    exact fin _ (by omega)
theorem same_spec {e p en r fu : Int} {K : Bool → World → Prop} (ha : RdS .i64 w a zs) (hb : RdS .i64 w b zs) (hl : zs.length < 4611686018427387904) (hK : ∀ w', Fr 0 0 w w' → K true w') : S.towerexact_same e p en r a fu e p en r b fu w K := by
  unfold S.towerexact_same
  refine newB fun w1 b1 f1 s1 => newB fun w2 b2 f2 s2 => ?_
  have c1 := b1.fr f2 (by omega)
  have F := f1.trans f2
  refine ldI c1 rfl (ldI b2 rfl ?_)
  rw [if_neg (by simp)]
  refine ldI c1 rfl (ldI b2 rfl ?_)
  rw [if_neg (by simp)]
  refine ldI c1 rfl (ldI b2 rfl ?_)
  rw [if_neg (by simp)]
  refine ldI c1 rfl (ldI b2 rfl ?_)
  rw [if_neg (by simp)]
  refine ldI c1 rfl (ldI b2 rfl ?_)
  rw [if_neg (by simp)]
  refine ldS c1 (a := a.a) (l := a.l) (c := a.c) rfl (ldS b2 (a := b.a) (l := b.l) (c := b.c) rfl ?_)
  exact sameInts_spec (ha.fr F) (hb.fr F) hl fun w3 _ f3 => hK w3 (F.trans f3)
theorem tidy_spec {n0 : Nat} {K : Bool → World → Prop} (h : OutS n0 O w s zs) (hK : K true w) : S.towerexact_tidy s w K := by
  unfold S.towerexact_tidy
  rcases h with ⟨rfl, rfl⟩ | ⟨hne, b, _, _, rfl, h⟩
  · rw [if_neg (by decide), if_neg (by decide)]; exact hK
  · have : 0 < zs.length := List.length_pos_iff.2 hne
    rw [if_neg (by simp), if_pos (by simp only [decide_eq_true_eq]; omega)]
    exact hK
theorem add_zero (x : Option Addr) : x.map (·.add 0) = x := by cases x <;> simp [Addr.add]
/-- What two own together. -/
def U (O1 O2 : Nat → Prop) (b : Nat) : Prop := O1 b ∨ O2 b
theorem Gw.u1 {O1' : Nat → Prop} (G : Gw O1 w O1' w') (O2 : Nat → Prop) : Gw (U O1 O2) w (U O1' O2) w' := ⟨G.1.mono fun b hb => .inl hb, fun b hb => hb.elim (fun h => (G.2 b h).elim (fun h => .inl (.inl h)) .inr) fun h => .inl (.inr h)⟩
theorem Gw.u2 {O2' : Nat → Prop} (G : Gw O2 w O2' w') (O1 : Nat → Prop) : Gw (U O1 O2) w (U O1 O2') w' := ⟨G.1.mono fun b hb => .inr hb, fun b hb => hb.elim (fun h => .inl (.inl h)) fun h => (G.2 b h).elim (fun h => .inl (.inr h)) .inr⟩
/-- The real engine. -/
def RE (w : World) (g : Nat) (O : Nat → Prop) : Prop := ∃ ck ps ar lx gb m h Og Ov, EN w g ck ps ar lx gb m h Og Ov ∧ O = eO ck ps ar lx gb Og Ov
theorem RE.frp {Q : Nat → Prop} (e : RE w g O) (F : FrP Q w w') (hn : ∀ b, O b → ¬ Q b) : RE w' g O := by
  obtain ⟨ck, ps, ar, lx, gb, m, h, Og, Ov, e, rfl⟩ := e
  exact ⟨ck, ps, ar, lx, gb, m, h, Og, Ov, ⟨e.c.frp F fun b hb => hn _ (.inr (.inr hb)), e.v.frp F fun b hb => hn _ (.inr (.inl hb)), e.z.frp F fun b hb => hn _ (.inl hb), e.gv, e.gc, e.vc⟩, rfl⟩
theorem RE.fr0 (e : RE w g O) (F : Fr 0 0 w w') : RE w' g O := e.frp (FrP.of0 F) fun _ _ h => h
theorem RE.lt {b : Nat} (e : RE w g O) (hb : O b) : b < w.heap.size := by
  obtain ⟨ck, ps, ar, lx, gb, m, h, Og, Ov, e, rfl⟩ := e
  exact e.lt hb
theorem re_new {K : Nat → World → Prop} (hK : ∀ w' g O, RE w' g O → (∀ b, O b → w.heap.size ≤ b) → Fr 0 0 w w' → K g w') : S.tower_New w K :=
  tower_spec fun w' g ck ps ar lx gb m h Og Ov e n F => hK w' g _ ⟨ck, ps, ar, lx, gb, m, h, Og, Ov, e, rfl⟩ n F
theorem re_run {src : ByteArray} {input : Sl} {fuel : Int} {K : Int → Int → Int → Int → Sl → Int → World → Prop} (e : RE w g O) (hi : Src w O input (ints inp)) (hsz : src.size < 9223372036854775808) (fb : -9223372036854775808 ≤ fuel ∧ fuel < 9223372036854775808)
    (hK : ∀ w' O' x r, RE w' g O' → Gw O w O' w' → RunA src inp fuel r → OutS w.heap.size O' w' x r.out → K r.e r.pos r.en r.rv x r.fuel w') : S.gen_Engine_Run g src input fuel w K := by
  obtain ⟨ck, ps, ar, lx, gb, m, h, Og, Ov, e, rfl⟩ := e
  exact grun_spec e hi hsz fb fun w' gb' Og' Ov' x r e' G A o => hK w' _ x r ⟨ck, ps, ar, lx, gb', m, h, Og', Ov', e', rfl⟩ G A o
theorem re_compile {src : ByteArray} {K : Sl → Int → Int → World → Prop} (e : RE w g O) (hsz : src.size < 9223372036854775808)
    (hK : ∀ w' O' x er pos res, RE w' g O' → Gw O w O' w' → CkA src res → CmpA w.heap.size O' w' res x er pos → K x er pos w') : S.gen_Engine_Compile g src w K := by
  obtain ⟨ck, ps, ar, lx, gb, m, h, Og, Ov, e, rfl⟩ := e
  exact gcompile_spec e hsz fun w' gb' Og' x er pos res e' G A o => hK w' _ x er pos res ⟨ck, ps, ar, lx, gb', m, h, Og', Ov, e', rfl⟩ G A o
theorem re_check {K : Bool → World → Prop} (e : RE w g O) (hK : ∀ w', Fr 0 0 w w' → K true w') : S.gen_Engine_Check g w K := by
  obtain ⟨ck, ps, ar, lx, gb, m, h, Og, Ov, e, rfl⟩ := e
  exact e.z.check hK
end Go.Proofs.Qxb6500562aGreat
