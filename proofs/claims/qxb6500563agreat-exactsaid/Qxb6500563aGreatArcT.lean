/-
  The real container: drain, List, Unpack, New; the tower.
-/
import Derived.Test.Qxb6500563aGreatArcS
namespace Go.Proofs.Qxb6500563aGreat
open Go.Den Go.Zip
set_option linter.unusedVariables false
set_option linter.unusedSimpArgs false
variable {w w' : World} {B : Nat} {ps : PS} {rs : RS} {L J : List Nat} {of_ tb gn : Nat → Nat}

/-- The gain holds these bytes. -/
def GainIs (gn : Nat → Nat) (out : List Nat) : Prop := ∀ i, i < out.length → gn i = out.getD i 0

/-- The state of drain between two chunks, and what one chunk more does. -/
theorem arch_gather {raw : ByteArray} {p : Nat} {Out : ByteArray} {st er po : Int} {out add : List Nat} {K : Int → Int → Int → World → Prop} (h : RA w B ps rs L J of_ tb gn) (hp : Blk w p [.string Out, .int .i64 st, .int .i64 er, .int .i64 po]) (hpB : B + 66 ≤ p)
    (hO : bt Out = add) (hl : (out ++ add).length ≤ 256) (hg : GainIs gn out)
    (hK : ∀ w' gn', RA w' B ps rs L J of_ tb gn' → Blk w' p [.string Out, .int .i64 st, .int .i64 er, .int .i64 po] → GainIs gn' (out ++ add) → Fr (B + 65) 1 w w' → K ((out ++ add).length : Int) ((sumAB (out ++ add)).1 : Int) ((sumAB (out ++ add)).2 : Int) w') :
    LoopP (σ := Int × Int × Int × Int × Unit) (fun st18 w next19 =>
            LdStr w ⟨p, 0, none⟩ fun Out_20 =>
            if (decide (st18.2.2.2.1 < (Out_20.size : Int))) = true then
              LdStr w ⟨p, 0, none⟩ fun Out_21 =>
              IxStr Out_21 st18.2.2.2.1 fun c22 =>
              LdS w ⟨B + 61, 6, none⟩ fun gain_23 =>
              Ix gain_23.a gain_23.l st18.1 fun b24 o25 =>
              St1 w ⟨b24, o25 + Int.toNat st18.1 * 1, none⟩ (.int .u8 c22) fun w =>
              Let (W (st18.1 + 1)) fun n_26 =>
              Let (Int.tmod (W (st18.2.1 + (W c22))) 251) fun lo_27 =>
              Let (Int.tmod (W (st18.2.2.1 + lo_27)) 251) fun hi_28 =>
              Let (W (st18.2.2.2.1 + 1)) fun j_29 =>
              next19 (n_26, lo_27, hi_28, j_29, ()) w
            else
              K st18.1 st18.2.1 st18.2.2.1 w) ((out.length : Int), ((sumAB out).1 : Int), ((sumAB out).2 : Int), 0, ()) w := by
  have hOs : Out.size = add.length := by rw [← bt_length, hO]
  rw [List.length_append] at hl
  refine loopN (fun m s v => ∃ (j : Nat) (gn' : Nat → Nat), s = (((out ++ add.take j).length : Int), ((sumAB (out ++ add.take j)).1 : Int), ((sumAB (out ++ add.take j)).2 : Int), (j : Int), ()) ∧ m + j = add.length ∧ RA v B ps rs L J of_ tb gn' ∧ Blk v p [.string Out, .int .i64 st, .int .i64 er, .int .i64 po] ∧ GainIs gn' (out ++ add.take j) ∧ Fr (B + 65) 1 w v) add.length
    ⟨0, gn, by simp, rfl, h, hp, by simpa using hg, Fr.refl _ _ _⟩ ?_
  rintro m _ v ⟨j, gn', rfl, hm, hv, pv, gv, fv⟩ Q hQ
  refine ldStr pv rfl ?_
  dsimp only
  by_cases hj : j < add.length
  · rw [if_pos (by simp only [decide_eq_true_eq]; omega)]
    refine ldStr pv rfl (byteS (by omega) ?_)
    have hx := bt_getD_lt Out j
    have hts : add.take (j + 1) = add.take j ++ [(bt Out).getD j 0] := by rw [List.take_succ_eq_append_getElem hj, hO]; simp [List.getD, hj]
    have hlj : (out ++ add.take j).length = out.length + j := by rw [List.length_append, List.length_take]; omega
    have hsn := sumAB_snoc (out ++ add.take j) ((bt Out).getD j 0)
    rw [List.append_assoc, ← hts] at hsn
    have hab := sumAB_lt (out ++ add.take j)
    generalize hc : (bt Out).getD j 0 = c at *
    refine ldS hv.rc rfl ?_
    rw [hlj]
    refine wrT hv.gain (by omega) rfl fun v2 d2 f2 _ => ?_
    rw [W_succ (by omega), W_nat (by omega), W_add (by omega), show Int.tmod (((sumAB (out ++ add.take j)).1 + c : Nat) : Int) 251 = ((((sumAB (out ++ add.take j)).1 + c) % 251 : Nat) : Int) from tmod_nat _ 251]
    have hm2 := Nat.mod_lt ((sumAB (out ++ add.take j)).1 + c) (show 251 > 0 by omega)
    refine let_ (let_ ?_)
    rw [W_add (by omega), show Int.tmod (((sumAB (out ++ add.take j)).2 + ((sumAB (out ++ add.take j)).1 + c) % 251 : Nat) : Int) 251 = ((((sumAB (out ++ add.take j)).2 + ((sumAB (out ++ add.take j)).1 + c) % 251) % 251 : Nat) : Int) from tmod_nat _ 251, W_succ (by omega)]
    refine let_ (let_ (hQ (m - 1) _ _ (by omega) ⟨j + 1, fset gn' (out.length + j) c, ?_, by omega, hv.setGain d2 f2, pv.fr f2 (by omega), fun i hi => ?_, fv.trans f2⟩))
    · rw [hsn]
      have : (out ++ add.take (j + 1)).length = out.length + j + 1 := by rw [List.length_append, List.length_take]; omega
      rw [this]
    · rw [hts, ← List.append_assoc] at hi ⊢
      rw [List.length_append, hlj] at hi
      unfold fset
      by_cases e : i = out.length + j
      · rw [if_pos e, e, ← hlj, getD_last]
      · rw [if_neg e, getD_app (by rw [hlj]; simp at hi; omega)]
        exact gv i (by rw [hlj]; simp at hi; omega)
  · rw [if_neg (by simp only [decide_eq_true_eq]; omega)]
    have hte : add.take j = add := List.take_of_length_le (by omega)
    rw [hte] at gv ⊢
    exact hK v gn' hv pv gv fv

theorem sbits_extract {raw : ByteArray} {a b c : Nat} (h1 : a ≤ b) (h2 : b ≤ c) : sbits (bt (raw.extract a b)) ++ sbits (bt (raw.extract b c)) = sbits (bt (raw.extract a c)) := by
  rw [← sbits_append]
  congr 1
  rw [bt_extract, bt_extract, bt_extract]
  have : ((bt raw).drop a).take (c - a) = ((bt raw).drop a).take (b - a) ++ (((bt raw).drop a).drop (b - a)).take (c - b) := by
    rw [show c - a = (b - a) + (c - b) from by omega, List.take_add]
  rw [this, List.drop_drop, show a + (b - a) = b from by omega]

set_option maxHeartbeats 800000 in
set_option maxRecDepth 10000 in
theorem arch_drain_spec {raw : ByteArray} {fr to_ : Nat} {K : Int → Int → Int → World → Prop} (h : RA w B ps rs L J of_ tb gn) (h1 : fr ≤ to_) (h2 : to_ ≤ raw.size) (h3 : to_ ≤ fr + 512) (hr : raw.size ≤ 1200)
    (hbad : (decode (sbits (bt (raw.extract fr to_)))).1 ≠ 0 → ∀ w' rs' gn', RA w' B ps rs' L J of_ tb gn' → Fr B 66 w w' → K 0 0 ((decode (sbits (bt (raw.extract fr to_)))).1 : Int) w')
    (hK : (decode (sbits (bt (raw.extract fr to_)))).1 = 0 → ∀ w' rs' gn', RA w' B ps rs' L J of_ tb gn' → GainIs gn' (decode (sbits (bt (raw.extract fr to_)))).2 → Fr B 66 w w' → K ((decode (sbits (bt (raw.extract fr to_)))).2.length : Int) (sumP (decode (sbits (bt (raw.extract fr to_)))).2 : Int) 0 w') :
    S.arch_Archive_drain (B + 61) raw (fr : Int) (to_ : Int) w K := by
  unfold S.arch_Archive_drain
  generalize hdec : decode (sbits (bt (raw.extract fr to_))) = dd at *
  rw [decode_init] at hdec
  refine ldP h.rc rfl (stream_Reset_spec (B := B + 33) h.dc h.ho fun w1 r1 d1 R1 hb1 hf1 f1 => ?_)
  have a1 := h.setDc d1 R1.held f1
  have F1 := f1.mono (q := B) (m := 66) (by omega) (by omega)
  have hlt := h.lt
  refine join_ ?_
  refine loopN (fun m st v => ∃ (c : Nat) (last : Bool) (rk : RS) (gk : Nat → Nat) (out : List Nat), st = ((c : Int), (out.length : Int), ((sumAB out).1 : Int), ((sumAB out).2 : Int), last, ()) ∧ fr ≤ c ∧ c ≤ to_ ∧ RA v B ps rk L J of_ tb gk ∧ GainIs gk out ∧ Fr B 66 w v ∧
      ((last = true ∧ dd = (0, out)) ∨ (last = false ∧ m = to_ - c + 1 ∧ ∃ sk m0, sk.out = out ∧ Rel rk sk m0 ∧ GD rk.bits sk ∧ rk.bits = sbits (bt (raw.extract fr c)) ∧ rk.bits.length = 8 * rk.fed ∧ rk.fed = c - fr ∧ ∀ Q, D (rk.bits ++ Q) initD = D (rk.bits ++ Q) sk))) (to_ - fr + 1)
    ⟨fr, false, r1, gn, [], rfl, Nat.le_refl _, h1, a1, fun i hi => by simp at hi, F1, .inr ⟨rfl, rfl, initD, 0, rfl, R1, init_good _, by rw [hb1, bt_extract]; simp [sbits], by rw [hb1, hf1]; rfl, by omega, fun _ => rfl⟩⟩ ?_
  rintro m _ v ⟨c, last, rk, gk, out, rfl, hc1, hc2, av, gv, fv, hI⟩ Q hQ
  dsimp only
  rcases hI with ⟨rfl, hdd⟩ | ⟨rfl, hm, sk, m0, rfl, R, gd, hbits, hblen, hfed, hev⟩
  · rw [if_neg (by simp)]
    rw [hdd] at hK
    have hab := sumAB_lt out
    rw [show W (W (((sumAB out).2 : Int) * 256) + ((sumAB out).1 : Int)) = (sumP out : Int) from by
      unfold sumP
      rw [W_id (x := ((sumAB out).2 : Int) * 256) (by omega) (by omega), W_id (by omega) (by omega)]; omega]
    exact hK rfl v rk gk av gv fv
  rw [if_pos (by simp)]
  rw [show W ((c : Int) + 64) = ((c + 64 : Nat) : Int) from by rw [W_id (by omega) (by omega)]; omega]
  refine let_ (join_ ?_)
  have hvl := av.lt
  -- one chunk
  have chunk : ∀ (lst : Bool) (e : Nat), c ≤ e → e ≤ to_ → (lst = true → e = to_) → (lst = false → c < e) →
      (Join (fun (st_11 : Nat) (w : World) =>
          Join (fun (n_12 : Int) (lo_13 : Int) (hi_14 : Int) (w : World) =>
            LdI .i64 w ⟨st_11, 1, none⟩ fun State_15 =>
            if (State_15 == 2) = true then
              Drew w fun w =>
              LdI .i64 w ⟨st_11, 2, none⟩ fun Err_16 =>
              K 0 0 Err_16 w
            else
              Q ((e : Int), n_12, lo_13, hi_14, lst, ()) w) fun J17 =>
          LoopP (σ := Int × Int × Int × Int × Unit) (fun st18 w next19 =>
            LdStr w ⟨st_11, 0, none⟩ fun Out_20 =>
            if (decide (st18.2.2.2.1 < (Out_20.size : Int))) = true then
              LdStr w ⟨st_11, 0, none⟩ fun Out_21 =>
              IxStr Out_21 st18.2.2.2.1 fun c22 =>
              LdS w ⟨B + 61, 6, none⟩ fun gain_23 =>
              Ix gain_23.a gain_23.l st18.1 fun b24 o25 =>
              St1 w ⟨b24, o25 + Int.toNat st18.1 * 1, none⟩ (.int .u8 c22) fun w =>
              Let (W (st18.1 + 1)) fun n_26 =>
              Let (Int.tmod (W (st18.2.1 + (W c22))) 251) fun lo_27 =>
              Let (Int.tmod (W (st18.2.2.1 + lo_27)) 251) fun hi_28 =>
              Let (W (st18.2.2.2.1 + 1)) fun j_29 =>
              next19 (n_26, lo_27, hi_28, j_29, ()) w
            else
              J17 st18.1 st18.2.1 st18.2.2.1 w) ((sk.out.length : Int), ((sumAB sk.out).1 : Int), ((sumAB sk.out).2 : Int), 0, ()) w) fun J30 =>
        Drew v fun w =>
        Hold w ⟨B + 61, 1, none⟩ 1 fun R31 =>
        LdP w ⟨B + 61, 1, none⟩ fun d_32 =>
        CutStr raw (c : Int) (e : Int) fun s33 =>
        (S.stream_Decoder_Feed d_32 s33 lst w (fun Out_34 State_35 Err_36 Pos_37 w =>
        New w (.cells #[.string ⟨#[]⟩, .int .i64 0, .int .i64 0, .int .i64 0] 148) fun p38 w =>
        After R31 w <|
        St1 w ⟨p38, 0, none⟩ (.string Out_34) fun w =>
        St1 w ⟨p38, 1, none⟩ (.int .i64 State_35) fun w =>
        St1 w ⟨p38, 2, none⟩ (.int .i64 Err_36) fun w =>
        St1 w ⟨p38, 3, none⟩ (.int .i64 Pos_37) fun w =>
        J30 p38 w)) ∧
        (New w (.cells #[.string ⟨#[]⟩, .int .i64 0, .int .i64 0, .int .i64 0] 148) fun p39 w =>
        After R31 w <|
        S.stream_Decoder_Feed d_32 s33 lst w (fun Out_40 State_41 Err_42 Pos_43 w =>
        St1 w ⟨p39, 0, none⟩ (.string Out_40) fun w =>
        St1 w ⟨p39, 1, none⟩ (.int .i64 State_41) fun w =>
        St1 w ⟨p39, 2, none⟩ (.int .i64 Err_42) fun w =>
        St1 w ⟨p39, 3, none⟩ (.int .i64 Pos_43) fun w =>
        J30 p39 w))) := by
    intro lst e he1 he2 he3 he4
    refine join_ (drew_ ?_)
    show Hold _ _ _ _
    unfold Hold
    refine ldP av.drew.rc rfl (cutStr (by omega) (by omega) ?_)
    have hchs : (raw.extract c e).size = e - c := by rw [ByteArray.size_extract]; omega
    have hwhole : rk.bits ++ sbits (bt (raw.extract c e)) = sbits (bt (raw.extract fr e)) := by rw [hbits]; exact sbits_extract hc1 he1
    have hrest : ∀ Q, sbits (bt (raw.extract fr e)) ++ Q = rk.bits ++ (sbits (bt (raw.extract c e)) ++ Q) := fun Q => by rw [← hwhole, List.append_assoc]
    -- what the answer does
    have done : ∀ (p : Nat) (Out : ByteArray) (st er po : Int) (u : World) (rk' : RS), RA u B ps rk' L J of_ tb gk → Blk u p [.string Out, .int .i64 st, .int .i64 er, .int .i64 po] → B + 66 ≤ p → Fr B 66 w u →
        (∃ add, bt Out = add ∧ (sk.out ++ add).length ≤ 256 ∧ ((st = 2 ∧ ∃ e : Nat, er = (e : Int) ∧ e ≠ 0 ∧ dd.1 = e) ∨
          (st ≠ 2 ∧ lst = true ∧ dd = (0, sk.out ++ add)) ∨
          (st ≠ 2 ∧ lst = false ∧ ∃ sk' m0', sk'.out = sk.out ++ add ∧ Rel rk' sk' m0' ∧ GD rk'.bits sk' ∧ rk'.bits = sbits (bt (raw.extract fr e)) ∧ rk'.bits.length = 8 * rk'.fed ∧ rk'.fed = e - fr ∧ ∀ Q, D (rk'.bits ++ Q) initD = D (rk'.bits ++ Q) sk'))) →
        (Join (fun (n_12 : Int) (lo_13 : Int) (hi_14 : Int) (w : World) =>
            LdI .i64 w ⟨p, 1, none⟩ fun State_15 =>
            if (State_15 == 2) = true then
              Drew w fun w =>
              LdI .i64 w ⟨p, 2, none⟩ fun Err_16 =>
              K 0 0 Err_16 w
            else
              Q ((e : Int), n_12, lo_13, hi_14, lst, ()) w) fun J17 =>
          LoopP (σ := Int × Int × Int × Int × Unit) (fun st18 w next19 =>
            LdStr w ⟨p, 0, none⟩ fun Out_20 =>
            if (decide (st18.2.2.2.1 < (Out_20.size : Int))) = true then
              LdStr w ⟨p, 0, none⟩ fun Out_21 =>
              IxStr Out_21 st18.2.2.2.1 fun c22 =>
              LdS w ⟨B + 61, 6, none⟩ fun gain_23 =>
              Ix gain_23.a gain_23.l st18.1 fun b24 o25 =>
              St1 w ⟨b24, o25 + Int.toNat st18.1 * 1, none⟩ (.int .u8 c22) fun w =>
              Let (W (st18.1 + 1)) fun n_26 =>
              Let (Int.tmod (W (st18.2.1 + (W c22))) 251) fun lo_27 =>
              Let (Int.tmod (W (st18.2.2.1 + lo_27)) 251) fun hi_28 =>
              Let (W (st18.2.2.2.1 + 1)) fun j_29 =>
              next19 (n_26, lo_27, hi_28, j_29, ()) w
            else
              J17 st18.1 st18.2.1 st18.2.2.1 w) ((sk.out.length : Int), ((sumAB sk.out).1 : Int), ((sumAB sk.out).2 : Int), 0, ()) u) := by
      rintro p Out st er po u rk' au pu hpB fu ⟨add, hadd, hal, hcase⟩
      refine join_ ?_
      refine arch_gather (raw := raw) (K := fun n_12 lo_13 hi_14 w =>
            LdI .i64 w ⟨p, 1, none⟩ fun State_15 =>
            if (State_15 == 2) = true then
              Drew w fun w =>
              LdI .i64 w ⟨p, 2, none⟩ fun Err_16 =>
              K 0 0 Err_16 w
            else
              Q ((e : Int), n_12, lo_13, hi_14, lst, ()) w) au pu hpB hadd hal gv fun u2 gn2 a2 p2 g2 f2 => ?_
      have F2 := fu.trans (f2.mono (q := B) (m := 66) (by omega) (by omega))
      refine ldI p2 rfl ?_
      rcases hcase with ⟨hst, ee, her, hee, hdd⟩ | ⟨hst, hl, hdd⟩ | ⟨hst, hl, sk', m0', hso, R', gd', hb', hbl', hf', hev'⟩
      · rw [if_pos (by simp only [beq_iff_eq]; exact hst)]
        refine drew_ (ldI p2.drew rfl ?_)
        rw [her, ← hdd]
        exact hbad (by omega) u2.drew rk' gn2 a2.drew F2
      · rw [if_neg (by simp only [beq_iff_eq]; exact hst)]
        exact hQ 0 _ _ (by omega) ⟨e, lst, rk', gn2, sk.out ++ add, rfl, by omega, he2, a2, g2, F2, .inl ⟨hl, hdd⟩⟩
      · rw [if_neg (by simp only [beq_iff_eq]; exact hst)]
        refine hQ (to_ - e + 1) _ _ (by have := he4 hl; omega) ⟨e, lst, rk', gn2, sk.out ++ add, rfl, by omega, he2, a2, g2, F2, .inr ⟨hl, rfl, sk', m0', hso, R', gd', hb', hbl', hf', hev'⟩⟩
    -- the call itself
    have feed : ∀ (u : World) (K' : ByteArray → Int → Int → Int → World → Prop), RA u B ps rk L J of_ tb gk →
        (∀ Out st er po u' rk', RA u' B ps rk' L J of_ tb gk → Fr (B + 33) 28 u u' →
          (∃ add, bt Out = add ∧ (sk.out ++ add).length ≤ 256 ∧ ((st = 2 ∧ ∃ e : Nat, er = (e : Int) ∧ e ≠ 0 ∧ dd.1 = e) ∨
          (st ≠ 2 ∧ lst = true ∧ dd = (0, sk.out ++ add)) ∨
          (st ≠ 2 ∧ lst = false ∧ ∃ sk' m0', sk'.out = sk.out ++ add ∧ Rel rk' sk' m0' ∧ GD rk'.bits sk' ∧ rk'.bits = sbits (bt (raw.extract fr e)) ∧ rk'.bits.length = 8 * rk'.fed ∧ rk'.fed = e - fr ∧ ∀ Q, D (rk'.bits ++ Q) initD = D (rk'.bits ++ Q) sk'))) → K' Out st er po u') →
        S.stream_Decoder_Feed (B + 57) (raw.extract c e) lst u K' := by
      intro u K' au hk
      have tailQ : ∃ T, sbits (bt (raw.extract fr to_)) = sbits (bt (raw.extract fr e)) ++ T ∧ (lst = true → T = []) := by
        refine ⟨sbits (bt (raw.extract e to_)), (sbits_extract (by omega) he2).symm, fun hl => ?_⟩
        have := he3 hl
        subst this
        rw [bt_extract]
        simp [sbits]
      obtain ⟨T, hT, hTl⟩ := tailQ
      have hdS : dd = decodeS (rk.bits ++ sbits (bt (raw.extract c e)) ++ T) sk := by
        rw [← hdec, hT, hwhole]
        refine decodeS_congr ?_
        rw [hrest T]
        exact hev _
      refine stream_Feed_spec (B := B + 33) au.dc R gd hblen (by rw [hchs]; omega) (fun ee pos s2 u' r' hne h' ho' hdc hpre hlen hlts f' => ?_) (fun hl s2 u' r' h' ho' hdc hpre hlen hlts f' => ?_) (fun hl s2 u' r' h' R' gd' hb' hf' hev' hpre f' => ?_)
      · obtain ⟨x, hx⟩ := hpre
        refine hk _ _ _ _ u' r' (au.setDc h' ho' f') f' ⟨x, ?_, ?_, .inl ⟨rfl, ee, rfl, hne, ?_⟩⟩
        · rw [hx, List.drop_left, bt_strOf]
          exact fun y hy => hlts y (by rw [hx]; simp [hy])
        · rw [← hx]; exact hlen
        · rw [hdS]
          exact hdc T hTl
      · obtain ⟨x, hx⟩ := hpre
        refine hk _ _ _ _ u' r' (au.setDc h' ho' f') f' ⟨x, ?_, ?_, .inr (.inl ⟨by omega, hl, ?_⟩)⟩
        · rw [hx, List.drop_left, bt_strOf]
          exact fun y hy => hlts y (by rw [hx]; simp [hy])
        · rw [← hx]; exact hlen
        · rw [hdS, hTl hl, List.append_nil, hdc, hx]
      · obtain ⟨x, hx⟩ := hpre
        refine hk _ _ _ _ u' r' (au.setDc h' R'.held f') f' ⟨x, ?_, ?_, .inr (.inr ⟨by omega, hl, s2, _, hx, R', gd', ?_, ?_, ?_, fun Q => ?_⟩)⟩
        · rw [hx, List.drop_left, bt_strOf]
          exact fun y hy => gd'.lt y (by rw [hx]; simp [hy])
        · rw [← hx]; exact gd'.olen
        · rw [hb', hwhole]
        · rw [hb', hf', List.length_append, sbits_length, bt_length, hchs, hblen]; omega
        · rw [hf', hchs]; omega
        · rw [hb', ← hev' Q, List.append_assoc]
          exact hev _
    -- the answer's struct
    have lay : ∀ {p : Nat} {u : World} {Out : ByteArray} {st er po : Int} {K' : World → Prop}, Blk u p [.string ⟨#[]⟩, .int .i64 0, .int .i64 0, .int .i64 0] → (∀ u', Blk u' p [.string Out, .int .i64 st, .int .i64 er, .int .i64 po] → Fr p 1 u u' → K' u') →
        (St1 u ⟨p, 0, none⟩ (.string Out) fun w =>
        St1 w ⟨p, 1, none⟩ (.int .i64 st) fun w =>
        St1 w ⟨p, 2, none⟩ (.int .i64 er) fun w =>
        St1 w ⟨p, 3, none⟩ (.int .i64 po) fun w => K' w) := by
      intro p u Out st er po K' hb hk
      refine st1 hb (by simp) fun y1 x1 z1 _ => ?_
      refine st1 x1 (by simp) fun y2 x2 z2 _ => ?_
      refine st1 x2 (by simp) fun y3 x3 z3 _ => ?_
      refine st1 x3 (by simp) fun y4 x4 z4 _ => ?_
      exact hk y4 x4 (((z1.trans z2).trans z3).trans z4)
    refine ⟨?_, ?_⟩
    · refine feed v.drew _ av.drew fun Out st er po u rk' au fu hcase => ?_
      have fu : Fr (B + 33) 28 v u := fu
      have hul := au.lt
      refine newB fun u1 b1 f1 s1 => ?_
      have au1 := au.fr f1 (by omega)
      refine ⟨fun i hi => ?_, ?_⟩
      · have hi0 : i = 0 := by omega
        subst hi0
        rw [show (⟨B + 61, 1, none⟩ : Addr).add 0 = ⟨B + 61, 1, none⟩ from rfl, au1.rc.cell]
        exact (Blk.cell (w := v.drew) av.rc 1).symm
      refine lay b1 fun u2 b2 f2 => ?_
      have au2 := au1.fr f2 (by omega)
      exact done _ Out st er po u2 rk' au2 b2 (by omega) (((fv.trans (fu.mono (by omega) (by omega))).then0 f1).thenNew f2 (by have := fv.1; have := fu.1; omega)) hcase
    · refine newB fun u1 b1 f1 s1 => ?_
      have f1 : Fr 0 0 v u1 := f1
      have b1 : Blk u1 v.heap.size [.string ⟨#[]⟩, .int .i64 0, .int .i64 0, .int .i64 0] := b1
      have au1 := av.fr f1 (by omega)
      refine ⟨fun i hi => ?_, ?_⟩
      · have hi0 : i = 0 := by omega
        subst hi0
        rw [show (⟨B + 61, 1, none⟩ : Addr).add 0 = ⟨B + 61, 1, none⟩ from rfl, au1.rc.cell]
        exact (Blk.cell (w := v.drew) av.rc 1).symm
      refine feed u1 _ au1 fun Out st er po u rk' au fu hcase => ?_
      show (St1 u ⟨v.heap.size, 0, none⟩ _ _)
      refine lay (b1.fr fu (by omega)) fun u2 b2 f2 => ?_
      have au2 := au.fr f2 (by omega)
      exact done v.heap.size Out st er po u2 rk' au2 b2 (by omega) (((fv.then0 f1).trans (fu.mono (by omega) (by omega))).thenNew f2 (by have := fv.1; omega)) hcase
  by_cases hend : to_ ≤ c + 64
  · rw [if_pos (by simp only [decide_eq_true_eq]; omega)]
    exact chunk true to_ hc2 (Nat.le_refl _) (fun _ => rfl) (fun h => by cases h)
  · rw [if_neg (by simp only [decide_eq_true_eq]; omega)]
    exact chunk false (c + 64) (by omega) (by omega) (fun h => by cases h) (fun _ => by omega)

theorem ldNk {n b i k : Nat} {f : Nat → Nat} {K : Int → Prop} (h : Blk w b (nats n f)) (hi : i * 5 + k < n) (hk : K (f (i * 5 + k) : Int)) : LdI .i64 w ⟨b, 0 + Int.toNat (i : Int) * 5 + k, none⟩ K := by
  rw [Nat.zero_add, Int.toNat_natCast]
  exact ldI h (nats_get hi) hk
/-- A struct of five numbers is taken over. -/
theorem take5 {a b c d e : Int} {K : Nat → World → Prop} (hk : ∀ u', Blk u' w.heap.size [.int .i64 a, .int .i64 b, .int .i64 c, .int .i64 d, .int .i64 e] → Fr 0 0 w u' → K w.heap.size u') :
    New w (.cells #[.int .i64 0, .int .i64 0, .int .i64 0, .int .i64 0, .int .i64 0] 111) fun p15 w =>
        St1 w ⟨p15, 0, none⟩ (.int .i64 a) fun w =>
        St1 w ⟨p15, 1, none⟩ (.int .i64 b) fun w =>
        St1 w ⟨p15, 2, none⟩ (.int .i64 c) fun w =>
        St1 w ⟨p15, 3, none⟩ (.int .i64 d) fun w =>
        St1 w ⟨p15, 4, none⟩ (.int .i64 e) fun w => K p15 w := by
  refine newB fun u1 b1 f1 s1 => ?_
  refine st1 b1 (by simp) fun u2 b2 f2 _ => ?_
  refine st1 b2 (by simp) fun u3 b3 f3 _ => ?_
  refine st1 b3 (by simp) fun u4 b4 f4 _ => ?_
  refine st1 b4 (by simp) fun u5 b5 f5 _ => ?_
  refine st1 b5 (by simp) fun u6 b6 f6 _ => ?_
  exact hk u6 b6 (f1.thenNew ((((f2.trans f3).trans f4).trans f5).trans f6) (by omega))

theorem listE_big {raw : ByteArray} (h : 1200 < raw.size) : frameE (bt raw) = (1, 0) := by unfold frameE; rw [bt_length, if_pos h]

set_option maxRecDepth 10000 in
theorem arch_List_spec {raw : ByteArray} {K : Sl → Int → Int → World → Prop} (hA : RAI w B)
    (hbad : (listE raw).1 ≠ 0 → ∀ w', RAI w' B → Fr B 66 w w' → K ⟨none, 0, 0⟩ ((listE raw).1 : Int) ((listE raw).2 : Int) w')
    (hK : (listE raw).1 = 0 → ∀ sl w', RAI w' B → RowsOut w w' sl (((slotsR raw).map (infOf raw)).flatMap infV) (slotsR raw).length → Fr B 66 w w' → K sl 0 0 w') : S.arch_Archive_List (B + 61) raw w K := by
  unfold S.arch_Archive_List
  unfold listE at hbad hK
  by_cases hbig : 1200 < raw.size
  · rw [if_pos (by simp only [decide_eq_true_eq]; omega)]
    rw [listE_big hbig] at hbad
    exact hbad (by simp) w hA (Fr.refl _ _ _)
  rw [if_neg (by simp only [decide_eq_true_eq]; omega)]
  obtain ⟨ps, rs, L, J, of_, tb, gn, a0⟩ := hA.ex
  refine arch_frame_spec a0 (by omega) (fun hne w1 tb' a1 f1 => ?_) fun hz w1 tb' a1 ht f1 => ?_
  · rw [if_pos (by simp only [bne_iff_ne, ne_eq]; omega)]
    exact hbad hne w1 ⟨_, _, _, _, _, _, _, a1⟩ f1
  rw [if_neg (by simp)]
  obtain ⟨s4, sf⟩ := slot_facts hz
  have hK := hK hz
  have hsl : slotsR raw = slotsTo (bt raw) (dirR (bt raw)) (cntR (bt raw)) := rfl
  have hsn : (slotsR raw).length = cntR (bt raw) := by rw [hsl, slots_len]
  have hsg : ∀ j, j < (slotsR raw).length → ∃ s, (slotsR raw)[j]? = some s ∧ tb' (j * 5) = s.off ∧ tb' (j * 5 + 1) = s.head ∧ tb' (j * 5 + 2) = s.to_ ∧ tb' (j * 5 + 3) = s.size ∧ tb' (j * 5 + 4) = s.sum := fun j hj => ⟨_, by rw [hsl]; exact slots_get (by omega), ht j (by omega)⟩
  rw [← hsn]
  generalize slotsR raw = sls at *
  have hal := a1.lt
  refine mkS (by omega) (by omega) (by omega) (by omega) fun w2 b2 f2 s2 => ?_
  rw [Int.toNat_natCast] at b2 ⊢
  have hwN := f1.1
  have a2 := a1.fr f2 (by omega)
  generalize hN : w1.heap.size = N at *
  refine join_ ?_
  refine loopN (fun m st v => ∃ (i : Nat) (junk : List Value), st = ((i : Int), ()) ∧ m + i = sls.length ∧ Blk v N (((sls.take i).map (infOf raw)).flatMap infV ++ junk) ∧ junk.length = (sls.length - i) * 3 ∧ RA v B ps rs L J of_ tb' gn ∧ Fr B 66 w v ∧ N < v.heap.size) sls.length
    ⟨0, reps [.string ⟨#[]⟩, .int .i64 0, .int .i64 0] sls.length, rfl, rfl, by simpa using b2, by rw [reps_const]; simp, a2, f1.then0 f2, by omega⟩ ?_
  rintro m _ v ⟨i, junk, rfl, hm, bv, hj, av, fv, nv⟩ Q hQ
  dsimp only
  by_cases hi : i < sls.length
  · rw [if_pos (by simp only [decide_eq_true_eq]; omega)]
    obtain ⟨s, he, t0, t1, t2, t3, t4⟩ := hsg i hi
    have hs := sf s (List.mem_of_getElem? he)
    refine ldS av.rc rfl (ix (b := B + 64) (o := 0) rfl (by omega) (by show (i : Int) < 4; omega) ?_)
    refine ldNk (k := 0) av.tab (by omega) (ldNk (k := 1) av.tab (by omega) (ldNk (k := 2) av.tab (by omega) (ldNk (k := 3) av.tab (by omega) (ldNk (k := 4) av.tab (by omega) ?_))))
    rw [t1, t2, t3, t4, show tb' (i * 5 + 0) = s.off from t0]
    refine take5 fun v1 b1 f1 => ?_
    have bv1 := bv.fr f1 (by omega)
    have av1 := av.fr f1 (by omega)
    refine ldI b1 rfl (ldI b1 rfl ?_)
    rw [W_succ (by omega)]
    refine cutStr (by omega) (by omega) ?_
    refine ix (b := N) (o := 0) rfl (by omega) (by omega) ?_
    have hpl : (((sls.take i).map (infOf raw)).flatMap infV).length = i * 3 := by rw [flat_length (c := 3) (fun _ => rfl)]; simp; omega
    have hj3 : 3 ≤ junk.length := by rw [hj]; omega
    rw [Int.toNat_natCast, Nat.zero_add]
    refine stJ bv1 (by omega) (by omega) fun v2 d2 g2 z2 => ?_
    have b2 := b1.fr g2 (by omega)
    refine ldI b2 rfl (ix (b := N) (o := 0) rfl (by omega) (by omega) ?_)
    refine stJ d2 (by simp only [List.length_append, hpl, List.length_cons, List.length_nil]; omega) (by simp only [List.length_tail]; omega) fun v3 d3 g3 z3 => ?_
    have b3 := b2.fr g3 (by omega)
    refine ldI b3 rfl (ldI b3 rfl (ix (b := N) (o := 0) rfl (by omega) (by omega) ?_))
    rw [show W (W ((s.to_ : Int) - (s.head : Int)) - 6) = ((s.to_ - (s.head + 6) : Nat) : Int) from by rw [W_id (x := (s.to_ : Int) - (s.head : Int)) (by omega) (by omega), W_id (by omega) (by omega)]; omega]
    refine stJ d3 (by simp only [List.length_append, hpl, List.length_cons, List.length_nil]; omega) (by simp only [List.length_tail]; omega) fun v4 d4 g4 z4 => ?_
    have G := (g2.trans g3).trans g4
    rw [W_succ (by omega)]
    refine let_ (hQ (m - 1) _ _ (by omega) ⟨i + 1, junk.tail.tail.tail, rfl, by omega, ?_, by simp only [List.length_tail, hj]; omega, av1.fr G (by omega), (fv.then0 f1).thenNew G (by omega), by have := G.1; have := f1.1; omega⟩)
    have he' : sls[i] = s := by rw [List.getElem?_eq_getElem hi] at he; exact Option.some.inj he
    rw [List.take_succ_eq_append_getElem hi, List.map_append, List.flatMap_append, he']
    simpa [infV, infOf, nameOf] using d4
  · rw [if_neg (by simp only [decide_eq_true_eq]; omega)]
    have hj0 : junk = [] := List.eq_nil_of_length_eq_zero (by rw [hj]; omega)
    rw [hj0, List.append_nil, List.take_of_length_le (by omega)] at bv
    exact hK _ v ⟨_, _, _, _, _, _, _, av⟩ ⟨N, bv, rfl, by omega⟩ fv

set_option maxHeartbeats 800000 in
set_option maxRecDepth 10000 in
theorem arch_Unpack_spec {raw : ByteArray} {K : Sl → Int → Int → World → Prop} (hA : RAI w B)
    (hbad : (unpE raw).1 ≠ 0 → ∀ w', RAI w' B → Fr B 66 w w' → K ⟨none, 0, 0⟩ ((unpE raw).1 : Int) ((unpE raw).2 : Int) w')
    (hK : (unpE raw).1 = 0 → ∀ sl w', RAI w' B → RowsOut w w' sl (((slotsR raw).map (entOf raw)).flatMap entV) (slotsR raw).length → Fr B 66 w w' → K sl 0 0 w') : S.arch_Archive_Unpack (B + 61) raw w K := by
  unfold S.arch_Archive_Unpack
  unfold unpE at hbad hK
  by_cases hbig : 1200 < raw.size
  · rw [if_pos (by simp only [decide_eq_true_eq]; omega)]
    rw [listE_big hbig] at hbad
    exact hbad (by simp) w hA (Fr.refl _ _ _)
  rw [if_neg (by simp only [decide_eq_true_eq]; omega)]
  obtain ⟨ps, rs, L, J, of_, tb, gn, a0⟩ := hA.ex
  refine arch_frame_spec a0 (by omega) (fun hne w1 tb' a1 f1 => ?_) fun hz w1 tb' a1 ht f1 => ?_
  · rw [if_pos (by simp only [bne_iff_ne, ne_eq]; omega)]
    rw [if_pos hne] at hbad
    exact hbad hne w1 ⟨_, _, _, _, _, _, _, a1⟩ f1
  rw [if_neg (by simp)]
  rw [if_neg (by simpa using hz)] at hbad hK
  obtain ⟨s4, sf⟩ := slot_facts hz
  have hsl : slotsR raw = slotsTo (bt raw) (dirR (bt raw)) (cntR (bt raw)) := rfl
  have hsn : (slotsR raw).length = cntR (bt raw) := by rw [hsl, slots_len]
  have hsg : ∀ j, j < (slotsR raw).length → ∃ s, (slotsR raw)[j]? = some s ∧ tb' (j * 5) = s.off ∧ tb' (j * 5 + 1) = s.head ∧ tb' (j * 5 + 2) = s.to_ ∧ tb' (j * 5 + 3) = s.size ∧ tb' (j * 5 + 4) = s.sum := fun j hj => ⟨_, by rw [hsl]; exact slots_get (by omega), ht j (by omega)⟩
  rw [← hsn]
  generalize slotsR raw = sls at *
  have hal := a1.lt
  refine mkS (by omega) (by omega) (by omega) (by omega) fun w2 b2 f2 s2 => ?_
  rw [Int.toNat_natCast] at b2 ⊢
  have hwN := f1.1
  have a2 := a1.fr f2 (by omega)
  generalize hN : w1.heap.size = N at *
  refine join_ ?_
  refine loopN (fun m st v => ∃ (i : Nat) (junk : List Value) (rs' : RS) (gn' : Nat → Nat), st = ((i : Int), ()) ∧ m + i = sls.length ∧ openTo raw sls = openTo raw (sls.drop i) ∧ Blk v N (((sls.take i).map (entOf raw)).flatMap entV ++ junk) ∧ junk.length = (sls.length - i) * 2 ∧ RA v B ps rs' L J of_ tb' gn' ∧ Fr B 66 w v ∧ N < v.heap.size) sls.length
    ⟨0, reps [.string ⟨#[]⟩, .string ⟨#[]⟩] sls.length, rs, gn, rfl, rfl, rfl, by simpa using b2, by rw [reps_const]; simp, a2, f1.then0 f2, by omega⟩ ?_
  rintro m _ v ⟨i, junk, rs', gn', rfl, hm, hop, bv, hj, av, fv, nv⟩ Q hQ
  dsimp only
  by_cases hi : i < sls.length
  · rw [if_pos (by simp only [decide_eq_true_eq]; omega)]
    obtain ⟨s, he, t0, t1, t2, t3, t4⟩ := hsg i hi
    have hs := sf s (List.mem_of_getElem? he)
    have hod := openTo_drop (raw := raw) he
    refine ldS av.rc rfl (ix (b := B + 64) (o := 0) rfl (by omega) (by show (i : Int) < 4; omega) ?_)
    refine ldNk (k := 0) av.tab (by omega) (ldNk (k := 1) av.tab (by omega) (ldNk (k := 2) av.tab (by omega) (ldNk (k := 3) av.tab (by omega) (ldNk (k := 4) av.tab (by omega) ?_))))
    rw [t1, t2, t3, t4, show tb' (i * 5 + 0) = s.off from t0]
    refine take5 fun v1 b1 f1 => ?_
    have bv1 := bv.fr f1 (by omega)
    have av1 := av.fr f1 (by omega)
    have fv1 := fv.then0 f1
    refine ldI b1 rfl (ldI b1 rfl ?_)
    rw [show W ((s.head : Int) + 6) = ((s.head + 6 : Nat) : Int) from by rw [W_id (by omega) (by omega)]; omega]
    have hdg : (decOf raw s).2.length ≤ 256 ∧ ∀ x ∈ (decOf raw s).2, x < 256 := by unfold decOf; exact decode_good _
    have hdec : decode (sbits (bt (raw.extract (s.head + 6) s.to_))) = decOf raw s := by unfold decOf rawOf; rfl
    have hent : entV (entOf raw s) = [.string (nameOf raw s), .string (strOf (decOf raw s).2)] := by unfold entOf entV; rfl
    have hoe : openE raw s = (if (decOf raw s).1 ≠ 0 then (decOf raw s).1 else if (decOf raw s).2.length ≠ s.size then 19 else if sumP (decOf raw s).2 ≠ s.sum then 18 else 0) := by rw [openE]
    have hvl := av.lt
    have fail : ∀ (e : Nat) (u : World), openTo raw (sls.drop i) = (e, s.off) → e ≠ 0 → RAI u B → Fr B 66 w u → K ⟨none, 0, 0⟩ (e : Int) (s.off : Int) u := by
      intro e u h1 h2 h3 h4
      rw [hop, h1] at hbad
      exact hbad h2 u h3 h4
    refine arch_drain_spec av1 (by omega) (by omega) (by omega) (by omega) (fun hne u rs2 gn2 a2 f2 => ?_) fun hz2 u rs2 gn2 a2 g2 f2 => ?_
    · rw [hdec] at hne ⊢
      rw [if_pos (by simp only [bne_iff_ne, ne_eq]; omega)]
      have b2 := b1.fr f2 (by omega)
      refine drew_ (ldI b2.drew rfl (fail _ u.drew ?_ hne ⟨_, _, _, _, _, _, _, a2.drew⟩ (fv1.trans f2)))
      rw [hod, hoe, if_pos hne, if_pos hne]
    rw [hdec] at hz2 g2 ⊢
    generalize decOf raw s = dd at *
    generalize openE raw s = oe at *
    rw [if_neg (by simp)]
    rw [if_neg (by simpa using hz2)] at hoe
    have b2 := b1.fr f2 (by omega)
    have F2 := fv1.trans f2
    refine ldI b2 rfl ?_
    by_cases c2 : dd.2.length = s.size
    case neg =>
      rw [if_pos (by simp only [bne_iff_ne, ne_eq]; omega)]
      rw [if_pos c2] at hoe
      refine drew_ (ldI b2.drew rfl (fail 19 u.drew ?_ (by omega) ⟨_, _, _, _, _, _, _, a2.drew⟩ F2))
      rw [hod, hoe, if_pos (by omega)]
    rw [if_neg (by simp only [bne_iff_ne, ne_eq]; omega)]
    rw [if_neg (by simpa using c2)] at hoe
    refine ldI b2 rfl ?_
    by_cases c3 : sumP dd.2 = s.sum
    case neg =>
      rw [if_pos (by simp only [bne_iff_ne, ne_eq]; omega)]
      rw [if_pos c3] at hoe
      refine drew_ (ldI b2.drew rfl (fail 18 u.drew ?_ (by omega) ⟨_, _, _, _, _, _, _, a2.drew⟩ F2))
      rw [hod, hoe, if_pos (by omega)]
    rw [if_neg (by simp only [bne_iff_ne, ne_eq]; omega)]
    rw [if_neg (by simpa using c3)] at hoe
    rw [hoe, if_neg (by simp)] at hod
    refine ldI b2 rfl (ldI b2 rfl ?_)
    rw [W_succ (by omega)]
    refine cutStr (by omega) (by omega) ?_
    refine ix (b := N) (o := 0) rfl (by omega) (by omega) ?_
    have hpl : (((sls.take i).map (entOf raw)).flatMap entV).length = i * 2 := by rw [flat_length (c := 2) (fun _ => rfl)]; simp; omega
    have hj2 : 2 ≤ junk.length := by rw [hj]; omega
    have bv2 := bv1.fr f2 (by omega)
    rw [Int.toNat_natCast, Nat.zero_add]
    refine stJ bv2 (by omega) (by omega) fun v3 d3 g3 z3 => ?_
    have a3 := a2.fr g3 (by omega)
    refine ldS a3.rc rfl ?_
    refine cutS (lo := 0) (hi := dd.2.length) (mx := 256) (bb := B + 65) rfl (by omega) (by omega) (by show 256 ≤ 256; omega) (by omega) ?_
    refine btS (zs := dd.2) a3.gain ?_ (by omega) hdg.2 ?_
    · rw [Nat.zero_mul, List.drop_zero, Nat.sub_zero]
      unfold byts
      rw [← List.map_take]
      refine congrArg (List.map fun b => Value.int .u8 (Int.ofNat b)) (List.ext_getElem? fun k => ?_)
      rw [List.getElem?_take]
      by_cases hk : k < dd.2.length
      · rw [if_pos hk, tab_get (by omega), g2 k hk]
        exact (getD_get hk).symm
      · rw [if_neg hk, List.getElem?_eq_none (by omega)]
    refine ix (b := N) (o := 0) rfl (by omega) (by omega) ?_
    refine stJ d3 (by simp only [List.length_append, hpl, List.length_cons, List.length_nil]; omega) (by simp only [List.length_tail]; omega) fun v4 d4 g4 z4 => ?_
    have G := g3.trans g4
    rw [W_succ (by omega)]
    refine let_ (hQ (m - 1) _ _ (by omega) ⟨i + 1, junk.tail.tail, rs2, gn2, rfl, by omega, hop.trans hod, ?_, by simp only [List.length_tail, hj]; omega, a3.fr g4 (by omega), F2.thenNew G (by omega), by have := G.1; have := f2.1; have := f1.1; omega⟩)
    have he' : sls[i] = s := by rw [List.getElem?_eq_getElem hi] at he; exact Option.some.inj he
    rw [List.take_succ_eq_append_getElem hi, List.map_append, List.flatMap_append, he', show ([s].map (entOf raw)).flatMap entV = entV (entOf raw s) from by simp, hent]
    simpa [nameOf] using d4
  · rw [if_neg (by simp only [decide_eq_true_eq]; omega)]
    have hj0 : junk = [] := List.eq_nil_of_length_eq_zero (by rw [hj]; omega)
    rw [hj0, List.append_nil, List.take_of_length_le (by omega)] at bv
    have hzz : (openTo raw sls).1 = 0 := by rw [hop, List.drop_of_length_le (by omega)]; rfl
    exact hK hzz _ v ⟨_, _, _, _, _, _, _, av⟩ ⟨N, bv, rfl, by omega⟩ fv

theorem reps_tab (n : Nat) : byts (List.replicate n 0) = byts (Go.Zip.tab n fun _ => 0) := by
  congr 1
  exact tab_ext (by simp) fun i hi => by rw [List.getElem?_replicate, if_pos hi]
set_option maxRecDepth 10000 in
theorem arch_New_spec {K : Nat → World → Prop} (hB : w.heap.size = B + 61) (hp : PK w B ps) (hd : RW w (B + 33) rs) (ho : heldOK rs)
    (hK : ∀ w', RAI w' B → Fr 0 0 w w' → w'.heap.size = B + 66 → K (B + 61) w') : S.arch_New (B + 28) (B + 57) w K := by
  unfold S.arch_New
  refine newB fun w1 b1 f1 s1 => ?_
  rw [hB] at b1 s1 ⊢
  refine mkS (by omega) (by omega) (by omega) (by omega) fun w2 b2 f2 s2 => ?_
  rw [s1] at b2 s2 ⊢
  refine st1 (b1.fr f2 (by omega)) (by simp) fun w3 b3 f3 s3 => ?_
  refine mkN (n := 4) (by omega) fun w4 b4 f4 s4 => ?_
  rw [s3, s2] at b4 s4 ⊢
  refine st1 (b3.fr f4 (by omega)) (by simp) fun w5 b5 f5 s5 => ?_
  refine mkS (by omega) (by omega) (by omega) (by omega) fun w6 b6 f6 s6 => ?_
  rw [s5, s4] at b6 s6 ⊢
  refine st1 (b5.fr f6 (by omega)) (by simp) fun w7 b7 f7 s7 => ?_
  refine mkS (by omega) (by omega) (by omega) (by omega) fun w8 b8 f8 s8 => ?_
  rw [s7, s6] at b8 s8 ⊢
  refine st1 (b7.fr f8 (by omega)) (by simp) fun w9 b9 f9 s9 => ?_
  have G1 : Fr (B + 61) 1 w8 w9 := f9
  have G2 : Fr (B + 61) 1 w6 w9 := (f7.then0 f8).trans f9
  have G3 : Fr (B + 61) 1 w4 w9 := (f5.then0 f6).trans G2
  have G4 : Fr (B + 61) 1 w2 w9 := (f3.then0 f4).trans G3
  have F : Fr (B + 61) 1 w w9 := ((f1.any (B + 61) 1).then0 f2).trans G4
  refine hK w9 ⟨ps, rs, [], List.replicate 1200 0, fun _ => 0, fun _ => 0, fun _ => 0, hp.fr F (by omega), hd.fr F (by omega), ho, b9, ?_, by simp, b4.fr G3 (by omega), ?_, ?_⟩ ⟨F.1, fun b hb _ => F.2 b hb (by omega)⟩ (by omega)
  · have := b2.fr G4 (by omega)
    rw [reps_byts] at this
    rw [List.nil_append]
    exact this
  · have := b6.fr G2 (by omega)
    have e : reps [.int .i64 0, .int .i64 0, .int .i64 0, .int .i64 0, .int .i64 0] (Int.toNat 4) = nats 20 fun _ => 0 := rfl
    rw [e] at this
    exact this
  · have := b8.fr G1 (by omega)
    rw [reps_byts] at this
    rw [← reps_tab]
    exact this

theorem tower_New_spec {K : Nat → World → Prop} (hK : ∀ w', RAI w' w.heap.size → Fr 0 0 w w' → w'.heap.size = w.heap.size + 66 → K (w.heap.size + 61) w') : S.tower_New w K := by
  unfold S.tower_New
  refine bits_New_spec fun w1 t1 f1 s1 => ?_
  generalize hB : w.heap.size = B at *
  refine huff_New_spec fun w2 c2 h2 f2 s2 => ?_
  rw [s1] at h2 s2 ⊢
  refine huff_New_spec fun w3 c3 h3 f3 s3 => ?_
  rw [s2] at h3 s3 ⊢
  refine lz_New_spec fun w4 h4 f4 s4 => ?_
  rw [s3] at h4 s4 ⊢
  have F24 := f2.trans (f3.trans f4)
  have F34 := f3.trans f4
  refine block_New_spec (B := B) (by omega) (t1.fr F24 (by omega)) (h2.fr F34 (by omega)) (h3.fr f4 (by omega)) h4 fun w5 ps p5 f5 s5 => ?_
  refine bits_New_spec fun w6 t6 f6 s6 => ?_
  rw [s5] at t6 s6 ⊢
  refine huff_New_spec fun w7 c7 h7 f7 s7 => ?_
  rw [s6] at h7 s7 ⊢
  refine huff_New_spec fun w8 c8 h8 f8 s8 => ?_
  rw [s7] at h8 s8 ⊢
  have F78 := f7.trans f8
  refine stream_New_spec (T := B + 33) (by omega) (t6.fr F78 (by omega)) (h7.fr f8 (by omega)) h8 fun w9 rs r9 ho f9 s9 => ?_
  have F58 := f6.trans F78
  have p9 := (p5.fr F58 (by omega)).fr f9 (by omega)
  refine arch_New_spec (B := B) (by omega) p9 r9 ho fun w10 a10 f10 s10 => ?_
  refine hK w10 a10 ?_ s10
  have F05 : Fr 0 0 w w5 := ((f1.trans F24)).trans f5
  have F08 := F05.trans F58
  exact ((F08.thenNew f9 (by omega)).trans f10)
end Go.Proofs.Qxb6500563aGreat
