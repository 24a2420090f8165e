/-
  Fetching the rows that match: the real engine's fetch.
-/
import Derived.Test.Qxb6500564aGreatQzF
namespace Go.Proofs.Qxb6500564aGreat
open Go.Den Go.Zip
set_option linter.unusedVariables false
set_option linter.unusedSimpArgs false
variable {dq : Nat}
variable {w w' u v : World} {i j k n a b b0 q g : Nat} {x nm : ByteArray} {cs : List Cl} {sc sw r hit : Sl} {wh : List Cp} {row : List Vl} {T : Smt} {y : Nat → Sl} {ss hs : List Sl} {rows hr : List (List Vl)} {D : List Bk} {R : List Wr} {cur : Nat → Bk} {U : Mu} {O : Nat → Prop} {t tq : Tb}

theorem EV.open_ (h : EV dq w q D R cur U O) : ∃ g O1 last, Blk w q [ptrV g, .int .i64 ((last : Nat) : Int)] ∧ XV dq w g D R cur U O1 ∧ ¬ O1 q ∧ (∀ b, O b ↔ (b = q ∨ O1 b)) ∧ last ≤ 4 := h
theorem plP_kind {pk : Nat} {ix : Int} : 1 ≤ (plP cs pk ix wh).kind ∧ (plP cs pk ix wh).kind ≤ 4 := by
  unfold plP
  split
  · exact ⟨by show 1 ≤ 1; omega, by show 1 ≤ 4; omega⟩
  split
  · exact ⟨by show 1 ≤ 2; omega, by show 2 ≤ 4; omega⟩
  split
  · exact ⟨by show 1 ≤ 3; omega, by show 3 ≤ 4; omega⟩
  · exact ⟨by show 1 ≤ 4; omega, by show 4 ≤ 4; omega⟩
theorem sch_c {a b : Tb} (h : sch a = sch b) : a.cols = b.cols := by
  have : (sch a).cols = (sch b).cols := by rw [h]
  exact this
theorem sch_p {a b : Tb} (h : sch a = sch b) : a.pk = b.pk := by
  have : (sch a).pk = (sch b).pk := by rw [h]
  exact this
theorem sch_i {a b : Tb} (h : sch a = sch b) : a.ix = b.ix := by
  have : (sch a).ix = (sch b).ix := by rw [h]
  exact this
set_option maxHeartbeats 16000000 in
theorem qfetch_spec {s : Int} {K : Sl → Int → World → Prop} {n0 : ByteArray} (he : EV dq w q D R cur U O) (hf : fnB T.table (U.db 0) = some t) (oc : OS w sc (colC t.cols) 2) (oy : ∀ i, i < 5 → OS w (y i) (vc T i) (sz i)) (nc : ∀ b, owns sc b → ¬ O b) (ny : ∀ i, i < 5 → ∀ b, owns (y i) b → ¬ O b) (hT : SmOk T)
    (hty : ∀ c ∈ T.wh, tyG t.cols c = false) (hco : ∀ c ∈ T.wh, coN t.cols c.col ≠ none) (htk : tkE s T.table 1 U = 0 ∨ tkE s T.table 1 U = 21)
    (hK : ∀ w' r ss out e U', FtA s T.table t.cols T.wh U U' e out → (e = 0 → FR w.heap.size w' r ss out) → EV dq w' q D R cur U' O → FrP O w w' → K r e w') :
    S.query_Engine_fetch q s n0 sc (t.pk : Nat) t.ix (T.kind : Nat) T.table (y 0) (T.pk : Nat) (y 1) T.star (y 2) (y 3) (y 4) T.order T.desc T.hasLim T.lim w K := by
  unfold S.query_Engine_fetch
  have okU := he.ok
  have okt := (okU.d 0 (by omega)).ok t (fnB_mem hf).1
  have okt' := okt
  unfold TbOk at okt'
  have hcl : t.cols.length < 1000000 := by have := okt'.2.1; omega
  have n3 := hT.n3
  have oW : OS w (y 4) (cpsC T.wh) 5 := oy 4 (by omega)
  have hop : ∀ c ∈ T.wh, c.op < 1000 := fun c hc => by have := hT.op c hc; omega
  refine newB fun w1 q1 f1 z1 => newB fun w2 q2 f2 z2 => ?_
  have q1 : Blk w2 w.heap.size (schC n0 sc (t.pk : Nat) t.ix) := Blk.fr q1 f2 (by omega)
  have q2 : Blk w2 w1.heap.size (smC T y) := q2
  have f02 := f1.trans f2
  refine ldStr q1 rfl (ldS q1 rfl (ldI q1 rfl (ldI q1 rfl (ldS q2 rfl (planOf_spec (OS.fr0 oc f02) hcl (OS.fr0 oW f02) (by omega) hop fun w3 P hP f3 => newB fun w4 q4 f4 z4 => st10 (P := P) q4 rfl fun w5 q5 f5 => ?_)))))
  have hPk := plP_kind (cs := t.cols) (wh := T.wh) (pk := t.pk) (ix := t.ix)
  rw [← hP] at hPk
  have hle3 := f3.le
  have f35 : Fr 0 0 w3 w5 := f4.thenNew f5 (Nat.le_refl _)
  have f25 := f3.trans f35
  have f05 := f02.trans f25
  have fs5 : FS w.heap.size w1.heap.size w3.heap.size (schC n0 sc (t.pk : Nat) t.ix) (smC T y) (pnC P) sc t.cols T y w5 := ⟨q1.fr f25 (by omega), q2.fr f25 (by omega), q5, OS.fr0 oc f05, fun i hi => OS.fr0 (oy i hi) f05⟩
  have e5 := he.fr0 f05
  have hOlt : ∀ b, O b → b < w.heap.size := fun b hb => he.lt hb
  have hsz5 : w5.heap.size ≥ w3.heap.size + 1 := by have := q5.lt; omega
  have q15 : w1.heap.size = w.heap.size + 1 := z1
  have q26 : w2.heap.size = w1.heap.size + 1 := z2
  -- frames that leave schema, statement and plan alone
  have keep : ∀ {Q : Nat → Prop} {a b : World}, (∀ x, Q x → O x ∨ w5.heap.size ≤ x) → FS w.heap.size w1.heap.size w3.heap.size (schC n0 sc (t.pk : Nat) t.ix) (smC T y) (pnC P) sc t.cols T y a → FrP Q a b → FS w.heap.size w1.heap.size w3.heap.size (schC n0 sc (t.pk : Nat) t.ix) (smC T y) (pnC P) sc t.cols T y b := fun {Q a b} hQ h F => by
    have out : ∀ x, w.heap.size ≤ x → x < w5.heap.size → ¬ Q x := fun x h1 h2 h => (hQ x h).elim (fun h => by have := hOlt x h; omega) fun h => by omega
    refine h.frp F ⟨out _ (by omega) (by omega), out _ (by omega) (by omega), out _ (by omega) (by omega)⟩ (fun x hx h => ?_) fun i hi x hx h => ?_
    · rcases hQ x h with h | h
      · exact nc x hx h
      · have := OS.lt oc hx; omega
    · rcases hQ x h with h | h
      · exact ny i hi x hx h
      · have := OS.lt (oy i hi) hx; omega
  obtain ⟨g, O1, last, bq, hx, nq, hO, hl⟩ := e5
  have hqO : O q := (hO q).2 (.inl rfl)
  refine ldI fs5.b3 rfl (st1 bq (by show _ < 2; omega) fun w6 bq6 f6 z6 => ?_)
  have bq6 : Blk w6 q [ptrV g, .int .i64 ((P.kind : Nat) : Int)] := bq6
  have F6 : FrP O w5 w6 := FrP.of f6 fun b h1 h2 => by
    have : b = q := by omega
    rw [this]; exact hqO
  have fs6 := keep (fun x h => .inl h) fs5 F6
  have hx6 : XV dq w6 g D R cur U O1 := hx.frp (FrP.of (P := fun b => b = q) f6 fun b h1 h2 => by omega) fun b hb e => nq (e ▸ hb)
  have F06 : FrP O w w6 := (FrP.of0 f05).trans F6
  have ev : ∀ {v : World} {U' : Mu}, Blk v q [ptrV g, .int .i64 ((P.kind : Nat) : Int)] → XV dq v g D R cur U' O1 → EV dq v q D R cur U' O := fun {v U'} b h => ⟨g, O1, P.kind, b, h, nq, hO, hPk.2⟩
  have oF : ∀ {a b : World}, FrP O1 a b → FrP O a b := fun {a b} F => F.mono fun x hx => (hO x).2 (.inr hx)
  have hmt : ∀ {v : World} {xs : Sl} {rw_ : List Vl} {K : Bool → World → Prop}, FS w.heap.size w1.heap.size w3.heap.size (schC n0 sc (t.pk : Nat) t.ix) (smC T y) (pnC P) sc t.cols T y v → OS v xs (rowC rw_) 3 → rw_.length = t.cols.length → (∀ v', Fr 0 0 v v' → K (mtP t.cols T.wh rw_) v') → S.query_match n0 sc (t.pk : Nat) t.ix (y 4) xs v K := fun {v xs rw_ K} h ox hl hk =>
    match_spec h.oc hcl (h.oy 4 (by omega)) (by omega) ox hl hco hop hk
  refine ldI fs6.b3 rfl (join_PP (fun rw_ e v => ∃ ss rws U', FS w.heap.size w1.heap.size w3.heap.size (schC n0 sc (t.pk : Nat) t.ix) (smC T y) (pnC P) sc t.cols T y v ∧ EV dq v q D R cur U' O ∧ FrP O w v ∧ FR w5.heap.size v rw_ ss rws ∧ (∀ row ∈ rws, row.length = t.cols.length) ∧ rws.length ≤ 8 ∧ w5.heap.size ≤ v.heap.size ∧
      ((tkE s T.table 1 U = 21 ∧ e = 21 ∧ U' = U ∧ rws = []) ∨ (tkE s T.table 1 U = 0 ∧ e = 0 ∧ ∃ k i tq, s = (k : Nat) ∧ k < 4 ∧ U.act k = true ∧ fI T.table (U.db 0) = some i ∧ U' = tkU k i 1 U ∧ fnB T.table (U.db (seenD k i U')) = some tq ∧ TbOk tq ∧ tq.cols = t.cols ∧ (if P.kind = 3 then sortP t.pk false (rws.filter (mtP t.cols T.wh)) else rws.filter (mtP t.cols T.wh)) = tq.rows.filter (mtP t.cols T.wh)))) ?_ ?_)
  · rintro rw_ e v ⟨ss, rws, U', fs, hev, Fv, fr, hlen, hl8, hsz, hcase⟩
    have he21 : e = 0 ∨ e = 21 := by rcases hcase with ⟨_, h, _⟩ | ⟨_, h, _⟩ <;> omega
    -- the hits
    have hits : ∀ (J : Sl → World → Prop), (∀ hit v2, (∃ hs hr, hr = rws.filter (mtP t.cols T.wh) ∧ FS w.heap.size w1.heap.size w3.heap.size (schC n0 sc (t.pk : Nat) t.ix) (smC T y) (pnC P) sc t.cols T y v2 ∧ EV dq v2 q D R cur U' O ∧ FrP O w v2 ∧ FR w5.heap.size v2 hit hs hr) → J hit v2) →
      LoopP (σ := Sl × Int × Unit) (fun st29 w_1 next30 =>
        if (decide (st29.2.1 < (rw_.l : Int))) = true then
          Join (fun (hit_31 : Sl) (w : World) =>
            Let (W (st29.2.1 + 1)) fun i_32 =>
            next30 (hit_31, i_32, ()) w) fun J33 =>
          Drew w_1 fun w_1 =>
          LdStr w_1 ⟨w.heap.size, 0, none⟩ fun Name_34 =>
          LdS w_1 ⟨w.heap.size, 1, none⟩ fun Cols_35 =>
          LdI .i64 w_1 ⟨w.heap.size, 2, none⟩ fun PK_36 =>
          LdI .i64 w_1 ⟨w.heap.size, 3, none⟩ fun Index_37 =>
          LdS w_1 ⟨w1.heap.size, 8, none⟩ fun Where_38 =>
          Ix rw_.a rw_.l st29.2.1 fun b39 o40 =>
          LdS w_1 ⟨b39, o40 + Int.toNat st29.2.1 * 1, none⟩ fun x_41 =>
          S.query_match Name_34 Cols_35 PK_36 Index_37 Where_38 x_41 w_1 (fun r42 w_1 =>
          if r42 = true then
            Ix rw_.a rw_.l st29.2.1 fun b43 o44 =>
            LdS w_1 ⟨b43, o44 + Int.toNat st29.2.1 * 1, none⟩ fun x_45 =>
            New w_1 (.cells #[.slice x_45.a x_45.l x_45.c] 61) fun p46 w_1 =>
            AppS 61 [.slice none 0 0] 24 1 w_1 st29.1 ⟨some ⟨p46, 0, none⟩, 1, 1⟩ fun l47 w_1 =>
            J33 l47 w_1
          else
            J33 st29.1 w_1)
        else
          J st29.1 w_1) (⟨none, 0, 0⟩, 0, ()) v := fun J hJ => by
      have hrl := fr.len
      refine loopN (fun m sv v2 => ∃ (p : Nat) (hit : Sl) (hs : List Sl), sv = (hit, (p : Int), ()) ∧ p + m = rws.length ∧ HT w5.heap.size v2 hit hs ((rws.take p).filter (mtP t.cols T.wh)) ss p ∧ FS w.heap.size w1.heap.size w3.heap.size (schC n0 sc (t.pk : Nat) t.ix) (smC T y) (pnC P) sc t.cols T y v2 ∧ EV dq v2 q D R cur U' O ∧ FrP O w v2 ∧ FR w5.heap.size v2 rw_ ss rws ∧ w5.heap.size ≤ v2.heap.size ∧ ∀ b, owns hit b → ¬ owns rw_ b) rws.length
        ⟨0, nilS, [], rfl, by omega, HT.nil _ _ _, fs, hev, Fv, fr, hsz, fun b hb => (by cases hb)⟩ ?_
      rintro m _ v2 ⟨p, hit, hs, rfl, hm, ht, fs2, ev2, F2, fr2, hsz2, hno⟩ Q hQ
      dsimp only
      refine ifd (fun hlt => ?_) fun hlt => ?_
      · have hlt : p < rws.length := by omega
        obtain ⟨row, hrow⟩ : ∃ row, rws[p]? = some row := ⟨_, List.getElem?_eq_getElem hlt⟩
        obtain ⟨xs, hxs⟩ : ∃ xs, ss[p]? = some xs := ⟨_, List.getElem?_eq_getElem (by rw [fr.row.1]; exact hlt)⟩
        have hrm := List.mem_of_getElem? hrow
        have hxm := List.mem_of_getElem? hxs
        have htk2 : (rws.take (p + 1)).filter (mtP t.cols T.wh) = (rws.take p).filter (mtP t.cols T.wh) ++ (if mtP t.cols T.wh row then [row] else []) := by
          rw [List.take_add_one, hrow, List.filter_append]
          congr 1
          cases hmm : mtP t.cols T.wh row
          · rw [if_neg (by simp)]; simp [hmm]
          · rw [if_pos rfl]; simp [hmm]
        refine join_P (fun hit' v3 => ∃ hs', HT w5.heap.size v3 hit' hs' ((rws.take (p + 1)).filter (mtP t.cols T.wh)) ss (p + 1) ∧ FS w.heap.size w1.heap.size w3.heap.size (schC n0 sc (t.pk : Nat) t.ix) (smC T y) (pnC P) sc t.cols T y v3 ∧ EV dq v3 q D R cur U' O ∧ FrP O w v3 ∧ FR w5.heap.size v3 rw_ ss rws ∧ w5.heap.size ≤ v3.heap.size ∧ ∀ b, owns hit' b → ¬ owns rw_ b) ?_ ?_
        · rintro hit' v3 ⟨hs', ht3, fs3, ev3, F3, fr3, hsz3, hno3⟩
          refine let_ ?_
          rw [W_succ (by omega)]
          exact hQ (m - 1) _ _ (by omega) ⟨p + 1, hit', hs', rfl, by omega, ht3, fs3, ev3, F3, fr3, hsz3, hno3⟩
        · intro J33 hJ33
          have fd := fs2.dr
          have frd : FR w5.heap.size v2.drew rw_ ss rws := fr2.fr0 ((Fr.refl 0 0 v2).drew)
          have gets : ∀ {z : World} {KK : Sl → Prop}, FR w5.heap.size z rw_ ss rws → KK xs → Ix rw_.a rw_.l (p : Int) fun b o => LdS z ⟨b, o + Int.toNat (p : Int) * 1, none⟩ KK := fun {z KK} h hk => by
            refine OS.get h.arr (by rw [h.len]; exact hlt) fun g2 us hb he2 ho => ?_
            have e : us[p]? = some (slV xs) := by
              rw [he2 p (by rw [List.length_map, h.row.1]; exact hlt), List.getElem?_map, hxs]; rfl
            exact ldS hb (by rw [Int.toNat_natCast, Nat.zero_add, Nat.mul_one]; exact e) hk
          refine drew_ (ldStr fd.b1 rfl (ldS fd.b1 rfl (ldI fd.b1 rfl (ldI fd.b1 rfl (ldS fd.b2 rfl (gets frd (hmt fd (frd.row.2 p xs row hxs hrow) (hlen row hrm) fun v3 g3 => ifb (fun hm2 => ?_) fun hm2 => ?_)))))))
          · have fr3 := frd.fr0 g3
            have ht3 := ht.fr0 ((Fr.refl 0 0 v2).drew) |>.fr0 g3
            have hle3 := g3.le
            refine gets fr3 (ht3.add fr3 (by omega) hxs hrow (fun v4 hit4 ht4 F4 gr4 => ?_) (by exact Nat.le_trans hsz2 hle3))
            have fs4 := keep (fun x hx => .inr hx.1) (fd.fr0 g3) F4
            refine hJ33 _ _ ⟨hs ++ [xs], by rw [htk2, hm2, if_pos rfl]; exact ht4, fs4, (ev2.dr.fr0 g3).frp F4 fun b hb h => by have := hOlt b hb; omega, ((F2.drew.trans (FrP.of0 g3)).trans' F4 fun b hb => .inr (by omega)), ⟨fr3.arr.frp F4 fun b hb h => hno b h.2 hb, fr3.row.frp F4 fun t ht b hb h => ht3.rn t ht b hb h.2, fr3.ra, fr3.rb, fr3.dis⟩, Nat.le_trans (Nat.le_trans hsz2 hle3) F4.1.1, fun b hb hb' => ?_⟩
            rcases gr4 b hb with h | h
            · exact hno b h hb'
            · have := OS.lt fr3.arr hb'; omega
          · have ht3 := (ht.fr0 ((Fr.refl 0 0 v2).drew) |>.fr0 g3).skip
            exact hJ33 _ _ ⟨hs, by rw [htk2, hm2, if_neg (by simp), List.append_nil]; exact ht3, fd.fr0 g3, ev2.dr.fr0 g3, F2.drew.trans (FrP.of0 g3), frd.fr0 g3, by have := g3.le; exact Nat.le_trans hsz2 this, hno⟩
      · have hpe : rws.length ≤ p := by omega
        rw [List.take_of_length_le hpe] at ht
        exact hJ hit v2 ⟨hs, _, rfl, fs2, ev2, F2, ht.fin fr2⟩
    refine join_P (fun e' v' => e = e' ∧ v = v') ?_ ?_
    · rintro _ _ ⟨rfl, rfl⟩
      refine join_P (fun hit v2 => ∃ hs hr, hr = rws.filter (mtP t.cols T.wh) ∧ FS w.heap.size w1.heap.size w3.heap.size (schC n0 sc (t.pk : Nat) t.ix) (smC T y) (pnC P) sc t.cols T y v2 ∧ EV dq v2 q D R cur U' O ∧ FrP O w v2 ∧ FR w5.heap.size v2 hit hs hr) ?_ fun J28 hJ28 => hits J28 hJ28
      rintro hit v2 ⟨hs, hr, hhr, fs2, ev2, F2, fr2⟩
      have hb5 : w.heap.size ≤ w5.heap.size := f05.le
      have fin : ∀ (v3 : World) (ss' : List Sl) (hr' : List (List Vl)), hr' = (if P.kind = 3 then sortP t.pk false hr else hr) → FR w5.heap.size v3 hit ss' hr' → EV dq v3 q D R cur U' O → FrP O w v3 → K hit e v3 := fun v3 ss' hr' e1 fr3 ev3 F3 => by
        refine hK v3 hit ss' hr' e U' ?_ (fun _ => fr3.low hb5) ev3 F3
        rcases hcase with ⟨h1, h2, h3, h4⟩ | ⟨h1, h2, k, i, tq, h3, h4, h5, h6, h7, h8, h9, h10, h11⟩
        · exact .inl ⟨h1, h2, h3⟩
        · exact .inr ⟨h1, h2, k, i, tq, h3, h4, h5, h6, h7, h8, h9, h10, by rw [e1, hhr]; exact h11⟩
      refine ldI fs2.b3 rfl ?_
      rw [join_eq]
      refine ifk (fun h3 => ?_) fun h3 => ?_
      · have h3 : P.kind = 3 := by
          have h3 : ((P.kind : Nat) : Int) = 3 := h3
          omega
        have hrl : hr.length ≤ 8 := by rw [hhr]; exact Nat.le_trans (List.length_filter_le _ _) hl8
        refine ldI fs2.b1 rfl (sortRows_spec (col := t.pk) fr2.arr fr2.row (by omega) (fun row hrow => ?_) (fun x hx b hb => (fr2.rb x hx b hb).2) fun v3 ss' o3 r3 pm F3 => ?_)
        · rw [hhr] at hrow
          rw [hlen row (List.mem_filter.1 hrow).1]
          exact okt'.2.2.2.1
        · refine fin v3 ss' _ (by rw [if_pos h3]) ⟨o3, r3, fr2.ra, fun x hx b hb => fr2.rb x (pm.mem_iff.1 hx) b hb, (pm.pairwise_iff (fun {a c} h b hb hb' => h b hb' hb)).2 fr2.dis⟩ (ev2.frp F3 fun b hb h => by have := hOlt b hb; have := fr2.ra b h; omega) (F2.trans' F3 fun b hb => .inr (by have := fr2.ra b hb; omega))
      · have h3 : ¬ P.kind = 3 := by
          have h3 : ¬ ((P.kind : Nat) : Int) = 3 := h3
          omega
        exact fin v2 hs hr (by rw [if_neg h3]) fr2 ev2 F2
    · intro J48 hJ48
      refine ifnk (fun h0 => ifnk (fun h21 => ?_) fun h21 => hJ48 _ _ ⟨rfl, rfl⟩) fun h0 => hJ48 _ _ ⟨rfl, rfl⟩
      omega
  · intro J49 hJ49
    have hwl := hT.wl
    have hsz6 : w6.heap.size = w5.heap.size := z6
    refine ifk (fun h1 => ?_) fun h1 => ?_
    · have h1 : P.kind = 1 := by
        have h1 : ((P.kind : Nat) : Int) = 1 := h1
        omega
      have fd := fs6.dr
      have rt := road_look okt hP h1 hty hco hwl
      refine drew_ (ldP bq6.drew rfl (ldStr fd.b2 rfl (ldB fd.b3 rfl (ldI fd.b3 rfl (ldStr fd.b3 rfl (xlook_spec (key := P.lo.v) hx6.dr rt.1 (fun t' ht' => ?_) (fun hne w7 x7 F7 => ?_) (fun k i tq h0 hs hk ha hfi hfq hrb w7 x7 F7 => ?_) fun k i tq yy h0 hs hk ha hfi hfq hrb w7 rr orr hor x7 F7 => ?_))))))
      · rw [hf] at ht'; cases ht'
        exact rt.2.1
      · have e21 := htk.resolve_left hne
        rw [if_neg (by rw [e21]; decide), if_pos (by rw [e21]; decide), e21]
        have Fo := oF F7
        have fs7 := keep (fun x h => .inl h) fd Fo
        exact hJ49 _ _ _ ⟨[], [], U, fs7, ev (bq6.drew.frp F7 nq) x7, F06.drew.trans Fo, FR.none _ _, fun _ h => (by cases h), Nat.zero_le _, by have := F7.1.1; exact Nat.le_trans (Nat.le_of_eq hsz6.symm) this, .inl ⟨e21, rfl, rfl, rfl⟩⟩
      · have st := seen_tab (s := s) okU hk hf hfq x7.ok
        have e0 : (tkU k i 1 U).db = U.db := by unfold tkU; simp
        have hsch := st.2
        have ec : tq.cols = t.cols := sch_c hsch
        have ep : tq.pk = t.pk := sch_p hsch
        have ei : tq.ix = t.ix := sch_i hsch
        have rq := road_look (q := tq) (P := P) (wh := T.wh) st.1 (by rw [ec, ep, ei]; exact hP) h1 (by rw [ec]; exact hty) (by rw [ec]; exact hco) hwl
        rw [ec] at rq
        rw [if_neg (by decide), if_neg (by decide)]
        have Fo := oF F7
        have fs7 := keep (fun x h => .inl h) fd Fo
        refine hJ49 _ _ _ ⟨[], [], tkU k i 1 U, fs7, ev (bq6.drew.frp F7 nq) x7, F06.drew.trans Fo, FR.none _ _, fun _ h => (by cases h), Nat.zero_le _, by have := F7.1.1; exact Nat.le_trans (Nat.le_of_eq hsz6.symm) this, .inr ⟨h0, rfl, k, i, tq, hs, hk, ha, hfi, rfl, hfq, st.1, ec, ?_⟩⟩
        rw [if_neg (by omega)]
        exact (rq.2.2.1 hrb).symm
      · have st := seen_tab (s := s) okU hk hf hfq x7.ok
        have hsch := st.2
        have ec : tq.cols = t.cols := sch_c hsch
        have ep : tq.pk = t.pk := sch_p hsch
        have ei : tq.ix = t.ix := sch_i hsch
        have rq := road_look (q := tq) (P := P) (wh := T.wh) st.1 (by rw [ec, ep, ei]; exact hP) h1 (by rw [ec]; exact hty) (by rw [ec]; exact hco) hwl
        rw [ec] at rq
        rw [if_pos (by decide)]
        have Fo := oF F7
        have fs7 := keep (fun x h => .inl h) fd Fo
        have hsz7 : w5.heap.size ≤ w7.heap.size := by have := F7.1.1; exact Nat.le_trans (Nat.le_of_eq hsz6.symm) this
        have hor : ∀ b, owns rr b → w5.heap.size ≤ b := fun b hb => by
          have h : w6.drew.heap.size ≤ b := hor b hb
          exact Nat.le_trans (Nat.le_of_eq hsz6.symm) h
        refine newB fun w8 q8 f8 z8 => app1 (vs := []) (sz := 1) (OS.nil _ _) q8 rfl rfl rfl (by show (0 + 1) * 24 ≤ 2 ^ 46; omega) fun s9 w9 o9 l9 gr9 F9 => ?_
        have F9 : Fr 0 0 w8 w9 := ⟨F9.1, fun b hb _ => F9.2 b hb fun h => by cases h⟩
        have f89 := f8.trans F9
        have hown9 : ∀ b, owns s9 b → w8.heap.size ≤ b := fun b hb => (gr9 b hb).elim (fun h => by cases h) id
        have hle8 := f8.le
        have fr9 : FR w5.heap.size w9 s9 [rr] [yy] := by
          refine ⟨o9, ⟨rfl, fun j s' r' h1 h2 => ?_⟩, fun b hb => by have := hown9 b hb; omega, fun x hx b hb => ?_, List.pairwise_singleton _ _⟩
          · cases j with
            | zero => cases h1; cases h2; exact OS.fr0 orr f89
            | succ j => cases h1
          · rw [List.mem_singleton] at hx
            subst hx
            refine ⟨hor b hb, fun h => ?_⟩
            have := hown9 b h
            have := OS.lt orr hb
            omega
        have hyr := (rowBy_mem hrb).1
        have okq := st.1
        unfold TbOk at okq
        refine hJ49 _ _ _ ⟨[rr], [yy], tkU k i 1 U, fs7.fr0 f89, (ev (bq6.drew.frp F7 nq) x7).fr0 f89, (F06.drew.trans Fo).trans (FrP.of0 f89), fr9, fun row hrow => ?_, by show 1 ≤ 8; omega, by have := f89.le; omega, .inr ⟨h0, rfl, k, i, tq, hs, hk, ha, hfi, rfl, hfq, st.1, ec, ?_⟩⟩
        · rw [List.mem_singleton] at hrow
          subst hrow
          rw [← ec]
          exact (okq.2.2.2.2.2.2.1 row hyr).1.1
        · rw [if_neg (by omega)]
          exact (rq.2.2.2 yy hrb).symm
    · have h1 : P.kind ≠ 1 := by
        have h1 : ((P.kind : Nat) : Int) ≠ 1 := h1
        omega
      have fd := fs6.dr
      have rt := road_ok okt hP h1 hty hco hwl
      refine drew_ (ldP bq6.drew rfl (ldStr fd.b2 rfl (ldI fd.b3 rfl (ldB fd.b3 rfl (ldB fd.b3 rfl (ldI fd.b3 rfl (ldStr fd.b3 rfl (ldB fd.b3 rfl (ldB fd.b3 rfl (ldI fd.b3 rfl (ldStr fd.b3 rfl (xscan_spec (lo := P.lo) (hi := P.hi) hx6.dr rt.2.1 rt.2.2 (fun hne w7 x7 F7 => ?_) (fun k i t' h0 hs hk ha hfi hft hse => ?_) fun k i t' tq h0 hs hk ha hfi hft hse hfq hsch okq w7 rr sss out hsc frr x7 F7 => ?_))))))))))))
      · have e21 := htk.resolve_left hne
        rw [e21]
        have Fo := oF F7
        have fs7 := keep (fun x h => .inl h) fd Fo
        exact hJ49 _ _ _ ⟨[], [], U, fs7, ev (bq6.drew.frp F7 nq) x7, F06.drew.trans Fo, FR.none _ _, fun _ h => (by cases h), Nat.zero_le _, by have := F7.1.1; exact Nat.le_trans (Nat.le_of_eq hsz6.symm) this, .inl ⟨e21, rfl, rfl, rfl⟩⟩
      · rw [hf] at hft; cases hft
        exact absurd rt.1 hse
      · rw [hf] at hft; cases hft
        have ec : tq.cols = t.cols := sch_c hsch
        have ep : tq.pk = t.pk := sch_p hsch
        have ei : tq.ix = t.ix := sch_i hsch
        have rq := road_scan (q := tq) (P := P) (wh := T.wh) okq (by rw [ec, ep, ei]; exact hP) h1 hsc
        rw [ec, ep] at rq
        have Fo := oF F7
        have fs7 := keep (fun x h => .inl h) fd Fo
        have hsz7 : w5.heap.size ≤ w7.heap.size := by have := F7.1.1; exact Nat.le_trans (Nat.le_of_eq hsz6.symm) this
        have okq' := okq
        unfold TbOk at okq'
        have hl := scan_len okq hsc
        refine hJ49 _ _ _ ⟨sss, out, tkU k i 1 U, fs7, ev (bq6.drew.frp F7 nq) x7, F06.drew.trans Fo, frr.low (Nat.le_of_eq hsz6.symm), fun row hrow => ?_, Nat.le_trans hl okq'.2.2.2.2.2.1, hsz7, .inr ⟨h0, rfl, k, i, tq, hs, hk, ha, hfi, rfl, hfq, okq, ec, rq⟩⟩
        rw [← ec]
        exact (okq'.2.2.2.2.2.2.1 row ((hsc.2 row).1 hrow).1).1.1
end Go.Proofs.Qxb6500564aGreat
