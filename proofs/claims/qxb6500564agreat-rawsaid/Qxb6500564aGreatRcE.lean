/-
  A cut.
-/
import Derived.Test.Qxb6500564aGreatRcD
namespace Go.Proofs.Qxb6500564aGreat
open Go.Den Go.Zip
set_option linter.unusedVariables false
set_option linter.unusedSimpArgs false
variable {dq : Nat} {w w' u v : World} {i j n t f p q g l d x m mb b o : Nat} {D X : List Bk} {R R0 ws : List Wr} {cur cur' : Nat → Bk} {op box : Bool} {O Os Ol Od O' Ox Om Ob : Nat → Prop} {db db2 : Db} {U Ub : Mu} {pre post : List Value}

theorem uc_see (k i : Nat) (db : Db) : seenD k i (UC db) = 0 := rfl
theorem alk_eq (h1 : DbOk db) (h2 : DbOk db2) (h : AlkP (UC db) (UC db2)) : db = db2 := by
  obtain ⟨hn, hall⟩ := h
  have hn : db.map (·.name) = db2.map (·.name) := hn
  refine List.ext_getElem? fun i => ?_
  have hi := congrArg (fun l : List ByteArray => l[i]?) hn
  simp only [List.getElem?_map] at hi
  cases e1 : db[i]? with
  | none =>
    rw [e1] at hi
    cases e2 : db2[i]? with
    | none => rfl
    | some t2 => rw [e2] at hi; cases hi
  | some t1 =>
    rw [e1] at hi
    cases e2 : db2[i]? with
    | none => rw [e2] at hi; cases hi
    | some t2 =>
      rw [e2] at hi
      have hnm : t1.name = t2.name := Option.some.inj hi
      have f1 : fnB t1.name db = some t1 := h1.fnB_at e1
      have f2 : fnB t2.name db2 = some t2 := h2.fnB_at e2
      rw [hnm] at f1
      have hm : t2.name ∈ nmsU (UC db2) := List.mem_map.2 ⟨t2, List.mem_of_getElem? e2, rfl⟩
      obtain ⟨⟨_, _, q3, q4, q5⟩, _, q6⟩ := hall _ hm
      have g1 : fnB t2.name ((UC db).db 0) = some t1 := f1
      have g2 : fnB t2.name ((UC db2).db 0) = some t2 := f2
      unfold schL at q3
      unfold schK at q4
      unfold schI at q5
      rw [g1, g2] at q3 q4 q5
      obtain ⟨i1, hi1⟩ := fI_fnB (U := UC db) g1
      obtain ⟨i2, hi2⟩ := fI_fnB (U := UC db2) g2
      have v1 := (vw_of (s := 0) (k := 0) (U := UC db) rfl (by omega) hi1 g1).2
      have v2 := (vw_of (s := 0) (k := 0) (U := UC db2) rfl (by omega) hi2 g2).2
      rw [v1, v2] at q6
      congr 1
      obtain ⟨a1, a2, a3, a4, a5⟩ := t1
      obtain ⟨b1, b2, b3, b4, b5⟩ := t2
      have p3 : a2 = b2 := q3
      have p4 : (a3 : Int) = (b3 : Int) := q4
      have p5 : a4 = b4 := q5
      have p6 : a5 = b5 := q6
      have p1 : a1 = b1 := hnm
      have p4 : a3 = b3 := by omega
      rw [p1, p3, p4, p5, p6]
theorem bs_get (hb : Blk w b (pre ++ (bsC box d x m mb ++ post))) (ho : pre.length = o) (k : Nat) (hk : k < 5) : (pre ++ (bsC box d x m mb ++ post))[o + k]? = (bsC box d x m mb)[k]? := by
  rw [List.getElem?_append_right (by omega), ho, Nat.add_sub_cancel_left, List.getElem?_append_left (by show k < 5; exact hk)]
theorem bs_set (ho : pre.length = o) (k : Nat) (hk : k < 5) (v : Value) : (pre ++ (bsC box d x m mb ++ post)).set (o + k) v = pre ++ ((bsC box d x m mb).set k v ++ post) := by
  rw [← ho]
  exact set_in pre post (bsC box d x m mb) k v (by show k < 5; exact hk)
theorem stDp {d2 : Nat} {K : World → Prop} (hb : Blk w b (pre ++ (bsC box d x m mb ++ post))) (ho : pre.length = o) (hK : ∀ w', Blk w' b (pre ++ (bsC box d2 x m mb ++ post)) → FrP (fun c => c = b) w w' → K w') : St1 w ⟨b, o + 1, none⟩ (.pointer (some ⟨d2, 0, none⟩)) fun w => K w := by
  refine st1 hb (by rw [List.length_append, List.length_append]; show o + 1 < _ + (5 + _); omega) fun w1 b1 f1 _ => ?_
  rw [bs_set ho 1 (by omega)] at b1
  exact hK w1 b1 (FrP.of f1 fun c h1 h2 => by omega)
theorem stX {d2 : Nat} {K : World → Prop} (hb : Blk w b (pre ++ (bsC box d x m mb ++ post))) (ho : pre.length = o) (hK : ∀ w', Blk w' b (pre ++ (bsC box d d2 m mb ++ post)) → FrP (fun c => c = b) w w' → K w') : St1 w ⟨b, o + 2, none⟩ (.pointer (some ⟨d2, 0, none⟩)) fun w => K w := by
  refine st1 hb (by rw [List.length_append, List.length_append]; show o + 2 < _ + (5 + _); omega) fun w1 b1 f1 _ => ?_
  rw [bs_set ho 2 (by omega)] at b1
  exact hK w1 b1 (FrP.of f1 fun c h1 h2 => by omega)
theorem stM {d2 : Nat} {K : World → Prop} (hb : Blk w b (pre ++ (bsC box d x m mb ++ post))) (ho : pre.length = o) (hK : ∀ w', Blk w' b (pre ++ (bsC box d x d2 mb ++ post)) → FrP (fun c => c = b) w w' → K w') : St1 w ⟨b, o + 3, none⟩ (.pointer (some ⟨d2, 0, none⟩)) fun w => K w := by
  refine st1 hb (by rw [List.length_append, List.length_append]; show o + 3 < _ + (5 + _); omega) fun w1 b1 f1 _ => ?_
  rw [bs_set ho 3 (by omega)] at b1
  exact hK w1 b1 (FrP.of f1 fun c h1 h2 => by omega)
theorem stN {d2 : Nat} {K : World → Prop} (hb : Blk w b (pre ++ (bsC box d x m mb ++ post))) (ho : pre.length = o) (hK : ∀ w', Blk w' b (pre ++ (bsC box d x m d2 ++ post)) → FrP (fun c => c = b) w w' → K w') : St1 w ⟨b, o + 4, none⟩ (.pointer (some ⟨d2, 0, none⟩)) fun w => K w := by
  refine st1 hb (by rw [List.length_append, List.length_append]; show o + 4 < _ + (5 + _); omega) fun w1 b1 f1 _ => ?_
  rw [bs_set ho 4 (by omega)] at b1
  exact hK w1 b1 (FrP.of f1 fun c h1 h2 => by omega)
/-- Which databases the image of a cut stands for. -/
theorem cut_pick {dbo dbn : Db} {k : Int} (c : Crp D R dbo dbn) : ∃ dbA, Rcv (appl D (R.take k.toNat)) dbA ∧ ((dbA = dbo ∧ (R.length ≤ k → dbo = dbn ∨ (R = [] ∧ k.toNat = 0 ∧ Hld (cX D) dbo ∧ Hld (cX D) dbn))) ∨ (dbA = dbn ∧ ¬ k ≤ 0)) := by
  by_cases h0 : k ≤ 0
  · have e0 : k.toNat = 0 := by omega
    refine ⟨dbo, by rw [e0, List.take_zero]; exact c.no, .inl ⟨rfl, fun hl => ?_⟩⟩
    have hR : R = [] := List.length_eq_zero_iff.1 (by omega)
    rcases c.both hR with h | h
    · exact .inl h
    · exact .inr ⟨hR, e0, h.1, h.2⟩
  · by_cases hl : R.length ≤ k
    · exact ⟨dbn, c.all _ (by omega), .inr ⟨rfl, h0⟩⟩
    · rcases c.any k.toNat with h | h
      · exact ⟨dbo, h, .inl ⟨rfl, fun h => absurd h hl⟩⟩
      · exact ⟨dbn, h, .inr ⟨rfl, h0⟩⟩
set_option maxHeartbeats 8000000 in
theorem cut_spec {k : Int} {K : Bool → World → Prop} (hb : Blk w b (pre ++ (bsC box d x m mb ++ post))) (ho : pre.length = o) (bs : BS w d x m mb U Ub O) (nb : ¬ O b)
    (hK : ∀ w' d' x' m' mb' db O', Blk w' b (pre ++ (bsC box d' x' m' mb' ++ post)) → BS w' d' x' m' mb' (UC db) (UC db) O' → (∀ c, O' c → w.heap.size ≤ c) → FrP (fun c => c = b) w w' → K true w') : S.towerexact_base_cut b o k w K := by
  unfold S.towerexact_base_cut
  obtain ⟨⟨D, R, cur, Ox, Om, Ob, ev, qm, qb, d1, d2, hO, cr, hR, cm⟩, ok, okb⟩ := bs
  have hbl := hb.lt
  obtain ⟨dbA, rA, hA⟩ := cut_pick (k := k) cr
  refine ldP hb (bs_get hb ho 1 (by omega)) (esteps_spec ev (ldP hb (bs_get hb ho 1 (by omega)) (eafter_spec (k := k) ev (by omega) fun w1 n1 O1 di1 nO1 f1 => ?_)))
  have hb1 := hb.fr f1 (by omega)
  have hle1 := f1.le
  refine ldB hb1 (by have := bs_get hb1 ho 0 (by omega); exact this) (open_spec di1 rA fun w2 q2 O2 R2 cur2 ev2 G2 Fe2 => ?_)
  have nO2 : ∀ c, O2 c → w.heap.size ≤ c := fun c hc => (G2.2 c hc).elim (nO1 c) fun h => by omega
  have F12 : Fr 0 0 w w2 := ⟨f1.1.trans G2.1.1, fun c hc _ => by rw [G2.1.2 c (Nat.lt_of_lt_of_le hc f1.le) (fun h => by have := nO1 c h; omega), f1.2 c hc (by omega)]⟩
  have hb2 := hb.fr F12 (by omega)
  have hle2 := F12.le
  refine ldP hb2 (bs_get hb2 ho 4 (by omega)) (qcrash_spec (qb.fr0 F12) okb fun w3 r8 O8 q8 nO8 f3 => ?_)
  have hb3 := hb2.fr f3 (by omega)
  have F13 := F12.trans f3
  refine ldP hb3 (bs_get hb3 ho 3 (by omega)) (qcrash_spec (qm.fr0 F13) ok fun w4 r10 O10 q10 nO10 f4 => ?_)
  rw [crash_eq] at q8 q10
  have hb4 := hb3.fr f4 (by omega)
  have F14 := F13.trans f4
  have hle3 := f3.le
  have hle4 := f4.le
  have okU := (ok.d 0 (by omega))
  have okB := (okb.d 0 (by omega))
  have bx : BX n1 w4 q2 r8 (appl D (R.take k.toNat)) R2 cur2 (UC dbA) (UC (Ub.db 0)) O2 O8 := ⟨(ev2.fr0 f3).fr0 f4, q8.fr0 f4, UOk.uc okB, fun c h1 h2 => by have := ev2.lt h1; have := nO8 c h2; omega⟩
  refine alike_spec bx fun r11 w5 h11 h11' bx5 F5 => ?_
  have F15 : Fr 0 0 w w5 := ⟨F14.1.trans F5.1, fun c hc _ => by rw [F5.2 c (Nat.lt_of_lt_of_le hc F14.le) (fun h => by have := nO2 c h; omega), F14.2 c hc (by omega)]⟩
  have q105 : QV w5 r10 (UC (U.db 0)) O10 := q10.frp F5 fun c h1 h2 => by have := nO10 c h1; have := ev2.lt h2; omega
  -- the second look
  have second : ∃ dbB, Rcv (appl D (R.take k.toNat)) dbB ∧ EV n1 w5 q2 (appl D (R.take k.toNat)) R2 cur2 (UC dbB) O2 ∧ ((R.length : Nat) ≤ k → dbB = U.db 0) ∧ (dbA = U.db 0 → dbB = U.db 0) ∧ DbOk dbB := by
    have okA : DbOk dbA := by have := bx5.ev.ok.d 0 (by omega); rw [UC_db] at this; exact this
    rcases hA with ⟨eA, hA⟩ | ⟨eA, hA⟩
    · by_cases hl : (R.length : Nat) ≤ k
      · rcases hA hl with h | ⟨hRn, h0, ho', hn'⟩
        · exact ⟨dbA, rA, bx5.ev, fun _ => by rw [eA, h], fun h => h, okA⟩
        · have eX : appl D (R.take k.toNat) = D := by rw [hRn, List.take_nil]; rfl
          refine ⟨U.db 0, ?_, ?_, fun _ => rfl, fun _ => rfl, okU⟩
          · rw [eX]; exact .inr (.inr hn')
          · refine bx5.ev.swap (hn'.ext fun n hn => ?_)
            have := Fe2.od (by rw [eX, eA]; exact ho') n hn
            rw [eX] at this
            exact this
      · exact ⟨dbA, rA, bx5.ev, fun h => absurd h hl, fun h => h, okA⟩
    · exact ⟨dbA, rA, bx5.ev, fun _ => eA, fun h => h, okA⟩
  obtain ⟨dbB, rB, evB, hB1, hB2, okB'⟩ := second
  have bxB : BX n1 w5 q2 r10 (appl D (R.take k.toNat)) R2 cur2 (UC dbB) (UC (U.db 0)) O2 O10 := ⟨evB, q105, UOk.uc okU, fun c h1 h2 => by have := ev2.lt h1; have := nO10 c h2; omega⟩
  refine alike_spec bxB fun r12 w6 h12 h12' bx6 F6 => ?_
  have F16 : Fr 0 0 w w6 := ⟨F15.1.trans F6.1, fun c hc _ => by rw [F6.2 c (Nat.lt_of_lt_of_le hc F15.le) (fun h => by have := nO2 c h; omega), F15.2 c hc (by omega)]⟩
  have q86 : QV w6 r8 (UC (Ub.db 0)) O8 := bx5.qv.frp F6 fun c h1 h2 => by have := nO8 c h1; have := ev2.lt h2; omega
  -- what the answers tell
  have t11 : k ≤ 0 → r11 = true := fun h => by
    rcases hA with ⟨eA, _⟩ | ⟨_, hA⟩
    · exact h11 (by rw [eA])
    · exact absurd h hA
  have t12 : (R.length : Nat) ≤ k → r12 = true := fun h => h12 (by rw [hB1 h])
  have tor : r11 = true ∨ r12 = true := by
    rcases hA with ⟨eA, _⟩ | ⟨eA, _⟩
    · exact .inl (h11 (by rw [eA]))
    · exact .inr (h12 (by rw [hB2 eA]))
  have go : ∀ (J : World → Prop), J w6 → (if (!r11) = true then if (!r12) = true then K false w6 else J w6 else J w6) := fun J hJ => by
    cases h1 : r11 with
    | true => rw [if_neg (by simp)]; exact hJ
    | false =>
      rw [if_pos (by rfl)]
      have : r12 = true := tor.resolve_left (by rw [h1]; simp)
      rw [this, if_neg (by simp)]
      exact hJ
  refine join_W (fun u => w6 = u) ?_ fun J hJ => go J (hJ w6 rfl)
  rintro _ rfl
  refine join_W (fun u => w6 = u) ?_ fun J hJ => ?_
  · rintro _ rfl
    -- which database it is
    obtain ⟨dbf, rf, hdbf⟩ : ∃ dbf, Rcv (appl D (R.take k.toNat)) dbf ∧ ((r12 = true ∧ dbf = U.db 0) ∨ (r12 = false ∧ dbf = Ub.db 0)) := by
      cases h2 : r12 with
      | true =>
        have := alk_eq okB' okU (h12' h2)
        exact ⟨U.db 0, by rw [← this]; exact rB, .inl ⟨rfl, rfl⟩⟩
      | false =>
        have h1 : r11 = true := tor.resolve_right (by rw [h2]; simp)
        have okA : DbOk dbA := by have := bx5.ev.ok.d 0 (by omega); rw [UC_db] at this; exact this
        have := alk_eq okA okB (h11' h1)
        exact ⟨Ub.db 0, by rw [← this]; exact rA, .inr ⟨rfl, rfl⟩⟩
    have hb6 := hb.fr F16 (by omega)
    have nOx : ∀ c, Ox c → O c := fun c hc => (hO c).2 (.inl hc)
    have ev6 := ev.fr0 F16
    have hle6 := F16.le
    have hok : DbOk dbf := by rcases hdbf with ⟨_, e⟩ | ⟨_, e⟩ <;> rw [e]; exact okU; exact okB
    refine ldP hb6 (bs_get hb6 ho 1 (by omega)) (eafter_spec (k := k) ev6 (by omega) fun w7 n7 O7 di7 nO7 f7 => ?_)
    have hle7 := f7.le
    refine stDp (d2 := n7) (hb6.fr f7 (by omega)) ho fun w8 hb8 F8 => ?_
    have di8 : DI w8 n7 (appl D (R.take k.toNat)) [] O7 := di7.frp F8 fun c h1 h2 => by have := nO7 c h1; omega
    have F18 : FrP (fun c => c = b) w w8 := (FrP.of0 (F16.trans f7)).trans F8
    have hle8 := F8.1.1
    refine ldB hb8 (by have := bs_get hb8 ho 0 (by omega); exact this) (open_spec di8 rf fun w9 x9 O9 R9 cur9 ev9 G9 Fe9 => ?_)
    have nO9 : ∀ c, O9 c → w6.heap.size ≤ c := fun c hc => (G9.2 c hc).elim (nO7 c) fun h => by omega
    have n7b : ¬ O7 b := fun h => by have := nO7 b h; omega
    have n9b : ¬ O9 b := fun h => by have := nO9 b h; omega
    have hb9 := hb8.frp G9.1 n7b
    have F19 : FrP (fun c => c = b) w w9 := F18.trans' G9.1 fun c hc => .inr (by have := nO7 c hc; omega)
    refine stX (d2 := x9) hb9 ho fun w10 hb10 F10 => ?_
    have ev10 := ev9.frp F10 fun c h1 h2 => n9b (h2 ▸ h1)
    have F110 := F19.trans F10
    have hle9 := G9.1.1.1
    have hle10 := F10.1.1
    -- the models as they stand now
    have F610 : FrP (fun c => c = b ∨ w6.heap.size ≤ c) w6 w10 := ((((FrP.of0 f7).trans (F8.mono fun c h => .inl h)).trans (G9.1.mono fun c h => .inr (nO7 c h))).trans (F10.mono fun c h => .inl h))
    have n8b : ¬ O8 b := fun h => by have := nO8 b h; omega
    have n10b : ¬ O10 b := fun h => by have := nO10 b h; omega
    have q8' : QV w10 r8 (UC (Ub.db 0)) O8 := q86.frp F610 fun c h1 h2 => h2.elim (fun e => n8b (e ▸ h1)) fun h => by have := q86.lt h1; omega
    have q10' : QV w10 r10 (UC (U.db 0)) O10 := bx6.qv.frp F610 fun c h1 h2 => h2.elim (fun e => n10b (e ▸ h1)) fun h => by have := bx6.qv.lt h1; omega
    refine join_W (fun u => ∃ rm Orm, QV u rm (UC dbf) Orm ∧ (∀ c, Orm c → w.heap.size ≤ c ∧ c < w6.heap.size) ∧ Blk u b (pre ++ (bsC box n7 x9 rm mb ++ post)) ∧ FrP (fun c => c = b) w10 u) ?_ fun J19 hJ => ?_
    · rintro u ⟨rm, Orm, qu, hOrm, hbu, Fu⟩
      refine ldP hbu (bs_get hbu ho 3 (by omega)) (qclone_spec qu (UOk.uc hok) fun u2 r18 O18 q18 nO18 f18 => ?_)
      have hleu := Fu.1.1
      refine stN (d2 := r18) (hbu.fr f18 (by omega)) ho fun u3 hb3 F3 => ?_
      have nrb : ¬ Orm b := fun h => by have := (hOrm b h).1; omega
      have n18b : ¬ O18 b := fun h => by have := nO18 b h; omega
      have ev3 := ((ev10.frp Fu fun c h1 h2 => n9b (h2 ▸ h1)).fr0 f18).frp F3 fun c h1 h2 => n9b (h2 ▸ h1)
      refine hK u3 n7 x9 rm r18 dbf (fun c => O9 c ∨ Orm c ∨ O18 c) hb3 ⟨⟨_, R9, cur9, O9, Orm, O18, ev3, (qu.fr0 f18).frp F3 fun c h1 h2 => nrb (h2 ▸ h1), q18.frp F3 fun c h1 h2 => n18b (h2 ▸ h1), fun c h1 => ⟨fun h2 => ?_, fun h2 => ?_⟩, fun c h1 h2 => ?_, fun c => Iff.rfl, by rw [UC_db]; exact Fe9.pf.crp, by have := Fe9.len; omega, Fe9.cm⟩, UOk.uc hok, UOk.uc hok⟩ (fun c hc => ?_) ((F110.trans Fu).trans ((FrP.of0 f18).trans F3))
      · have := nO9 c h1; have := (hOrm c h2).2; omega
      · have := ev9.lt h1; have := nO18 c h2; omega
      · have := (hOrm c h1).2; have := nO18 c h2; omega
      · rcases hc with h | h | h
        · have := nO9 c h; omega
        · exact (hOrm c h).1
        · have := nO18 c h; omega
    · rcases hdbf with ⟨e12, edb⟩ | ⟨e12, edb⟩
      · rw [e12, if_pos rfl]
        refine stM (d2 := r10) hb10 ho fun w11 hb11 F11 => hJ w11 ⟨r10, O10, ?_, fun c hc => ⟨by have := nO10 c hc; omega, bx6.qv.lt hc⟩, hb11, F11⟩
        rw [edb]
        exact q10'.frp F11 fun c h1 h2 => n10b (h2 ▸ h1)
      · rw [e12, if_neg (by simp)]
        refine stM (d2 := r8) hb10 ho fun w11 hb11 F11 => hJ w11 ⟨r8, O8, ?_, fun c hc => ⟨by have := nO8 c hc; omega, q86.lt hc⟩, hb11, F11⟩
        rw [edb]
        exact q8'.frp F11 fun c h1 h2 => n8b (h2 ▸ h1)
  · have last : (if (decide (k ≥ ((R.length : Nat) : Int))) = true then if (!r12) = true then K false w6 else J w6 else J w6) := by
      refine ifd (fun h => ?_) fun h => hJ _ rfl
      rw [t12 h, if_neg (by simp)]
      exact hJ _ rfl
    refine ifd (fun h => ?_) fun h => last
    rw [t11 h, if_neg (by simp)]
    exact last
end Go.Proofs.Qxb6500564aGreat
