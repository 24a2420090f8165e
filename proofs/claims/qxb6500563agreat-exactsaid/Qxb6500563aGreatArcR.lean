/-
  The real container: its page, the frame.
-/
import Derived.Test.Qxb6500563aGreatArcN
namespace Go.Proofs.Qxb6500563aGreat
open Go.Den Go.Zip
set_option linter.unusedVariables false
set_option linter.unusedSimpArgs false
variable {w w' : World} {B : Nat}

def recA (B n : Nat) : List Value := [.pointer (some ⟨B + 28, 0, none⟩), .pointer (some ⟨B + 57, 0, none⟩), .slice (some ⟨B + 62, 0, none⟩) 1200 1200, .int .i64 n, .slice (some ⟨B + 63, 0, none⟩) 4 4, .slice (some ⟨B + 64, 0, none⟩) 4 4, .slice (some ⟨B + 65, 0, none⟩) 256 256]
/-- The real archive: its legs, its page (L laid, J the rest), its tables. -/
structure RA (w : World) (B : Nat) (ps : PS) (rs : RS) (L J : List Nat) (of_ tb gn : Nat → Nat) : Prop where
  pk : PK w B ps
  dc : RW w (B + 33) rs
  ho : heldOK rs
  rc : Blk w (B + 61) (recA B L.length)
  page : Blk w (B + 62) (byts (L ++ J))
  pl : (L ++ J).length = 1200
  offs : Blk w (B + 63) (nats 4 of_)
  tab : Blk w (B + 64) (nats 20 tb)
  gain : Blk w (B + 65) (byts (Go.Zip.tab 256 gn))
variable {ps : PS} {rs : RS} {L J : List Nat} {of_ tb gn : Nat → Nat}
theorem RA.fr {p n : Nat} (h : RA w B ps rs L J of_ tb gn) (f : Fr p n w w') (hb : B + 66 ≤ p ∨ p + n ≤ B) : RA w' B ps rs L J of_ tb gn :=
  ⟨h.pk.fr f (by omega), h.dc.fr f (by omega), h.ho, h.rc.fr f (by omega), h.page.fr f (by omega), h.pl, h.offs.fr f (by omega), h.tab.fr f (by omega), h.gain.fr f (by omega)⟩
theorem RA.heq (h : RA w B ps rs L J of_ tb gn) (e : w'.heap = w.heap) : RA w' B ps rs L J of_ tb gn := h.fr (Fr.heq (Fr.refl 0 0 w) e) (by omega)
theorem RA.drew (h : RA w B ps rs L J of_ tb gn) : RA w.drew B ps rs L J of_ tb gn := h.heq rfl
theorem RA.lt (h : RA w B ps rs L J of_ tb gn) : B + 65 < w.heap.size := h.gain.lt
theorem RA.setPage (h : RA w B ps rs L J of_ tb gn) {L' J' : List Nat} (hb : Blk w' (B + 62) (byts (L' ++ J'))) (hl : (L' ++ J').length = 1200) (hr : Blk w' (B + 61) (recA B L'.length)) (f : Fr (B + 61) 2 w w') : RA w' B ps rs L' J' of_ tb gn :=
  ⟨h.pk.fr f (by omega), h.dc.fr f (by omega), h.ho, hr, hb, hl, h.offs.fr f (by omega), h.tab.fr f (by omega), h.gain.fr f (by omega)⟩
theorem RA.setPk (h : RA w B ps rs L J of_ tb gn) {ps' : PS} (hp : PK w' B ps') (f : Fr B 33 w w') : RA w' B ps' rs L J of_ tb gn :=
  ⟨hp, h.dc.fr f (by omega), h.ho, h.rc.fr f (by omega), h.page.fr f (by omega), h.pl, h.offs.fr f (by omega), h.tab.fr f (by omega), h.gain.fr f (by omega)⟩
theorem RA.setDc (h : RA w B ps rs L J of_ tb gn) {rs' : RS} (hd : RW w' (B + 33) rs') (ho : heldOK rs') (f : Fr (B + 33) 28 w w') : RA w' B ps rs' L J of_ tb gn :=
  ⟨h.pk.fr f (by omega), hd, ho, h.rc.fr f (by omega), h.page.fr f (by omega), h.pl, h.offs.fr f (by omega), h.tab.fr f (by omega), h.gain.fr f (by omega)⟩
theorem RA.setOffs (h : RA w B ps rs L J of_ tb gn) {v : Nat → Nat} (hb : Blk w' (B + 63) (nats 4 v)) (f : Fr (B + 63) 1 w w') : RA w' B ps rs L J v tb gn :=
  ⟨h.pk.fr f (by omega), h.dc.fr f (by omega), h.ho, h.rc.fr f (by omega), h.page.fr f (by omega), h.pl, hb, h.tab.fr f (by omega), h.gain.fr f (by omega)⟩
theorem RA.setTab (h : RA w B ps rs L J of_ tb gn) {v : Nat → Nat} (hb : Blk w' (B + 64) (nats 20 v)) (f : Fr (B + 64) 1 w w') : RA w' B ps rs L J of_ v gn :=
  ⟨h.pk.fr f (by omega), h.dc.fr f (by omega), h.ho, h.rc.fr f (by omega), h.page.fr f (by omega), h.pl, h.offs.fr f (by omega), hb, h.gain.fr f (by omega)⟩
theorem RA.setGain (h : RA w B ps rs L J of_ tb gn) {v : Nat → Nat} (hb : Blk w' (B + 65) (byts (Go.Zip.tab 256 v))) (f : Fr (B + 65) 1 w w') : RA w' B ps rs L J of_ tb v :=
  ⟨h.pk.fr f (by omega), h.dc.fr f (by omega), h.ho, h.rc.fr f (by omega), h.page.fr f (by omega), h.pl, h.offs.fr f (by omega), h.tab.fr f (by omega), hb⟩
/-- Between calls. -/
structure RAI (w : World) (B : Nat) : Prop where
  ex : ∃ ps rs L J of_ tb gn, RA w B ps rs L J of_ tb gn
theorem RAI.fr {p n : Nat} (h : RAI w B) (f : Fr p n w w') (hb : B + 66 ≤ p ∨ p + n ≤ B) : RAI w' B := by
  obtain ⟨ps, rs, L, J, a, b, c, h⟩ := h.ex
  exact ⟨ps, rs, L, J, a, b, c, h.fr f hb⟩
theorem RAI.lt (h : RAI w B) : B + 65 < w.heap.size := by
  obtain ⟨ps, rs, L, J, a, b, c, h⟩ := h.ex
  exact h.lt

theorem arch_one_spec {v : Nat} {x : Int} {K : World → Prop} (h : RA w B ps rs L J of_ tb gn) (hx : U8 x = (v : Int)) (hJ : 1 ≤ J.length) (hK : ∀ w', RA w' B ps rs (L ++ [v]) (J.drop 1) of_ tb gn → Fr B 66 w w' → K w') : S.arch_Archive_one (B + 61) x w K := by
  unfold S.arch_Archive_one
  have hpl := h.pl
  rw [List.length_append] at hpl
  refine drew_ (ldS h.drew.rc rfl (ldI h.drew.rc rfl ?_))
  refine ix (b := B + 62) (o := 0) rfl (by omega) (by show (L.length : Int) < 1200; omega) ?_
  rw [hx, Int.toNat_natCast, Nat.zero_add, Nat.mul_one]
  have hb : Blk w.drew (B + 62) (byts L ++ byts J) := by have := h.drew.page; unfold byts at *; rw [List.map_append] at this; exact this
  refine stJ hb (by simp) (by simp; omega) fun w1 d1 f1 s1 => ?_
  have f1 : Fr (B + 62) 1 w w1 := f1
  have r1 := h.rc.fr f1 (by omega)
  refine ldI r1 rfl (st1 r1 (by simp [recA]) fun w2 d2 f2 s2 => ?_)
  rw [W_succ (by omega)] at d2
  refine hK w2 (h.setPage (w' := w2) ?_ (by simp; omega) (by rw [List.length_append]; exact d2) ((f1.mono (by omega) (by omega)).trans (f2.mono (by omega) (by omega)))) ((f1.mono (by omega) (by omega)).trans (f2.mono (by omega) (by omega)))
  have e : byts L ++ [.int .u8 (v : Int)] ++ (byts J).tail = byts (L ++ [v] ++ J.drop 1) := by
    unfold byts
    rw [List.map_append, List.map_append, List.drop_one, List.map_tail]
    rfl
  rw [← e]
  exact d1.fr f2 (by omega)
theorem arch_two_spec {n : Nat} {K : World → Prop} (h : RA w B ps rs L J of_ tb gn) (hn : n < 65536) (hJ : 2 ≤ J.length) (hK : ∀ w', RA w' B ps rs (L ++ twoB n) (J.drop 2) of_ tb gn → Fr B 66 w w' → K w') : S.arch_Archive_two (B + 61) (n : Int) w K := by
  unfold S.arch_Archive_two
  have hpl := h.pl
  rw [List.length_append] at hpl
  rw [two_lo hn, two_hi hn]
  refine drew_ (ldS h.drew.rc rfl (ldI h.drew.rc rfl ?_))
  refine ix (b := B + 62) (o := 0) rfl (by omega) (by show (L.length : Int) < 1200; omega) ?_
  rw [Int.toNat_natCast, Nat.zero_add, Nat.mul_one]
  have hb : Blk w.drew (B + 62) (byts L ++ byts J) := by have := h.drew.page; unfold byts at *; rw [List.map_append] at this; exact this
  refine stJ hb (by simp) (by simp; omega) fun w1 d1 f1 s1 => ?_
  have f1 : Fr (B + 62) 1 w w1 := f1
  have r1 := h.rc.fr f1 (by omega)
  refine drew_ (ldS r1.drew rfl (ldI r1.drew rfl ?_))
  rw [W_succ (by omega)]
  refine ix (b := B + 62) (o := 0) rfl (by omega) (by show ((L.length + 1 : Nat) : Int) < 1200; omega) ?_
  rw [Int.toNat_natCast, Nat.zero_add, Nat.mul_one]
  refine stJ d1.drew (by simp) (by simp; omega) fun w2 d2 f2 s2 => ?_
  have f2 : Fr (B + 62) 1 w1 w2 := f2
  have r2 := r1.fr f2 (by omega)
  refine ldI r2 rfl (st1 r2 (by simp [recA]) fun w3 d3 f3 s3 => ?_)
  rw [show W ((L.length : Int) + 2) = ((L.length + 2 : Nat) : Int) from by rw [W_id (by omega) (by omega)]; omega] at d3
  have F := ((f1.mono (q := B + 61) (m := 2) (by omega) (by omega)).trans (f2.mono (by omega) (by omega))).trans (f3.mono (by omega) (by omega))
  refine hK w3 (h.setPage (w' := w3) ?_ (by simp [twoB]; omega) (by rw [List.length_append]; exact d3) F) (F.mono (by omega) (by omega))
  have e : byts L ++ [.int .u8 ((n % 256 : Nat) : Int)] ++ [.int .u8 ((n / 256 % 256 : Nat) : Int)] ++ (byts J).tail.tail = byts (L ++ twoB n ++ J.drop 2) := by
    have e2 : (byts J).tail.tail = (byts J).drop 2 := by rw [← List.drop_one, ← List.drop_one, List.drop_drop]
    rw [e2]
    unfold byts twoB
    rw [List.map_append, List.map_append, List.map_drop]
    simp
  rw [← e]
  exact d2.fr f3 (by omega)
theorem arch_lay_spec {s : ByteArray} {K : World → Prop} (h : RA w B ps rs L J of_ tb gn) (hJ : s.size < J.length) (hK : ∀ w', RA w' B ps rs (L ++ bt s) (J.drop s.size) of_ tb gn → Fr B 66 w w' → K w') : S.arch_Archive_lay (B + 61) s w K := by
  unfold S.arch_Archive_lay
  have hpl := h.pl
  rw [List.length_append] at hpl
  refine drew_ (ldS h.drew.rc rfl (ldI h.drew.rc rfl ?_))
  refine cutS (lo := L.length) (hi := 1200) (mx := 1200) (bb := B + 62) rfl (by omega) (by omega) (by show 1200 ≤ 1200; omega) (by omega) ?_
  unfold CopyStr
  have hmin : Nat.min s.size (1200 - L.length) = s.size := Nat.min_eq_left (by omega)
  have hus : (s.data.toList.take (Nat.min s.size (1200 - L.length))).map (fun b => Value.int .u8 (b.toNat : Int)) = byts (bt s) := by
    rw [hmin, List.take_of_length_le (by rw [Array.length_toList]; exact Nat.le_refl _)]
    unfold byts bt
    rw [List.map_map]
    rfl
  show PutS w.drew (some ⟨B + 62, L.length * 1, none⟩) ((s.data.toList.take (Nat.min s.size (1200 - L.length))).map fun b => .int .u8 b.toNat) _
  rw [hus, Nat.mul_one]
  refine putS_blk h.drew.page (by rw [byts_length, byts_length, bt_length, List.length_append]; omega) fun w1 d1 f1 s1 => ?_
  have f1 : Fr (B + 62) 1 w w1 := f1
  have r1 := h.rc.fr f1 (by omega)
  refine ldI r1 rfl (st1 r1 (by simp [recA]) fun w2 d2 f2 s2 => ?_)
  rw [W_add (by omega)] at d2
  have F := (f1.mono (q := B + 61) (m := 2) (by omega) (by omega)).trans (f2.mono (by omega) (by omega))
  refine hK w2 (h.setPage (w' := w2) ?_ (by simp; omega) (by rw [List.length_append, bt_length]; exact d2) F) (F.mono (by omega) (by omega))
  have e : (byts (L ++ J)).take L.length ++ byts (bt s) ++ (byts (L ++ J)).drop (L.length + (byts (bt s)).length) = byts (L ++ bt s ++ J.drop s.size) := by
    rw [byts_length, bt_length]
    unfold byts
    rw [← List.map_take, ← List.map_drop, List.take_left', ← List.drop_drop, List.drop_left', ← List.map_append, ← List.map_append]
    · rfl
    · rfl
  rw [← e]
  exact d1.fr f2 (by omega)

theorem arch_record_spec {e : Ent} {level : Nat} {K : World → Prop} (h : RA w B ps rs L J of_ tb gn) (hl : level ≤ 2) (h1 : 1 ≤ e.1.size) (h2 : e.1.size ≤ 8) (h3 : e.2.size ≤ 256) (hJ : (recB level e).length < J.length)
    (hK : ∀ w' ps', RA w' B ps' rs (L ++ recB level e) (J.drop (recB level e).length) of_ tb gn → Fr B 66 w w' → K w') : S.arch_Archive_record (B + 61) e.1 e.2 (level : Int) w K := by
  unfold S.arch_Archive_record
  have hrl := rec_len level e
  refine ldP h.rc rfl (block_Pack_spec h.pk h3 hl fun w1 ps1 p1 f1 => ?_)
  have a1 := h.setPk p1 f1
  have F1 := f1.mono (q := B) (m := 66) (by omega) (by omega)
  have hpt := packT_bt level e
  have hpl := packT_len level e h3
  have hps : (textOf (packB level (bt e.2))).size = (packT level e).length := by rw [← bt_length, hpt]
  generalize textOf (packB level (bt e.2)) = txt at *
  refine api_Sum_spec (by omega) ?_
  refine arch_one_spec (v := e.1.size % 256) a1 (by rw [U8_nat]) (by omega) fun w2 a2 f2 => ?_
  refine arch_lay_spec a2 (by simp; omega) fun w3 a3 f3 => ?_
  refine arch_two_spec a3 (by omega) (by simp; omega) fun w4 a4 f4 => ?_
  rw [hps]
  refine arch_two_spec a4 (by omega) (by simp; omega) fun w5 a5 f5 => ?_
  refine arch_two_spec a5 (sumP_lt _) (by simp; omega) fun w6 a6 f6 => ?_
  refine arch_lay_spec a6 (by simp; omega) fun w7 a7 f7 => ?_
  refine hK w7 ps1 ?_ ((((((F1.trans f2).trans f3).trans f4).trans f5).trans f6).trans f7)
  have e1 : L ++ recB level e = L ++ [e.1.size % 256] ++ bt e.1 ++ twoB e.2.size ++ twoB (packT level e).length ++ twoB (sumP (bt e.2)) ++ bt txt := by
    rw [hpt]; unfold recB; simp only [List.append_assoc]
  have e2 : J.drop (recB level e).length = List.drop txt.size (List.drop 2 (List.drop 2 (List.drop 2 (List.drop e.1.size (List.drop 1 J))))) := by
    simp only [List.drop_drop]
    congr 1
    omega
  rw [e1, e2]
  exact a7

theorem arch_judge_spec {sl : Sl} {b : Nat} {es : List Ent} {K : Int → World → Prop} (h : EntS w sl b es) (hl : es.length ≤ 4) (hK : K (judgeP es : Int) w) : S.arch_judge sl w K := by
  unfold S.arch_judge
  have hlen := h.len
  refine loopN (fun m st v => ∃ i : Nat, st = ((i : Int), ()) ∧ m + i = es.length ∧ judgeP es = judgeP (es.drop i) ∧ v = w) es.length ⟨0, rfl, rfl, rfl, rfl⟩ ?_
  rintro m _ v ⟨i, rfl, hm, hj, rfl⟩ Q hQ
  dsimp only
  by_cases hi : i < es.length
  · rw [if_pos (by simp only [decide_eq_true_eq]; omega)]
    have he : es[i]? = some es[i] := List.getElem?_eq_getElem hi
    have hjd := judge_drop he
    generalize es[i] = e at *
    refine h.name he (let_ ?_)
    by_cases h0 : e.1.size = 0
    · rw [if_pos (by simp only [beq_iff_eq]; omega)]
      rw [hj, hjd, if_pos (.inl h0)] at hK; exact hK
    rw [if_neg (by simp only [beq_iff_eq]; omega)]
    by_cases h8 : 8 < e.1.size
    · rw [if_pos (by simp only [decide_eq_true_eq]; omega)]
      rw [hj, hjd, if_pos (.inr h8)] at hK; exact hK
    rw [if_neg (by simp only [decide_eq_true_eq]; omega)]
    refine h.data he ?_
    rw [if_neg (by omega)] at hjd
    by_cases hd : 256 < e.2.size
    · rw [if_pos (by simp only [decide_eq_true_eq]; omega)]
      rw [hj, hjd, if_pos hd] at hK; exact hK
    rw [if_neg (by simp only [decide_eq_true_eq]; omega), W_succ (by omega)]
    rw [if_neg hd] at hjd
    exact let_ (hQ (m - 1) _ _ (by omega) ⟨i + 1, rfl, by omega, hj.trans hjd, rfl⟩)
  · rw [if_neg (by simp only [decide_eq_true_eq]; omega)]
    have hde : es.drop i = [] := List.drop_of_length_le (by omega)
    rw [hj, hde] at hK
    exact hK

set_option maxRecDepth 10000 in
theorem arch_Pack_spec {sl : Sl} {b : Nat} {es : List Ent} {level : Int} {K : ByteArray → Int → World → Prop} (hA : RAI w B) (h : EntS w sl b es) (hb : es = [] ∨ b < B ∨ B + 66 ≤ b)
    (hbad : checkP es level ≠ 0 → K ⟨#[]⟩ (checkP es level : Int) w)
    (hK : checkP es level = 0 → ∀ w', RAI w' B → Fr B 66 w w' → K (strOf (archB level.toNat es)) 0 w') : S.arch_Archive_Pack (B + 61) sl level w K := by
  unfold S.arch_Archive_Pack
  have hlen := h.len
  unfold checkP at hbad hK
  by_cases h4 : 4 < es.length
  · rw [if_pos (by simp only [decide_eq_true_eq]; omega)]
    rw [if_pos h4] at hbad; exact hbad (by omega)
  rw [if_neg (by simp only [decide_eq_true_eq]; omega)]
  rw [if_neg h4] at hbad hK
  by_cases hl : level < 0
  · rw [if_pos (by simp only [decide_eq_true_eq]; omega)]
    rw [if_pos (.inl hl)] at hbad; exact hbad (by omega)
  rw [if_neg (by simp only [decide_eq_true_eq]; omega)]
  by_cases hl2 : 2 < level
  · rw [if_pos (by simp only [decide_eq_true_eq]; omega)]
    rw [if_pos (.inr hl2)] at hbad; exact hbad (by omega)
  rw [if_neg (by simp only [decide_eq_true_eq]; omega)]
  rw [if_neg (by omega)] at hbad hK
  refine arch_judge_spec h (by omega) ?_
  by_cases hz : judgeP es = 0
  case neg =>
    rw [if_pos (by simp only [bne_iff_ne, ne_eq]; omega)]
    exact hbad hz
  rw [hz, if_neg (by simp)]
  have hK := hK hz
  have hok : EntsOK es := ⟨by omega, judge_ok hz⟩
  obtain ⟨lv, rfl⟩ : ∃ lv : Nat, level = (lv : Int) := ⟨level.toNat, by omega⟩
  rw [Int.toNat_natCast] at hK
  have hlv : lv ≤ 2 := by omega
  obtain ⟨ps, rs, L0, J0, o0, t0, g0, a0⟩ := hA.ex
  refine st1 a0.rc (by simp [recA]) fun w1 d1 f1 _ => ?_
  have a1 : RA w1 B ps rs [] (L0 ++ J0) o0 t0 g0 := a0.setPage (a0.page.fr f1 (by omega)) a0.pl d1 (f1.mono (by omega) (by omega))
  have hpl := a0.pl
  generalize L0 ++ J0 = J at *
  have F1 := f1.mono (q := B) (m := 66) (by omega) (by omega)
  refine join_ ?_
  refine loopN (fun m st v => ∃ (i : Nat) (ps' : PS) (of' : Nat → Nat), st = ((i : Int), ()) ∧ m + i = es.length ∧ RA v B ps' rs (bodyTo lv es i) (J.drop (offAt lv es i)) of' t0 g0 ∧ (∀ j, j < i → of' j = offAt lv es j) ∧ Fr B 66 w v) es.length
    ⟨0, ps, o0, rfl, rfl, a1, fun j hj => by omega, F1⟩ ?_
  rintro m _ v ⟨i, ps', of', rfl, hm, av, hof, fv⟩ Q hQ
  dsimp only
  have hbl := body_len' (level := lv) hok i (by omega)
  have e4 := hok.1
  by_cases hi : i < es.length
  · rw [if_pos (by simp only [decide_eq_true_eq]; omega)]
    have he : es[i]? = some es[i] := List.getElem?_eq_getElem hi
    have heo := hok.2 _ (List.getElem_mem hi)
    have hbs := body_succ (level := lv) he
    generalize es[i] = e at *
    refine drew_ (ldS av.drew.rc rfl (ldI av.drew.rc rfl ?_))
    refine wrN (v := offAt lv es i) av.drew.offs (by omega) rfl fun v1 d1 g1 _ => ?_
    have g1 : Fr (B + 63) 1 v v1 := g1
    have a1 := av.setOffs d1 g1
    have hv := h.fr fv hb
    have hv1 := hv.fr g1 (hb.onto id fun h => by omega)
    refine drew_ (EntS.name (hv1.heq rfl) he (EntS.data (hv1.heq rfl) he ?_))
    have hrl := rec_len lv e
    have hpt := packT_len lv e heo.2.2
    refine arch_record_spec a1.drew hlv heo.1 heo.2.1 heo.2.2 (by rw [List.length_drop]; omega) fun v2 ps2 a2 f2 => ?_
    have f2 : Fr B 66 v1 v2 := f2
    rw [W_succ (by omega)]
    refine let_ (hQ (m - 1) _ _ (by omega) ⟨i + 1, ps2, fset of' i (offAt lv es i), rfl, by omega, ?_, fun j hj => ?_, (fv.trans (g1.mono (by omega) (by omega))).trans f2⟩)
    · have e1 : offAt lv es (i + 1) = offAt lv es i + (recB lv e).length := by unfold offAt; rw [hbs, List.length_append]
      rw [hbs, e1, ← List.drop_drop]
      exact a2
    · unfold fset
      split
      · rename_i e; rw [e]
      · exact hof j (by omega)
  rw [if_neg (by simp only [decide_eq_true_eq]; omega)]
  have hie : i = es.length := by omega
  subst hie
  refine ldI av.rc rfl (join_ ?_)
  generalize hOF : offAt lv es es.length = OF at *
  have hOF' : (bodyTo lv es es.length).length = OF := hOF
  refine loopN (fun m st v => ∃ i : Nat, st = ((i : Int), ()) ∧ m + i = es.length ∧ RA v B ps' rs (bodyTo lv es es.length ++ dirTo lv es i) (J.drop (OF + 2 * i)) of' t0 g0 ∧ Fr B 66 w v) es.length
    ⟨0, rfl, rfl, by simpa [dirTo] using av, fv⟩ ?_
  rintro m _ v ⟨i, rfl, hm, av, fv⟩ Q hQ
  dsimp only
  by_cases hi : i < es.length
  · rw [if_pos (by simp only [decide_eq_true_eq]; omega)]
    refine ldS av.rc rfl (rdN av.offs (by omega) ?_)
    rw [hof i hi]
    have hbi := body_len' (level := lv) hok i (by omega)
    refine arch_two_spec av (by omega) (by rw [List.length_drop]; omega) fun v2 a2 f2 => ?_
    rw [W_succ (by omega)]
    refine let_ (hQ (m - 1) _ _ (by omega) ⟨i + 1, rfl, by omega, ?_, fv.trans f2⟩)
    rw [dir_succ, show OF + 2 * (i + 1) = OF + 2 * i + 2 from by omega, ← List.drop_drop, ← List.append_assoc]
    exact a2
  · rw [if_neg (by simp only [decide_eq_true_eq]; omega)]
    have hie : i = es.length := by omega
    subst hie
    rw [hlen]
    refine arch_one_spec (v := es.length % 256) av (by rw [U8_nat]) (by rw [List.length_drop]; omega) fun v1 a1 f1 => ?_
    rw [hOF']
    refine arch_two_spec a1 (by omega) (by simp only [List.length_drop]; omega) fun v2 a2 f2 => ?_
    refine arch_one_spec (v := 90) a2 rfl (by simp only [List.length_drop]; omega) fun v3 a3 f3 => ?_
    have F3 := ((fv.trans f1).trans f2).trans f3
    have hab : bodyTo lv es es.length ++ dirTo lv es es.length ++ [es.length % 256] ++ twoB OF ++ [90] = archB lv es := by unfold archB; rw [hOF]
    rw [hab] at a3
    have hal := arch_len (level := lv) hok
    refine drew_ (ldS a3.drew.rc rfl (ldI a3.drew.rc rfl ?_))
    refine cutS (lo := 0) (hi := (archB lv es).length) (mx := 1200) (bb := B + 62) rfl (by omega) (by omega) (by show 1200 ≤ 1200; omega) (by omega) ?_
    refine btS (zs := archB lv es) a3.drew.page ?_ (by omega) (arch_lt lv es) ?_
    · rw [Nat.zero_mul, List.drop_zero, Nat.sub_zero]
      unfold byts
      rw [← List.map_take, List.take_left']
      rfl
    · exact hK v3.drew ⟨_, _, _, _, _, _, _, a3.drew⟩ F3
end Go.Proofs.Qxb6500563aGreat
