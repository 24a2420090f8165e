/-
  The model's parse.
-/
import Derived.Test.Qxb6500564aGreatQyV
namespace Go.Proofs.Qxb6500564aGreat
open Go.Den Go.Zip
set_option linter.unusedVariables false
set_option linter.unusedSimpArgs false
variable {w w' u v : World} {i j k n a b r st B q : Nat} {s x y : ByteArray} {t : Tk} {A L L' : List Tk} {M M' : Mst} {z : Nat → Sl} {bd : Bool}

theorem sen1 (h : isP ⟨#[66, 69, 71, 73, 78]⟩ L = true) : senP L = ({ ps0 with kind := 1 }, L.tail) := by
  unfold senP
  rw [isP_not (y := ⟨#[83, 69, 76, 69, 67, 84]⟩) h (by decide), isP_not (y := ⟨#[73, 78, 83, 69, 82, 84]⟩) h (by decide), isP_not (y := ⟨#[85, 80, 68, 65, 84, 69]⟩) h (by decide), isP_not (y := ⟨#[68, 69, 76, 69, 84, 69]⟩) h (by decide), h]
  rfl
theorem sen2 (h : isP ⟨#[67, 79, 77, 77, 73, 84]⟩ L = true) : senP L = ({ ps0 with kind := 2 }, L.tail) := by
  unfold senP
  rw [isP_not (y := ⟨#[83, 69, 76, 69, 67, 84]⟩) h (by decide), isP_not (y := ⟨#[73, 78, 83, 69, 82, 84]⟩) h (by decide), isP_not (y := ⟨#[85, 80, 68, 65, 84, 69]⟩) h (by decide), isP_not (y := ⟨#[68, 69, 76, 69, 84, 69]⟩) h (by decide), isP_not (y := ⟨#[66, 69, 71, 73, 78]⟩) h (by decide), h]
  rfl
theorem sen3 (h : isP ⟨#[82, 79, 76, 76, 66, 65, 67, 75]⟩ L = true) : senP L = ({ ps0 with kind := 3 }, L.tail) := by
  unfold senP
  rw [isP_not (y := ⟨#[83, 69, 76, 69, 67, 84]⟩) h (by decide), isP_not (y := ⟨#[73, 78, 83, 69, 82, 84]⟩) h (by decide), isP_not (y := ⟨#[85, 80, 68, 65, 84, 69]⟩) h (by decide), isP_not (y := ⟨#[68, 69, 76, 69, 84, 69]⟩) h (by decide), isP_not (y := ⟨#[66, 69, 71, 73, 78]⟩) h (by decide), isP_not (y := ⟨#[67, 79, 77, 77, 73, 84]⟩) h (by decide), h]
  rfl
theorem sen5 (h : isP ⟨#[68, 82, 79, 80]⟩ L = true) : senP L = drpP L.tail := by
  unfold senP
  rw [isP_not (y := ⟨#[83, 69, 76, 69, 67, 84]⟩) h (by decide), isP_not (y := ⟨#[73, 78, 83, 69, 82, 84]⟩) h (by decide), isP_not (y := ⟨#[85, 80, 68, 65, 84, 69]⟩) h (by decide), isP_not (y := ⟨#[68, 69, 76, 69, 84, 69]⟩) h (by decide), isP_not (y := ⟨#[66, 69, 71, 73, 78]⟩) h (by decide), isP_not (y := ⟨#[67, 79, 77, 77, 73, 84]⟩) h (by decide), isP_not (y := ⟨#[82, 79, 76, 76, 66, 65, 67, 75]⟩) h (by decide), h]
  rfl
theorem sen4 (h : isP ⟨#[67, 82, 69, 65, 84, 69]⟩ L = true) : senP L = creP L.tail := by
  unfold senP
  rw [isP_not (y := ⟨#[83, 69, 76, 69, 67, 84]⟩) h (by decide), isP_not (y := ⟨#[73, 78, 83, 69, 82, 84]⟩) h (by decide), isP_not (y := ⟨#[85, 80, 68, 65, 84, 69]⟩) h (by decide), isP_not (y := ⟨#[68, 69, 76, 69, 84, 69]⟩) h (by decide), isP_not (y := ⟨#[66, 69, 71, 73, 78]⟩) h (by decide), isP_not (y := ⟨#[67, 79, 77, 77, 73, 84]⟩) h (by decide), isP_not (y := ⟨#[82, 79, 76, 76, 66, 65, 67, 75]⟩) h (by decide), isP_not (y := ⟨#[68, 82, 79, 80]⟩) h (by decide), h]
  rfl
theorem sen7 (h : isP ⟨#[73, 78, 83, 69, 82, 84]⟩ L = true) : senP L = insP L.tail := by
  unfold senP
  rw [isP_not (y := ⟨#[83, 69, 76, 69, 67, 84]⟩) h (by decide), h]
  rfl
theorem sen8 (h : isP ⟨#[83, 69, 76, 69, 67, 84]⟩ L = true) : senP L = selP L.tail := by
  unfold senP
  rw [h]
  rfl
theorem sen9 (h : isP ⟨#[85, 80, 68, 65, 84, 69]⟩ L = true) : senP L = updP L.tail := by
  unfold senP
  rw [isP_not (y := ⟨#[83, 69, 76, 69, 67, 84]⟩) h (by decide), isP_not (y := ⟨#[73, 78, 83, 69, 82, 84]⟩) h (by decide), h]
  rfl
theorem sen10 (h : isP ⟨#[68, 69, 76, 69, 84, 69]⟩ L = true) : senP L = delP L.tail := by
  unfold senP
  rw [isP_not (y := ⟨#[83, 69, 76, 69, 67, 84]⟩) h (by decide), isP_not (y := ⟨#[73, 78, 83, 69, 82, 84]⟩) h (by decide), isP_not (y := ⟨#[85, 80, 68, 65, 84, 69]⟩) h (by decide), h]
  rfl
theorem meatN {K : Bool → World → Prop} {w0 : World} (h : MX w B r st A L M z) (F0 : FrP (fun b => B ≤ b) w0 w) (hnb : L ≠ bad) (hx : XG x) (h1 : isP x L = true → ∀ w', MX w' B r st A L.tail M z → FrP (fun b => B ≤ b) w0 w' → K true w') (h2 : isP x L = false → ∀ w', MX w' B r st A L M z → FrP (fun b => B ≤ b) w0 w' → K false w') : S.querym_reader_eat r x w K := by
  refine meat_spec h hx fun w1 b1 x1 hb f1 => ?_
  have hb := hb.resolve_right hnb
  have F1 := F0.trans (h.b1 f1)
  cases b1 with
  | true => rw [aft_t hb.symm] at x1; exact h1 hb.symm w1 x1 F1
  | false => rw [aft_f hb.symm] at x1; exact h2 hb.symm w1 x1 F1
set_option maxHeartbeats 8000000 in
theorem mparse_spec {K : Int → ByteArray → Sl → Int → Sl → Sl → Bool → Sl → ByteArray → Bool → Bool → Int → Bool → World → Prop} (hs : s.size ≤ 256)
    (h1 : prsP s = none → ∀ a0 a1 a2 a3 a4 a5 a6 a7 a8 a9 a10 a11 w', Fr 0 0 w w' → K a0 a1 a2 a3 a4 a5 a6 a7 a8 a9 a10 a11 false w')
    (h2 : ∀ T, prsP s = some T → ∀ w' z, ML w' w.heap.size (toM T) z → Fr 0 0 w w' → K ((toM T).kind : Nat) (toM T).table (z 0) ((toM T).pk : Nat) (z 1) (z 2) (toM T).star (z 3) (toM T).order (toM T).desc (toM T).hasLim (toM T).lim true w') : S.querym_parse s w K := by
  unfold S.querym_parse
  refine newB fun w1 q1 g1 z1 => ?_
  rw [if_neg (by simp; omega)]
  refine tokens_spec hs (fun hN w2 g2 => ?_) fun A ts w2 hA hok hAl oA hnw g2 => ?_
  · refine newB fun w3 q3 g3 z3 => st12 (M := m0) (z := fun _ => nilS) q3 rfl fun w4 b4 g4 => ?_
    rw [if_pos (show (!false) = true from rfl)]
    have g14 : Fr 0 0 w1 w4 := (g2.trans g3).thenNew g4 (by have := g2.le; omega)
    have q4 := Blk.fr q1 g14 (by omega)
    refine ld12 b4 (st12 (M := m0) (z := fun _ => nilS) q4 rfl fun w5 b5 g5 => ld12 b5 ?_)
    exact h1 (prs_none hN) _ _ _ _ _ _ _ _ _ _ _ _ w5 ((g1.trans g14).thenNew g5 (Nat.le_refl _))
  · refine newB fun w3 q3 g3 z3 => st12 (M := m0) (z := fun _ => nilS) q3 rfl fun w4 b4 g4 => ?_
    rw [if_neg (by simp)]
    refine newB fun w5 q5 g5 z5 => ?_
    have hle2 := g2.le
    have hle4 := g4.le
    have g24 : Fr 0 0 w2 w4 := g3.thenNew g4 (Nat.le_refl _)
    have g25 := g24.trans g5
    have g15 := g2.trans g25
    have q1' := Blk.fr q1 g15 (by omega)
    have hnb : A ++ [endT] ≠ bad := end_ne
    have x5 : MX w5 w1.heap.size w4.heap.size w2.heap.size A (A ++ [endT]) m0 (fun k => if k = 4 then ts else nilS) := by
      refine ⟨0, false, m0, ⟨q5, b4.fr g5 (by omega), fun k hk => ?_, fun i j hi hj hne b hb hb' => ?_, fun k hk b hb => ?_, by omega, by omega, by omega, Nat.zero_le _, hAl, hok⟩, .inl ⟨rfl, rfl, rfl⟩⟩
      · rcases k with _ | _ | _ | _ | _ | k
        · exact OS.nil _ _
        · exact OS.nil _ _
        · exact OS.nil _ _
        · exact OS.nil _ _
        · exact OS.fr0 oA g25
        · omega
      · by_cases e : i = 4
        · have : j ≠ 4 := by omega
          rw [if_neg this] at hb'
          cases hb'
        · rw [if_neg e] at hb
          cases hb
      · by_cases e : k = 4
        · rw [if_pos e] at hb
          have := hnw b hb
          have := OS.lt oA hb
          exact ⟨by omega, by omega, by omega⟩
        · rw [if_neg e] at hb
          cases hb
    have hz1 : ((fun k => if k = 4 then ts else nilS : Nat → Sl) 1).l = 0 := rfl
    have F55 : FrP (fun b => w1.heap.size ≤ b) w1 w5 := FrP.of0 g15
    generalize (fun k => if k = 4 then ts else nilS : Nat → Sl) = zz at *
    have fin : ∀ {u u' : World}, FrP (fun b => w1.heap.size ≤ b) w1 u → Fr w.heap.size 1 u u' → Fr 0 0 w u' := fun {u u'} F f => by
      have : Fr 0 0 w u := ⟨(g1.1).trans F.1, fun b hb hn => by rw [F.2 b (by omega) (by omega), g1.2 b hb (by omega)]⟩
      exact this.thenNew f (Nat.le_refl _)
    have hpr : prsP s = if (hd (senP (A ++ [endT])).2).kind = 0 then some (senP (A ++ [endT])).1 else none := by unfold prsP; rw [hA]
    have hnt : ∀ x, isP x (A ++ [endT]) = true → (A ++ [endT]).tail ≠ bad := fun x h => by
      cases A with
      | nil => cases h
      | cons a A => exact end_ne
    generalize A ++ [endT] = L at *
    have wrd : ∀ {y : ByteArray} {u : World} {kk : Nat} {J : World → Prop}, MX u w1.heap.size w4.heap.size w2.heap.size A L.tail m0 zz → FrP (fun b => w1.heap.size ≤ b) w1 u → senP L = ({ ps0 with kind := kk }, L.tail) →
        (∀ v, PJ v w1.heap.size w4.heap.size w2.heap.size A (senP L) w1 → J v) → St1 u ⟨w2.heap.size, 0, none⟩ (.int .i64 (kk : Nat)) fun w => J w := fun {y u kk J} hx F e hJ =>
      hx.put (fun M => { M with kind := kk }) (by omega) (fun M => rfl) (fun M => vmI rfl rfl rfl rfl) fun w' h' f' => hJ w' ⟨zz, by rw [e]; exact h', F.trans (hx.b2 f')⟩
    refine meatN x5 F55 hnb rfl (fun p1 u1 y1 G1 => ?_) fun p1 u1 y1 G1 => ?_
    all_goals refine join_W (fun v => PJ v w1.heap.size w4.heap.size w2.heap.size A (senP L) w1) ?_ ?_
    · rintro v ⟨zv, xv, Fv⟩
      refine mfin xv (Blk.frp q1 Fv (by omega)) rfl (by omega) (fun hk a0 a1 a2 a3 a4 a5 a6 a7 a8 a9 a10 a11 w' f => h1 (by rw [hpr, if_neg hk]) a0 a1 a2 a3 a4 a5 a6 a7 a8 a9 a10 a11 w' (fin Fv f)) fun hk w' ml f => ?_
      exact h2 _ (by rw [hpr, if_pos hk]) w' zv ⟨ml.os, ml.dj, fun i hi b hb => by have := ml.no i hi b hb; omega⟩ (fin Fv f)
    · intro J hJ
      rw [if_pos rfl]
      exact wrd (y := ⟨#[]⟩) (kk := 1) y1 G1 (sen1 p1) hJ
    · rintro v ⟨zv, xv, Fv⟩
      refine mfin xv (Blk.frp q1 Fv (by omega)) rfl (by omega) (fun hk a0 a1 a2 a3 a4 a5 a6 a7 a8 a9 a10 a11 w' f => h1 (by rw [hpr, if_neg hk]) a0 a1 a2 a3 a4 a5 a6 a7 a8 a9 a10 a11 w' (fin Fv f)) fun hk w' ml f => ?_
      exact h2 _ (by rw [hpr, if_pos hk]) w' zv ⟨ml.os, ml.dj, fun i hi b hb => by have := ml.no i hi b hb; omega⟩ (fin Fv f)
    · intro J hJ
      rw [if_neg (by simp)]
      refine meatN y1 G1 hnb rfl (fun p2 u2 y2 G2 => ?_) fun p2 u2 y2 G2 => ?_
      · rw [if_pos rfl]
        exact wrd (y := ⟨#[]⟩) (kk := 2) y2 G2 (sen2 p2) hJ
      rw [if_neg (by simp)]
      refine meatN y2 G2 hnb rfl (fun p3 u3 y3 G3 => ?_) fun p3 u3 y3 G3 => ?_
      · rw [if_pos rfl]
        exact wrd (y := ⟨#[]⟩) (kk := 3) y3 G3 (sen3 p3) hJ
      rw [if_neg (by simp)]
      refine meatN y3 G3 hnb rfl (fun p4 u4 y4 G4 => ?_) fun p4 u4 y4 G4 => ?_
      · rw [if_pos rfl]
        exact mcreate_read y4 hz1 G4 (hnt _ p4) fun v hv => hJ v (by rw [sen4 p4]; exact hv)
      rw [if_neg (by simp)]
      refine meatN y4 G4 hnb rfl (fun p5 u5 y5 G5 => ?_) fun p5 u5 y5 G5 => ?_
      · rw [if_pos rfl]
        exact mdrop_read y5 G5 fun v hv => hJ v (by rw [sen5 p5]; exact hv)
      rw [if_neg (by simp)]
      refine meatN y5 G5 hnb rfl (fun p6 u6 y6 G6 => ?_) fun p6 u6 y6 G6 => ?_
      · rw [if_pos rfl]
        exact minsert_read y6 G6 fun v hv => hJ v (by rw [sen7 p6]; exact hv)
      rw [if_neg (by simp)]
      refine meatN y6 G6 hnb rfl (fun p7 u7 y7 G7 => ?_) fun p7 u7 y7 G7 => ?_
      · rw [if_pos rfl]
        exact mselect_read y7 G7 fun v hv => hJ v (by rw [sen8 p7]; exact hv)
      rw [if_neg (by simp)]
      refine meatN y7 G7 hnb rfl (fun p8 u8 y8 G8 => ?_) fun p8 u8 y8 G8 => ?_
      · rw [if_pos rfl]
        exact mupdate_read y8 G8 fun v hv => hJ v (by rw [sen9 p8]; exact hv)
      rw [if_neg (by simp)]
      refine meatN y8 G8 hnb rfl (fun p9 u9 y9 G9 => ?_) fun p9 u9 y9 G9 => ?_
      · rw [if_pos rfl]
        exact mdelete_read y9 G9 fun v hv => hJ v (by rw [sen10 p9]; exact hv)
      rw [if_neg (by simp)]
      obtain ⟨M9, b9⟩ := y9.sblk
      have q9 := Blk.frp q1 G9 (by omega)
      refine ld12 b9 (st12 (M := M9) (z := zz) q9 rfl fun w10 b10 f10 => ld12 b10 ?_)
      refine h1 ?_ _ _ _ _ _ _ _ _ _ _ _ _ w10 (fin G9 f10)
      have : senP L = (ps0, bad) := by
        unfold senP
        rw [p7, p6, p8, p9, p1, p2, p3, p5, p4]
        rfl
      rw [hpr, this]
      rfl
end Go.Proofs.Qxb6500564aGreat
