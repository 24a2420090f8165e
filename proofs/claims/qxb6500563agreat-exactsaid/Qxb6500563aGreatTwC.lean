/-
  towerexact.Raw.
-/
import Derived.Test.Qxb6500563aGreatTwB
namespace Go.Proofs.Qxb6500563aGreat
open Go.Den Go.Zip
set_option linter.unusedVariables false
set_option linter.unusedSimpArgs false
variable {w w' : World} {B : Nat}

theorem join_P {α : Type} {k : α → World → Prop} {body : (α → World → Prop) → Prop} (P : α → World → Prop) (hk : ∀ x w, P x w → k x w) (hb : ∀ J : α → World → Prop, (∀ x w, P x w → J x w) → body J) : Join k body := hb k hk
theorem join_W {k : World → Prop} {body : (World → Prop) → Prop} (P : World → Prop) (hk : ∀ w, P w → k w) (hb : ∀ J : World → Prop, (∀ w, P w → J w) → body J) : Join k body := hb k hk
theorem frNew {v w5 w6 : World} (h : Fr 0 0 v w5) (f : Fr B 66 w5 w6) (hB : v.heap.size ≤ B) : Fr 0 0 v w6 := ((h.any B 66).trans f).fresh hB 0 0
theorem check_ok {es : List Ent} {level : Int} (h : checkP es level = 0) : EntsOK es := by
  unfold checkP at h
  split at h
  · omega
  · split at h
    · omega
    · exact ⟨by omega, judge_ok h⟩
theorem strOf_size (l : List Nat) : (strOf l).size = l.length := by simp [strOf, ByteArray.size]
theorem unpX_back {level : Int} {es : List Ent} (h : checkP es level = 0) : unpX (strOf (archB level.toNat es)) = es := by
  obtain ⟨h1, h2⟩ := arch_back (level := level.toNat) (check_ok h)
  unfold unpX
  rw [if_pos h1, h2]
theorem Raw_spec {names datas : Sl} {ns ds : List ByteArray} {n level : Int} {raw : ByteArray} {K : Bool → World → Prop} (hn : StrS w names ns) (hd : StrS w datas ds) (h0 : -9223372036854775808 ≤ n) (h1 : n < 9223372036854775808)
    (hK : ∀ w', Fr 0 0 w w' → K true w') : S.towerexact_Raw names datas n level raw w K := by
  unfold S.towerexact_Raw
  by_cases hr : 1073741824 < raw.size
  · rw [if_pos (by simp only [decide_eq_true_eq]; omega)]
    exact hK w (Fr.refl _ _ _)
  rw [if_neg (by simp only [decide_eq_true_eq]; omega)]
  refine few_spec hn fun r1 hr1 => ?_
  cases r1
  · rw [if_pos (by simp)]; exact hK w (Fr.refl _ _ _)
  have hnl := hr1 rfl
  rw [if_neg (by simp)]
  refine few_spec hd fun r2 hr2 => ?_
  cases r2
  · rw [if_pos (by simp)]; exact hK w (Fr.refl _ _ _)
  have hdl := hr2 rfl
  rw [if_neg (by simp)]
  refine join_P (fun l v => Fr 0 0 w v ∧ ∃ g es, EntS v l g es ∧ (es = [] ∨ g < v.heap.size) ∧ es.length ≤ l.c ∧ es.length ≤ 1073741824) ?_ ?_
  · rintro l v ⟨fv, g, es, hl, hg, hlc, hle⟩
    have hll := hl.len
    rw [show W ((l.l : Int) + 1) = ((l.l + 1 : Nat) : Int) from W_succ (by omega)]
    refine pick_spec h0 h1 (by omega) fun r hr4 => ?_
    refine archm_New_spec fun w2 m hM f2 m1 m2 => ?_
    refine tower_New_spec fun w3 hA f3 s3 => ?_
    rw [show W ((l.l : Int) - (r : Int)) = ((l.l - r : Nat) : Int) by rw [W_id (by omega) (by omega)]; omega]
    have f23 := f2.trans f3
    have g2 := f2.1
    have tail : ∀ u, Fr 0 0 v u → S.tower_New u (fun r10 w => S.towerexact_listed r10 m raw w (fun r11 r12 w => if (!r12) = true then K false w else S.tower_New w (fun r13 w => S.towerexact_unpacked r13 m raw w (fun r14 r15 w => K r15 w)))) := by
      intro u fu
      have gu := fu.1
      refine tower_New_spec fun u1 a1 e1 z1 => listed_spec a1 fun _ u2 a2 _ e2 => ?_
      rw [if_neg (by simp)]
      have k2 := frNew (fu.trans e1) e2 gu
      have gu2 := k2.1
      refine tower_New_spec fun u3 a3 e3 z3 => unpacked_spec a3 fun _ u4 a4 _ e4 => ?_
      exact hK u4 (fv.trans (frNew (k2.trans e3) e4 gu2))
    refine packed_spec (k := 0) hA (fun w' f => (hM.ext f3).fr f m2) (hl.fr f23 (by omega)) (hg.onto id fun h => .inl (by omega)) hlc (by omega) (by omega) (by omega) (by omega) (fun hne w4 a4 f4 => ?_) (fun hz w4 a4 f4 => ?_)
    · rw [if_neg (by simp)]
      refine join_W (fun u => Fr 0 0 v u) (fun u fu => tail u fu) fun J hJ => ?_
      rw [if_neg (by simp)]
      exact hJ w4 (frNew f23 f4 g2)
    · rw [if_neg (by simp)]
      refine join_W (fun u => Fr 0 0 v u) (fun u fu => tail u fu) fun J hJ => ?_
      rw [if_pos rfl]
      have hsz : (strOf (archB level.toNat ((es.drop 0).take r))).size ≤ 1073741824 := by
        rw [strOf_size]; have := arch_len (level := level.toNat) (check_ok hz); omega
      have hback := unpX_back hz
      have hcut : ∀ v, EntS v l g es → EntS v ⟨if l.c = 0 then l.a else l.a.map (·.add (0 * 2)), r - 0, l.c - 0⟩ g ((es.drop 0).take r) := fun v h => by
        have := EntS.cut (mx := l.c) (k := 0) (n := r) h (by omega) (by omega)
        rw [Nat.zero_add] at this
        exact this
      generalize strOf (archB level.toNat ((es.drop 0).take r)) = txt at *
      have k4 := frNew f23 f4 g2
      have g4 := k4.1
      refine tower_New_spec fun u1 a1 e1 z1 => listed_spec a1 fun _ u2 a2 _ e2 => ?_
      rw [if_neg (by simp)]
      have k5 := frNew (k4.trans e1) e2 g4
      have g5 := k5.1
      refine tower_New_spec fun u3 a3 e3 z3 => unpacked_spec a3 fun sl u4 a4 q4 e4 => ?_
      rw [if_neg (by simp)]
      have k6 := frNew (k5.trans e3) e4 g5
      refine ⟨by omega, by omega, by omega, by omega, ?_⟩
      rw [hback] at q4
      obtain ⟨g5', q5⟩ : ∃ g, EntS u4 sl g ((es.drop 0).take r) := by
        rcases q4 with ⟨rfl, q⟩ | ⟨b, rfl, q, _⟩
        · rw [q]; exact ⟨0, rfl, .inl rfl⟩
        · exact ⟨b, EntS.ofBlk (pre := []) (junk := []) (by simpa using q) rfl rfl rfl⟩
      refine sameEntries_spec q5 (hcut u4 (hl.fr k6 (by omega))) (by simp; omega) fun u5 hu5 => ?_
      rw [if_neg (by simp)]
      exact hJ u5 (Fr.heq k6 hu5)
  · intro J hJ
    refine loopN (fun m st v => ∃ (l : Sl) (i : Nat), st = (l, (i : Int), ()) ∧ m + i = ns.length ∧ i ≤ ds.length ∧ l.l = i ∧ OS v l (((ns.zip ds).take i).flatMap entV) 2 ∧ Fr 0 0 w v ∧ ∀ b, owns l b → w.heap.size ≤ b) ns.length ⟨⟨none, 0, 0⟩, 0, rfl, rfl, by omega, rfl, OS.nil w 2, Fr.refl _ _ _, fun b hb => by simp [owns] at hb⟩ ?_
    rintro m _ v ⟨l, i, rfl, hm, hid, hli, ho, fv, hown⟩ Q hQ
    dsimp only
    have hnl' := hn.len
    have hdl' := hd.len
    have fin : J l v := by
      refine hJ l v ⟨fv, ?_⟩
      have hzl : ((ns.zip ds).take i).length = i := by simp; omega
      generalize (ns.zip ds).take i = es at *
      rcases ho with ⟨rfl, he⟩ | ⟨g, a, b, c, junk, d, e⟩
      · have : es = [] := by
          rcases es with _ | ⟨x, es⟩
          · rfl
          · simp [entV] at he
        subst this
        exact ⟨0, [], ⟨rfl, .inl rfl⟩, .inl rfl, by simp, by simp⟩
      · exact ⟨g, es, EntS.ofBlk (pre := []) d rfl a (by omega), .inr d.lt, by omega, by omega⟩
    by_cases hi : i < ns.length
    · rw [if_pos (by simp only [decide_eq_true_eq]; omega)]
      by_cases hi2 : i < ds.length
      · rw [if_pos (by simp only [decide_eq_true_eq]; omega)]
        refine drew_ ?_
        have hn1 : StrS v.drew names ns := hn.fr fv.drew
        have hd1 : StrS v.drew datas ds := hd.fr fv.drew
        refine hn1.get (List.getElem?_eq_getElem hi) (hd1.get (List.getElem?_eq_getElem hi2) ?_)
        refine newB fun v1 b1 f1 s1 => ?_
        have fv1 : Fr 0 0 w v1 := fv.trans f1
        have ho1 : OS v1 l (((ns.zip ds).take i).flatMap entV) 2 := ho.frp (FrP.of0 (P := fun _ => False) f1) (fun _ _ h => h)
        refine appO (new := entV (ns[i], ds[i])) ho1 b1 rfl (by omega) rfl rfl (by show (l.l + 1) * 32 ≤ _; omega) fun l' v2 o2 l2 gr f2 => ?_
        rw [W_succ (by omega)]
        refine let_ (hQ (m - 1) _ _ (by omega) ⟨l', i + 1, rfl, by omega, by omega, by omega, ?_, ?_, ?_⟩)
        · have hz : (ns.zip ds)[i]? = some (ns[i], ds[i]) := List.getElem?_zip_eq_some.2 ⟨List.getElem?_eq_getElem hi, List.getElem?_eq_getElem hi2⟩
          rw [(flat_split entV hz).1]
          exact o2
        · exact (FrP.trans' (P := fun _ => False) (FrP.of0 fv1) f2 (fun b hb => .inr (hown b hb))).ofR (fun _ h => h.elim)
        · intro b hb
          rcases gr.owns hb with hb | hb
          · exact hown b hb
          · have := fv1.1; omega
      · rw [if_neg (by simp only [decide_eq_true_eq]; omega)]
        exact fin
    · rw [if_neg (by simp only [decide_eq_true_eq]; omega)]
      exact fin
end Go.Proofs.Qxb6500563aGreat
