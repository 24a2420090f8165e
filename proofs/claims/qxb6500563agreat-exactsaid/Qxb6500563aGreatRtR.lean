/-
  The way back, plain: an archive.
-/
import Derived.Test.Qxb6500563aGreatRtQ
namespace Go.Proofs.Qxb6500563aGreat
open Go.Den Go.Zip
set_option linter.unusedVariables false
set_option linter.unusedSimpArgs false

theorem getD_seg {A X Z : List Nat} {k c : Nat} (hk : k < X.length) (hc : c = A.length + k) : (A ++ (X ++ Z)).getD c 0 = X.getD k 0 := by
  subst hc
  simp only [List.getD]
  rw [List.getElem?_append_right (by omega), Nat.add_sub_cancel_left, List.getElem?_append_left hk]
theorem n16_seg {A Z : List Nat} {v c : Nat} (hv : v < 65536) (hc : c = A.length) : n16 (A ++ (twoB v ++ Z)) c = v := by
  unfold n16
  rw [getD_seg (X := twoB v) (k := 0) (by simp [twoB]) (by omega), getD_seg (X := twoB v) (k := 1) (by simp [twoB]) (by omega)]
  simp [twoB]
  omega
theorem cut_seg {A X Z : List Nat} {c n : Nat} (hc : c = A.length) (hn : n = X.length) : ((A ++ (X ++ Z)).drop c).take n = X := by
  subst hc; subst hn
  rw [List.drop_left, List.take_left]
theorem body_pre (level : Nat) (es : List Ent) {i j : Nat} (h : i ≤ j) : ∃ Z, bodyTo level es j = bodyTo level es i ++ Z := by
  unfold bodyTo
  refine ⟨((es.take j).drop i).flatMap (recB level), ?_⟩
  rw [← List.flatMap_append]
  congr 1
  rw [show es.take i = (es.take j).take i from by rw [List.take_take, Nat.min_eq_left h], List.take_append_drop]
theorem dir_pre (level : Nat) (es : List Ent) {i : Nat} : ∀ {j}, i ≤ j → ∃ Z, dirTo level es j = dirTo level es i ++ Z
  | 0, h => ⟨[], by rw [show i = 0 from by omega]; simp⟩
  | j + 1, h => by
    by_cases e : i = j + 1
    · subst e; exact ⟨[], by simp⟩
    · obtain ⟨Z, hZ⟩ := dir_pre level es (i := i) (j := j) (by omega)
      exact ⟨Z ++ twoB (offAt level es j), by rw [dir_succ, hZ, List.append_assoc]⟩

/-- What the frame's reader finds of entry j. -/
theorem slot_back {level : Nat} {es : List Ent} (hok : EntsOK es) {j : Nat} {e : Ent} (he : es[j]? = some e) :
    spotOf (archB level es) (offAt level es es.length + 2 * j) = ⟨offAt level es j, offAt level es j + 1 + e.1.size, offAt level es j + 1 + e.1.size + 6 + (packT level e).length, e.2.size, sumP (bt e.2)⟩ ∧
    (spotE (archB level es) (offAt level es es.length) (offAt level es es.length + 2 * j)).1 = 0 ∧
    ((archB level es).drop (offAt level es j + 1)).take e.1.size = bt e.1 ∧
    ((archB level es).drop (offAt level es j + 1 + e.1.size + 6)).take (packT level e).length = packT level e := by
  obtain ⟨hj, hje⟩ := List.getElem?_eq_some_iff.1 he
  have heo := hok.2 e (List.mem_of_getElem? he)
  have hpl := packT_len level e heo.2.2
  have hT := body_len' (level := level) hok es.length (Nat.le_refl _)
  have hO := body_len' (level := level) hok j (by omega)
  have h4 := hok.1
  obtain ⟨Z1, hZ1⟩ := dir_pre level es (i := j + 1) (j := es.length) (by omega)
  rw [dir_succ] at hZ1
  obtain ⟨Z2, hZ2⟩ := body_pre level es (i := j + 1) (j := es.length) (by omega)
  rw [body_succ he] at hZ2
  have hrl := rec_len level e
  have hbl : (bodyTo level es es.length).length = offAt level es es.length := rfl
  have hOl : (bodyTo level es j).length = offAt level es j := rfl
  have hTO : offAt level es j + (recB level e).length ≤ offAt level es es.length := by rw [← hbl, hZ2, List.length_append, List.length_append]; omega
  have hdl := dir_len level es j
  -- the archive, cut at the cell and within the record
  have r1 : archB level es = (bodyTo level es es.length ++ dirTo level es j) ++ (twoB (offAt level es j) ++ (Z1 ++ [es.length % 256] ++ twoB (offAt level es es.length) ++ [90])) := by
    unfold archB; rw [hZ1]; simp only [List.append_assoc]
  obtain ⟨Y, hY⟩ : ∃ Y, archB level es = bodyTo level es j ++ (recB level e ++ Y) := by
    refine ⟨Z2 ++ (dirTo level es es.length ++ ([es.length % 256] ++ (twoB (offAt level es es.length) ++ [90]))), ?_⟩
    unfold archB; rw [hZ2]; simp only [List.append_assoc]
  generalize hr : archB level es = r at *
  generalize hOO : offAt level es j = O at *
  generalize hTT : offAt level es es.length = T at *
  have hs16 : e.1.size % 256 = e.1.size := by omega
  unfold recB at hY
  rw [hs16] at hY
  have y0 : r = bodyTo level es j ++ ([e.1.size] ++ (bt e.1 ++ (twoB e.2.size ++ (twoB (packT level e).length ++ (twoB (sumP (bt e.2)) ++ (packT level e ++ Y)))))) := by rw [hY]; simp only [List.append_assoc]
  have y1 : r = (bodyTo level es j ++ [e.1.size]) ++ (bt e.1 ++ (twoB e.2.size ++ (twoB (packT level e).length ++ (twoB (sumP (bt e.2)) ++ (packT level e ++ Y))))) := by rw [y0]; simp only [List.append_assoc]
  have y2 : r = (bodyTo level es j ++ [e.1.size] ++ bt e.1) ++ (twoB e.2.size ++ (twoB (packT level e).length ++ (twoB (sumP (bt e.2)) ++ (packT level e ++ Y)))) := by rw [y0]; simp only [List.append_assoc]
  have y3 : r = (bodyTo level es j ++ [e.1.size] ++ bt e.1 ++ twoB e.2.size) ++ (twoB (packT level e).length ++ (twoB (sumP (bt e.2)) ++ (packT level e ++ Y))) := by rw [y0]; simp only [List.append_assoc]
  have y4 : r = (bodyTo level es j ++ [e.1.size] ++ bt e.1 ++ twoB e.2.size ++ twoB (packT level e).length) ++ (twoB (sumP (bt e.2)) ++ (packT level e ++ Y)) := by rw [y0]; simp only [List.append_assoc]
  have y5 : r = (bodyTo level es j ++ [e.1.size] ++ bt e.1 ++ twoB e.2.size ++ twoB (packT level e).length ++ twoB (sumP (bt e.2))) ++ (packT level e ++ Y) := by rw [y0]; simp only [List.append_assoc]
  have t2 : ∀ n, (twoB n).length = 2 := fun n => rfl
  have a1 : n16 r (T + 2 * j) = O := by rw [r1]; exact n16_seg (by omega) (by rw [List.length_append, hdl, hbl])
  have a2 : r.getD O 0 = e.1.size := by rw [y0]; exact getD_seg (X := [e.1.size]) (k := 0) (by simp) (by rw [hOl]; rfl)
  have a3 : n16 r (O + 1 + e.1.size) = e.2.size := by rw [y2]; exact n16_seg (by omega) (by simp only [List.length_append, List.length_cons, List.length_nil, bt_length, hOl])
  have a4 : n16 r (O + 1 + e.1.size + 2) = (packT level e).length := by rw [y3]; exact n16_seg (by omega) (by simp only [List.length_append, List.length_cons, List.length_nil, bt_length, hOl, t2])
  have a5 : n16 r (O + 1 + e.1.size + 4) = sumP (bt e.2) := by rw [y4]; exact n16_seg (sumP_lt _) (by simp only [List.length_append, List.length_cons, List.length_nil, bt_length, hOl, t2])
  have hso : spotOf r (T + 2 * j) = ⟨O, O + 1 + e.1.size, O + 1 + e.1.size + 6 + (packT level e).length, e.2.size, sumP (bt e.2)⟩ := by unfold spotOf; rw [a1, a2, a3, a4, a5]
  refine ⟨hso, ?_, ?_, ?_⟩
  · unfold spotE
    rw [hso]
    dsimp only
    rw [a1, a2, a4]
    rw [if_neg (by omega), if_neg (by omega), if_neg (by omega), if_neg (by omega), if_neg (by omega), if_neg (by omega)]
  · rw [y1]; exact cut_seg (by simp only [List.length_append, List.length_cons, List.length_nil, hOl]) (by rw [bt_length])
  · rw [y5]; exact cut_seg (by simp only [List.length_append, List.length_cons, List.length_nil, bt_length, hOl, t2]) rfl

theorem openTo_zero {raw : ByteArray} : ∀ {l : List Slot}, (∀ s ∈ l, openE raw s = 0) → (openTo raw l).1 = 0
  | [], _ => rfl
  | s :: l, h => by
    simp only [openTo]
    rw [if_neg (by simpa using h s (by simp))]
    exact openTo_zero fun x hx => h x (by simp [hx])

theorem arch_back {level : Nat} {es : List Ent} (hok : EntsOK es) : (unpE (strOf (archB level es))).1 = 0 ∧ (slotsR (strOf (archB level es))).map (entOf (strOf (archB level es))) = es := by
  have hbt : bt (strOf (archB level es)) = archB level es := bt_strOf (arch_lt level es)
  have h4 := hok.1
  have hT := body_len' (level := level) hok es.length (Nat.le_refl _)
  have hal := arch_len (level := level) hok
  have hdl := dir_len level es es.length
  have hbl : (bodyTo level es es.length).length = offAt level es es.length := rfl
  have hlen : (archB level es).length = offAt level es es.length + 2 * es.length + 4 := by
    unfold archB
    simp only [List.length_append, List.length_cons, List.length_nil, hdl, hbl]
    show _ + 2 + 1 = _
    omega
  have r1 : archB level es = (bodyTo level es es.length ++ dirTo level es es.length ++ [es.length % 256] ++ twoB (offAt level es es.length)) ++ ([90] ++ []) := by unfold archB; simp only [List.append_nil]
  have r2 : archB level es = (bodyTo level es es.length ++ dirTo level es es.length) ++ ([es.length % 256] ++ (twoB (offAt level es es.length) ++ [90])) := by unfold archB; simp only [List.append_assoc]
  have r3 : archB level es = (bodyTo level es es.length ++ dirTo level es es.length ++ [es.length % 256]) ++ (twoB (offAt level es es.length) ++ [90]) := by unfold archB; simp only [List.append_assoc]
  have hc : cntR (archB level es) = es.length := by
    unfold cntR
    rw [hlen]
    have : (archB level es).getD (offAt level es es.length + 2 * es.length) 0 = es.length % 256 := by rw [r2]; exact getD_seg (X := [es.length % 256]) (k := 0) (by simp) (by rw [List.length_append, hdl, hbl]; rfl)
    rw [show offAt level es es.length + 2 * es.length + 4 - 4 = offAt level es es.length + 2 * es.length from by omega, this]
    omega
  have hd : dirR (archB level es) = offAt level es es.length := by
    unfold dirR
    rw [hlen]
    have : n16 (archB level es) (offAt level es es.length + 2 * es.length + 1) = offAt level es es.length := by rw [r3]; exact n16_seg (by omega) (by simp only [List.length_append, hdl, hbl, List.length_cons, List.length_nil])
    rw [show offAt level es es.length + 2 * es.length + 4 - 3 = offAt level es es.length + 2 * es.length + 1 from by omega]
    exact this
  have h90 : (archB level es).getD ((archB level es).length - 1) 0 = 90 := by
    rw [hlen]
    have : (archB level es).getD (offAt level es es.length + 2 * es.length + 3) 0 = 90 := by
      rw [r1]
      exact getD_seg (X := [90]) (k := 0) (by simp) (by simp only [List.length_append, hdl, hbl, List.length_cons, List.length_nil]; show _ = _ + 2 + 0; omega)
    rw [show offAt level es es.length + 2 * es.length + 4 - 1 = offAt level es es.length + 2 * es.length + 3 from by omega]
    exact this
  have hsb : ∀ j, j < es.length → (spotE (archB level es) (offAt level es es.length) (offAt level es es.length + 2 * j)).1 = 0 := fun j hj => (slot_back hok (List.getElem?_eq_getElem hj)).2.1
  have hft : ∀ k, k ≤ es.length → (frameTo (archB level es) (offAt level es es.length) k).1 = 0 := by
    intro k
    induction k with
    | zero => intro _; rfl
    | succ k ih =>
      intro hk
      simp only [frameTo]
      rw [if_neg (by simpa using ih (by omega))]
      exact hsb k (by omega)
  have hfe : (frameE (archB level es)).1 = 0 := by
    unfold frameE
    rw [if_neg (by omega), if_neg (by omega), hc, if_neg (by omega), hd, if_neg (by omega)]
    exact hft _ (Nat.le_refl _)
  have hsl : slotsR (strOf (archB level es)) = slotsTo (archB level es) (offAt level es es.length) es.length := by unfold slotsR; rw [hbt, hc, hd]
  -- entry by entry
  have hent : ∀ j e, es[j]? = some e → openE (strOf (archB level es)) (spotOf (archB level es) (offAt level es es.length + 2 * j)) = 0 ∧ entOf (strOf (archB level es)) (spotOf (archB level es) (offAt level es es.length + 2 * j)) = e := by
    intro j e he
    obtain ⟨s1, s2, s3, s4⟩ := slot_back (level := level) hok he
    have heo := hok.2 e (List.mem_of_getElem? he)
    rw [s1]
    have hnm : nameOf (strOf (archB level es)) ⟨offAt level es j, offAt level es j + 1 + e.1.size, offAt level es j + 1 + e.1.size + 6 + (packT level e).length, e.2.size, sumP (bt e.2)⟩ = e.1 := by
      apply bt_inj
      unfold nameOf
      rw [bt_extract, hbt]
      dsimp only
      rw [show offAt level es j + 1 + e.1.size - (offAt level es j + 1) = e.1.size from by omega]
      exact s3
    have hdc : decOf (strOf (archB level es)) ⟨offAt level es j, offAt level es j + 1 + e.1.size, offAt level es j + 1 + e.1.size + 6 + (packT level e).length, e.2.size, sumP (bt e.2)⟩ = (0, bt e.2) := by
      unfold decOf rawOf
      rw [bt_extract, hbt]
      dsimp only
      rw [show offAt level es j + 1 + e.1.size + 6 + (packT level e).length - (offAt level es j + 1 + e.1.size + 6) = (packT level e).length from by omega, s4]
      unfold packT
      exact pack_decode level (fun x hx => bt_lt hx) (by rw [bt_length]; exact heo.2.2)
    refine ⟨?_, ?_⟩
    · unfold openE
      rw [hdc]
      dsimp only
      rw [if_neg (by simp), if_neg (by rw [bt_length]; simp), if_neg (by simp)]
    · unfold entOf
      rw [hnm, hdc, strOf_bt]
  refine ⟨?_, ?_⟩
  · unfold unpE
    rw [hbt, if_neg (by simpa using hfe), hsl]
    refine openTo_zero fun s hs => ?_
    simp only [slotsTo, List.mem_map, List.mem_range] at hs
    obtain ⟨j, hj, rfl⟩ := hs
    exact (hent j _ (List.getElem?_eq_getElem hj)).1
  · rw [hsl]
    unfold slotsTo
    rw [List.map_map]
    apply List.ext_getElem?
    intro j
    by_cases hj : j < es.length
    · have he : es[j]? = some es[j] := List.getElem?_eq_getElem hj
      rw [List.getElem?_map, List.getElem?_range hj, he]
      simp only [Option.map_some, Function.comp]
      rw [(hent j _ he).2]
    · rw [List.getElem?_eq_none (by simp; omega), List.getElem?_eq_none (by omega)]
end Go.Proofs.Qxb6500563aGreat
