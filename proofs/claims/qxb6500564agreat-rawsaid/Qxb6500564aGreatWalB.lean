/-
  The log: commit, abort, recovery.
-/
import Derived.Test.Qxb6500564aGreatWalA
import Derived.Test.Qxb6500564aGreatS7
namespace Go.Proofs.Qxb6500564aGreat
open Go.Den Go.Zip
set_option linter.unusedVariables false
set_option linter.unusedSimpArgs false
variable {w w' : World} {d l bn bd : Nat} {D B : List Bk} {R : List Wr} {O O' Od Od' : Nat → Prop} {ws : List Wr} {op : Bool}

theorem W1 {i : Nat} (h : i < 4611686018427387904) : W (1 + ((i : Nat) : Int)) = ((1 + i : Nat) : Int) := by rw [W_id (by omega) (by omega)]; omega
theorem slotAt_spec {i : Nat} {K : Int → World → Prop} (hi : i < 4611686018427387904) (hK : K (1 + i : Nat) w) : S.wal_slotAt (i : Nat) w K := by
  unfold S.wal_slotAt
  rw [W1 hi]; exact hK
theorem homeAt_spec {i : Nat} {K : Int → World → Prop} (hi : i < 4611686018427387904) (hK : K (73 + i : Nat) w) : S.wal_homeAt (i : Nat) w K := by
  unfold S.wal_homeAt
  rw [show W (73 + ((i : Nat) : Int)) = ((73 + i : Nat) : Int) by rw [W_id (by omega) (by omega)]; omega]; exact hK
theorem numberAt_spec {h : Bk} {i : Nat} {K : Int → World → Prop} (hi : 1 + i < h.size) (h2 : h.size = 128) (hK : K (byteAt h (1 + i) : Nat) w) : S.wal_numberAt h (i : Nat) w K := by
  unfold S.wal_numberAt
  rw [W1 (by omega)]
  refine ixStr (m := byteAt h (1 + i)) (by omega) (by rw [Int.toNat_natCast]; exact byteAt_get (by omega)) ?_
  have hb2 := byteAt_lt h (1 + i)
  rw [W_id (by omega) (by omega)]; exact hK
theorem logged_spec {h : Bk} {K : Int → World → Prop} (hK : K (lgd h : Nat) w) : S.wal_logged h w K := by
  unfold S.wal_logged
  unfold lgd at hK
  by_cases h1 : h.size = 128
  · rw [if_neg (by simp [h1])] at hK
    rw [if_neg (by simp only [bne_iff_ne, ne_eq]; omega)]
    refine ixStr (i := 0) (m := byteAt h 0) (by omega) (byteAt_get (by omega)) (let_ ?_)
    have hb := byteAt_lt h 0
    rw [W_id (by omega) (by omega)]
    refine ifd (fun h2 => ?_) fun h2 => ?_
    · rw [if_pos (by omega)] at hK; exact hK
    · rw [if_neg (by omega)] at hK
      refine loopN (fun m st v => ∃ i : Nat, st = ((i : Int), ()) ∧ i + m = byteAt h 0 ∧ v = w ∧ ∀ j, j < i → byteAt h (1 + j) < 80) (byteAt h 0) ⟨0, rfl, by omega, rfl, fun j hj => by omega⟩ ?_
      rintro m _ v ⟨i, rfl, hm, rfl, hne⟩ Q hQ
      dsimp only
      refine ifd (fun h3 => ?_) fun h3 => ?_
      · rw [W1 (by omega)]
        refine ixStr (m := byteAt h (1 + i)) (by omega) (by rw [Int.toNat_natCast]; exact byteAt_get (by omega)) ?_
        have hb2 := byteAt_lt h (1 + i)
        rw [W_id (by omega) (by omega)]
        unfold S.wal_inData
        rw [if_pos (by simp only [decide_eq_true_eq]; omega)]
        by_cases h4 : byteAt h (1 + i) < 80
        · have : decide (((byteAt h (1 + i) : Nat) : Int) < 80) = true := by simp only [decide_eq_true_eq]; omega
          rw [this]
          dsimp only
          rw [if_neg (by simp)]
          refine let_ ?_
          rw [W_succ (by omega)]
          refine hQ (m - 1) _ v (by omega) ⟨i + 1, rfl, by omega, rfl, fun j hj => ?_⟩
          rcases (by omega : j < i ∨ j = i) with h' | rfl
          · exact hne j h'
          · exact h4
        · have : decide (((byteAt h (1 + i) : Nat) : Int) < 80) = false := by simp only [decide_eq_false_iff_not]; omega
          rw [this]
          dsimp only
          rw [if_pos (by simp)]
          rw [if_neg (fun hn => h4 ((namesOk_iff h _).1 hn i (by omega)))] at hK
          exact hK
      · rw [if_pos ((namesOk_iff h _).2 fun j hj => hne j (by omega))] at hK
        exact hK
  · rw [if_pos h1] at hK
    rw [if_pos (by simp only [bne_iff_ne, ne_eq]; omega)]
    exact hK
theorem instH_get {D : List Bk} {h : Bk} {i : Nat} (hi : i < lgd h) : (instH D h)[i]? = some (73 + byteAt h (1 + i), D.getD (1 + i) blk0) := by
  unfold instH
  rw [List.getElem?_map, List.getElem?_range hi]; rfl
set_option maxRecDepth 100000 in
theorem install_spec {h : Bk} {K : Int → World → Prop} (q : DI w d B R O) (hR : R.length ≤ 500000) (hK : ∀ w' O', DI w' d B (R ++ instW (appl B R) h) O' → Gw O w O' w' → K 0 w') : S.wal_install d h w K := by
  unfold S.wal_install
  refine logged_spec ?_
  have hn := lgd_le h
  have hil : (instH (appl B R) h).length = lgd h := by unfold instH; simp
  refine join_W (fun v => ∃ O', DI v d B (R ++ instH (appl B R) h) O' ∧ Gw O w O' v) ?_ ?_
  · refine fun v hv => Exists.elim hv fun O1 hv => ?_
    have q1 := hv.1
    have G1 := hv.2
    refine dwrite_spec (b := 0) (x := blk0) q1 (by omega) (by rw [List.length_append]; omega) fun w2 O2 q2 G2 => ?_
    rw [if_neg (by simp)]
    refine hK w2 O2 ?_ (G1.trans G2)
    unfold instW
    rw [blockOf_id blk0_size, List.append_assoc] at q2
    exact q2
  · intro J hJ
    refine loopN (fun m st v => ∃ (i : Nat) (O' : Nat → Prop), st = ((i : Int), ()) ∧ i + m = lgd h ∧ DI v d B (R ++ (instH (appl B R) h).take i) O' ∧ Gw O w O' v) (lgd h) ⟨0, O, rfl, by omega, by simpa using q, Gw.refl _ _⟩ ?_
    rintro m _ v ⟨i, O1, rfl, hm, q1, G1⟩ Q hQ
    dsimp only
    refine ifd (fun h1 => ?_) fun h1 => ?_
    · have hi : i < lgd h := by omega
      obtain ⟨ok1, ok2, ok3⟩ := lgd_ok hi
      refine slotAt_spec (by omega) (dread_spec q1 (by omega) ?_)
      rw [if_neg (by simp)]
      have er : (appl B (R ++ (instH (appl B R) h).take i)).getD (1 + i) blk0 = (appl B R).getD (1 + i) blk0 := by
        rw [appl_app, getD_appl (by rw [q.nD.1]; omega), lastW_none fun x hx e => by have := (instH_hi x (List.mem_of_mem_take hx)).1; omega]; rfl
      rw [er]
      refine numberAt_spec (by omega) ok3 (homeAt_spec (by omega) ?_)
      have hsz : ((appl B R).getD (1 + i) blk0).size = 128 := by
        rw [List.getD_eq_getElem?_getD, List.getElem?_eq_getElem (by rw [q.nD.1]; omega)]
        exact q.nD.2.2 _ (List.getElem_mem _)
      refine dwrite_spec q1 (by omega) (by rw [List.length_append, List.length_take]; omega) fun w2 O2 q2 G2 => ?_
      rw [if_neg (by simp)]
      refine let_ ?_
      rw [W_succ (by omega)]
      refine hQ (m - 1) _ w2 (by omega) ⟨i + 1, O2, rfl, by omega, ?_, G1.trans G2⟩
      rw [take_succ_get (instH_get hi), ← List.append_assoc]
      rw [blockOf_id hsz] at q2
      exact q2
    · have : i = lgd h := by omega
      rw [List.take_of_length_le (by omega)] at q1
      exact hJ v ⟨O1, q1, G1⟩
theorem headerOf_spec {nums : List Int} {K : Bk → World → Prop} (ok : WsF ws) (hb : Blk w bn (ints nums)) (h1 : nums.length = 72) (h2 : nums.take ws.length = ws.map fun q => ((q.1 : Nat) : Int)) (hK : ∀ w', Fr 0 0 w w' → K (hdr ws) w') : S.wal_headerOf (fullS bn 72) (ws.length : Nat) w K := by
  unfold S.wal_headerOf
  have hl := ok.len
  have hlt := hb.lt
  refine mkS (by omega) (by omega) (by omega) (by omega) fun w1 b1 f1 s1 => ?_
  have e128 : (128 : Int).toNat = 128 := rfl
  rw [e128] at *
  have b1 : Blk w1 w.heap.size (byts (List.replicate 128 0)) := by rw [← reps_byts]; exact b1
  refine ix rfl (by omega) (by show (0 : Int) < 128; omega) ?_
  rw [show 0 + Int.toNat 0 * 1 = 0 from rfl]
  refine st1 b1 (by simp) fun w2 b2 f2 s2 => ?_
  rw [U8_nat, Nat.mod_eq_of_lt (by omega), byts_set] at b2
  rw [join_eq]
  have F2 : Fr 0 0 w w2 := ((f1.any w.heap.size 1).trans f2).fresh (Nat.le_refl _) 0 0
  have e0 : (List.replicate 128 0).set 0 ws.length = (ws.length :: (ws.map fun q : Wr => q.1).take 0) ++ List.replicate (127 - 0) 0 := by
    rw [List.replicate_succ (n := 127)]; simp
  rw [e0] at b2
  refine loopN (fun m st v => ∃ i : Nat, st = ((i : Int), ()) ∧ i + m = ws.length ∧ Blk v w.heap.size (byts ((ws.length :: (ws.map fun q : Wr => q.1).take i) ++ List.replicate (127 - i) 0)) ∧ Fr 0 0 w v) ws.length ⟨0, rfl, by omega, b2, F2⟩ ?_
  rintro m _ v ⟨i, rfl, hm, bv, fv⟩ Q hQ
  dsimp only
  have fin : i = ws.length → BtS v ⟨some ⟨w.heap.size, 0, none⟩, 128, 128⟩ fun s4 => K s4 v := fun e => by
    subst e
    have hz : (ws.length :: (ws.map fun q : Wr => q.1).take ws.length) ++ List.replicate (127 - ws.length) 0 = hdL ws := by
      rw [List.take_of_length_le (by simp)]; rfl
    rw [hz] at bv
    exact btS bv (zs := hdL ws) (by rw [List.drop_zero]; exact List.take_of_length_le (by simp [hdL_len ok.ok])) (hdL_len ok.ok) (hdL_lt ok.ok) (hK v fv)
  refine ifd (fun h3 => ?_) fun h3 => fin (by omega)
  have hi : i < ws.length := by omega
  rw [if_pos (by simp only [decide_eq_true_eq]; omega), if_pos (by simp only [decide_eq_true_eq]; show ((i : Nat) : Int) < 72; omega)]
  refine ix rfl (by omega) (by show ((i : Nat) : Int) < 72; omega) ?_
  rw [o1]
  have hg : nums[i]? = some ((ws[i].1 : Nat) : Int) := by
    have := congrArg (fun l : List Int => l[i]?) h2
    rw [List.getElem?_take, if_pos hi, List.getElem?_map, List.getElem?_eq_getElem hi] at this
    exact this
  refine ldI (hb.fr fv (by omega)) (ints_get hg) ?_
  rw [W1 (by omega)]
  refine ix rfl (by omega) (by show ((1 + i : Nat) : Int) < 128; omega) ?_
  rw [o1]
  have hq := ok.num ws[i] (List.getElem_mem hi)
  refine st1 bv (by simp; omega) fun v2 c2 f2' s2' => let_ ?_
  rw [U8_nat, Nat.mod_eq_of_lt (by omega), byts_set] at c2
  rw [W_succ (by omega)]
  refine hQ (m - 1) _ v2 (by omega) ⟨i + 1, rfl, by omega, ?_, ((fv.any w.heap.size 1).trans f2').fresh (Nat.le_refl _) 0 0⟩
  have hg2 : (ws.map fun q : Wr => q.1)[i]? = some ws[i].1 := by rw [List.getElem?_map, List.getElem?_eq_getElem hi]; rfl
  have e : ((ws.length :: (ws.map fun q : Wr => q.1).take i) ++ List.replicate (127 - i) 0).set (1 + i) ws[i].1 = (ws.length :: (ws.map fun q : Wr => q.1).take (i + 1)) ++ List.replicate (127 - (i + 1)) 0 := by
    rw [List.set_append_right _ _ (by simp; omega), take_succ_get hg2]
    have e2 : 1 + i - (ws.length :: (ws.map fun q : Wr => q.1).take i).length = 0 := by simp; omega
    rw [e2, show 127 - i = (127 - (i + 1)) + 1 by omega, List.replicate_succ, List.set_cons_zero]
    simp
  rw [e] at c2
  exact c2
theorem WK.slots {i : Nat} (k : WK w l d bn bd op ws) (hi : i < ws.length) : ∃ dat : List Bk, Blk w bd (strs dat) ∧ dat[i]? = some (ws[i]).2 ∧ dat.length = 72 := by
  obtain ⟨dat, m1, m2, m3⟩ := k.kd
  refine ⟨dat, m1, ?_, m2⟩
  have := congrArg (fun l : List Bk => l[i]?) m3
  rw [List.getElem?_take, if_pos hi, List.getElem?_map, List.getElem?_eq_getElem hi] at this
  exact this
theorem slotW_get {i : Nat} (hi : i < ws.length) : (slotW ws)[i]? = some (1 + i, (ws[i]).2) := by
  unfold slotW
  rw [List.getElem?_map, List.getElem?_range hi]
  have e2 : ws.getD i (0, blk0) = ws[i] := by rw [List.getD_eq_getElem?_getD, List.getElem?_eq_getElem hi]; rfl
  show some (1 + i, (ws.getD i (0, blk0)).2) = _
  rw [e2]
theorem com_inst (hl : D.length = 153) (h : WsF ws) (hn : 0 < ws.length) : instW (appl D (slotW ws ++ [(0, hdr ws)])) (hdr ws) = homeW ws ++ [(0, blk0)] := by
  unfold instW
  congr 1
  have hln := h.len
  have hw : ∀ i, (homeW ws)[i]? = ws[i]?.map (fun q : Wr => ((73 + q.1, q.2) : Wr)) := fun i => List.getElem?_map ..
  unfold instH
  rw [hdr_lgd h.ok]
  apply List.ext_getElem?
  intro i
  rw [List.getElem?_map, hw]
  rcases Nat.lt_or_ge i ws.length with hi | hi
  · rw [List.getElem?_range hi, List.getElem?_eq_getElem hi]
    show some (73 + byteAt (hdr ws) (1 + i), _) = some (73 + ws[i].1, ws[i].2)
    have e2 : ws.getD i (0, blk0) = ws[i] := by rw [List.getD_eq_getElem?_getD, List.getElem?_eq_getElem hi]; rfl
    rw [hdr_i h.ok hi, e2, getD_appl (by omega), lastW_app, lastW_none (a := [(0, hdr ws)]) fun q hq e => by rw [List.mem_singleton.1 hq] at e; simp at e; omega]
    show some (73 + ws[i].1, ((lastW (slotW ws) (1 + i))).getD _) = _
    rw [slot_get hi, e2]; rfl
  · rw [List.getElem?_eq_none (by simpa using hi), List.getElem?_eq_none hi]; rfl
set_option maxHeartbeats 1000000 in
theorem flush_spec {K : Int → World → Prop} (k : LI d w l B R ws true O) (hn : 0 < ws.length) (hR : R.length ≤ 100000)
    (hK : ∀ w' Od bn bd, WK w' l d bn bd true ws → DI w' d B (R ++ comW ws) Od → (∀ b, Od b → ¬ wO l bn bd b) → Gw O w (U (wO l bn bd) Od) w' → K 0 w') : S.wal_Log_flush l w K := by
  unfold S.wal_Log_flush
  have wf := k.wf
  obtain ⟨Od, bn, bd, k, q, dj, hz, rfl⟩ := k
  have hl := k.ok.len
  have hsl : (slotW ws).length = ws.length := slotW_len ws
  -- the disk works, the log's own blocks stand
  have step : ∀ {v v' : World} {R1 R2 : List Wr} {O1 O2 : Nat → Prop}, WK v l d bn bd true ws → (∀ b, O1 b → ¬ wO l bn bd b) → Gw O1 v O2 v' → WK v' l d bn bd true ws ∧ (∀ b, O2 b → ¬ wO l bn bd b) := fun kv dv G =>
    ⟨kv.frp G.1 fun b hb ho => dv b ho hb, fun b hb hw => (G.2 b hb).elim (fun h => dv b h hw) fun h => by have := kv.lt hw; omega⟩
  refine join_W (fun v => ∃ O1, WK v l d bn bd true ws ∧ DI v d B (R ++ slotW ws) O1 ∧ (∀ b, O1 b → ¬ wO l bn bd b) ∧ Gw (U (wO l bn bd) Od) w (U (wO l bn bd) O1) v) ?_ ?_
  · rintro v ⟨O1, k1, q1, dj1, G1⟩
    refine drew_ ?_
    have k1d : WK v.drew l d bn bd true ws := k1.frp (FrP.refl (fun _ => False) v).drew fun _ _ h => h
    have q1d : DI v.drew d B (R ++ slotW ws) O1 := q1.fr0 (Fr.refl 0 0 v).drew
    obtain ⟨nums, n1, n2, n3⟩ := k1d.kn
    refine ldS k1d.rc (a := some ⟨bn, 0, none⟩) (l := 72) (c := 72) rfl (ldI k1d.rc rfl ?_)
    refine headerOf_spec k1d.ok n1 n2 n3 fun w2 f2 => ?_
    have k2 := k1d.frp (FrP.of0 (P := fun _ => False) f2) fun _ _ h => h
    have q2 := q1d.fr0 f2
    refine ldP k2.rc rfl (dwrite_spec (b := 0) q2 (by omega) (by rw [List.length_append]; omega) fun w3 O3 q3 G3 => ?_)
    rw [if_neg (by simp)]
    obtain ⟨k3, dj3⟩ := step (R1 := []) (R2 := []) k2 dj1 G3
    rw [blockOf_id (hdr_size k.ok.ok)] at q3
    refine ldP k3.rc rfl (install_spec q3 (by simp only [List.length_append, List.length_singleton]; omega) fun w4 O4 q4 G4 => ?_)
    obtain ⟨k4, dj4⟩ := step (R1 := []) (R2 := []) k3 dj3 G4
    refine hK w4 O4 bn bd k4 ?_ dj4 ((G1.trans (Gw.new (f2 : Fr 0 0 v w2))).trans ((G3.u2 _).trans (G4.u2 _)))
    have e : R ++ slotW ws ++ [(0, hdr ws)] ++ instW (appl B (R ++ slotW ws ++ [(0, hdr ws)])) (hdr ws) = R ++ comW ws := by
      rw [List.append_assoc R, appl_app, com_inst wf.2.2.1 k.ok hn]
      unfold comW
      simp only [List.append_assoc]
    rw [e] at q4
    exact q4
  · intro J hJ
    refine loopN (fun m st v => ∃ (i : Nat) (O1 : Nat → Prop), st = ((i : Int), ()) ∧ i + m = ws.length ∧ WK v l d bn bd true ws ∧ DI v d B (R ++ (slotW ws).take i) O1 ∧ (∀ b, O1 b → ¬ wO l bn bd b) ∧ Gw (U (wO l bn bd) Od) w (U (wO l bn bd) O1) v) ws.length ⟨0, Od, rfl, by omega, k, by simpa using q, dj, Gw.refl _ _⟩ ?_
    rintro m _ v ⟨i, O1, rfl, hm, k1, q1, dj1, G1⟩ Q hQ
    dsimp only
    refine ldI k1.rc rfl (ifd (fun h1 => ?_) fun h1 => ?_)
    · have hi : i < ws.length := by omega
      refine slotAt_spec (by omega) (drew_ ?_)
      have k1d : WK v.drew l d bn bd true ws := k1.frp (FrP.refl (fun _ => False) v).drew fun _ _ h => h
      have q1d : DI v.drew d B (R ++ (slotW ws).take i) O1 := q1.fr0 (Fr.refl 0 0 v).drew
      obtain ⟨dat, m1, m2, m3⟩ := k1d.slots hi
      refine ldP k1d.rc rfl (ldS k1d.rc (a := some ⟨bd, 0, none⟩) (l := 72) (c := 72) rfl (ix rfl (by omega) (by show ((i : Nat) : Int) < 72; omega) ?_))
      rw [o1]
      refine ldStr m1 (strs_get m2) (dwrite_spec q1d (by omega) (by rw [List.length_append, List.length_take]; omega) fun w2 O2 q2 G2 => ?_)
      rw [if_neg (by simp)]
      obtain ⟨k2, dj2⟩ := step (R1 := []) (R2 := []) k1d dj1 G2
      refine let_ ?_
      rw [W_succ (by omega)]
      refine hQ (m - 1) _ w2 (by omega) ⟨i + 1, O2, rfl, by omega, k2, ?_, dj2, G1.trans (Gw.u2 (w := v) G2 _)⟩
      rw [take_succ_get (slotW_get hi), ← List.append_assoc]
      rw [blockOf_id (k.ok.siz _ (List.getElem_mem hi))] at q2
      exact q2
    · rw [List.take_of_length_le (by omega)] at q1
      exact hJ v ⟨O1, k1, q1, dj1, G1⟩
/-- What a commit leaves on the disk. -/
def comR (R ws : List Wr) : List Wr := if ws = [] then R else R ++ comW ws
theorem WK.shut {K : World → Prop} (k : WK w l d bn bd op ws) (hK : ∀ w', WK w' l d bn bd false [] → FrP (fun b => b = l) w w' → K w') : St1 w ⟨l, 1, none⟩ (.bool false) fun w => St1 w ⟨l, 2, none⟩ (.int .i64 0) K := by
  refine st1 k.rc (by simp) fun w1 c1 f1 s1 => st1 c1 (by simp) fun w2 c2 f2 s2 => ?_
  have F : FrP (fun b => b = l) w w2 := FrP.of (f1.trans f2) fun c h1 h2 => by omega
  obtain ⟨nums, n1, n2, n3⟩ := k.kn
  obtain ⟨dat, m1, m2, m3⟩ := k.kd
  exact hK w2 ⟨c2, ⟨nums, n1.frp F (fun e => k.d1 e.symm), n2, rfl⟩, ⟨dat, m1.frp F (fun e => k.d2 e.symm), m2, rfl⟩, k.d1, k.d2, k.d3, WsF.nil, fun _ => rfl⟩ F
theorem lcommit_spec {K : Int → World → Prop} (k : LI d w l B R ws true O) (hR : R.length ≤ 100000) (hK : ∀ w' O', LI d w' l B (comR R ws) [] false O' → Gw O w O' w' → K 0 w') : S.wal_Log_Commit l w K := by
  unfold S.wal_Log_Commit
  have wf := k.wf
  have kO := k
  obtain ⟨Od, bn, bd, k, q, dj, hz, rfl⟩ := k
  refine ldB k.rc rfl ?_
  rw [if_neg (by simp)]
  refine ldI k.rc rfl ?_
  rw [join_eq]
  have fin : ∀ {v : World} {bn1 bd1 : Nat} {Od1 : Nat → Prop}, WK v l d bn1 bd1 true ws → DI v d B (comR R ws) Od1 → (∀ b, Od1 b → ¬ wO l bn1 bd1 b) → byteAt (hd0 (appl B (comR R ws))) 0 = 0 → Gw (U (wO l bn bd) Od) w (U (wO l bn1 bd1) Od1) v →
      St1 v ⟨l, 1, none⟩ (.bool false) fun w => St1 w ⟨l, 2, none⟩ (.int .i64 0) fun w => K 0 w := fun {v bn1 bd1 Od1} kv qv djv hzv Gv =>
    kv.shut fun w2 k2 F2 => hK w2 _ ⟨Od1, bn1, bd1, k2, qv.frp F2 fun b hb e => djv b hb (.inl e), djv, hzv, rfl⟩ (Gv.trans ⟨F2.mono fun b e => .inl (.inl e), fun b hb => .inl hb⟩)
  by_cases h : 0 < ws.length
  · rw [if_pos (by simp only [decide_eq_true_eq]; omega)]
    have hne : ws ≠ [] := fun e => by rw [e] at h; simp at h
    refine flush_spec kO h hR fun w1 Od1 bn1 bd1 k1 q1 dj1 G1 => ?_
    have ec : comR R ws = R ++ comW ws := by unfold comR; rw [if_neg hne]
    rw [← ec] at q1
    refine fin k1 q1 dj1 ?_ G1
    rw [ec, appl_app]
    unfold hd0 comW
    rw [getD_appl (by rw [wf.2.2.1]; omega), lastW_app]
    show byteAt blk0 0 = 0
    exact byteAt_blk0 0
  · rw [if_neg (by simp only [decide_eq_true_eq]; omega)]
    have he : ws = [] := List.length_eq_zero_iff.1 (by omega)
    have ec : comR R ws = R := by unfold comR; rw [if_pos he]
    exact fin k (by rw [ec]; exact q) dj (by rw [ec]; exact hz) (Gw.refl _ _)
theorem lbegin_spec {K : Int → World → Prop} (k : LI d w l B R [] false O) (hK : ∀ w', LI d w' l B R [] true O → FrP O w w' → K 0 w') : S.wal_Log_Begin l w K := by
  unfold S.wal_Log_Begin
  obtain ⟨Od, bn, bd, k, q, dj, hz, rfl⟩ := k
  refine ldB k.rc rfl ?_
  rw [if_neg (by simp)]
  refine st1 k.rc (by simp) fun w1 c1 f1 s1 => ?_
  have F : FrP (fun b => b = l) w w1 := FrP.of f1 fun c h1 h2 => by omega
  obtain ⟨nums, n1, n2, n3⟩ := k.kn
  obtain ⟨dat, m1, m2, m3⟩ := k.kd
  exact hK w1 ⟨Od, bn, bd, ⟨c1, ⟨nums, n1.frp F (fun e => k.d1 e.symm), n2, rfl⟩, ⟨dat, m1.frp F (fun e => k.d2 e.symm), m2, rfl⟩, k.d1, k.d2, k.d3, WsF.nil, fun _ => rfl⟩, q.frp F fun b hb e => dj b hb (.inl e), dj, hz, rfl⟩ (F.mono fun b e => .inl (.inl e))
theorem labort_spec {K : Int → World → Prop} (k : LI d w l B R ws true O) (hK : ∀ w', LI d w' l B R [] false O → FrP O w w' → K 0 w') : S.wal_Log_Abort l w K := by
  unfold S.wal_Log_Abort
  obtain ⟨Od, bn, bd, k, q, dj, hz, rfl⟩ := k
  refine ldB k.rc rfl ?_
  rw [if_neg (by simp)]
  exact k.shut fun w2 k2 F2 => hK w2 ⟨Od, bn, bd, k2, q.frp F2 fun b hb e => dj b hb (.inl e), dj, hz, rfl⟩ (F2.mono fun b e => .inl (.inl e))
theorem over_spec {K : Nat → World → Prop} (q : DI w d B R Od) (hz : byteAt (hd0 (appl B R)) 0 = 0) (hK : ∀ w' l O', LI d w' l B R [] false O' → (∀ b, O' b → Od b ∨ w.heap.size ≤ b) → Fr 0 0 w w' → K l w') : S.wal_over d w K := by
  unfold S.wal_over
  refine newB fun w1 c1 f1 s1 => ?_
  refine mkS (by omega) (by omega) (by omega) (by omega) fun w2 c2 f2 s2 => ?_
  refine st1 (c1.fr f2 (by omega)) (by simp) fun w3 c3 f3 s3 => ?_
  refine mkS (by omega) (by omega) (by omega) (by omega) fun w4 c4 f4 s4 => ?_
  refine st1 (c3.fr f4 (by omega)) (by simp) fun w5 c5 f5 s5 => ?_
  have e72 : (72 : Int).toNat = 72 := rfl
  rw [e72] at *
  rw [reps_ints] at c2
  rw [reps_str] at c4
  have k1 := ((c2.fr f3 (by omega)).fr f4 (by omega)).fr f5 (by omega)
  have k2 := c4.fr f5 (by omega)
  have F : Fr 0 0 w w5 := ((((f1.trans f2).any w.heap.size 1).trans f3).trans ((f4.any w.heap.size 1).trans f5)).fresh (Nat.le_refl _) 0 0
  refine hK w5 w.heap.size _ ⟨Od, w1.heap.size, w3.heap.size, ⟨c5, ⟨_, k1, by simp, rfl⟩, ⟨_, k2, by simp, rfl⟩, by omega, by omega, by omega, WsF.nil, fun _ => rfl⟩, q.fr0 F, fun b hb hw => ?_, hz, rfl⟩ ?_ F
  · have := q.lt hb
    rcases hw with rfl | rfl | rfl <;> omega
  · rintro b ((rfl | rfl | rfl) | hb)
    · exact .inr (by omega)
    · exact .inr (by omega)
    · exact .inr (by omega)
    · exact .inl hb
/-- What Open writes. -/
def rcR (B : List Bk) (R : List Wr) : List Wr := if byteAt (hd0 (appl B R)) 0 ≠ 0 then R ++ instW (appl B R) (hd0 (appl B R)) else R
theorem rcR_appl (B : List Bk) (R : List Wr) : appl B (rcR B R) = rcv (appl B R) := by
  unfold rcR rcv
  split
  · rw [appl_app]
  · rfl
theorem rcv_zero {D : List Bk} (hl : D.length = 153) : byteAt (hd0 (rcv D)) 0 = 0 := by
  unfold rcv
  split
  · unfold hd0 instW
    rw [getD_appl (by omega), lastW_app]
    show byteAt blk0 0 = 0
    exact byteAt_blk0 0
  · rename_i h
    exact Classical.not_not.1 h
theorem lopen_spec {K : Nat → World → Prop} (q : DI w d B R Od) (hR : R.length ≤ 500000) (hK : ∀ w' l O', LI d w' l B (rcR B R) [] false O' → Gw Od w O' w' → K l w') : S.wal_Open d w K := by
  unfold S.wal_Open
  have hn := q.nD
  refine dread_spec (b := 0) q (by omega) ?_
  have hsz : (hd0 (appl B R)).size = 128 := by
    unfold hd0
    rw [List.getD_eq_getElem?_getD, List.getElem?_eq_getElem (by rw [hn.1]; omega)]
    exact hn.2.2 _ (List.getElem_mem _)
  refine ixStr (i := 0) (m := byteAt (hd0 (appl B R)) 0) (by omega) (byteAt_get (x := hd0 (appl B R)) (by omega)) ?_
  rw [join_eq]
  by_cases h : byteAt (hd0 (appl B R)) 0 = 0
  · rw [if_neg (by simp [h])]
    have e : rcR B R = R := by unfold rcR; rw [if_neg (by simp [h])]
    refine over_spec q h fun w1 l O1 k1 n1 f1 => hK w1 l O1 (by rw [e]; exact k1) ⟨FrP.of0 f1, n1⟩
  · rw [if_pos (by simp only [bne_iff_ne, ne_eq]; omega)]
    have e : rcR B R = R ++ instW (appl B R) (hd0 (appl B R)) := by unfold rcR; rw [if_pos h]
    refine install_spec q hR fun w1 O1 q1 G1 => ?_
    have q1 : DI w1 d B (R ++ instW (appl B R) (hd0 (appl B R))) O1 := q1
    rw [← e] at q1
    refine over_spec q1 (by rw [rcR_appl]; exact rcv_zero hn.1) fun w2 l O2 k2 n2 f2 => hK w2 l O2 k2 (G1.trans ⟨FrP.of0 f2, n2⟩)
theorem lnew_spec {K : Nat → World → Prop} (q : DI w d B R Od) (hz : byteAt (hd0 (appl B R)) 0 = 0) (hK : ∀ w' l O', LI d w' l B R [] false O' → Gw Od w O' w' → K l w') : S.wal_New d w K := by
  unfold S.wal_New
  exact over_spec q hz fun w1 l O1 k1 n1 f1 => hK w1 l O1 k1 ⟨FrP.of0 f1, n1⟩
end Go.Proofs.Qxb6500564aGreat
