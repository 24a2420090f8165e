/-
  The model: Insert, Delete.
-/
import Derived.Test.Qxb6500564aGreatMcI
namespace Go.Proofs.Qxb6500564aGreat
open Go.Den Go.Zip
set_option linter.unusedVariables false
set_option linter.unusedSimpArgs false
variable {w w' u v : World} {i j n q g b pk d o : Nat} {s r x : Sl} {row vs : List Vl} {rows : List (List Vl)} {ss : List Sl} {key : Vl} {tb : Tb} {nm : ByteArray} {ms : List MR} {m m' : MR} {P Q : Nat → Prop}

theorem arr_rw {K : Sl → Prop} (o : OS w s (msC ms) 5) (ho : owns s g) (hi : ms[i]? = some m) (hk : K m.rs) : LdS w ⟨g, 0 + Int.toNat (i : Int) * 5 + 4, none⟩ K := by
  obtain ⟨us, b, hc⟩ := arr_cell o ho hi
  exact ldS b (hc 4 (by omega)) hk
theorem RowsAt.ins {t : Sl} {p : Nat} (h : RowsAt w ss rows) (ht : OS w t (rowC row) 3) : RowsAt w (ss.take p ++ t :: ss.drop p) (rows.take p ++ row :: rows.drop p) := by
  have hl := h.1
  refine ⟨by simp [hl], fun j t' r' h1 h2 => ?_⟩
  have e1 : (ss.take p).length = (rows.take p).length := by rw [List.length_take, List.length_take, hl]
  rcases Nat.lt_or_ge j (ss.take p).length with hj | hj
  · rw [List.getElem?_append_left hj] at h1
    rw [List.getElem?_append_left (by omega)] at h2
    rw [List.getElem?_take_of_lt (by rw [List.length_take] at hj; omega)] at h1 h2
    exact h.2 j t' r' h1 h2
  · rw [List.getElem?_append_right hj] at h1
    rw [List.getElem?_append_right (by omega), ← e1] at h2
    cases hk : j - (ss.take p).length with
    | zero =>
      rw [hk] at h1 h2
      cases h1
      cases h2
      exact ht
    | succ k =>
      rw [hk, List.getElem?_cons_succ, List.getElem?_drop] at h1 h2
      exact h.2 _ t' r' h1 h2
theorem RowsAt.del {p : Nat} (h : RowsAt w ss rows) : RowsAt w (ss.take p ++ ss.drop (p + 1)) (rows.take p ++ rows.drop (p + 1)) := by
  have hl := h.1
  refine ⟨by simp [hl], fun j t' r' h1 h2 => ?_⟩
  have e1 : (ss.take p).length = (rows.take p).length := by rw [List.length_take, List.length_take, hl]
  rcases Nat.lt_or_ge j (ss.take p).length with hj | hj
  · rw [List.getElem?_append_left hj] at h1
    rw [List.getElem?_append_left (by omega)] at h2
    rw [List.getElem?_take_of_lt (by rw [List.length_take] at hj; omega)] at h1 h2
    exact h.2 j t' r' h1 h2
  · rw [List.getElem?_append_right hj] at h1
    rw [List.getElem?_append_right (by omega), ← e1] at h2
    rw [List.getElem?_drop] at h1 h2
    exact h.2 _ t' r' h1 h2
/-- What turns in a changing call on the table m. -/
def TQ (w : World) (s : Sl) (m : MR) (b : Nat) : Prop := owns s b ∨ owns m.rs b ∨ w.heap.size ≤ b
theorem MT.keepRows (h : MT w s ms) (hm : m ∈ ms) (F : FrP (TQ w s m) w u) : RowsAt u m.ss m.t.rows ∧ OS u m.cs (colC m.t.cols) 2 := by
  have hI : ∀ b, imm ms b → ¬ TQ w s m b := fun b hb hq => by
    rcases hq with hq | hq | hq
    · exact (h.sI b hq).1 hb
    · exact h.rI m hm b hq hb
    · have := immlt h.ok hb; omega
  exact ⟨(h.ok m hm).rows.frp F fun t ht b hb => hI b ⟨m, hm, .inr ⟨t, ht, hb⟩⟩, (h.ok m hm).cs.frp F fun b hb => hI b ⟨m, hm, .inl hb⟩⟩
theorem set_self {l : List MR} (h : l[i]? = some m) (x : MR) : (l.set i x)[i]? = some x := List.getElem?_set_self (List.getElem?_eq_some_iff.1 h).1
theorem mrC_same {a : MR} (hi : ms[i]? = some m) (h : mrC a = mrC m') : msC (ms.set i a) = msC (ms.set i m') := by rw [ms_set hi, ms_set hi, h]
theorem plc_nohit {rows : List (List Vl)} (hs : RSrt pk rows) (H : ∀ r ∈ rows, KeyAt key pk r) (h : (plc pk key rows).2 = false) : ∀ r ∈ rows, rk pk r ≠ codeV key := by
  induction rows with
  | nil => exact fun r hr => by cases hr
  | cons r rs ih =>
    have hc := List.pairwise_cons.1 hs
    have hr := H r (by simp)
    rw [plc_cons] at h
    intro z hz e
    by_cases h0 : cmpV key (r.getD pk v0) ≤ 0
    · rw [if_pos h0] at h
      have hne : cmpV key (r.getD pk v0) ≠ 0 := by simpa using h
      have hlt := hr.1.1 (by omega)
      rcases List.mem_cons.1 hz with rfl | hz
      · rw [e, sl_irrefl] at hlt; cases hlt
      · have := sl_trans hlt (hc.1 z hz)
        rw [e, sl_irrefl] at this; cases this
    · rw [if_neg h0] at h
      have hgt := hr.2.2.1 (by omega)
      rcases List.mem_cons.1 hz with rfl | hz
      · rw [e, sl_irrefl] at hgt; cases hgt
      · exact ih hc.2 (fun z hz => H z (by simp [hz])) h z hz e
set_option maxHeartbeats 8000000 in
theorem mins_spec {K : Int → World → Prop} (h : MD w d o s ms) (ok : DbOk (dbOf ms)) (or_ : OS w r (rowC vs) 3) (hro : ∀ b, owns r b → ¬ mo s ms b) (hm : ∀ v ∈ vs, VMade v) (hvl : vs.length < 1000000)
    (hK : ∀ w' ms', MD w' d o s ms' → dbOf ms' = (mdIns nm vs (dbOf ms)).2 → Gw (mo s ms) w (mo s ms') w' → K (mdIns nm vs (dbOf ms)).1 w') : S.api_DB_Insert d o nm r w K := by
  unfold S.api_DB_Insert
  have hl3 := ok.mlen
  refine mfind_spec h (by omega) (fun hf => ?_) fun i m hi hn _ hf => ?_
  · have e : mdIns nm vs (dbOf ms) = (10, dbOf ms) := by unfold mdIns; rw [hf]
    rw [e] at hK
    rw [if_pos (by simp)]
    exact hK w ms h rfl (Gw.refl _ _)
  rw [if_neg (by simp)]
  have okm := ok.mok hi
  have hmm := List.mem_of_getElem? hi
  refine h.lds (h.mt.at hi fun g hg => h.mt.nam hg hi (h.mt.cl hg hi (h.mt.pk hg hi (h.mt.ix hg hi (checkRow_spec (h.mt.ok m hmm).cs or_ hvl fun w1 f1 => ?_)))))
  have h1 := h.fr0 f1
  by_cases hck : chkRow m.t.cols vs = 0
  · rw [if_neg (by simp [hck])]
    obtain ⟨hv, hty, hpl, hko, hkt⟩ := chkRow_key okm.hpk hm hck
    have o1 := OS.fr0 or_ f1
    refine h1.mt.pk hg hi (rowGet o1 (getD_some hpl) (mplace_spec h1.mt hg hi (by have := okm.sm.2.1; exact this) okm.pkr fun w2 f2 => ?_))
    have h2 := h1.fr0 f2
    have o2 := OS.fr0 o1 f2
    have F2 := f1.then0 f2
    have hkeys := okm.keys hko hkt
    cases hp : (plc m.t.pk (vs.getD m.t.pk v0) m.t.rows).2 with
    | true =>
      rw [if_pos rfl]
      obtain ⟨r0, a1, a2, a3, a4, a5⟩ := plc_hit (row := vs) (RSrt_tb okm) hkeys hp
      have e : mdIns nm vs (dbOf ms) = (17, dbOf ms) := by
        unfold mdIns
        rw [hf]
        dsimp only
        have : rowBy m.t (rk m.t.pk vs) = some r0 := a3
        rw [if_neg (by simp [hck]), this, if_pos (by rfl)]
      rw [e] at hK
      exact hK w2 ms h2 rfl (Gw.new F2)
    | false =>
      rw [if_neg (by simp)]
      obtain ⟨hins, hno⟩ := plc_no (row := vs) (RSrt_tb okm) hkeys hp rfl
      have hrb : rowBy m.t (rk m.t.pk vs) = none := rowBy_no (key := vs.getD m.t.pk v0) hno
      have hm2 := h2.mt.ok m hmm
      have hrl := hm2.rl
      refine h2.mt.rw hg hi (ifd (fun h8 => ?_) fun h8 => ?_)
      · have e : mdIns nm vs (dbOf ms) = (6, dbOf ms) := by
          unfold mdIns
          rw [hf]
          dsimp only
          rw [if_neg (by simp [hck]), hrb, if_neg (by simp), if_pos (by omega)]
        rw [e] at hK
        exact hK w2 ms h2 rfl (Gw.new F2)
      · have e : mdIns nm vs (dbOf ms) = (0, putTb nm { m.t with rows := insR m.t.pk vs m.t.rows } (dbOf ms)) := by
          unfold mdIns
          rw [hf]
          dsimp only
          rw [if_neg (by simp [hck]), hrb, if_neg (by simp), if_neg (by omega)]
        rw [e, hins] at hK
        have hpn := plc_le m.t.pk (vs.getD m.t.pk v0) m.t.rows
        generalize hpp : (plc m.t.pk (vs.getD m.t.pk v0) m.t.rows).1 = p at *
        have hssl : m.ss.length = m.t.rows.length := hm2.rows.1
        refine h2.mt.rw hg hi (newB fun w3 c3 f3 s3 => ?_)
        have c3 : Blk w3 w2.heap.size [slV ⟨none, 0, 0⟩] := c3
        have h3 := h2.fr0 f3
        have hm3 := h3.mt.ok m hmm
        refine app1 hm3.rs c3 rfl rfl rfl (by omega) fun l4 w4 o4 ll4 own4 F4 => ?_
        have l2 := F2.1.1
        have l3 := f3.1.1
        have l4s := F4.1.1
        have own4' : ∀ b, owns l4 b → owns m.rs b ∨ w.heap.size ≤ b := fun b hb => (own4 b hb).elim .inl fun h => .inr (by omega)
        have nsr : ∀ b, owns s b → ¬ owns m.rs b := fun b hb => (h.mt.sI b hb).2 m hmm
        have arr4 : OS w4 s (msC ms) 5 := h3.mt.arr.frp F4 fun b hb hb' => nsr b hb hb'
        have F04 : FrP (TQ w s m) w w4 := ((FrP.of0 F2).trans (FrP.of0 f3)).trans (F4.mono fun b hb => .inr (.inl hb))
        let m1 : MR := ⟨m.t, m.cs, l4, m.ss⟩
        refine arr_set1 (k := 4) (m' := m1) arr4 hg hi (by omega) rfl fun w5 arr5 f5 => ?_
        have G5 : FrP (owns s) w4 w5 := FrP.of f5 fun b h1 h2 => by rw [show b = g by omega]; exact hg
        have F05 : FrP (TQ w s m) w w5 := F04.trans (G5.mono fun b hb => .inl hb)
        have nl4 : ∀ b, owns l4 b → ¬ owns s b := fun b hb hb' => (own4' b hb).elim (nsr b hb') fun h' => by have := h.mt.arr.lt hb'; omega
        have o5 : OS w5 l4 ((m.ss ++ [(⟨none, 0, 0⟩ : Sl)]).map slV) 1 := by
          rw [List.map_append]
          exact o4.frp G5 fun b hb hb' => nl4 b hb hb'
        have hi1 : (ms.set i m1)[i]? = some m1 := set_self hi m1
        refine arr_rw arr5 hg hi1 (let_ ?_)
        have hl4 : m1.rs.l = m.t.rows.length + 1 := by show l4.l = _; rw [ll4, hrl]
        rw [hl4, show W (((m.t.rows.length + 1 : Nat) : Int) - 1) = (m.t.rows.length : Int) by rw [W_id (by omega) (by omega)]; omega, join_eq]
        have or5 : ∀ {u : World}, FrP (TQ w s m) w u → OS u r (rowC vs) 3 := fun {u} F => or_.frp F fun b hb hq => by
          rcases hq with hq | hq | hq
          · exact hro b hb (.inl hq)
          · exact hro b hb (.inr (.inr ⟨m, hmm, hq⟩))
          · have := or_.lt hb; omega
        refine loopN (fun k st u => ∃ (j : Nat) (z : Sl), st = ((j : Int), ()) ∧ j = p + k ∧ j ≤ m.t.rows.length ∧ OS u s (msC (ms.set i m1)) 5 ∧ OS u l4 ((m.ss.take j ++ z :: m.ss.drop j).map slV) 1 ∧ FrP (TQ w s m) w u) (m.t.rows.length - p)
          ⟨m.t.rows.length, ⟨none, 0, 0⟩, rfl, by omega, Nat.le_refl _, arr5, by rw [← hssl, List.take_length, List.drop_length]; exact o5, F05⟩ ?_
        rintro k _ u ⟨j, z, rfl, hj, hjn, au, ou, Fu⟩ Q hQ
        dsimp only
        refine ifd (fun hjp => ?_) fun hjp => ?_
        · obtain ⟨j', rfl⟩ : ∃ j', j = j' + 1 := ⟨j - 1, by omega⟩
          have ew : W (((j' + 1 : Nat) : Int) - 1) = (j' : Int) := by rw [W_id (by omega) (by omega)]; omega
          rw [ew]
          have hjl : j' < m.ss.length := by omega
          obtain ⟨y, hy⟩ : ∃ y, m.ss[j']? = some y := ⟨_, List.getElem?_eq_getElem hjl⟩
          obtain ⟨e1, e2, e3⟩ := shift_up (z := z) hjl hy
          refine drew_ (arr_rw (OS.dr au) hg hi1 (arr_rw (OS.dr au) hg hi1 (ss_get e2 (o := OS.dr ou) (ssSet (t := y) (OS.dr ou) (by rw [List.length_append, List.length_take, List.length_cons, List.length_drop]; omega) fun u2 o2 F2' => let_ ?_))))
          rw [e1, e3] at o2
          exact hQ (k - 1) _ _ (by omega) ⟨j', y, rfl, by omega, by omega, (OS.dr au).frp F2' fun b hb hb' => nl4 b hb' hb, o2, Fu.drew.trans (F2'.mono fun b hb => (own4' b hb).elim (fun h => .inr (.inl h)) fun h => .inr (.inr h))⟩
        · have hjp' : j = p := by omega
          subst hjp'
          obtain ⟨us, bg, _⟩ := arr_cell (OS.dr au) hg hi1
          refine drew_ (hold_ (arr_rw (OS.dr au) hg hi1 (cloneRow_spec (OS.dr (or5 Fu)) hvl fun u3 b3 f3' => ⟨holdS bg (bg.fr f3' (by omega)), ?_⟩)))
          have ou3 := OS.fr0 (OS.dr ou) f3'
          have hjl : j ≤ m.ss.length := by omega
          refine ssSet (t := fullS u.drew.heap.size vs.length) ou3 (by rw [List.length_append, List.length_take, List.length_cons, List.length_drop]; omega) fun u4 o4' F4' => ?_
          have esz : u.drew.heap.size = u.heap.size := rfl
          have htl : (m.ss.take j).length = j := by rw [List.length_take]; omega
          have eset : (m.ss.take j ++ z :: m.ss.drop j).set j (fullS u.drew.heap.size vs.length) = m.ss.take j ++ fullS u.drew.heap.size vs.length :: m.ss.drop j := by
            have := List.set_append_right (s := m.ss.take j) (t := z :: m.ss.drop j) j (fullS u.drew.heap.size vs.length) (by omega)
            rw [this, htl, Nat.sub_self, List.set_cons_zero]
          rw [eset] at o4'
          have FT : FrP (TQ w s m) w u4 := (Fu.drew.trans (FrP.of0 f3')).trans (F4'.mono fun b hb => (own4' b hb).elim (fun h => .inr (.inl h)) fun h => .inr (.inr h))
          have lu : w.heap.size ≤ u.heap.size := Fu.1.1
          have l4u : ∀ b, owns l4 b → b < u.heap.size := fun b hb => ou.lt hb
          have row4 : OS u4 (fullS u.drew.heap.size vs.length) (rowC vs) 3 := (fullRow b3).frp F4' fun b hb hb' => by
            have := full_owns hb
            have := l4u b hb'
            omega
          obtain ⟨kr, kc⟩ := h.mt.keepRows hmm FT
          let m' : MR := ⟨{ m.t with rows := m.t.rows.take j ++ vs :: m.t.rows.drop j }, m.cs, l4, m.ss.take j ++ fullS u.drew.heap.size vs.length :: m.ss.drop j⟩
          have arrF : OS u4 s (msC (ms.set i m')) 5 := by
            rw [show msC (ms.set i m') = msC (ms.set i m1) from mrC_same hi rfl]
            exact (OS.fr0 (OS.dr au) f3').frp F4' fun b hb hb' => nl4 b hb' hb
          obtain ⟨MD', G⟩ := h.turn (m' := m') hi FT (fun b hb => hb) arrF rfl ⟨kc, o4', kr.ins row4⟩ own4' (fun t ht => by
            rcases List.mem_append.1 ht with ht | ht
            · exact .inl (List.mem_of_mem_take ht)
            · rcases List.mem_cons.1 ht with rfl | ht
              · refine .inr fun b hb => ?_
                rw [full_owns hb]
                refine ⟨by omega, fun hb' => ?_⟩
                have := l4u _ hb'
                omega
              · exact .inl (List.mem_of_mem_drop ht))
          refine hK u4 _ MD' ?_ G
          rw [dbOf_set, ← putTb_set hi hn (ok.uq hi hn)]
  · rw [if_pos (by simp only [bne_iff_ne, ne_eq]; exact hck)]
    have e : mdIns nm vs (dbOf ms) = (chkRow m.t.cols vs, dbOf ms) := by
      unfold mdIns
      rw [hf]
      dsimp only
      rw [if_pos hck]
    rw [e] at hK
    exact hK w1 ms h1 rfl (Gw.new f1)
set_option maxHeartbeats 8000000 in
theorem mdel_spec {K : Int → World → Prop} (h : MD w d o s ms) (ok : DbOk (dbOf ms)) (hm : VMade key)
    (hK : ∀ w' ms', MD w' d o s ms' → dbOf ms' = (mdDel nm key (dbOf ms)).2 → Gw (mo s ms) w (mo s ms') w' → K (mdDel nm key (dbOf ms)).1 w') : S.api_DB_Delete d o nm key.st key.i key.s w K := by
  unfold S.api_DB_Delete
  have hl3 := ok.mlen
  refine newB fun w0 kb f0 s0 => ?_
  have kb : Blk w0 w.heap.size (valC key) := kb
  have h0 := h.fr0 f0
  refine mfind_spec h0 (by omega) (fun hf => ?_) fun i m hi hn _ hf => ?_
  · have e : mdDel nm key (dbOf ms) = (10, dbOf ms) := by unfold mdDel; rw [hf]
    rw [e] at hK
    rw [if_pos (by simp)]
    exact hK w0 ms h0 rfl (Gw.new f0)
  rw [if_neg (by simp)]
  have okm := ok.mok hi
  have hmm := List.mem_of_getElem? hi
  refine h0.lds (h0.mt.at hi fun g hg => drew_ ?_)
  have hd := h0.dr
  have kd := kb.drew
  refine hd.mt.nam hg hi (hd.mt.cl hg hi (hd.mt.pk hg hi (hd.mt.ix hg hi (hd.mt.pk hg hi (ldB kd rfl (ldI kd rfl (ldStr kd rfl (checkVal_spec (hd.mt.ok m hmm).cs okm.hpk fun w1 f1 => ?_))))))))
  have h1 := hd.fr0 f1
  have k1 := kd.fr f1 (by omega)
  have F1 : Fr 0 0 w w1 := f0.drew.then0 f1
  by_cases hck : chkVal m.t.cols m.t.pk key = 0
  · rw [if_neg (by simp [hck])]
    obtain ⟨hko, hkt⟩ := chkVal0 hm hck
    refine ldB k1 rfl (ldI k1 rfl (ldStr k1 rfl (mplace_spec h1.mt hg hi (by have := okm.sm.2.1; exact this) okm.pkr fun w2 f2 => ?_)))
    have h2 := h1.fr0 f2
    have F2 := F1.then0 f2
    have hkeys := okm.keys hko hkt
    cases hp : (plc m.t.pk key m.t.rows).2 with
    | false =>
      rw [if_pos (by rfl)]
      have hno : ∀ r ∈ m.t.rows, rk m.t.pk r ≠ codeV key := fun r hr e => by
        have hs := RSrt_tb okm
        have H := hkeys
        clear hK
        have := plc_nohit hs H hp
        exact this r hr e
      have e : mdDel nm key (dbOf ms) = (9, dbOf ms) := by
        unfold mdDel
        rw [hf]
        dsimp only
        rw [if_neg (by simp [hck]), rowBy_no hno, if_pos (by rfl)]
      rw [e] at hK
      exact hK w2 ms h2 rfl (Gw.new F2)
    | true =>
      rw [if_neg (by simp)]
      obtain ⟨r0, a1, a2, a3, a4, a5⟩ := plc_hit (row := []) (RSrt_tb okm) hkeys hp
      have e : mdDel nm key (dbOf ms) = (0, putTb nm { m.t with rows := delR m.t.pk (codeV key) m.t.rows } (dbOf ms)) := by
        unfold mdDel
        rw [hf]
        dsimp only
        have : rowBy m.t (codeV key) = some r0 := a3
        rw [if_neg (by simp [hck]), this, if_neg (by simp)]
      rw [e, a5] at hK
      have hpn : (plc m.t.pk key m.t.rows).1 < m.t.rows.length := (List.getElem?_eq_some_iff.1 a1).1
      generalize hpp : (plc m.t.pk key m.t.rows).1 = p at *
      have hm2 := h2.mt.ok m hmm
      have hrl := hm2.rl
      have hssl : m.ss.length = m.t.rows.length := hm2.rows.1
      have nsr : ∀ b, owns s b → ¬ owns m.rs b := fun b hb => (h.mt.sI b hb).2 m hmm
      have hr8 : m.t.rows.length ≤ 1000 := okm.sm.2.1
      rw [join_eq]
      have hM : (m.ss.take p ++ m.ss.drop (p + 1)).length = m.t.rows.length - 1 := by rw [List.length_append, List.length_take, List.length_drop]; omega
      have hpl : p < m.ss.length := by omega
      have hst : ∀ z, (m.ss.take p ++ m.ss.drop (p + 1)).take p ++ z :: (m.ss.take p ++ m.ss.drop (p + 1)).drop p = m.ss.take p ++ z :: m.ss.drop (p + 1) := fun z => by
        have : (m.ss.take p).length = p := by rw [List.length_take]; omega
        rw [List.take_append_of_le_length (by omega), List.take_of_length_le (by omega), List.drop_append_of_le_length (by omega), List.drop_of_length_le (by omega)]
        rfl
      generalize hMe : m.ss.take p ++ m.ss.drop (p + 1) = M at *
      have o2 : OS w2 m.rs ((M.take p ++ m.ss[p] :: M.drop p).map slV) 1 := by
        rw [hst, ← List.drop_eq_getElem_cons hpl, List.take_append_drop]
        exact hm2.rs
      refine loopN (fun k st u => ∃ (j : Nat) (z : Sl), st = ((j : Int), ()) ∧ j + k = M.length ∧ OS u s (msC ms) 5 ∧ OS u m.rs ((M.take j ++ z :: M.drop j).map slV) 1 ∧ FrP (TQ w s m) w u) (M.length - p)
        ⟨p, m.ss[p], rfl, by omega, h2.mt.arr, o2, FrP.of0 F2⟩ ?_
      rintro k _ u ⟨j, z, rfl, hj, au, ou, Fu⟩ Q hQ
      dsimp only
      rw [W_succ (by omega)]
      refine arr_rw au hg hi (ifd (fun hjp => ?_) fun hjp => ?_)
      · have hjl : j < M.length := by omega
        obtain ⟨y, hy⟩ : ∃ y, M[j]? = some y := ⟨_, List.getElem?_eq_getElem hjl⟩
        have hyj : M[j] = y := by rw [List.getElem?_eq_getElem hjl] at hy; exact Option.some.inj hy
        have htl : (M.take j).length = j := by rw [List.length_take]; omega
        have e2 : (M.take j ++ z :: M.drop j)[j + 1]? = some y := by
          rw [List.getElem?_append_right (by omega), htl, show j + 1 - j = 0 + 1 by omega, List.getElem?_cons_succ, List.getElem?_drop, Nat.add_zero]
          exact hy
        have e1 : (M.take j ++ z :: M.drop j).set j y = M.take (j + 1) ++ y :: M.drop (j + 1) := by
          have := List.set_append_right (s := M.take j) (t := z :: M.drop j) j y (by omega)
          rw [this, htl, Nat.sub_self, List.set_cons_zero, List.take_add_one, hy, List.drop_eq_getElem_cons hjl, hyj]
          simp
        refine drew_ (arr_rw (OS.dr au) hg hi (arr_rw (OS.dr au) hg hi (ss_get e2 (o := OS.dr ou) (ssSet (t := y) (OS.dr ou) (by rw [List.length_append, List.length_cons, List.length_drop, htl]; omega) fun u2 o2 F2' => let_ ?_))))
        rw [e1] at o2
        exact hQ (k - 1) _ _ (by omega) ⟨j + 1, y, rfl, by omega, (OS.dr au).frp F2' fun b hb hb' => nsr b hb hb', o2, Fu.drew.trans (F2'.mono fun b hb => .inr (.inl hb))⟩
      · have hjl : j = M.length := by omega
        subst hjl
        rw [List.take_length, List.drop_length] at ou
        refine drew_ (arr_rw (OS.dr au) hg hi (arr_rw (OS.dr au) hg hi ?_))
        have ew : W ((m.rs.l : Int) - 1) = (M.length : Int) := by rw [W_id (by omega) (by omega)]; omega
        rw [ew]
        have oud := OS.dr ou
        have hol := ou.len
        rw [List.length_map, List.length_append] at hol
        rcases oud with ⟨er, _⟩ | ⟨gr, ga, ge, gc, junk, gd, ge2⟩
        · rw [er] at hrl
          have : (0 : Nat) = m.t.rows.length := hrl
          omega
        · refine cutS (lo := 0) (hi := M.length) (mx := m.rs.c) ga (by omega) (by omega) (Nat.le_refl _) (.inr rfl) ?_
          rw [Nat.zero_mul, Nat.sub_zero, Nat.sub_zero]
          let m1 : MR := ⟨{ m.t with rows := m.t.rows.take p ++ m.t.rows.drop (p + 1) }, m.cs, ⟨some ⟨gr, 0, none⟩, M.length, m.rs.c⟩, M⟩
          refine arr_set1 (k := 4) (m' := m1) (OS.dr au) hg hi (by omega) rfl fun u3 arr3 f3 => ?_
          have G3 : FrP (owns s) u.drew u3 := FrP.of f3 fun b h1 h2 => by rw [show b = g by omega]; exact hg
          have FT : FrP (TQ w s m) w u3 := Fu.drew.trans (G3.mono fun b hb => .inl hb)
          obtain ⟨kr, kc⟩ := h.mt.keepRows hmm FT
          have hgr : owns m.rs gr := ga
          have own1 : ∀ b, owns m1.rs b → owns m.rs b := fun b hb => by
            have hb : (some ⟨gr, 0, none⟩ : Option Addr) = some ⟨b, 0, none⟩ := hb
            have : gr = b := by simpa using hb
            rw [← this]; exact ga
          have o3 : OS u3 m1.rs (M.map slV) 1 := by
            refine .inr ⟨gr, rfl, by rw [List.length_map, Nat.mul_one], ?_, slV z :: junk, ?_, ?_⟩
            · show M.length ≤ m.rs.c
              omega
            · have : M.map slV ++ slV z :: junk = (M ++ [z]).map slV ++ junk := by simp
              rw [this]
              exact gd.frp G3 fun hs => nsr gr hs hgr
            · have : M.map slV ++ slV z :: junk = (M ++ [z]).map slV ++ junk := by simp
              rw [this]
              exact ge2
          have kr' := kr.del (p := p)
          rw [hMe] at kr'
          obtain ⟨MD', G⟩ := h.turn (m' := m1) hi FT (fun b hb => hb) arr3 rfl ⟨kc, o3, kr'⟩ (fun b hb => .inl (own1 b hb)) (fun t ht => .inl (by
            have ht : t ∈ m.ss.take p ++ m.ss.drop (p + 1) := by rw [hMe]; exact ht
            rcases List.mem_append.1 ht with ht | ht
            · exact List.mem_of_mem_take ht
            · exact List.mem_of_mem_drop ht))
          refine hK u3 _ MD' ?_ G
          rw [dbOf_set, ← putTb_set hi hn (ok.uq hi hn)]
  · rw [if_pos (by simp only [bne_iff_ne, ne_eq]; exact hck)]
    have e : mdDel nm key (dbOf ms) = (chkVal m.t.cols m.t.pk key, dbOf ms) := by
      unfold mdDel
      rw [hf]
      dsimp only
      rw [if_pos hck]
    rw [e] at hK
    exact hK w1 ms h1 rfl (Gw.new F1)
end Go.Proofs.Qxb6500564aGreat
