/-
  The model: CreateTable.
-/
import Derived.Test.Qxb6500564aGreatMcK
namespace Go.Proofs.Qxb6500564aGreat
open Go.Den Go.Zip
set_option linter.unusedVariables false
set_option linter.unusedSimpArgs false
variable {w w' u v : World} {i j n q g b pk d o b0 : Nat} {s r x : Sl} {row vs : List Vl} {rows : List (List Vl)} {ss : List Sl} {key : Vl} {tb : Tb} {nm : ByteArray} {ms L : List MR} {m m' y : MR} {P Q : Nat → Prop} {cells : List Value} {cs : List Cl}

theorem arrL (o : OS w s (msC L) 5) : s.l = L.length := by
  have := o.len
  rw [msC_len] at this
  omega
/-- A table is moved within the list. -/
theorem arr_move {K : World → Prop} (o : OS w s (msC L) 5) (hi : L[i]? = some y) (hj : j < L.length) (hk : ∀ w', OS w' s (msC (L.set j y)) 5 → FrP (owns s) w w' → K w') :
    Ix s.a s.l (i : Int) fun b35 o36 => LdStr w ⟨b35, o36 + Int.toNat (i : Int) * 5, none⟩ fun a => LdS w ⟨b35, o36 + Int.toNat (i : Int) * 5 + 1, none⟩ fun b => LdI .i64 w ⟨b35, o36 + Int.toNat (i : Int) * 5 + 2, none⟩ fun c => LdI .i64 w ⟨b35, o36 + Int.toNat (i : Int) * 5 + 3, none⟩ fun e => LdS w ⟨b35, o36 + Int.toNat (i : Int) * 5 + 4, none⟩ fun f =>
      Ix s.a s.l (j : Int) fun b42 o43 => St1 w ⟨b42, o43 + Int.toNat (j : Int) * 5, none⟩ (.string a) fun w => St1 w ⟨b42, o43 + Int.toNat (j : Int) * 5 + 1, none⟩ (.slice b.a b.l b.c) fun w => St1 w ⟨b42, o43 + Int.toNat (j : Int) * 5 + 2, none⟩ (.int .i64 c) fun w => St1 w ⟨b42, o43 + Int.toNat (j : Int) * 5 + 3, none⟩ (.int .i64 e) fun w => St1 w ⟨b42, o43 + Int.toNat (j : Int) * 5 + 4, none⟩ (.slice f.a f.l f.c) fun w => K w := by
  have hl := arrL o
  have hil := (List.getElem?_eq_some_iff.1 hi).1
  refine OS.get o (by omega) fun g us b hu ho => ?_
  obtain ⟨us', b', hc⟩ := arr_cell o ho hi
  refine ldStr b' (hc 0 (by omega)) (ldS b' (hc 1 (by omega)) (ldI b' (hc 2 (by omega)) (ldI b' (hc 3 (by omega)) (ldS b' (hc 4 (by omega)) (OS.get o (by omega) fun g' us2 b2 hu2 ho2 => ?_)))))
  exact arr_set (m := L[j]) (m' := y) o ho2 (List.getElem?_eq_getElem hj) fun w' o' f' => hk w' o' (FrP.of f' fun b h1 h2 => by rw [show b = g' by omega]; exact ho2)
theorem insTb_at (t0 : Tb) : ∀ {db : Db} {i : Nat}, (∀ j t, j < i → db[j]? = some t → sl t.name t0.name = true) → (∀ t, db[i]? = some t → sl t.name t0.name = false) → i ≤ db.length → insTb t0 db = db.take i ++ t0 :: db.drop i
  | [], i, _, _, h => by
    have : i = 0 := by simpa using h
    subst this
    rfl
  | z :: r, 0, _, h2, _ => by
    have := h2 z rfl
    show (if sl z.name t0.name = true then _ else _) = _
    rw [this, if_neg (by simp)]; rfl
  | z :: r, i + 1, h1, h2, h3 => by
    have := h1 0 z (by omega) rfl
    show (if sl z.name t0.name = true then _ else _) = _
    rw [this, if_pos rfl, insTb_at t0 (db := r) (i := i) (fun j t hj ht => h1 (j + 1) t (by omega) ht) (fun t ht => h2 t ht) (by simpa using h3)]
    rfl
/-- A table comes into the list. -/
theorem MT.insT {s' : Sl} (h : MT w s ms) (F : FrP Q w w') (hQ : ∀ b, Q b → owns s b ∨ w.heap.size ≤ b ∨ ¬ mo s ms b) (hs : ∀ b, owns s' b → owns s b ∨ w.heap.size ≤ b) (ha : OS w' s' (msC (ms.take i ++ m :: ms.drop i)) 5) (hm : MOk w' m) (hr : ∀ b, ¬ owns m.rs b) (hss : m.ss = []) (hc : ∀ b, owns m.cs b → w.heap.size ≤ b ∧ ¬ owns s' b) :
    MT w' s' (ms.take i ++ m :: ms.drop i) ∧ ∀ b, mo s' (ms.take i ++ m :: ms.drop i) b → mo s ms b ∨ w.heap.size ≤ b := by
  have mem : ∀ {z}, z ∈ ms.take i ++ m :: ms.drop i → z = m ∨ z ∈ ms := fun {z} hz => by
    rcases List.mem_append.1 hz with hz | hz
    · exact .inr (List.mem_of_mem_take hz)
    · rcases List.mem_cons.1 hz with hz | hz
      · exact .inl hz
      · exact .inr (List.mem_of_mem_drop hz)
  have immS : ∀ b, imm (ms.take i ++ m :: ms.drop i) b → imm ms b ∨ owns m.cs b := by
    rintro b ⟨z, hz, hb⟩
    rcases mem hz with rfl | hz
    · rcases hb with hb | ⟨r, hr', hb⟩
      · exact .inr hb
      · rw [hss] at hr'; cases hr'
    · exact .inl ⟨z, hz, hb⟩
  refine ⟨⟨ha, fun z hz => ?_, fun b hb => ⟨fun hi => ?_, fun z hz hb' => ?_⟩, fun z hz b hb hi => ?_, ?_⟩, fun b hb => ?_⟩
  · rcases mem hz with rfl | hz
    · exact hm
    · refine (h.ok z hz).frp F (fun b hb hq => ?_) (fun r hr b hb hq => ?_) fun b hb hq => ?_
      · have hI : imm ms b := ⟨z, hz, .inl hb⟩
        rcases hQ b hq with h1 | h1 | h1
        · exact (h.sI b h1).1 hI
        · have := immlt h.ok hI; omega
        · exact h1 (.inr (.inl hI))
      · have hI : imm ms b := ⟨z, hz, .inr ⟨r, hr, hb⟩⟩
        rcases hQ b hq with h1 | h1 | h1
        · exact (h.sI b h1).1 hI
        · have := immlt h.ok hI; omega
        · exact h1 (.inr (.inl hI))
      · rcases hQ b hq with h1 | h1 | h1
        · exact (h.sI b h1).2 z hz hb
        · have := (h.ok z hz).rs.lt hb; omega
        · exact h1 (.inr (.inr ⟨z, hz, hb⟩))
  · rcases immS b hi with hi | hi
    · rcases hs b hb with h1 | h1
      · exact (h.sI b h1).1 hi
      · have := immlt h.ok hi; omega
    · exact (hc b hi).2 hb
  · rcases mem hz with rfl | hz
    · exact hr b hb'
    · rcases hs b hb with h1 | h1
      · exact (h.sI b h1).2 z hz hb'
      · have := (h.ok z hz).rs.lt hb'; omega
  · rcases mem hz with rfl | hz
    · exact hr b hb
    · rcases immS b hi with hi | hi
      · exact h.rI z hz b hb hi
      · have := (hc b hi).1
        have := (h.ok z hz).rs.lt hb
        omega
  · have h1 : (ms.take i ++ ms.drop i).Pairwise fun a b => ∀ q, owns a.rs q → ¬ owns b.rs q := by rw [List.take_append_drop]; exact h.dis
    rw [List.pairwise_append] at h1 ⊢
    refine ⟨h1.1, List.pairwise_cons.2 ⟨fun z _ q hq => absurd hq (hr q), h1.2.1⟩, fun a ha z hz q hq hq' => ?_⟩
    rcases List.mem_cons.1 hz with rfl | hz
    · exact hr q hq'
    · exact h1.2.2 a ha z hz q hq hq'
  · rcases hb with hb | hb | ⟨z, hz, hb⟩
    · exact (hs b hb).elim (fun h => .inl (.inl h)) .inr
    · rcases immS b hb with hb | hb
      · exact .inl (.inr (.inl hb))
      · exact .inr (hc b hb).1
    · rcases mem hz with rfl | hz
      · exact absurd hb (hr b)
      · exact .inl (.inr (.inr ⟨z, hz, hb⟩))
theorem rd_cell {K : Sl → Prop} (b : Blk w d cells) (h : cells[0]? = some (slV s)) (hk : K s) : LdS w ⟨d, 0, none⟩ K := ldS b h hk
set_option maxHeartbeats 8000000 in
theorem mcreate_spec {pk : Int} {K : Int → World → Prop} (bd : Blk w d cells) (hcell : cells[0]? = some (slV s)) (h : MT w s ms) (nd : ¬ mo s ms d) (ok : DbOk (dbOf ms)) (oc : OS w r (colC cs) 2) (hro : ∀ b, owns r b → ¬ mo s ms b ∧ b ≠ d)
    (hK : ∀ w' s' ms', Blk w' d (cells.set 0 (slV s')) → MT w' s' ms' → dbOf ms' = (mdCreate nm cs pk (dbOf ms)).2 → ¬ mo s' ms' d → FrP (fun b => mo s ms b ∨ b = d) w w' → (∀ b, mo s' ms' b → mo s ms b ∨ w.heap.size ≤ b) → K (mdCreate nm cs pk (dbOf ms)).1 w') : S.api_DB_CreateTable d nm r pk w K := by
  unfold S.api_DB_CreateTable
  have hl3 := ok.mlen
  have ce : cells.set 0 (slV s) = cells := by
    have := List.getElem?_eq_some_iff.1 hcell
    obtain ⟨h0, e⟩ := this
    rw [← e, List.set_getElem_self]
  have hsame : ∀ {e : Int} {w1 : World}, mdCreate nm cs pk (dbOf ms) = (e, dbOf ms) → Fr 0 0 w w1 → K e w1 := fun {e w1} he F => by
    have := hK w1 s ms (by rw [ce]; exact bd.fr F (by omega)) (h.fr0 F) (by rw [he]) nd (FrP.of0 F) fun b hb => .inl hb
    rw [he] at this
    exact this
  refine goodName_spec ?_
  by_cases hgn : goodN nm = false
  · have e : decide (1 ≤ nm.size ∧ nm.size ≤ 6) = false := hgn
    rw [e, if_pos (by rfl)]
    exact hsame (by unfold mdCreate; rw [if_pos hgn]) (Fr.refl _ _ _)
  have hgn' : goodN nm = true := by simpa using hgn
  have hnm := of_decide_eq_true hgn'
  rw [show decide (1 ≤ nm.size ∧ nm.size ≤ 6) = true from hgn', if_neg (by simp)]
  refine goodCols_spec oc fun w1 f1 => ?_
  by_cases hgc : gdCols cs pk = false
  · rw [hgc, if_pos (by rfl)]
    exact hsame (by unfold mdCreate; rw [if_neg hgn, if_pos hgc]) f1
  have hgc' : gdCols cs pk = true := by simpa using hgc
  obtain ⟨⟨hc1, hc3⟩, ⟨hp0, hpl⟩, hcn⟩ := gdCols_len hgc'
  rw [hgc', if_neg (by simp)]
  have md1 : MD w1 d 0 s ms := ⟨⟨cells, bd.fr f1 (by omega), hcell⟩, h.fr0 f1, nd⟩
  refine mfind_spec md1 (by omega) (fun hf => ?_) fun i m hi hn _ hf => ?_
  · rw [if_neg (by simp)]
    refine md1.lds (ifd (fun h3 => ?_) fun h3 => ?_)
    · rw [md1.mt.l] at h3
      exact hsame (by unfold mdCreate; rw [if_neg hgn, if_neg hgc, hf, if_neg (by simp), if_pos (by unfold dbOf; rw [List.length_map]; omega)]) f1
    · rw [md1.mt.l] at h3
      obtain ⟨pn, rfl⟩ : ∃ pn : Nat, pk = pn := ⟨pk.toNat, by omega⟩
      have e : mdCreate nm cs pn (dbOf ms) = (0, insTb ⟨nm, cs, pn, -1, []⟩ (dbOf ms)) := by
        unfold mdCreate; rw [if_neg hgn, if_neg hgc, hf, if_neg (by simp), if_neg (by unfold dbOf; rw [List.length_map]; omega)]; rfl
      rw [e] at hK
      refine cloneSchema_spec (OS.fr0 oc f1) (by omega) fun w2 qc hqc bc f2 => newB fun w3 c3 f3 s3 => ?_
      let m0 : MR := ⟨⟨nm, cs, pn, -1, []⟩, fullS qc cs.length, ⟨none, 0, 0⟩, []⟩
      refine mt5 (m := m0) c3 rfl fun w4 b4 f4 => ?_
      have l1 := f1.1.1
      have l2 := f2.1.1
      have bcl := bc.lt
      have f34 : Fr 0 0 w2 w4 := f3.thenNew f4 (Nat.le_refl _)
      have F4 : Fr 0 0 w w4 := (f1.then0 f2).then0 f34
      have h4 := h.fr0 F4
      have bd4 := bd.fr F4 (by omega)
      have md4 : MD w4 d 0 s ms := ⟨⟨cells, bd4, hcell⟩, h4, nd⟩
      have bc4 := bc.fr f34 (by omega)
      refine join_P (fun i u => w4 = u ∧ ∃ k : Nat, i = k ∧ k ≤ ms.length ∧ (∀ j z, j < k → ms[j]? = some z → sl z.t.name nm = true) ∧ ∀ z, ms[k]? = some z → sl z.t.name nm = false) ?_ ?_
      · rintro _ _ ⟨rfl, k, rfl, hkl, hlt, hge⟩
        have hd4 := h4.dr
        have bdd := bd4.drew
        have b4d := b4.drew
        have b4l := b4.lt
        refine drew_ (hold_ (rd_cell bdd hcell (rdM b4d (newB fun w5 c5 f5 s5 => ⟨holdS bdd (bdd.fr f5 (by omega)), ?_⟩))))
        have c5 : Blk w5 w4.drew.heap.size (mrC m0) := c5
        have e45 : w4.drew.heap.size = w4.heap.size := rfl
        have h5 := hd4.fr0 f5
        have l4 := F4.1.1
        have l5 := f5.1.1
        refine app1 h5.arr c5 rfl rfl rfl (by rw [h5.l]; omega) fun l6 w6 o6 ll6 own6 F6 => ?_
        have dlt : d < w.heap.size := bd.lt
        have nds : ∀ b, owns s b → b ≠ d := fun b hb e => nd (.inl (by rw [← e]; exact hb))
        have own6' : ∀ b, owns l6 b → owns s b ∨ w.heap.size ≤ b := fun b hb => (own6 b hb).elim .inl fun h => .inr (by omega)
        have nl6d : ∀ b, owns l6 b → b ≠ d := fun b hb e => (own6' b hb).elim (fun h => nds b h e) fun h => by omega
        have bd6 : Blk w6 d cells := (bdd.fr f5 (by omega)).frp F6 fun hb => nds d hb rfl
        refine st1 bd6 (by have := (List.getElem?_eq_some_iff.1 hcell).1; exact this) fun w7 bd7 f7 _ => ?_
        have bd7 : Blk w7 d (cells.set 0 (slV l6)) := bd7
        have hcell7 : (cells.set 0 (slV l6))[0]? = some (slV l6) := List.getElem?_set_self (List.getElem?_eq_some_iff.1 hcell).1
        have G7 : FrP (fun b => b = d) w6 w7 := FrP.of f7 fun b h1 h2 => by omega
        have FQ : FrP (fun b => owns s b ∨ w.heap.size ≤ b ∨ b = d) w w7 := (((FrP.of0 F4).drew.trans (FrP.of0 f5)).trans (F6.mono fun b hb => .inl hb)).trans (G7.mono fun b hb => .inr (.inr hb))
        have o7 : OS w7 l6 (msC (ms.take ms.length ++ m0 :: ms.drop ms.length)) 5 := by
          rw [List.take_length, List.drop_length, msC_snoc]
          exact o6.frp G7 fun b hb e => nl6d b hb e
        have p9n : w2.heap.size ≠ d ∧ ∀ b, owns l6 b → b ≠ w2.heap.size := ⟨by omega, fun b hb e => by
          rcases own6 b hb with h' | h'
          · have := h.arr.lt h'; omega
          · omega⟩
        have b7 : Blk w7 w2.heap.size (mrC m0) := ((b4d.fr f5 (by omega)).frp F6 fun hb => by have := h.arr.lt hb; omega).frp G7 fun e => p9n.1 e
        have bc7 : Blk w7 qc (colC cs) := ((bc4.drew.fr f5 (by omega)).frp F6 fun hb => by have := h.arr.lt hb; omega).frp G7 fun (e : qc = d) => by omega
        refine rd_cell bd7 hcell7 (let_ ?_)
        have hl6 : l6.l = ms.length + 1 := by rw [ll6, h.l]
        rw [hl6, show W (((ms.length + 1 : Nat) : Int) - 1) = (ms.length : Int) by rw [W_id (by omega) (by omega)]; omega, join_eq]
        refine loopN (fun n st u => ∃ (j : Nat) (z : MR), st = ((j : Int), ()) ∧ j = k + n ∧ j ≤ ms.length ∧ Blk u d (cells.set 0 (slV l6)) ∧ OS u l6 (msC (ms.take j ++ z :: ms.drop j)) 5 ∧ Blk u w2.heap.size (mrC m0) ∧ Blk u qc (colC cs) ∧ FrP (fun b => owns s b ∨ w.heap.size ≤ b ∨ b = d) w u) (ms.length - k)
          ⟨ms.length, m0, rfl, by omega, Nat.le_refl _, bd7, o7, b7, bc7, FQ⟩ ?_
        rintro n _ u ⟨j, z, rfl, hj, hjn, bu, ou, b9, bcu, Fu⟩ Q hQ
        dsimp only
        have tq : ∀ b, owns l6 b → owns s b ∨ w.heap.size ≤ b ∨ b = d := fun b hb => (own6' b hb).elim .inl fun h => .inr (.inl h)
        have nqc : ∀ b, owns l6 b → b ≠ qc := fun b hb e => by
          rcases own6 b hb with h' | h'
          · have := h.arr.lt h'; omega
          · omega
        refine ifd (fun hjp => ?_) fun hjp => ?_
        · obtain ⟨j', rfl⟩ : ∃ j', j = j' + 1 := ⟨j - 1, by omega⟩
          have ew : W (((j' + 1 : Nat) : Int) - 1) = (j' : Int) := by rw [W_id (by omega) (by omega)]; omega
          rw [ew]
          have hjl : j' < ms.length := by omega
          obtain ⟨y, hy⟩ : ∃ y, ms[j']? = some y := ⟨_, List.getElem?_eq_getElem hjl⟩
          obtain ⟨e1, e2, e3⟩ := shift_up (z := z) hjl hy
          refine drew_ (rd_cell bu.drew hcell7 (rd_cell bu.drew hcell7 (arr_move (OS.dr ou) e2 (by rw [List.length_append, List.length_take, List.length_cons, List.length_drop]; omega) fun u2 o2 F2 => let_ ?_)))
          rw [e1, e3] at o2
          exact hQ (n - 1) _ _ (by omega) ⟨j', y, rfl, by omega, by omega, bu.drew.frp F2 fun hb => nl6d d hb rfl, o2, b9.drew.frp F2 fun hb => p9n.2 _ hb rfl, bcu.drew.frp F2 fun hb => nqc _ hb rfl, Fu.drew.trans (F2.mono tq)⟩
        · have hjp' : j = k := by omega
          subst hjp'
          have oud := OS.dr ou
          have htl : (ms.take j).length = j := by rw [List.length_take]; omega
          have hel : (ms.take j ++ z :: ms.drop j)[j]? = some z := by rw [List.getElem?_append_right (by omega), htl, Nat.sub_self]; rfl
          refine drew_ (rd_cell bu.drew hcell7 (rdM b9.drew (OS.get oud (by rw [arrL oud, List.length_append, List.length_cons, List.length_take, List.length_drop]; omega) fun g6 us6 _ _ ho6 => arr_set (m' := m0) oud ho6 hel fun u2 o2 f2 => ?_)))
          have G2 : FrP (owns l6) u.drew u2 := FrP.of f2 fun b h1 h2 => by rw [show b = g6 by omega]; exact ho6
          have eset : (ms.take j ++ z :: ms.drop j).set j m0 = ms.take j ++ m0 :: ms.drop j := by
            have := List.set_append_right (s := ms.take j) (t := z :: ms.drop j) j m0 (by omega)
            rw [this, htl, Nat.sub_self, List.set_cons_zero]
          rw [eset] at o2
          have FT : FrP (fun b => owns s b ∨ w.heap.size ≤ b ∨ b = d) w u2 := Fu.drew.trans (G2.mono tq)
          have bdu := bu.drew.frp G2 fun hb => nl6d d hb rfl
          have bcu2 := bcu.drew.frp G2 fun hb => nqc _ hb rfl
          have hT := h.insT (i := j) (m := m0) FT (fun b hb => by
            rcases hb with h1 | h1 | h1
            · exact .inl h1
            · exact .inr (.inl h1)
            · rw [h1]; exact .inr (.inr nd)) own6' o2 ⟨fullOS bcu2, .inl ⟨rfl, rfl⟩, ⟨rfl, fun i t r' h1 => by cases h1⟩⟩ (fun b hb => by unfold owns at hb; cases hb) rfl (fun b hb => by
            rw [full_owns hb]
            exact ⟨by omega, fun hb' => nqc _ hb' rfl⟩)
          refine hK u2 l6 _ bdu hT.1 ?_ (fun hd' => ?_) ⟨FT.1, fun b hb hn => FT.2 b hb fun hq => ?_⟩ hT.2
          · have := insTb_at (⟨nm, cs, pn, -1, []⟩ : Tb) (db := dbOf ms) (i := j) (fun j' t hj' ht => ?_) (fun t ht => ?_) (by unfold dbOf; rw [List.length_map]; exact hkl)
            · rw [this]
              unfold dbOf
              rw [List.map_append, List.map_cons, List.map_take, List.map_drop]
            · unfold dbOf at ht
              rw [List.getElem?_map, Option.map_eq_some_iff] at ht
              obtain ⟨z', h1, rfl⟩ := ht
              exact hlt j' z' hj' h1
            · unfold dbOf at ht
              rw [List.getElem?_map, Option.map_eq_some_iff] at ht
              obtain ⟨z', h1, rfl⟩ := ht
              exact hge z' h1
          · rcases hT.2 d hd' with h1 | h1
            · exact nd h1
            · omega
          · rcases hq with h1 | h1 | h1
            · exact hn (.inl (.inl h1))
            · omega
            · exact hn (.inr h1)
      · intro J hJ
        refine loopN (fun n st u => ∃ k : Nat, st = ((k : Int), ()) ∧ k + n = ms.length ∧ w4 = u ∧ ∀ j z, j < k → ms[j]? = some z → sl z.t.name nm = true) ms.length ⟨0, rfl, by omega, rfl, fun j _ hj => by omega⟩ ?_
        rintro n _ _ ⟨k, rfl, hk, rfl, hall⟩ Q hQ
        dsimp only
        refine md4.lds (ifd (fun hlt => ?_) fun hlt => ?_)
        · rw [h4.l] at hlt
          have hk' : k < ms.length := by omega
          obtain ⟨z, hz⟩ : ∃ z, ms[k]? = some z := ⟨_, List.getElem?_eq_getElem hk'⟩
          refine md4.lds (md4.mt.at hz fun g hg => md4.mt.nam hg hz (ifb (fun hs => let_ ?_) fun hs => hJ _ _ ⟨rfl, k, rfl, by omega, hall, fun z' hz' => ?_⟩))
          · rw [W_succ (by omega)]
            refine hQ (n - 1) _ _ (by omega) ⟨k + 1, rfl, by omega, rfl, fun j z' hj hz' => ?_⟩
            by_cases ej : j = k
            · subst ej
              rw [hz] at hz'
              cases hz'
              exact hs
            · exact hall j z' (by omega) hz'
          · rw [hz] at hz'
            cases hz'
            exact hs
        · rw [h4.l] at hlt
          refine hJ _ _ ⟨rfl, k, rfl, by omega, hall, fun z' hz' => ?_⟩
          have := (List.getElem?_eq_some_iff.1 hz').1
          omega
  · rw [if_pos (by simp)]
    exact hsame (by unfold mdCreate; rw [if_neg hgn, if_neg hgc, hf, if_pos (by rfl)]) f1
end Go.Proofs.Qxb6500564aGreat
