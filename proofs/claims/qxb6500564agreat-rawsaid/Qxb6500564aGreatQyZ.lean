/-
  Running a statement: what the schema alone tells (the model).
-/
import Derived.Test.Qxb6500564aGreatQyY
namespace Go.Proofs.Qxb6500564aGreat
open Go.Den Go.Zip
set_option linter.unusedVariables false
set_option linter.unusedSimpArgs false
variable {w w' u v : World} {i j k n a b r st B q : Nat} {s x nm : ByteArray} {cs : List Cl} {sc sw sr : Sl} {wh : List Cp} {row : List Vl} {T : Smt} {z : Nat → Sl}

theorem any_at {α : Type} {f : α → Bool} {l : List α} {e : α} (h : l[i]? = some e) (hf : f e = true) : l.any f = true := List.any_eq_true.2 ⟨e, List.mem_of_getElem? h, hf⟩
/-- A sweep with an early end. -/
theorem sweep {α : Type} {f : α → Bool} {l : List α} {body : Int × Unit → World → (Int × Unit → World → Prop) → Prop} (P : World → Prop) (hl : l.length < 1000000) (h0 : P w)
    (step : ∀ (p : Nat) (e : α) u, P u → l[p]? = some e → ∀ Q : Int × Unit → World → Prop, (f e = false → ∀ u', P u' → Q (((p + 1 : Nat) : Int), ()) u') → body ((p : Int), ()) u Q)
    (fin : l.any f = false → ∀ u, P u → ∀ Q, body ((l.length : Int), ()) u Q) : LoopP body (0, ()) w := by
  refine loopN (fun m sv u => ∃ (p : Nat), sv = ((p : Int), ()) ∧ p + m = l.length ∧ (l.take p).any f = false ∧ P u) l.length ⟨0, rfl, by omega, by simp, h0⟩ ?_
  rintro m _ u ⟨p, rfl, hm, hp, hu⟩ Q hQ
  rcases Nat.lt_or_ge p l.length with hlt | hge
  · obtain ⟨e, he⟩ : ∃ e, l[p]? = some e := ⟨_, List.getElem?_eq_getElem hlt⟩
    exact step p e u hu he Q fun hf u' hu' => hQ (m - 1) _ _ (by omega) ⟨p + 1, rfl, by omega, by rw [take_any he, hp, hf]; rfl, hu'⟩
  · have : p = l.length := by omega
    subst this
    exact fin (by rw [← take_all (Nat.le_refl _)]; exact hp) u hu Q
set_option maxHeartbeats 8000000 in
theorem mcheck_spec {K : Int → World → Prop} {ix : Int} {n0 : ByteArray} {pk : Nat} (o : OS w sc (colC cs) 2) (hl : cs.length < 1000000) (hz : ∀ i, i < 4 → OS w (z i) (vm [] (toM T) i) (szm i)) (l2 : T.list.length < 1000) (l3 : T.sets.length < 1000) (l4 : T.wh.length < 1000) (l5 : T.lits.length < 1000)
    (h9 : T.kind = 9 → T.list = [] ∧ T.lits = []) (hn9 : T.kind ≠ 9 → T.sets = [])
    (hK : ∀ w', Fr 0 0 w w' → K (chkP cs pk T) w') : S.querym_check n0 sc (pk : Nat) ix ((toM T).kind : Nat) (toM T).table (z 0) ((toM T).pk : Nat) (z 1) (z 2) (toM T).star (z 3) (toM T).order (toM T).desc (toM T).hasLim (toM T).lim w K := by
  unfold S.querym_check
  refine newB fun w1 q1 f1 z1 => newB fun w2 q2 f2 z2 => ?_
  have q2 : Blk w2 w1.heap.size (mC (toM T) z) := q2
  have o1 : OS w (z 1) (strC (T.list ++ T.sets.map (·.col))) 1 := hz 1 (by omega)
  have o2 : OS w (z 2) (rowC (T.lits ++ T.sets.map (·.lit))) 3 := hz 2 (by omega)
  have o3 : OS w (z 3) (cwsC (T.wh.map cw)) 5 := hz 3 (by omega)
  have s1 : (⟨(z 1).a, (z 1).l, (z 1).c⟩ : Sl).l = (T.list ++ T.sets.map (·.col)).length := lenAt (c := 1) (f := fun x : ByteArray => [Value.string x]) (fun _ => rfl) o1 (by omega)
  have s2 : (⟨(z 2).a, (z 2).l, (z 2).c⟩ : Sl).l = (T.lits ++ T.sets.map (·.lit)).length := lenAt (c := 3) (f := valC) (fun _ => rfl) o2 (by omega)
  have s3 : (⟨(z 3).a, (z 3).l, (z 3).c⟩ : Sl).l = (T.wh.map cw).length := lenAt (c := 5) (f := cwC) (fun _ => rfl) o3 (by omega)
  have hS2 : CkS w w.heap.size w1.heap.size (schC n0 sc (pk : Nat) ix) (mC (toM T) z) w2 := ⟨Blk.fr q1 f2 (by omega), q2, f1.trans f2⟩
  generalize hp2 : w1.heap.size = p2 at *
  generalize hp1 : w.heap.size = p1 at *
  have co : ∀ {u : World} {nm : ByteArray} {K : Int → World → Prop}, CkS w p1 p2 (schC n0 sc (pk : Nat) ix) (mC (toM T) z) u → (∀ v, Fr 0 0 u v → CkS w p1 p2 (schC n0 sc (pk : Nat) ix) (mC (toM T) z) v → K (coI cs nm) v) → S.querym_colOf n0 sc (pk : Nat) ix nm u K := fun {u nm K} h hk =>
    mcolOf_spec (OS.fr0 o h.2.2) hl fun v f => hk v f (h.fr0 f)
  have e14 : noC cs T = true → ∀ u, CkS w p1 p2 (schC n0 sc (pk : Nat) ix) (mC (toM T) z) u → K 14 u := fun e u hu => by
    have := hK u hu.2.2
    unfold chkP at this
    rw [if_pos e] at this
    exact this
  refine join_W (fun u => (T.list ++ T.sets.map (·.col)).any (nCo cs) = false ∧ CkS w p1 p2 (schC n0 sc (pk : Nat) ix) (mC (toM T) z) u) ?_ ?_
  · rintro u ⟨a1, hu⟩
    refine join_W (fun u => T.wh.any (fun c => nCo cs c.col) = false ∧ CkS w p1 p2 (schC n0 sc (pk : Nat) ix) (mC (toM T) z) u) ?_ ?_
    · rintro u ⟨a2, hu⟩
      refine join_W (fun u => noC cs T = false ∧ CkS w p1 p2 (schC n0 sc (pk : Nat) ix) (mC (toM T) z) u) ?_ ?_
      · rintro u ⟨a3, hu⟩
        -- all columns are found
        rw [List.any_append, Bool.or_eq_false_iff] at a1
        have fs : ∀ c ∈ T.sets, ∃ ci, coN cs c.col = some ci := fun c hc => by
          cases h : coN cs c.col with
          | some ci => exact ⟨ci, rfl⟩
          | none =>
            have : (T.sets.map (·.col)).any (nCo cs) = true := List.any_eq_true.2 ⟨c.col, List.mem_map_of_mem hc, by unfold nCo; rw [h]; rfl⟩
            rw [a1.2] at this; cases this
        have fw : ∀ c ∈ T.wh, ∃ ci, coN cs c.col = some ci := fun c hc => by
          cases h : coN cs c.col with
          | some ci => exact ⟨ci, rfl⟩
          | none =>
            have : T.wh.any (fun c => nCo cs c.col) = true := List.any_eq_true.2 ⟨c, hc, by unfold nCo; rw [h]; rfl⟩
            rw [a2] at this; cases this
        have hk : ∀ w', Fr 0 0 w w' → K (if T.sets.any (pkG cs pk) then 18 else if T.sets.any (tyG cs) || T.wh.any (tyG cs) then 15 else if T.sets.any (lgG cs) then 16 else 0) w' := fun w' f => by
          have := hK w' f
          unfold chkP at this
          rw [if_neg (by rw [a3]; simp)] at this
          exact this
        refine ldI hu.2.1 rfl (join_W (fun u => (T.sets.any (pkG cs pk) = false ∧ T.sets.any (tyG cs) = false) ∧ CkS w p1 p2 (schC n0 sc (pk : Nat) ix) (mC (toM T) z) u) ?_ ?_)
        · rintro u ⟨⟨b1, b2⟩, hu⟩
          rw [b1, b2, if_neg (by simp), Bool.false_or] at hk
          refine join_W (fun u => T.wh.any (tyG cs) = false ∧ CkS w p1 p2 (schC n0 sc (pk : Nat) ix) (mC (toM T) z) u) ?_ ?_
          · rintro u ⟨b3, hu⟩
            rw [b3, if_neg (by simp)] at hk
            refine ldI hu.2.1 rfl (ifk (fun h => ?_) fun h => ?_)
            · have h : T.kind = 9 := by
                have h : ((T.kind : Nat) : Int) = 9 := h
                omega
              obtain ⟨-, hlit⟩ := h9 h
              rw [hlit, List.nil_append] at o2 s2
              rw [List.length_map] at s2
              refine sweep (l := T.sets) (f := lgG cs) (fun u => CkS w p1 p2 (schC n0 sc (pk : Nat) ix) (mC (toM T) z) u) (by omega) hu (fun p c u hu hc Q hQ => ?_) fun hf u hu Q => ?_
              · have hlt := (List.getElem?_eq_some_iff.1 hc).1
                have hc' : (T.sets.map (·.lit))[p]? = some c.lit := by rw [List.getElem?_map, hc]; rfl
                obtain ⟨ci, hci⟩ := fs c (List.mem_of_getElem? hc)
                have hg : lgG cs c = decide (c.lit.s.size > 7) := by unfold lgG; rw [hci]; rfl
                refine ldS hu.2.1 rfl (ifd (fun hlt => ?_) fun hlt => absurd hlt (by dsimp only; omega))
                refine ldS hu.2.1 rfl (cellAt (c := 3) (f := valC) (fun _ => rfl) (OS.fr0 o2 hu.2.2) (by omega) hc' fun g us hb e0 ek ho => ldStr hb (ek 2 (by omega)) (ifd (fun h7 => ?_) fun h7 => ?_))
                · have : T.sets.any (lgG cs) = true := any_at hc (by rw [hg]; exact decide_eq_true (by omega))
                  rw [this, if_pos rfl] at hk
                  exact hk u hu.2.2
                · refine let_ ?_
                  dsimp only
                  rw [W_succ (by omega)]
                  exact hQ (by rw [hg]; exact decide_eq_false (by omega)) u hu
              · refine ldS hu.2.1 rfl (ifd (fun hlt => absurd hlt (by dsimp only; omega)) fun hlt => ?_)
                rw [hf, if_neg (by simp)] at hk
                exact hk u hu.2.2
            · have h : T.kind ≠ 9 := by
                have h : ((T.kind : Nat) : Int) ≠ 9 := h
                omega
              rw [hn9 h] at hk
              exact hk u hu.2.2
          · intro J13 hJ13
            rw [List.length_map] at s3
            refine sweep (l := T.wh) (f := tyG cs) (fun u => CkS w p1 p2 (schC n0 sc (pk : Nat) ix) (mC (toM T) z) u) (by omega) hu (fun p c u hu hc Q hQ => ?_) fun hf u hu Q => ?_
            · have hlt := (List.getElem?_eq_some_iff.1 hc).1
              have hc' : (T.wh.map cw)[p]? = some (cw c) := by rw [List.getElem?_map, hc]; rfl
              obtain ⟨ci, hco⟩ := fw c (List.mem_of_getElem? hc)
              have hcl := coN_lt hco
              have hci := coI_some hco
              obtain ⟨cl, hcl2⟩ : ∃ cl, cs[ci]? = some cl := ⟨_, List.getElem?_eq_getElem hcl⟩
              have ht : tyG cs c = !(c.lit.st == cl.st) := by unfold tyG; rw [hco, hci, Int.toNat_natCast, getD_of hcl2]; rfl
              refine ldS hu.2.1 rfl (ifd (fun hlt => ?_) fun hlt => absurd hlt (by dsimp only; omega))
              have hd := hu.dr
              refine drew_ (hold_ (ldS hd.2.1 rfl (cellAt (c := 5) (f := cwC) (fun _ => rfl) (OS.fr0 o3 hd.2.2) (by omega) hc' fun g us hb e0 ek ho => hold_ (ldB hb (ek 2 (by omega)) (hold_ (ldS hd.1 rfl (ldStr hd.1 rfl (ldS hd.1 rfl (ldI hd.1 rfl (ldI hd.1 rfl (ldS hd.2.1 rfl (cellAt (c := 5) (f := cwC) (fun _ => rfl) (OS.fr0 o3 hd.2.2) (by omega) hc' fun g2 us2 hb2 e02 ek2 ho2 => ldStr hb2 e02 (co hd fun v fv hv => ?_)))))))))))))
              refine ⟨holdS hd.1 hv.1, holdS hb (hb.fr fv (by omega)), holdS hd.2.1 hv.2.1, ?_⟩
              rw [show (cw c).col = c.col from rfl, hci]
              refine cellAt (c := 2) (f := colC1) (fun _ => rfl) (OS.fr0 o hv.2.2) (by omega) hcl2 fun g3 us3 hb3 e03 ek3 ho3 => ldB hb3 (ek3 1 (by omega)) (ifb (fun e => ?_) fun e => ?_)
              · have e : (!(c.lit.st == cl.st)) = true := e
                have : T.wh.any (tyG cs) = true := any_at hc (by rw [ht]; exact e)
                rw [this, if_pos rfl] at hk
                exact hk v hv.2.2
              · have e : (!(c.lit.st == cl.st)) = false := e
                refine let_ ?_
                dsimp only
                rw [W_succ (by omega)]
                exact hQ (by rw [ht]; exact e) v hv
            · refine ldS hu.2.1 rfl (ifd (fun hlt => absurd hlt (by dsimp only; omega)) fun hlt => ?_)
              exact hJ13 u ⟨hf, hu⟩
        · intro J38 hJ38
          refine ifk (fun h => ?_) fun h => ?_
          · have h : T.kind = 9 := by
              have h : ((T.kind : Nat) : Int) = 9 := h
              omega
            obtain ⟨hlist, hlit⟩ := h9 h
            rw [hlit, List.nil_append] at o2 s2
            rw [hlist, List.nil_append] at o1 s1
            rw [List.length_map] at s1 s2
            refine join_W (fun u => T.sets.any (pkG cs pk) = false ∧ CkS w p1 p2 (schC n0 sc (pk : Nat) ix) (mC (toM T) z) u) ?_ ?_
            · rintro u ⟨b1, hu⟩
              rw [b1, if_neg (by simp)] at hk
              refine sweep (l := T.sets) (f := tyG cs) (fun u => CkS w p1 p2 (schC n0 sc (pk : Nat) ix) (mC (toM T) z) u) (by omega) hu (fun p c u hu hc Q hQ => ?_) fun hf u hu Q => ?_
              · have hlt := (List.getElem?_eq_some_iff.1 hc).1
                have hc' : (T.sets.map (·.lit))[p]? = some c.lit := by rw [List.getElem?_map, hc]; rfl
                have hc2 : (T.sets.map (·.col))[p]? = some c.col := by rw [List.getElem?_map, hc]; rfl
                obtain ⟨ci, hco⟩ := fs c (List.mem_of_getElem? hc)
                have hcl := coN_lt hco
                have hci := coI_some hco
                obtain ⟨cl, hcl2⟩ : ∃ cl, cs[ci]? = some cl := ⟨_, List.getElem?_eq_getElem hcl⟩
                have ht : tyG cs c = !(c.lit.st == cl.st) := by unfold tyG; rw [hco, hci, Int.toNat_natCast, getD_of hcl2]; rfl
                refine ldS hu.2.1 rfl (ifd (fun hlt => ?_) fun hlt => absurd hlt (by dsimp only; omega))
                have hd := hu.dr
                refine drew_ (hold_ (ldS hd.2.1 rfl (cellAt (c := 3) (f := valC) (fun _ => rfl) (OS.fr0 o2 hd.2.2) (by omega) hc' fun g us hb e0 ek ho => hold_ (ldB hb e0 (hold_ (ldS hd.1 rfl (ldStr hd.1 rfl (ldS hd.1 rfl (ldI hd.1 rfl (ldI hd.1 rfl (ldS hd.2.1 rfl (cellAt (c := 1) (f := fun x : ByteArray => [Value.string x]) (fun _ => rfl) (OS.fr0 o1 hd.2.2) (by omega) hc2 fun g2 us2 hb2 e02 ek2 ho2 => ldStr hb2 e02 (co hd fun v fv hv => ?_)))))))))))))
                refine ⟨holdS hd.1 hv.1, holdS hb (hb.fr fv (by omega)), holdS hd.2.1 hv.2.1, ?_⟩
                rw [hci]
                refine cellAt (c := 2) (f := colC1) (fun _ => rfl) (OS.fr0 o hv.2.2) (by omega) hcl2 fun g3 us3 hb3 e03 ek3 ho3 => ldB hb3 (ek3 1 (by omega)) (ifb (fun e => ?_) fun e => ?_)
                · have e : (!(c.lit.st == cl.st)) = true := e
                  have : T.sets.any (tyG cs) = true := any_at hc (by rw [ht]; exact e)
                  rw [this, Bool.true_or, if_pos rfl] at hk
                  exact hk v hv.2.2
                · have e : (!(c.lit.st == cl.st)) = false := e
                  refine let_ ?_
                  dsimp only
                  rw [W_succ (by omega)]
                  exact hQ (by rw [ht]; exact e) v hv
              · refine ldS hu.2.1 rfl (ifd (fun hlt => absurd hlt (by dsimp only; omega)) fun hlt => ?_)
                exact hJ38 u ⟨⟨b1, hf⟩, hu⟩
            · intro J63 hJ63
              refine sweep (l := T.sets) (f := pkG cs pk) (fun u => CkS w p1 p2 (schC n0 sc (pk : Nat) ix) (mC (toM T) z) u) (by omega) hu (fun p c u hu hc Q hQ => ?_) fun hf u hu Q => ?_
              · have hlt := (List.getElem?_eq_some_iff.1 hc).1
                have hc2 : (T.sets.map (·.col))[p]? = some c.col := by rw [List.getElem?_map, hc]; rfl
                refine ldS hu.2.1 rfl (ifd (fun hlt => ?_) fun hlt => absurd hlt (by dsimp only; omega))
                have hd := hu.dr
                refine drew_ (ldStr hd.1 rfl (ldS hd.1 rfl (ldI hd.1 rfl (ldI hd.1 rfl (ldS hd.2.1 rfl (cellAt (c := 1) (f := fun x : ByteArray => [Value.string x]) (fun _ => rfl) (OS.fr0 o1 hd.2.2) (by omega) hc2 fun g2 us2 hb2 e02 ek2 ho2 => ldStr hb2 e02 (hold_ (ldI hd.1 rfl (co hd fun v fv hv => ?_)))))))))
                refine ⟨holdS hd.1 hv.1, ifb (fun e => ?_) fun e => ?_⟩
                · have : T.sets.any (pkG cs pk) = true := any_at hc e
                  rw [this, if_pos rfl] at hk
                  exact hk v hv.2.2
                · refine let_ ?_
                  dsimp only
                  rw [W_succ (by omega)]
                  exact hQ e v hv
              · refine ldS hu.2.1 rfl (ifd (fun hlt => absurd hlt (by dsimp only; omega)) fun hlt => ?_)
                exact hJ63 u ⟨hf, hu⟩
          · have h : T.kind ≠ 9 := by
              have h : ((T.kind : Nat) : Int) ≠ 9 := h
              omega
            exact hJ38 u ⟨by rw [hn9 h]; exact ⟨rfl, rfl⟩, hu⟩
      · intro J79 hJ79
        have hno : noC cs T = (!decide (T.order = ⟨#[]⟩) && nCo cs T.order) := by
          unfold noC
          rw [List.any_append, Bool.or_eq_false_iff] at a1
          have : T.sets.any (fun c => nCo cs c.col) = false := by rw [← a1.2, List.any_map]; rfl
          rw [a1.1, a2, this, Bool.or_false, Bool.or_false, Bool.or_false]
        refine ldStr hu.2.1 rfl (str_ne (fun e => ?_) fun e => ?_)
        · have e : ¬ T.order = ⟨#[]⟩ := e
          refine ldStr hu.1 rfl (ldS hu.1 rfl (ldI hu.1 rfl (ldI hu.1 rfl (ldStr hu.2.1 rfl (co hu fun v fv hv => ?_)))))
          rw [coI_neg]
          have hno : noC cs T = nCo cs T.order := by rw [hno, decide_eq_false e]; rfl
          refine ifb (fun h => ?_) fun h => ?_
          · exact e14 (hno.trans h) v hv
          · exact hJ79 v ⟨hno.trans h, hv⟩
        · have e : T.order = ⟨#[]⟩ := e
          exact hJ79 u ⟨by rw [hno, decide_eq_true e]; rfl, hu⟩
    · intro J87 hJ87
      rw [List.length_map] at s3
      refine sweep (l := T.wh) (f := fun c => nCo cs c.col) (fun u => CkS w p1 p2 (schC n0 sc (pk : Nat) ix) (mC (toM T) z) u) (by omega) hu (fun p c u hu hc Q hQ => ?_) fun hf u hu Q => ?_
      · have hlt := (List.getElem?_eq_some_iff.1 hc).1
        have hc' : (T.wh.map cw)[p]? = some (cw c) := by rw [List.getElem?_map, hc]; rfl
        refine ldS hu.2.1 rfl (ifd (fun hlt => ?_) fun hlt => absurd hlt (by dsimp only; omega))
        have hd := hu.dr
        refine drew_ (ldStr hd.1 rfl (ldS hd.1 rfl (ldI hd.1 rfl (ldI hd.1 rfl (ldS hd.2.1 rfl (cellAt (c := 5) (f := cwC) (fun _ => rfl) (OS.fr0 o3 hd.2.2) (by omega) hc' fun g2 us2 hb2 e02 ek2 ho2 => ldStr hb2 e02 (co hd fun v fv hv => ?_)))))))
        rw [coI_neg]
        refine ifb (fun h => ?_) fun h => ?_
        · refine e14 ?_ v hv
          have : T.wh.any (fun c => nCo cs c.col) = true := any_at hc h
          unfold noC
          rw [this, Bool.or_true]
        · refine let_ ?_
          dsimp only
          rw [W_succ (by omega)]
          exact hQ h v hv
      · refine ldS hu.2.1 rfl (ifd (fun hlt => absurd hlt (by dsimp only; omega)) fun hlt => ?_)
        exact hJ87 u ⟨hf, hu⟩
  · intro J101 hJ101
    have hll : (T.list ++ T.sets.map (·.col)).length < 1000000 := by rw [List.length_append, List.length_map]; omega
    refine sweep (l := T.list ++ T.sets.map (·.col)) (f := nCo cs) (fun u => CkS w p1 p2 (schC n0 sc (pk : Nat) ix) (mC (toM T) z) u) hll hS2 (fun p c u hu hc Q hQ => ?_) fun hf u hu Q => ?_
    · have hlt := (List.getElem?_eq_some_iff.1 hc).1
      refine ldS hu.2.1 rfl (ifd (fun hlt => ?_) fun hlt => absurd hlt (by dsimp only; omega))
      have hd := hu.dr
      refine drew_ (ldStr hd.1 rfl (ldS hd.1 rfl (ldI hd.1 rfl (ldI hd.1 rfl (ldS hd.2.1 rfl (cellAt (c := 1) (f := fun x : ByteArray => [Value.string x]) (fun _ => rfl) (OS.fr0 o1 hd.2.2) (by omega) hc fun g2 us2 hb2 e02 ek2 ho2 => ldStr hb2 e02 (co hd fun v fv hv => ?_)))))))
      rw [coI_neg]
      refine ifb (fun h => ?_) fun h => ?_
      · refine e14 ?_ v hv
        have : (T.list ++ T.sets.map (·.col)).any (nCo cs) = true := any_at hc h
        rw [List.any_append, List.any_map] at this
        unfold noC
        rcases Bool.or_eq_true _ _ ▸ this with h | h
        · rw [h, Bool.or_true, Bool.true_or, Bool.true_or]
        · have h : T.sets.any (fun c => nCo cs c.col) = true := h
          rw [h, Bool.or_true, Bool.true_or]
      · refine let_ ?_
        dsimp only
        rw [W_succ (by omega)]
        exact hQ h v hv
    · refine ldS hu.2.1 rfl (ifd (fun hlt => absurd hlt (by dsimp only; omega)) fun hlt => ?_)
      exact hJ101 u ⟨hf, hu⟩
end Go.Proofs.Qxb6500564aGreat
