/-
  Running a statement: WHERE on a row (the model); what the schema alone tells (the real side).
-/
import Derived.Test.Qxb6500564aGreatQyX
namespace Go.Proofs.Qxb6500564aGreat
open Go.Den Go.Zip
set_option linter.unusedVariables false
set_option linter.unusedSimpArgs false
variable {w w' u v : World} {i j k n a b r st B q : Nat} {s x nm : ByteArray} {cs : List Cl} {sc sw sr : Sl} {wh : List Cp} {row : List Vl} {T : Smt} {y : Nat → Sl}

set_option maxHeartbeats 2000000 in
theorem mmatch_spec {K : Bool → World → Prop} {pk ix : Int} {n0 : ByteArray} (o : OS w sc (colC cs) 2) (hl : cs.length < 1000000) (ow : OS w sw (cwsC (wh.map cw)) 5) (hwl : wh.length < 1000000) (orow : OS w sr (rowC row) 3) (hrow : row.length = cs.length)
    (hco : ∀ c ∈ wh, coN cs c.col ≠ none) (hop : ∀ c ∈ wh, 1 ≤ c.op ∧ c.op ≤ 6) (hK : ∀ w', Fr 0 0 w w' → K (mtP cs wh row) w') : S.querym_match n0 sc pk ix sw sr w K := by
  unfold S.querym_match
  refine newB fun w1 q1 f1 z1 => ?_
  have hsl := lenAt (f := cwC) (fun _ => rfl) ow (by omega)
  rw [List.length_map] at hsl
  refine loopN (fun m sv u => ∃ (p : Nat), sv = ((p : Int), ()) ∧ p + m = wh.length ∧ mtP cs wh row = mtP cs (wh.drop p) row ∧ Blk u w.heap.size [.string n0, .slice sc.a sc.l sc.c, .int .i64 pk, .int .i64 ix] ∧ Fr 0 0 w u) wh.length ⟨0, rfl, by omega, rfl, q1, f1⟩ ?_
  rintro m _ u ⟨p, rfl, hm, hp, qu, fu⟩ Q hQ
  dsimp only
  refine ifd (fun hlt => ?_) fun hlt => ?_
  · have hlt : p < wh.length := by omega
    obtain ⟨c, hc⟩ : ∃ c, wh[p]? = some c := ⟨_, List.getElem?_eq_getElem hlt⟩
    have hcm := List.mem_of_getElem? hc
    have hc' : (wh.map cw)[p]? = some (cw c) := by rw [List.getElem?_map, hc]; rfl
    have hdr : wh.drop p = c :: wh.drop (p + 1) := by
      rw [List.drop_eq_getElem_cons hlt]
      congr 1
      rw [List.getElem?_eq_getElem hlt] at hc
      exact Option.some.inj hc
    have hall : mtP cs (wh.drop p) row = (hlP (cmpV (row.getD (coI cs c.col).toNat v0) c.lit) c.op && mtP cs (wh.drop (p + 1)) row) := by rw [hdr]; rfl
    obtain ⟨ci, hci⟩ := Option.ne_none_iff_exists'.1 (hco c hcm)
    have hcl := coN_lt hci
    have ud := qu.drew
    refine drew_ (ldStr ud rfl (ldS ud rfl (ldI ud rfl (ldI ud rfl (cellAt (f := cwC) (fun _ => rfl) (OS.dr (OS.fr0 ow fu)) (by omega) hc' fun g us hb e0 ek ho => ldStr hb e0 (mcolOf_spec (OS.dr (OS.fr0 o fu)) hl fun u1 g1 => ?_))))))
    have F1 : Fr 0 0 w u1.drew := (fu.drew.trans g1).drew
    rw [show (cw c).col = c.col from rfl, coI_some hci]
    rw [coI_some hci, Int.toNat_natCast] at hall
    obtain ⟨x, hx⟩ : ∃ x, row[ci]? = some x := ⟨_, List.getElem?_eq_getElem (by omega)⟩
    have hxe : row.getD ci v0 = x := by rw [List.getD_eq_getElem?_getD, hx]; rfl
    rw [hxe] at hall
    refine drew_ (cellAt (f := valC) (fun _ => rfl) (OS.fr0 orow F1) (by omega) hx fun g2 us2 hb2 e02 ek2 ho2 => ldB hb2 e02 (ldI hb2 (ek2 1 (by omega)) (ldStr hb2 (ek2 2 (by omega)) ?_)))
    refine cellAt (f := cwC) (fun _ => rfl) (OS.fr0 ow F1) (by omega) hc' fun g3 us3 hb3 e03 ek3 ho3 => ldB hb3 (ek3 2 (by omega)) (ldI hb3 (ek3 3 (by omega)) (ldStr hb3 (ek3 4 (by omega)) (cmp_spec fun u2 g2' => ?_)))
    have F2 := F1.trans g2'
    have hopc := hop c hcm
    refine cellAt (f := cwC) (fun _ => rfl) (OS.fr0 ow F2) (by omega) hc' fun g4 us4 hb4 e04 ek4 ho4 => ldStr hb4 (ek4 1 (by omega)) (mholds_spec hopc.1 hopc.2 (ifn (fun hh => ?_) fun hh => ?_))
    · have hh : hlP (cmpV x c.lit) c.op = false := hh
      rw [hh, Bool.false_and] at hall
      have := hK u2 F2
      rw [hp, hall] at this
      exact this
    · have hh : hlP (cmpV x c.lit) c.op = true := hh
      rw [hh, Bool.true_and] at hall
      refine let_ ?_
      rw [W_succ (by omega)]
      exact hQ (m - 1) _ _ (by omega) ⟨p + 1, rfl, by omega, by rw [hp, hall], (qu.drew.fr g1 (by omega)).drew.fr g2' (by omega), F2⟩
  · have : wh.drop p = [] := List.drop_of_length_le (by omega)
    have := hK u fu
    rw [hp, ‹wh.drop p = []›] at this
    exact this
/- What the schema alone tells. -/
def nCo (cs : List Cl) (nm : ByteArray) : Bool := (coN cs nm).isNone
def tyG (cs : List Cl) (c : Cp) : Bool := (coN cs c.col).isSome && !(c.lit.st == (cs.getD (coI cs c.col).toNat c0).st)
def lgG (cs : List Cl) (c : Cp) : Bool := (coN cs c.col).isSome && decide (c.lit.s.size > 7)
def pkG (cs : List Cl) (pk : Nat) (c : Cp) : Bool := coI cs c.col == (pk : Nat)
def noC (cs : List Cl) (T : Smt) : Bool := (!decide (T.order = ⟨#[]⟩) && nCo cs T.order) || T.list.any (nCo cs) || T.sets.any (fun c => nCo cs c.col) || T.wh.any (fun c => nCo cs c.col)
def chkP (cs : List Cl) (pk : Nat) (T : Smt) : Int :=
  if noC cs T then 14 else if T.sets.any (pkG cs pk) then 18 else if T.sets.any (tyG cs) || T.wh.any (tyG cs) then 15 else if T.sets.any (lgG cs) then 16 else 0
theorem coI_neg {cs : List Cl} : decide (coI cs nm < 0) = nCo cs nm := by
  unfold nCo
  cases h : coN cs nm with
  | none => rw [coI_none h]; rfl
  | some i => rw [coI_some h]; exact decide_eq_false (by omega)
theorem take_any {α : Type} {f : α → Bool} {l : List α} {e : α} (h : l[i]? = some e) : (l.take (i + 1)).any f = ((l.take i).any f || f e) := by
  rw [List.take_add_one, h, List.any_append]
  simp
theorem take_all {α : Type} {f : α → Bool} {l : List α} (h : l.length ≤ i) : (l.take i).any f = l.any f := by rw [List.take_of_length_le h]
theorem join_P4 {k : Bool → Bool → Bool → Bool → World → Prop} {body : (Bool → Bool → Bool → Bool → World → Prop) → Prop} (P : Bool → Bool → Bool → Bool → World → Prop) (hk : ∀ a b c d w, P a b c d w → k a b c d w) (hb : ∀ J : Bool → Bool → Bool → Bool → World → Prop, (∀ a b c d w, P a b c d w → J a b c d w) → body J) : Join k body := hb k hk
/-- Schema and statement stay in their blocks. -/
def CkS (w : World) (p1 p2 : Nat) (C1 C2 : List Value) (u : World) : Prop := Blk u p1 C1 ∧ Blk u p2 C2 ∧ Fr 0 0 w u
theorem CkS.fr0 {p1 p2 : Nat} {C1 C2 : List Value} (h : CkS w p1 p2 C1 C2 u) (f : Fr 0 0 u v) : CkS w p1 p2 C1 C2 v := ⟨h.1.fr f (by omega), h.2.1.fr f (by omega), h.2.2.trans f⟩
theorem CkS.dr {p1 p2 : Nat} {C1 C2 : List Value} (h : CkS w p1 p2 C1 C2 u) : CkS w p1 p2 C1 C2 u.drew := ⟨h.1.drew, h.2.1.drew, h.2.2.drew⟩
theorem getD_of {α : Type} {l : List α} {d e : α} (h : l[i]? = some e) : l.getD i d = e := by rw [List.getD_eq_getElem?_getD, h]; rfl
set_option maxHeartbeats 4000000 in
theorem check_spec {K : Int → World → Prop} {ix : Int} {n0 : ByteArray} {pk : Nat} (o : OS w sc (colC cs) 2) (hl : cs.length < 1000000) (hy : ∀ i, i < 5 → OS w (y i) (vc T i) (sz i)) (l2 : T.list.length < 1000000) (l3 : T.sets.length < 1000000) (l4 : T.wh.length < 1000000)
    (hK : ∀ w', Fr 0 0 w w' → K (chkP cs pk T) w') : S.query_check n0 sc (pk : Nat) ix (T.kind : Nat) T.table (y 0) (T.pk : Nat) (y 1) T.star (y 2) (y 3) (y 4) T.order T.desc T.hasLim T.lim w K := by
  unfold S.query_check
  refine newB fun w1 q1 f1 z1 => newB fun w2 q2 f2 z2 => ?_
  have q2 : Blk w2 w1.heap.size (smC T y) := q2
  have o2 : OS w (y 2) (strC T.list) 1 := hy 2 (by omega)
  have o3 : OS w (y 3) (cpsC T.sets) 5 := hy 3 (by omega)
  have o4 : OS w (y 4) (cpsC T.wh) 5 := hy 4 (by omega)
  have s2 : (y 2).l = T.list.length := lenAt (f := fun x : ByteArray => [Value.string x]) (fun _ => rfl) o2 (by show 0 < 1; omega)
  have s3 : (y 3).l = T.sets.length := lenAt (f := cpC) (fun _ => rfl) o3 (by show 0 < 5; omega)
  have s4 : (y 4).l = T.wh.length := lenAt (f := cpC) (fun _ => rfl) o4 (by show 0 < 5; omega)
  have hS2 : CkS w w.heap.size w1.heap.size (schC n0 sc (pk : Nat) ix) (smC T y) w2 := ⟨Blk.fr q1 f2 (by omega), q2, f1.trans f2⟩
  generalize hp2 : w1.heap.size = p2 at *
  generalize hp1 : w.heap.size = p1 at *
  have co : ∀ {u : World} {nm : ByteArray} {K : Int → World → Prop}, CkS w p1 p2 (schC n0 sc (pk : Nat) ix) (smC T y) u → (∀ v, CkS w p1 p2 (schC n0 sc (pk : Nat) ix) (smC T y) v → K (coI cs nm) v) → S.query_ColOf n0 sc (pk : Nat) ix nm u K := fun {u nm K} h hk =>
    ColOf_spec (OS.fr0 o h.2.2) hl fun v f => hk v (h.fr0 f)
  refine join_P4 (fun nc pf tf lf u => nc = (!decide (T.order = ⟨#[]⟩) && nCo cs T.order) ∧ pf = false ∧ tf = false ∧ lf = false ∧ CkS w p1 p2 (schC n0 sc (pk : Nat) ix) (smC T y) u) ?_ ?_
  · rintro _ _ _ _ u ⟨rfl, rfl, rfl, rfl, hu⟩
    refine join_P (fun nc u => nc = ((!decide (T.order = ⟨#[]⟩) && nCo cs T.order) || T.list.any (nCo cs)) ∧ CkS w p1 p2 (schC n0 sc (pk : Nat) ix) (smC T y) u) ?_ ?_
    · rintro _ u ⟨rfl, hu⟩
      refine join_P4 (fun nc pf tf lf u => nc = (((!decide (T.order = ⟨#[]⟩) && nCo cs T.order) || T.list.any (nCo cs)) || T.sets.any (fun c => nCo cs c.col)) ∧ pf = T.sets.any (pkG cs pk) ∧ tf = T.sets.any (tyG cs) ∧ lf = T.sets.any (lgG cs) ∧ CkS w p1 p2 (schC n0 sc (pk : Nat) ix) (smC T y) u) ?_ ?_
      · rintro _ _ _ _ u ⟨rfl, rfl, rfl, rfl, hu⟩
        refine join_PP (fun nc tf u => nc = noC cs T ∧ tf = (T.sets.any (tyG cs) || T.wh.any (tyG cs)) ∧ CkS w p1 p2 (schC n0 sc (pk : Nat) ix) (smC T y) u) ?_ ?_
        · rintro _ _ u ⟨rfl, rfl, hu⟩
          have hk := hK u hu.2.2
          unfold chkP at hk
          refine ifb (fun e => ?_) fun e => ?_
          · rw [if_pos e] at hk; exact hk
          rw [if_neg (by rw [e]; simp)] at hk
          refine ifb (fun e => ?_) fun e => ?_
          · rw [if_pos e] at hk; exact hk
          rw [if_neg (by rw [e]; simp)] at hk
          refine ifb (fun e => ?_) fun e => ?_
          · rw [if_pos e] at hk; exact hk
          rw [if_neg (by rw [e]; simp)] at hk
          refine ifb (fun e => ?_) fun e => ?_
          · rw [if_pos e] at hk; exact hk
          rw [if_neg (by rw [e]; simp)] at hk
          exact hk
        · intro J14 hJ14
          refine loopN (fun m sv u => ∃ (p : Nat), sv = ((((!decide (T.order = ⟨#[]⟩) && nCo cs T.order) || T.list.any (nCo cs)) || T.sets.any (fun c => nCo cs c.col)) || (T.wh.take p).any (fun c => nCo cs c.col), T.sets.any (tyG cs) || (T.wh.take p).any (tyG cs), (p : Int), ()) ∧ p + m = T.wh.length ∧ CkS w p1 p2 (schC n0 sc (pk : Nat) ix) (smC T y) u) T.wh.length ⟨0, by simp, by omega, hu⟩ ?_
          rintro m _ u ⟨p, rfl, hm, hu⟩ Q hQ
          dsimp only
          refine ldS hu.2.1 rfl (ifd (fun hlt => ?_) fun hlt => ?_)
          · have hlt : p < T.wh.length := by
              have : (⟨(y 4).a, (y 4).l, (y 4).c⟩ : Sl).l = T.wh.length := s4
              omega
            obtain ⟨c, hc⟩ : ∃ c, T.wh[p]? = some c := ⟨_, List.getElem?_eq_getElem hlt⟩
            refine join_PP (fun nf tf v => nf = ((((!decide (T.order = ⟨#[]⟩) && nCo cs T.order) || T.list.any (nCo cs)) || T.sets.any (fun c => nCo cs c.col)) || (T.wh.take (p + 1)).any (fun c => nCo cs c.col)) ∧ tf = (T.sets.any (tyG cs) || (T.wh.take (p + 1)).any (tyG cs)) ∧ CkS w p1 p2 (schC n0 sc (pk : Nat) ix) (smC T y) v) ?_ ?_
            · rintro _ _ v ⟨rfl, rfl, hv⟩
              refine let_ ?_
              rw [W_succ (by omega)]
              exact hQ (m - 1) _ _ (by omega) ⟨p + 1, rfl, by omega, hv⟩
            · intro J21 hJ21
              have hd := hu.dr
              refine drew_ (ldStr hd.1 rfl (ldS hd.1 rfl (ldI hd.1 rfl (ldI hd.1 rfl (ldS hd.2.1 rfl (cellAt (f := cpC) (fun _ => rfl) (OS.fr0 o4 hd.2.2) (by show 0 < 5; omega) hc fun g us hb e0 ek ho => ldStr hb e0 (co hd fun v hv => ?_)))))))
              rw [coI_neg]
              cases hco : coN cs c.col with
              | none =>
                have hn : nCo cs c.col = true := by unfold nCo; rw [hco]; rfl
                have ht : tyG cs c = false := by unfold tyG; rw [hco]; rfl
                rw [if_pos hn]
                exact hJ21 _ _ _ ⟨by rw [take_any hc, hn]; simp, by rw [take_any hc, ht, Bool.or_false], hv⟩
              | some ci =>
                have hn : nCo cs c.col = false := by unfold nCo; rw [hco]; rfl
                have hcl := coN_lt hco
                have hci := coI_some hco
                obtain ⟨cl, hcl2⟩ : ∃ cl, cs[ci]? = some cl := ⟨_, List.getElem?_eq_getElem hcl⟩
                have ht : tyG cs c = !(c.lit.st == cl.st) := by unfold tyG; rw [hco, hci, Int.toNat_natCast, getD_of hcl2]; rfl
                rw [if_neg (by rw [hn]; simp)]
                have hvd := hv.dr
                refine drew_ (ifb (fun e => ?_) fun e => ?_)
                · exact hJ21 _ _ _ ⟨by rw [take_any hc, hn, Bool.or_false], by rw [take_any hc, ← Bool.or_assoc, e, Bool.true_or], hvd⟩
                · rw [hci]
                  refine ldS hvd.2.1 rfl (cellAt (f := cpC) (fun _ => rfl) (OS.fr0 o4 hvd.2.2) (by show 0 < 5; omega) hc fun g us hb e0 ek ho => ldB hb (ek 2 (by omega)) (ldS hvd.1 rfl (cellAt (f := colC1) (fun _ => rfl) (OS.fr0 o hvd.2.2) (by omega) hcl2 fun g2 us2 hb2 e02 ek2 ho2 => ldB hb2 (ek2 1 (by omega)) (let_ ?_))))
                  exact hJ21 _ _ _ ⟨by rw [take_any hc, hn, Bool.or_false], by rw [take_any hc, ← Bool.or_assoc, e, Bool.false_or, ht], hvd⟩
          · have hge : T.wh.length ≤ p := by
              have : (⟨(y 4).a, (y 4).l, (y 4).c⟩ : Sl).l = T.wh.length := s4
              omega
            exact hJ14 _ _ _ ⟨by rw [take_all hge]; rfl, by rw [take_all hge], hu⟩
      · intro J40 hJ40
        refine loopN (fun m sv u => ∃ (p : Nat), sv = (((!decide (T.order = ⟨#[]⟩) && nCo cs T.order) || T.list.any (nCo cs)) || (T.sets.take p).any (fun c => nCo cs c.col), (T.sets.take p).any (pkG cs pk), (T.sets.take p).any (tyG cs), (T.sets.take p).any (lgG cs), (p : Int), ()) ∧ p + m = T.sets.length ∧ CkS w p1 p2 (schC n0 sc (pk : Nat) ix) (smC T y) u) T.sets.length ⟨0, by simp, by omega, hu⟩ ?_
        rintro m _ u ⟨p, rfl, hm, hu⟩ Q hQ
        dsimp only
        have s3' : (⟨(y 3).a, (y 3).l, (y 3).c⟩ : Sl).l = T.sets.length := s3
        refine ldS hu.2.1 rfl (ifd (fun hlt => ?_) fun hlt => ?_)
        · have hlt : p < T.sets.length := by omega
          obtain ⟨c, hc⟩ : ∃ c, T.sets[p]? = some c := ⟨_, List.getElem?_eq_getElem hlt⟩
          refine join_P4 (fun nf pf tf lf v => nf = (((!decide (T.order = ⟨#[]⟩) && nCo cs T.order) || T.list.any (nCo cs)) || (T.sets.take (p + 1)).any (fun c => nCo cs c.col)) ∧ pf = (T.sets.take (p + 1)).any (pkG cs pk) ∧ tf = (T.sets.take (p + 1)).any (tyG cs) ∧ lf = (T.sets.take (p + 1)).any (lgG cs) ∧ CkS w p1 p2 (schC n0 sc (pk : Nat) ix) (smC T y) v) ?_ ?_
          · rintro _ _ _ _ v ⟨rfl, rfl, rfl, rfl, hv⟩
            refine let_ ?_
            rw [W_succ (by omega)]
            exact hQ (m - 1) _ _ (by omega) ⟨p + 1, rfl, by omega, hv⟩
          · intro J49 hJ49
            have hd := hu.dr
            refine drew_ (ldStr hd.1 rfl (ldS hd.1 rfl (ldI hd.1 rfl (ldI hd.1 rfl (ldS hd.2.1 rfl (cellAt (f := cpC) (fun _ => rfl) (OS.fr0 o3 hd.2.2) (by show 0 < 5; omega) hc fun g us hb e0 ek ho => ldStr hb e0 (co hd fun v hv => ?_)))))))
            rw [coI_neg]
            cases hco : coN cs c.col with
            | none =>
              have hn : nCo cs c.col = true := by unfold nCo; rw [hco]; rfl
              have ht : tyG cs c = false := by unfold tyG; rw [hco]; rfl
              have hg : lgG cs c = false := by unfold lgG; rw [hco]; rfl
              have hpg : pkG cs pk c = false := by unfold pkG; rw [coI_none hco, beq_eq_false_iff_ne]; omega
              rw [if_pos hn]
              exact hJ49 _ _ _ _ _ ⟨by rw [take_any hc, hn]; simp, by rw [take_any hc, hpg, Bool.or_false], by rw [take_any hc, ht, Bool.or_false], by rw [take_any hc, hg, Bool.or_false], hv⟩
            | some ci =>
              have hn : nCo cs c.col = false := by unfold nCo; rw [hco]; rfl
              have hcl := coN_lt hco
              have hci := coI_some hco
              obtain ⟨cl, hcl2⟩ : ∃ cl, cs[ci]? = some cl := ⟨_, List.getElem?_eq_getElem hcl⟩
              have ht : tyG cs c = !(c.lit.st == cl.st) := by unfold tyG; rw [hco, hci, Int.toNat_natCast, getD_of hcl2]; rfl
              have hg : lgG cs c = decide (c.lit.s.size > 7) := by unfold lgG; rw [hco]; rfl
              have hpg : pkG cs pk c = (((ci : Nat) : Int) == (pk : Nat)) := by unfold pkG; rw [hci]
              rw [if_neg (by rw [hn]; simp)]
              refine join_P (fun pf v => pf = (T.sets.take (p + 1)).any (pkG cs pk) ∧ CkS w p1 p2 (schC n0 sc (pk : Nat) ix) (smC T y) v) ?_ ?_
              · rintro _ v ⟨rfl, hv⟩
                refine join_P (fun tf v => tf = (T.sets.take (p + 1)).any (tyG cs) ∧ CkS w p1 p2 (schC n0 sc (pk : Nat) ix) (smC T y) v) ?_ ?_
                · rintro _ v ⟨rfl, hv⟩
                  refine ifb (fun e => ?_) fun e => ?_
                  · exact hJ49 _ _ _ _ _ ⟨by rw [take_any hc, hn, Bool.or_false], rfl, rfl, by rw [take_any hc, e, Bool.true_or], hv⟩
                  · refine ldS hv.2.1 rfl (cellAt (f := cpC) (fun _ => rfl) (OS.fr0 o3 hv.2.2) (by show 0 < 5; omega) hc fun g us hb e0 ek ho => ldStr hb (ek 4 (by omega)) (let_ ?_))
                    have e7 : decide ((c.lit.s.size : Int) > 7) = decide (c.lit.s.size > 7) := by rw [decide_eq_decide]; omega
                    exact hJ49 _ _ _ _ _ ⟨by rw [take_any hc, hn, Bool.or_false], rfl, rfl, by rw [take_any hc, e, Bool.false_or, hg, e7], hv⟩
                · intro J66 hJ66
                  have hvd := hv.dr
                  refine drew_ (ifb (fun e => ?_) fun e => ?_)
                  · exact hJ66 _ _ ⟨by rw [take_any hc, e, Bool.true_or], hvd⟩
                  · rw [hci]
                    refine ldS hvd.2.1 rfl (cellAt (f := cpC) (fun _ => rfl) (OS.fr0 o3 hvd.2.2) (by show 0 < 5; omega) hc fun g us hb e0 ek ho => ldB hb (ek 2 (by omega)) (ldS hvd.1 rfl (cellAt (f := colC1) (fun _ => rfl) (OS.fr0 o hvd.2.2) (by omega) hcl2 fun g2 us2 hb2 e02 ek2 ho2 => ldB hb2 (ek2 1 (by omega)) (let_ ?_))))
                    exact hJ66 _ _ ⟨by rw [take_any hc, e, Bool.false_or, ht], hvd⟩
              · intro J76 hJ76
                refine ifb (fun e => ?_) fun e => ?_
                · exact hJ76 _ _ ⟨by rw [take_any hc, e, Bool.true_or], hv⟩
                · refine ldI hv.1 rfl (let_ ?_)
                  exact hJ76 _ _ ⟨by rw [take_any hc, e, Bool.false_or, hpg, hci], hv⟩
        · have hge : T.sets.length ≤ p := by omega
          exact hJ40 _ _ _ _ _ ⟨by rw [take_all hge], by rw [take_all hge], by rw [take_all hge], by rw [take_all hge], hu⟩
    · intro J79 hJ79
      refine loopN (fun m sv u => ∃ (p : Nat), sv = ((!decide (T.order = ⟨#[]⟩) && nCo cs T.order) || (T.list.take p).any (nCo cs), (p : Int), ()) ∧ p + m = T.list.length ∧ CkS w p1 p2 (schC n0 sc (pk : Nat) ix) (smC T y) u) T.list.length ⟨0, by simp, by omega, hu⟩ ?_
      rintro m _ u ⟨p, rfl, hm, hu⟩ Q hQ
      dsimp only
      have s2' : (⟨(y 2).a, (y 2).l, (y 2).c⟩ : Sl).l = T.list.length := s2
      refine ldS hu.2.1 rfl (ifd (fun hlt => ?_) fun hlt => ?_)
      · have hlt : p < T.list.length := by omega
        obtain ⟨c, hc⟩ : ∃ c, T.list[p]? = some c := ⟨_, List.getElem?_eq_getElem hlt⟩
        refine join_P (fun nf v => nf = ((!decide (T.order = ⟨#[]⟩) && nCo cs T.order) || (T.list.take (p + 1)).any (nCo cs)) ∧ CkS w p1 p2 (schC n0 sc (pk : Nat) ix) (smC T y) v) ?_ ?_
        · rintro _ v ⟨rfl, hv⟩
          refine let_ ?_
          rw [W_succ (by omega)]
          exact hQ (m - 1) _ _ (by omega) ⟨p + 1, rfl, by omega, hv⟩
        · intro J85 hJ85
          have hd := hu.dr
          refine drew_ (ifb (fun e => ?_) fun e => ?_)
          · exact hJ85 _ _ ⟨by rw [take_any hc, ← Bool.or_assoc, e, Bool.true_or], hd⟩
          · refine ldStr hd.1 rfl (ldS hd.1 rfl (ldI hd.1 rfl (ldI hd.1 rfl (ldS hd.2.1 rfl (cellAt (f := fun x : ByteArray => [Value.string x]) (fun _ => rfl) (OS.fr0 o2 hd.2.2) (by show 0 < 1; omega) hc fun g us hb e0 ek ho => ldStr hb e0 (co hd fun v hv => let_ ?_))))))
            exact hJ85 _ _ ⟨by rw [take_any hc, ← Bool.or_assoc, e, Bool.false_or, coI_neg], hv⟩
      · have hge : T.list.length ≤ p := by omega
        exact hJ79 _ _ ⟨by rw [take_all hge], hu⟩
  · intro J96 hJ96
    refine ldStr hS2.2.1 rfl (str_ne (fun e => ?_) fun e => ?_)
    · refine ldStr hS2.1 rfl (ldS hS2.1 rfl (ldI hS2.1 rfl (ldI hS2.1 rfl (ldStr hS2.2.1 rfl (co hS2 fun u hu => let_ ?_)))))
      exact hJ96 _ _ _ _ _ ⟨by rw [coI_neg, decide_eq_false e]; rfl, rfl, rfl, rfl, hu⟩
    · exact hJ96 _ _ _ _ _ ⟨by rw [decide_eq_true e]; rfl, rfl, rfl, rfl, hS2⟩
end Go.Proofs.Qxb6500564aGreat
