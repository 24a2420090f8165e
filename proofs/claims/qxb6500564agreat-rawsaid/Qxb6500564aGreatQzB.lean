/-
  The planner: the span of a column.
-/
import Derived.Test.Qxb6500564aGreatQzA
namespace Go.Proofs.Qxb6500564aGreat
open Go.Den Go.Zip
set_option linter.unusedVariables false
set_option linter.unusedSimpArgs false
variable {w w' u v : World} {i j k n a b p1 p2 p3 p4 p5 p6 p7 : Nat} {s x nm : ByteArray} {cs : List Cl} {sc sw : Sl} {wh : List Cp} {lo hi eq lo' hi' eq' : Bd}

def bdN : Bd := ⟨false, v0⟩
def bdL (b : Bd) : List Value := [.bool b.has, .bool b.v.st, .int .i64 b.v.i, .string b.v.s]
def usP (c : Cp) : Bool := c.op != 5 && decide (c.lit.s.size ≤ 7)
structure SpR where
  n : Nat
  lo : Bd
  hi : Bd
  eq : Bd
def upL (c : Cp) (lo : Bd) : Bd := if c.op &&& 1 = 0 ∧ (lo.has = false ∨ cmpV c.lit lo.v > 0) then ⟨true, c.lit⟩ else lo
def upH (c : Cp) (hi : Bd) : Bd := if c.op &&& 4 = 0 ∧ (hi.has = false ∨ cmpV c.lit hi.v < 0) then ⟨true, c.lit⟩ else hi
def upE (c : Cp) (eq : Bd) : Bd := if c.op = 2 ∧ eq.has = false then ⟨true, c.lit⟩ else eq
def spS (cs : List Cl) (col : Int) (S : SpR) (c : Cp) : SpR := if usP c = true ∧ coI cs c.col = col then ⟨S.n + 1, upL c S.lo, upH c S.hi, upE c S.eq⟩ else S
def spQ (cs : List Cl) (col : Int) (wh : List Cp) : SpR := wh.foldl (spS cs col) ⟨0, bdN, bdN, bdN⟩
theorem stB {q : Nat} {vs : List Value} {bd : Bd} {K : World → Prop} (h : Blk w q vs) (hl : vs.length = 4) (hk : ∀ w', Blk w' q (bdL bd) → Fr q 1 w w' → K w') :
    St1 w ⟨q, 0, none⟩ (.bool bd.has) fun w => St1 w ⟨q, 1, none⟩ (.bool bd.v.st) fun w => St1 w ⟨q, 2, none⟩ (.int .i64 bd.v.i) fun w => St1 w ⟨q, 3, none⟩ (.string bd.v.s) fun w => K w := by
  match vs, hl with
  | [_, _, _, _], _ =>
    exact st1 h (by show _ < 4; omega) fun w1 h f1 _ => st1 h (by show _ < 4; omega) fun w2 h f2 _ => st1 h (by show _ < 4; omega) fun w3 h f3 _ => st1 h (by show _ < 4; omega) fun w4 h f4 _ => hk w4 h (((f1.trans f2).trans f3).trans f4)
theorem ldBd {q : Nat} {bd : Bd} {K : Bool → Bool → Int → ByteArray → Prop} (h : Blk w q (bdL bd)) (hk : K bd.has bd.v.st bd.v.i bd.v.s) : LdB w ⟨q, 0, none⟩ fun a => LdB w ⟨q, 1, none⟩ fun b => LdI .i64 w ⟨q, 2, none⟩ fun c => LdStr w ⟨q, 3, none⟩ fun d => K a b c d :=
  ldB h rfl (ldB h rfl (ldI h rfl (ldStr h rfl hk)))
theorem usable_spec {c : Cp} {K : Bool → World → Prop} (hK : ∀ w', Fr 0 0 w w' → K (usP c) w') : S.query_Usable c.col (c.op : Nat) c.lit.st c.lit.i c.lit.s w K := by
  unfold S.query_Usable
  unfold usP at hK
  refine newB fun w1 q1 f1 z1 => ldI q1 rfl (ifnk (fun h => ?_) fun h => ?_)
  · have e : (c.op != 5) = true := by rw [bne_iff_ne]; omega
    rw [e, Bool.true_and] at hK
    refine ldStr q1 rfl ?_
    rw [show decide ((c.lit.s.size : Int) ≤ 7) = decide (c.lit.s.size ≤ 7) by rw [decide_eq_decide]; omega]
    exact hK w1 f1
  · have e : (c.op != 5) = false := by have : c.op = 5 := by omega
                                       rw [this]; rfl
    rw [e, Bool.false_and] at hK
    exact hK w1 f1
/-- The span's own blocks. -/
structure SpB (w : World) (p1 p2 p3 p4 p5 p6 p7 : Nat) (C : List Value) (lo hi eq : Bd) (u : World) : Prop where
  b1 : Blk u p1 C
  b2 : Blk u p2 (bdL bdN)
  b3 : Blk u p3 (bdL bdN)
  b4 : Blk u p4 (bdL bdN)
  b5 : Blk u p5 (bdL lo)
  b6 : Blk u p6 (bdL hi)
  b7 : Blk u p7 (bdL eq)
  fr : Fr 0 0 w u
  o1 : w.heap.size ≤ p1 ∧ p1 < p2 ∧ p2 < p3 ∧ p3 < p4 ∧ p4 < p5 ∧ p5 < p6 ∧ p6 < p7
theorem SpB.fr0 {C : List Value} (h : SpB w p1 p2 p3 p4 p5 p6 p7 C lo hi eq u) (f : Fr 0 0 u v) : SpB w p1 p2 p3 p4 p5 p6 p7 C lo hi eq v :=
  ⟨h.b1.fr f (by omega), h.b2.fr f (by omega), h.b3.fr f (by omega), h.b4.fr f (by omega), h.b5.fr f (by omega), h.b6.fr f (by omega), h.b7.fr f (by omega), h.fr.trans f, h.o1⟩
theorem SpB.new {C : List Value} {q : Nat} (h : SpB w p1 p2 p3 p4 p5 p6 p7 C lo hi eq u) (hq : u.heap.size ≤ q) (f : Fr 0 0 u v) (g : Fr q 1 v w') : SpB w p1 p2 p3 p4 p5 p6 p7 C lo hi eq w' := h.fr0 (f.thenNew g hq)
theorem SpB.s5 {C : List Value} (h : SpB w p1 p2 p3 p4 p5 p6 p7 C lo hi eq u) (b : Blk v p5 (bdL lo')) (f : Fr p5 1 u v) : SpB w p1 p2 p3 p4 p5 p6 p7 C lo' hi eq v := by
  have o := h.o1
  exact ⟨h.b1.fr f (by omega), h.b2.fr f (by omega), h.b3.fr f (by omega), h.b4.fr f (by omega), b, h.b6.fr f (by omega), h.b7.fr f (by omega), h.fr.thenNew f (by omega), h.o1⟩
theorem SpB.s6 {C : List Value} (h : SpB w p1 p2 p3 p4 p5 p6 p7 C lo hi eq u) (b : Blk v p6 (bdL hi')) (f : Fr p6 1 u v) : SpB w p1 p2 p3 p4 p5 p6 p7 C lo hi' eq v := by
  have o := h.o1
  exact ⟨h.b1.fr f (by omega), h.b2.fr f (by omega), h.b3.fr f (by omega), h.b4.fr f (by omega), h.b5.fr f (by omega), b, h.b7.fr f (by omega), h.fr.thenNew f (by omega), h.o1⟩
theorem SpB.s7 {C : List Value} (h : SpB w p1 p2 p3 p4 p5 p6 p7 C lo hi eq u) (b : Blk v p7 (bdL eq')) (f : Fr p7 1 u v) : SpB w p1 p2 p3 p4 p5 p6 p7 C lo hi eq' v := by
  have o := h.o1
  exact ⟨h.b1.fr f (by omega), h.b2.fr f (by omega), h.b3.fr f (by omega), h.b4.fr f (by omega), h.b5.fr f (by omega), h.b6.fr f (by omega), b, h.fr.thenNew f (by omega), h.o1⟩
theorem SpB.lt {C : List Value} (h : SpB w p1 p2 p3 p4 p5 p6 p7 C lo hi eq u) : p7 < u.heap.size := h.b7.lt
set_option maxHeartbeats 8000000 in
theorem qspan_spec {K : Int → Bool → Bool → Int → ByteArray → Bool → Bool → Int → ByteArray → Bool → Bool → Int → ByteArray → World → Prop} {pk ix col : Int} {n0 : ByteArray} (o : OS w sc (colC cs) 2) (hl : cs.length < 1000000) (ow : OS w sw (cpsC wh) 5) (hwl : wh.length < 1000000) (hop : ∀ c ∈ wh, c.op < 1000)
    (hK : ∀ w', Fr 0 0 w w' → K ((spQ cs col wh).n : Nat) (spQ cs col wh).lo.has (spQ cs col wh).lo.v.st (spQ cs col wh).lo.v.i (spQ cs col wh).lo.v.s (spQ cs col wh).hi.has (spQ cs col wh).hi.v.st (spQ cs col wh).hi.v.i (spQ cs col wh).hi.v.s (spQ cs col wh).eq.has (spQ cs col wh).eq.v.st (spQ cs col wh).eq.v.i (spQ cs col wh).eq.v.s w') :
    S.query_span n0 sc pk ix sw col w K := by
  unfold S.query_span
  refine newB fun w1 q1 f1 z1 => newB fun w2 q2 f2 z2 => newB fun w3 q3 f3 z3 => newB fun w4 q4 f4 z4 => newB fun w5 q5 f5 z5 => newB fun w6 q6 f6 z6 => newB fun w7 q7 f7 z7 => ?_
  have q1 : Blk w7 w.heap.size (schC n0 sc pk ix) := (((((Blk.fr q1 f2 (by omega)).fr f3 (by omega)).fr f4 (by omega)).fr f5 (by omega)).fr f6 (by omega)).fr f7 (by omega)
  have q2 : Blk w7 w1.heap.size (bdL bdN) := ((((Blk.fr q2 f3 (by omega)).fr f4 (by omega)).fr f5 (by omega)).fr f6 (by omega)).fr f7 (by omega)
  have q3 : Blk w7 w2.heap.size (bdL bdN) := (((Blk.fr q3 f4 (by omega)).fr f5 (by omega)).fr f6 (by omega)).fr f7 (by omega)
  have q4 : Blk w7 w3.heap.size (bdL bdN) := ((Blk.fr q4 f5 (by omega)).fr f6 (by omega)).fr f7 (by omega)
  have q5 : Blk w7 w4.heap.size (bdL bdN) := (Blk.fr q5 f6 (by omega)).fr f7 (by omega)
  have q6 : Blk w7 w5.heap.size (bdL bdN) := Blk.fr q6 f7 (by omega)
  have q7 : Blk w7 w6.heap.size (bdL bdN) := q7
  have h7 : SpB w w.heap.size w1.heap.size w2.heap.size w3.heap.size w4.heap.size w5.heap.size w6.heap.size (schC n0 sc pk ix) bdN bdN bdN w7 :=
    ⟨q1, q2, q3, q4, q5, q6, q7, (((((f1.trans f2).trans f3).trans f4).trans f5).trans f6).trans f7, by omega⟩
  generalize w.heap.size = p1 at *
  generalize w1.heap.size = p2 at *
  generalize w2.heap.size = p3 at *
  generalize w3.heap.size = p4 at *
  generalize w4.heap.size = p5 at *
  generalize w5.heap.size = p6 at *
  generalize w6.heap.size = p7 at *
  refine stB (bd := bdN) h7.b5 rfl fun v1 b1 g1 => ?_
  have h8 := h7.s5 b1 g1
  refine stB (bd := bdN) h8.b6 rfl fun v2 b2 g2 => ?_
  have h9 := h8.s6 b2 g2
  refine stB (bd := bdN) h9.b7 rfl fun v3 b3 g3 => ?_
  have h10 := h9.s7 b3 g3
  have hsl := lenAt (c := 5) (f := cpC) (fun _ => rfl) ow (by omega)
  refine join_P (fun nx u => ∃ S : SpR, S = spQ cs col wh ∧ nx = (S.n : Nat) ∧ SpB w p1 p2 p3 p4 p5 p6 p7 (schC n0 sc pk ix) S.lo S.hi S.eq u) ?_ ?_
  · rintro _ u ⟨S, hS, rfl, hu⟩
    have hd : SpB w p1 p2 p3 p4 p5 p6 p7 (schC n0 sc pk ix) S.lo S.hi S.eq u.drew := hu.fr0 ((Fr.refl 0 0 u).drew)
    have oo := hd.o1
    refine drew_ (ldBd hd.b5 (hold_ (ldBd hd.b6 (hold_ (ldBd hd.b7 (stB (bd := S.lo) hd.b2 rfl fun u2 c2 k2 => ?_))))))
    refine ⟨holdS hd.b7 (hd.b7.fr k2 (by omega)), holdS hd.b6 (hd.b6.fr k2 (by omega)), stB (bd := S.hi) (hd.b3.fr k2 (by omega)) rfl fun u3 c3 k3 => ?_⟩
    refine ⟨holdS hd.b7 ((hd.b7.fr k2 (by omega)).fr k3 (by omega)), stB (bd := S.eq) ((hd.b4.fr k2 (by omega)).fr k3 (by omega)) rfl fun u4 c4 k4 => ?_⟩
    have c2' := (c2.fr k3 (by omega)).fr k4 (by omega)
    have c3' := c3.fr k4 (by omega)
    refine ldBd c2' (ldBd c3' (ldBd c4 ?_))
    rw [hS]
    exact hK u4 (((hd.fr.thenNew k2 (by omega)).thenNew k3 (by omega)).thenNew k4 (by omega))
  · intro J35 hJ35
    refine loopN (fun m sv u => ∃ (p : Nat) (S : SpR), sv = ((S.n : Int), (p : Int), ()) ∧ p + m = wh.length ∧ S.n ≤ p ∧ (wh.drop p).foldl (spS cs col) S = spQ cs col wh ∧ SpB w p1 p2 p3 p4 p5 p6 p7 (schC n0 sc pk ix) S.lo S.hi S.eq u) wh.length
      ⟨0, ⟨0, bdN, bdN, bdN⟩, rfl, by omega, by exact Nat.le_refl _, rfl, h10⟩ ?_
    rintro m _ u ⟨p, S, rfl, hm, hnp, hfo, hu⟩ Q hQ
    dsimp only
    refine ifd (fun hlt => ?_) fun hlt => ?_
    · have hlt : p < wh.length := by omega
      obtain ⟨c, hc⟩ : ∃ c, wh[p]? = some c := ⟨_, List.getElem?_eq_getElem hlt⟩
      have hcm := List.mem_of_getElem? hc
      have hdr : wh.drop p = c :: wh.drop (p + 1) := by
        rw [List.drop_eq_getElem_cons hlt]
        congr 1
        rw [List.getElem?_eq_getElem hlt] at hc
        exact Option.some.inj hc
      rw [hdr, List.foldl_cons] at hfo
      refine join_P (fun nx v => ∃ S2 : SpR, S2 = spS cs col S c ∧ nx = (S2.n : Nat) ∧ SpB w p1 p2 p3 p4 p5 p6 p7 (schC n0 sc pk ix) S2.lo S2.hi S2.eq v) ?_ ?_
      · rintro _ v ⟨S2, hS2, rfl, hv⟩
        refine let_ ?_
        rw [W_succ (by omega)]
        refine hQ (m - 1) _ _ (by omega) ⟨p + 1, S2, rfl, by omega, ?_, by rw [hS2]; exact hfo, hv⟩
        rw [hS2]
        unfold spS
        split
        · show S.n + 1 ≤ p + 1; omega
        · omega
      · intro J40 hJ40
        refine cellAt (c := 5) (f := cpC) (fun _ => rfl) (OS.fr0 ow hu.fr) (by omega) hc fun g us hb e0 ek ho => ldStr hb e0 (ldI hb (ek 1 (by omega)) (ldB hb (ek 2 (by omega)) (ldI hb (ek 3 (by omega)) (ldStr hb (ek 4 (by omega)) (newB fun u1 r1 k1 t1 => ?_)))))
        refine st1 r1 (by show _ < 5; omega) fun u2 r2 k2 t2 => st1 r2 (by show _ < 5; omega) fun u3 r3 k3 t3 => st1 r3 (by show _ < 5; omega) fun u4 r4 k4 t4 => st1 r4 (by show _ < 5; omega) fun u5 r5 k5 t5 => st1 r5 (by show _ < 5; omega) fun u6 r6 k6 t6 => ?_
        have r6 : Blk u6 u.heap.size (cpC c) := r6
        have k16 : Fr 0 0 u u6 := k1.thenNew ((((k2.trans k3).trans k4).trans k5).trans k6) (Nat.le_refl _)
        have h6 := hu.fr0 k16
        have hlt7 := hu.lt
        have oo := hu.o1
        refine ldStr r6 rfl (ldI r6 rfl (ldB r6 rfl (ldI r6 rfl (ldStr r6 rfl (usable_spec fun u7 k7 => ifn (fun hus => ?_) fun hus => ?_)))))
        · exact hJ40 _ _ ⟨S, by unfold spS; rw [if_neg (by rw [hus]; simp)], rfl, h6.fr0 k7⟩
        have h7 := h6.fr0 k7
        have r7 := r6.fr k7 (by omega)
        refine ldStr h7.b1 rfl (ldS h7.b1 rfl (ldI h7.b1 rfl (ldI h7.b1 rfl (ldStr r7 rfl (ColOf_spec (OS.fr0 o h7.fr) hl fun u8 k8 => ifnk (fun hne => ?_) fun heq => ?_)))))
        · exact hJ40 _ _ ⟨S, by unfold spS; rw [if_neg (fun h => hne h.2)], rfl, h7.fr0 k8⟩
        have h8 := h7.fr0 k8
        have r8 := r7.fr k8 (by omega)
        have hsp : spS cs col S c = ⟨S.n + 1, upL c S.lo, upH c S.hi, upE c S.eq⟩ := by unfold spS; rw [if_pos ⟨hus, heq⟩]
        refine let_ ?_
        rw [W_succ (by omega)]
        have hopc := hop c hcm
        have e1 : ((And .i64 (c.op : Int) 1) == 0) = (c.op &&& 1 == 0) := by
          have := andb (op := c.op) (m := 1) hopc (by omega)
          rw [bne, bne, Bool.not_inj_iff] at this
          exact this
        have e4 : ((And .i64 (c.op : Int) 4) == 0) = (c.op &&& 4 == 0) := by
          have := andb (op := c.op) (m := 4) hopc (by omega)
          rw [bne, bne, Bool.not_inj_iff] at this
          exact this
        -- eq, then lo, then hi
        refine join_W (fun v => SpB w p1 p2 p3 p4 p5 p6 p7 (schC n0 sc pk ix) S.lo S.hi (upE c S.eq) v ∧ Blk v u.heap.size (cpC c)) ?_ ?_
        · rintro v ⟨hv, rv⟩
          refine join_W (fun v => SpB w p1 p2 p3 p4 p5 p6 p7 (schC n0 sc pk ix) (upL c S.lo) S.hi (upE c S.eq) v ∧ Blk v u.heap.size (cpC c)) ?_ ?_
          · rintro v ⟨hv, rv⟩
            refine join_W (fun v => SpB w p1 p2 p3 p4 p5 p6 p7 (schC n0 sc pk ix) (upL c S.lo) S.hi (upE c S.eq) v ∧ Blk v u.heap.size (cpC c) ∧ upH c S.hi = ⟨true, c.lit⟩) ?_ ?_
            · rintro v ⟨hv, rv, eh⟩
              refine ldB rv rfl (ldI rv rfl (ldStr rv rfl (stB (bd := ⟨true, c.lit⟩) hv.b6 rfl fun v2 d2 m2 => ?_)))
              exact hJ40 _ _ ⟨_, hsp.symm, rfl, by rw [eh]; exact hv.s6 d2 m2⟩
            · intro J65 hJ65
              refine ldI rv rfl ?_
              rw [e4]
              refine ifb (fun e => ?_) fun e => ?_
              · have e : c.op &&& 4 = 0 := by simpa using e
                refine ldB hv.b6 rfl (ifn (fun hh => ?_) fun hh => ?_)
                · exact hJ65 _ ⟨hv, rv, by unfold upH; rw [if_pos ⟨e, .inl hh⟩]⟩
                · refine ldB rv rfl (ldI rv rfl (ldStr rv rfl (ldB hv.b6 rfl (ldI hv.b6 rfl (ldStr hv.b6 rfl (cmp_spec fun v2 m2 => ifd (fun hc2 => ?_) fun hc2 => ?_))))))
                  · exact hJ65 _ ⟨hv.fr0 m2, rv.fr m2 (by omega), by unfold upH; rw [if_pos ⟨e, .inr hc2⟩]⟩
                  · refine hJ40 _ _ ⟨_, hsp.symm, rfl, ?_⟩
                    have : upH c S.hi = S.hi := by unfold upH; rw [if_neg (fun h => h.2.elim (fun h => by rw [hh] at h; cases h) hc2)]
                    rw [this]
                    exact hv.fr0 m2
              · have e : ¬ c.op &&& 4 = 0 := by simpa using e
                refine hJ40 _ _ ⟨_, hsp.symm, rfl, ?_⟩
                have : upH c S.hi = S.hi := by unfold upH; rw [if_neg (fun h => e h.1)]
                rw [this]
                exact hv
          · intro J75 hJ75
            refine join_W (fun v => SpB w p1 p2 p3 p4 p5 p6 p7 (schC n0 sc pk ix) S.lo S.hi (upE c S.eq) v ∧ Blk v u.heap.size (cpC c) ∧ upL c S.lo = ⟨true, c.lit⟩) ?_ ?_
            · rintro v ⟨hv, rv, eh⟩
              refine ldB rv rfl (ldI rv rfl (ldStr rv rfl (stB (bd := ⟨true, c.lit⟩) hv.b5 rfl fun v2 d2 m2 => ?_)))
              exact hJ75 _ ⟨by rw [eh]; exact hv.s5 d2 m2, rv.fr m2 (by omega)⟩
            · intro J79 hJ79
              refine ldI rv rfl ?_
              rw [e1]
              refine ifb (fun e => ?_) fun e => ?_
              · have e : c.op &&& 1 = 0 := by simpa using e
                refine ldB hv.b5 rfl (ifn (fun hh => ?_) fun hh => ?_)
                · exact hJ79 _ ⟨hv, rv, by unfold upL; rw [if_pos ⟨e, .inl hh⟩]⟩
                · refine ldB rv rfl (ldI rv rfl (ldStr rv rfl (ldB hv.b5 rfl (ldI hv.b5 rfl (ldStr hv.b5 rfl (cmp_spec fun v2 m2 => ifd (fun hc2 => ?_) fun hc2 => ?_))))))
                  · exact hJ79 _ ⟨hv.fr0 m2, rv.fr m2 (by omega), by unfold upL; rw [if_pos ⟨e, .inr hc2⟩]⟩
                  · have : upL c S.lo = S.lo := by unfold upL; rw [if_neg (fun h => h.2.elim (fun h => by rw [hh] at h; cases h) hc2)]
                    exact hJ75 _ ⟨by rw [this]; exact hv.fr0 m2, rv.fr m2 (by omega)⟩
              · have e : ¬ c.op &&& 1 = 0 := by simpa using e
                have : upL c S.lo = S.lo := by unfold upL; rw [if_neg (fun h => e h.1)]
                exact hJ75 _ ⟨by rw [this]; exact hv, rv⟩
        · intro J89 hJ89
          refine ldI r8 rfl (ifk (fun h2 => ?_) fun h2 => ?_)
          · have h2 : c.op = 2 := by
              have h2 : ((c.op : Nat) : Int) = 2 := h2
              omega
            refine ldB h8.b7 rfl (ifn (fun hh => ?_) fun hh => ?_)
            · refine ldB r8 rfl (ldI r8 rfl (ldStr r8 rfl (stB (bd := ⟨true, c.lit⟩) h8.b7 rfl fun v2 d2 m2 => ?_)))
              have : upE c S.eq = ⟨true, c.lit⟩ := by unfold upE; rw [if_pos ⟨h2, hh⟩]
              exact hJ89 _ ⟨by rw [this]; exact h8.s7 d2 m2, r8.fr m2 (by omega)⟩
            · have : upE c S.eq = S.eq := by unfold upE; rw [if_neg (fun h => by rw [hh] at h; cases h.2)]
              exact hJ89 _ ⟨by rw [this]; exact h8, r8⟩
          · have h2 : c.op ≠ 2 := by
              have h2 : ((c.op : Nat) : Int) ≠ 2 := h2
              omega
            have : upE c S.eq = S.eq := by unfold upE; rw [if_neg (fun h => h2 h.1)]
            exact hJ89 _ ⟨by rw [this]; exact h8, r8⟩
    · have : wh.drop p = [] := List.drop_of_length_le (by omega)
      rw [this] at hfo
      exact hJ35 _ _ ⟨S, hfo, rfl, hu⟩
end Go.Proofs.Qxb6500564aGreat
