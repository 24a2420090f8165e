/-
  The planner.
-/
import Derived.Test.Qxb6500564aGreatQzB
namespace Go.Proofs.Qxb6500564aGreat
open Go.Den Go.Zip
set_option linter.unusedVariables false
set_option linter.unusedSimpArgs false
variable {w w' u v : World} {i j k n a b p1 p2 p3 p4 p5 p6 p7 : Nat} {s x nm : ByteArray} {cs : List Cl} {sc sw : Sl} {wh : List Cp} {lo hi eq lo' hi' eq' : Bd}

structure Pn where
  kind : Nat
  col : Int
  lo : Bd
  hi : Bd
def pnC (P : Pn) : List Value := [.int .i64 (P.kind : Nat), .int .i64 P.col, .bool P.lo.has, .bool P.lo.v.st, .int .i64 P.lo.v.i, .string P.lo.v.s, .bool P.hi.has, .bool P.hi.v.st, .int .i64 P.hi.v.i, .string P.hi.v.s]
def plP (cs : List Cl) (pk : Nat) (ix : Int) (wh : List Cp) : Pn :=
  if (spQ cs (pk : Nat) wh).eq.has = true then ⟨1, (pk : Nat), (spQ cs (pk : Nat) wh).eq, (spQ cs (pk : Nat) wh).eq⟩
  else if (spQ cs (pk : Nat) wh).n > 0 then ⟨2, (pk : Nat), (spQ cs (pk : Nat) wh).lo, (spQ cs (pk : Nat) wh).hi⟩
  else if ix ≥ 0 ∧ (spQ cs ix wh).n > 0 then ⟨3, ix, (spQ cs ix wh).lo, (spQ cs ix wh).hi⟩
  else ⟨4, (pk : Nat), bdN, bdN⟩
theorem st10 {q : Nat} {vs : List Value} {P : Pn} {K : World → Prop} (h : Blk w q vs) (hl : vs.length = 10) (hk : ∀ w', Blk w' q (pnC P) → Fr q 1 w w' → K w') :
    St1 w ⟨q, 0, none⟩ (.int .i64 (P.kind : Nat)) fun w => St1 w ⟨q, 1, none⟩ (.int .i64 P.col) fun w => St1 w ⟨q, 2, none⟩ (.bool P.lo.has) fun w => St1 w ⟨q, 3, none⟩ (.bool P.lo.v.st) fun w => St1 w ⟨q, 4, none⟩ (.int .i64 P.lo.v.i) fun w => St1 w ⟨q, 5, none⟩ (.string P.lo.v.s) fun w =>
    St1 w ⟨q, 6, none⟩ (.bool P.hi.has) fun w => St1 w ⟨q, 7, none⟩ (.bool P.hi.v.st) fun w => St1 w ⟨q, 8, none⟩ (.int .i64 P.hi.v.i) fun w => St1 w ⟨q, 9, none⟩ (.string P.hi.v.s) fun w => K w := by
  match vs, hl with
  | [_, _, _, _, _, _, _, _, _, _], _ =>
    exact st1 h (by show _ < 10; omega) fun w1 h f1 _ => st1 h (by show _ < 10; omega) fun w2 h f2 _ => st1 h (by show _ < 10; omega) fun w3 h f3 _ => st1 h (by show _ < 10; omega) fun w4 h f4 _ => st1 h (by show _ < 10; omega) fun w5 h f5 _ => st1 h (by show _ < 10; omega) fun w6 h f6 _ => st1 h (by show _ < 10; omega) fun w7 h f7 _ => st1 h (by show _ < 10; omega) fun w8 h f8 _ => st1 h (by show _ < 10; omega) fun w9 h f9 _ => st1 h (by show _ < 10; omega) fun w10 h f10 _ => hk w10 h (((((((((f1.trans f2).trans f3).trans f4).trans f5).trans f6).trans f7).trans f8).trans f9).trans f10)
theorem ld10 {q : Nat} {P : Pn} {K : Int → Int → Bool → Bool → Int → ByteArray → Bool → Bool → Int → ByteArray → Prop} (h : Blk w q (pnC P)) (hk : K (P.kind : Nat) P.col P.lo.has P.lo.v.st P.lo.v.i P.lo.v.s P.hi.has P.hi.v.st P.hi.v.i P.hi.v.s) :
    LdI .i64 w ⟨q, 0, none⟩ fun a0 => LdI .i64 w ⟨q, 1, none⟩ fun a1 => LdB w ⟨q, 2, none⟩ fun a2 => LdB w ⟨q, 3, none⟩ fun a3 => LdI .i64 w ⟨q, 4, none⟩ fun a4 => LdStr w ⟨q, 5, none⟩ fun a5 => LdB w ⟨q, 6, none⟩ fun a6 => LdB w ⟨q, 7, none⟩ fun a7 => LdI .i64 w ⟨q, 8, none⟩ fun a8 => LdStr w ⟨q, 9, none⟩ fun a9 => K a0 a1 a2 a3 a4 a5 a6 a7 a8 a9 :=
  ldI h rfl (ldI h rfl (ldB h rfl (ldB h rfl (ldI h rfl (ldStr h rfl (ldB h rfl (ldB h rfl (ldI h rfl (ldStr h rfl hk)))))))))
set_option maxHeartbeats 4000000 in
theorem planOf_spec {K : Int → Int → Bool → Bool → Int → ByteArray → Bool → Bool → Int → ByteArray → World → Prop} {ix : Int} {pk : Nat} {n0 : ByteArray} (o : OS w sc (colC cs) 2) (hl : cs.length < 1000000) (ow : OS w sw (cpsC wh) 5) (hwl : wh.length < 1000000) (hop : ∀ c ∈ wh, c.op < 1000)
    (hK : ∀ w' P, P = plP cs pk ix wh → Fr 0 0 w w' → K (P.kind : Nat) P.col P.lo.has P.lo.v.st P.lo.v.i P.lo.v.s P.hi.has P.hi.v.st P.hi.v.i P.hi.v.s w') : S.query_PlanOf n0 sc (pk : Nat) ix sw w K := by
  unfold S.query_PlanOf
  refine newB fun w1 q1 f1 z1 => newB fun w2 q2 f2 z2 => ?_
  have q1 : Blk w2 w.heap.size (schC n0 sc (pk : Nat) ix) := Blk.fr q1 f2 (by omega)
  have f02 := f1.trans f2
  have out : ∀ {u : World} {P : Pn}, P = plP cs pk ix wh → Blk u w1.heap.size (pnC ⟨0, 0, bdN, bdN⟩) → Fr 0 0 w u → (St1 u ⟨w1.heap.size, 0, none⟩ (.int .i64 (P.kind : Nat)) fun w => St1 w ⟨w1.heap.size, 1, none⟩ (.int .i64 P.col) fun w => St1 w ⟨w1.heap.size, 2, none⟩ (.bool P.lo.has) fun w => St1 w ⟨w1.heap.size, 3, none⟩ (.bool P.lo.v.st) fun w => St1 w ⟨w1.heap.size, 4, none⟩ (.int .i64 P.lo.v.i) fun w => St1 w ⟨w1.heap.size, 5, none⟩ (.string P.lo.v.s) fun w =>
    St1 w ⟨w1.heap.size, 6, none⟩ (.bool P.hi.has) fun w => St1 w ⟨w1.heap.size, 7, none⟩ (.bool P.hi.v.st) fun w => St1 w ⟨w1.heap.size, 8, none⟩ (.int .i64 P.hi.v.i) fun w => St1 w ⟨w1.heap.size, 9, none⟩ (.string P.hi.v.s) fun w =>
    LdI .i64 w ⟨w1.heap.size, 0, none⟩ fun a0 => LdI .i64 w ⟨w1.heap.size, 1, none⟩ fun a1 => LdB w ⟨w1.heap.size, 2, none⟩ fun a2 => LdB w ⟨w1.heap.size, 3, none⟩ fun a3 => LdI .i64 w ⟨w1.heap.size, 4, none⟩ fun a4 => LdStr w ⟨w1.heap.size, 5, none⟩ fun a5 => LdB w ⟨w1.heap.size, 6, none⟩ fun a6 => LdB w ⟨w1.heap.size, 7, none⟩ fun a7 => LdI .i64 w ⟨w1.heap.size, 8, none⟩ fun a8 => LdStr w ⟨w1.heap.size, 9, none⟩ fun a9 => K a0 a1 a2 a3 a4 a5 a6 a7 a8 a9 w) := fun {u P} hP hb hf =>
    st10 hb rfl fun v c g => ld10 c (hK v P hP (hf.thenNew g (by omega)))
  refine ldStr q1 rfl (ldS q1 rfl (ldI q1 rfl (ldI q1 rfl (ldI q1 rfl (qspan_spec (OS.fr0 o f02) hl (OS.fr0 ow f02) hwl hop fun w3 f3 => ?_)))))
  generalize hS : spQ cs (pk : Nat) wh = S
  have hpl : plP cs pk ix wh = if S.eq.has = true then ⟨1, (pk : Nat), S.eq, S.eq⟩ else if S.n > 0 then ⟨2, (pk : Nat), S.lo, S.hi⟩ else if ix ≥ 0 ∧ (spQ cs ix wh).n > 0 then ⟨3, ix, (spQ cs ix wh).lo, (spQ cs ix wh).hi⟩ else ⟨4, (pk : Nat), bdN, bdN⟩ := by rw [← hS]; rfl
  have f03 := f02.trans f3
  refine newB fun w4 q4 f4 z4 => newB fun w5 q5 f5 z5 => newB fun w6 q6 f6 z6 => ?_
  have f36 := (f4.trans f5).trans f6
  have q1 : Blk w6 w.heap.size (schC n0 sc (pk : Nat) ix) := (q1.fr f3 (by omega)).fr f36 (by omega)
  have q2 : Blk w6 w1.heap.size (pnC ⟨0, 0, bdN, bdN⟩) := (Blk.fr q2 f3 (by omega)).fr f36 (by omega)
  have q4 : Blk w6 w3.heap.size (bdL bdN) := (Blk.fr q4 f5 (by omega)).fr f6 (by omega)
  have q5 : Blk w6 w4.heap.size (bdL bdN) := Blk.fr q5 f6 (by omega)
  have q6 : Blk w6 w5.heap.size (bdL bdN) := q6
  have hle := f03.le
  have hle2 := f3.le
  refine stB (bd := S.lo) q4 rfl fun w7 c7 g7 => stB (bd := S.hi) (q5.fr g7 (by omega)) rfl fun w8 c8 g8 => stB (bd := S.eq) ((q6.fr g7 (by omega)).fr g8 (by omega)) rfl fun w9 c9 g9 => ?_
  have q1 := ((q1.fr g7 (by omega)).fr g8 (by omega)).fr g9 (by omega)
  have q2 := ((q2.fr g7 (by omega)).fr g8 (by omega)).fr g9 (by omega)
  have c7 := (c7.fr g8 (by omega)).fr g9 (by omega)
  have c8 := c8.fr g9 (by omega)
  have f09 : Fr 0 0 w w9 := (((f03.trans f36).thenNew g7 (by omega)).thenNew g8 (by omega)).thenNew g9 (by omega)
  refine ldB c9 rfl (ifb (fun e => ?_) fun e => ?_)
  · rw [if_pos e] at hpl
    exact ldI q1 rfl (ldBd c9 (ldBd c9 (out (P := ⟨1, (pk : Nat), S.eq, S.eq⟩) hpl.symm q2 f09)))
  rw [if_neg (by rw [e]; simp)] at hpl
  refine ifd (fun e => ?_) fun e => ?_
  · rw [if_pos (by omega)] at hpl
    exact ldI q1 rfl (ldBd c7 (ldBd c8 (out (P := ⟨2, (pk : Nat), S.lo, S.hi⟩) hpl.symm q2 f09)))
  rw [if_neg (by omega)] at hpl
  refine ldI q1 rfl (join_W (fun u => ¬ (ix ≥ 0 ∧ (spQ cs ix wh).n > 0) ∧ Blk u w.heap.size (schC n0 sc (pk : Nat) ix) ∧ Blk u w1.heap.size (pnC ⟨0, 0, bdN, bdN⟩) ∧ Fr 0 0 w u) ?_ ?_)
  · rintro u ⟨hn, b1, b2, fu⟩
    rw [if_neg hn] at hpl
    exact ldI b1 rfl (out (P := ⟨4, (pk : Nat), bdN, bdN⟩) hpl.symm b2 fu)
  · intro J hJ
    refine ifd (fun hix => ?_) fun hix => hJ _ ⟨fun h => hix h.1, q1, q2, f09⟩
    refine ldStr q1 rfl (ldS q1 rfl (ldI q1 rfl (ldI q1 rfl (ldI q1 rfl (qspan_spec (OS.fr0 o f09) hl (OS.fr0 ow f09) hwl hop fun w10 f10 => ?_)))))
    generalize hS2 : spQ cs ix wh = S2 at *
    have hle9 := f09.le
    refine stB (bd := S2.lo) (c7.fr f10 (by omega)) rfl fun w11 c11 g11 => stB (bd := S2.hi) ((c8.fr f10 (by omega)).fr g11 (by omega)) rfl fun w12 c12 g12 => ?_
    have q1 := ((q1.fr f10 (by omega)).fr g11 (by omega)).fr g12 (by omega)
    have q2 := ((q2.fr f10 (by omega)).fr g11 (by omega)).fr g12 (by omega)
    have c11 := c11.fr g12 (by omega)
    have f12 : Fr 0 0 w w12 := ((f09.trans f10).thenNew g11 (by omega)).thenNew g12 (by omega)
    refine ifd (fun e2 => ?_) fun e2 => hJ _ ⟨fun h => e2 (by omega), q1, q2, f12⟩
    rw [if_pos ⟨hix, by omega⟩] at hpl
    exact ldI q1 rfl (ldBd c11 (ldBd c12 (out (P := ⟨3, ix, S2.lo, S2.hi⟩) hpl.symm q2 f12)))
end Go.Proofs.Qxb6500564aGreat
