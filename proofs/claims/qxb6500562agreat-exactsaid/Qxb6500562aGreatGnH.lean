/-
  The code generator: functions.
-/
import Derived.Test.Qxb6500562aGreatGnM
import Derived.Test.Qxb6500562aGreatS3
namespace Go.Proofs.Qxb6500562aGreat
open Go.Den Go.Zip
set_option linter.unusedVariables false
set_option linter.unusedSimpArgs false
variable {w w' : World} {g : Nat} {P : Prg} {O O' : Nat → Prop} {hs en : List Int} {ck m : Nat} {L : List Sym} {x : Int}

set_option maxHeartbeats 1000000 in
theorem gfun_spec {i : Nat} {K : World → Prop} (pt : PT P.ns P.st P.main) (hl200 : P.ns.length ≤ 200) (q : GM w g ck m P L [] en O) (hi : i < P.st.fs.length) (hen : en.length = P.st.fs.length) (hc : L.length + (sF P.ns P.st.ty P.st.ref (fnAt P.st.fs (i : Int)) L.length).length ≤ 60000)
    (hK : ∀ w' O', GM w' g ck m P (L ++ sF P.ns P.st.ty P.st.ref (fnAt P.st.fs (i : Int)) L.length) [] (en.set i (L.length : Nat)) O' → Gw O w O' w' → K w') : S.gen_Engine_function g (i : Nat) w K := by
  unfold S.gen_Engine_function
  obtain ⟨sa, sb, sc', sd, se⟩ := pt.seg hi
  obtain ⟨fb1, fb2, fb3⟩ := fn_blk pt.good (by omega) sd sa sc' se
  have hfl : P.st.fs.length ≤ 10000 := by
    have := inc_len pt.up (lo := 0) (hi := P.ns.length) (fun y hy => by
      obtain ⟨f, hf, rfl⟩ := List.mem_map.1 hy
      exact ⟨(pt.nd f hf).1, (pt.nd f hf).2.1⟩) (by omega)
    rw [List.length_map] at this
    omega
  unfold sF at hc hK
  generalize hF : fnAt P.st.fs (i : Int) = F at *
  have qO := q
  obtain ⟨f, Z, b1, b2, b3, b4, e, rfl⟩ := q
  refine ldS e.x.rc (by rw [tab_get (by omega), e.t.t4]) (ix rfl (by omega) (by dsimp only; omega) ?_)
  rw [Nat.zero_add, Int.toNat_natCast]
  have cell : ∀ k, k < 7 → (P.st.fs.flatMap fnV)[i * 7 + k]? = (fnV F)[k]? := fun k hk => by rw [← hF]; exact fnCell hi hk
  refine ldI e.t.n4 (m := F.node) ((cell 0 (by omega)).trans rfl) ?_
  refine ldI e.t.n4 (m := F.ret) ((cell 1 (by omega)).trans rfl) ?_
  refine ldI e.t.n4 (m := F.pi) ((cell 2 (by omega)).trans rfl) ?_
  refine ldI e.t.n4 (m := F.pr) ((cell 3 (by omega)).trans rfl) ?_
  refine ldI e.t.n4 (m := F.li) ((cell 4 (by omega)).trans rfl) ?_
  refine ldI e.t.n4 (m := F.lr) ((cell 5 (by omega)).trans rfl) ?_
  refine ldStr e.t.n4 (m := F.name) ((cell 6 (by omega)).trans rfl) ?_
  refine newB fun u1 c1 f1 t1 => ?_
  refine Go.Den.st1 c1 (by simp) fun u2 c2 f2 t2 => ?_
  refine Go.Den.st1 c2 (by simp) fun u3 c3 f3 t3 => ?_
  refine Go.Den.st1 c3 (by simp) fun u4 c4 f4 t4 => ?_
  refine Go.Den.st1 c4 (by simp) fun u5 c5 f5 t5 => ?_
  refine Go.Den.st1 c5 (by simp) fun u6 c6 f6 t6 => ?_
  refine Go.Den.st1 c6 (by simp) fun u7 c7 f7 t7 => ?_
  refine Go.Den.st1 c7 (by simp) fun u8 c8 f8 t8 => ?_
  have FF : Fr 0 0 w u8 := (f1.any _ 1).trans ((((((f2.trans f3).trans f4).trans f5).trans f6).trans f7).trans f8) |>.fresh (Nat.le_refl _) 0 0
  refine drew_ ?_
  have q8 : GM u8.drew g ck m P L [] en (gO g Z) := GQ.drew (qO.fr0 FF)
  have c8 := c8.drew
  generalize hp : w.heap.size = p at *
  have hpo : ¬ gO g Z p := fun h => by have := qO.lt h; omega
  clear c1 c2 c3 c4 c5 c6 c7
  have FF' : Gw (gO g Z) w (gO g Z) u8.drew := (Gw.new FF).drew
  obtain ⟨f', Z', b1', b2', b3', b4', e8, hO⟩ := q8
  refine e8.ldJ (by omega) (by omega) (by omega) ?_
  refine here_spec ⟨_, _, _, _, _, _, e8, rfl⟩ ⟨held e8.x.rc e8.x.rc, ?_⟩
  have o15 : OS u8.drew (Z' 15) (ints en) 1 := e8.x.os 15 (by omega) (by omega)
  rw [List.length_map]
  refine osSt o15 (by omega) (by omega) fun u9 o9 F9 => drew_ ?_
  obtain ⟨e9, G9⟩ := e8.inpl (j := 15) (by omega) (by omega) o9 F9
  rw [vG15, Int.toNat_natCast] at e9
  obtain ⟨c9, hp9⟩ := keepB c8 (by rw [← hO]; exact hpo) G9
  have q9 : GM u9.drew g ck m P L [] (en.set i (L.length : Nat)) (gO g Z') := GQ.drew ⟨_, _, _, _, _, _, e9, rfl⟩
  have c9 := c9.drew
  have G09 : Gw (gO g Z) w (gO g Z') u9.drew := by
    rw [← hO] at G9 ⊢
    exact FF'.trans G9.drew
  obtain ⟨f9, Z9, d1, d2, d3, d4, e9, hO9⟩ := q9
  refine e9.ldJ (by omega) (by omega) (by omega) ?_
  refine ldI c9 (m := F.pi) rfl (ldI c9 (m := F.pr) rfl (ldI c9 (m := F.li) rfl (ldI c9 (m := F.lr) rfl ?_)))
  refine newB fun u10 c10 f10 t10 => ?_
  have e10 := e9.fr0 f10
  refine ⟨held e9.x.rc e10.x.rc, ?_⟩
  have hb : Blk u10 u9.drew.heap.size (byts [25, b8 F.pi, b8 F.pr, b8 F.li, b8 F.lr]) := by
    rw [b8_cast, b8_cast, b8_cast, b8_cast] at c10
    exact c10
  have hlh : (headS F).length = 5 := rfl
  rw [List.length_append, List.length_append, hlh] at hc
  refine e10.emit (l := [25, b8 F.pi, b8 F.pr, b8 F.li, b8 F.lr]) (.inl rfl) hb (by simp) (by rw [List.length_map]; simp; omega) fun s11 u11 e11 G11 => ?_
  have es : fset Z9 12 s11 12 = s11 := fset_eq _ _ _
  have st := e11.stC (K := fun w => LdI .i64 w ⟨p, 0, none⟩ fun Node_25 =>
    S.gen_Engine_node g Node_25 w (fun Kind_26 A_27 B_28 C_29 Next_30 Val_31 Pos_32 Name_33 w =>
    New w (.cells #[.int .i64 0, .int .i64 0, .int .i64 0, .int .i64 0, .int .i64 0, .int .i64 0, .int .i64 0, .string ⟨#[]⟩] 150) fun p34 w =>
    St1 w ⟨p34, 0, none⟩ (.int .i64 Kind_26) fun w => St1 w ⟨p34, 1, none⟩ (.int .i64 A_27) fun w => St1 w ⟨p34, 2, none⟩ (.int .i64 B_28) fun w => St1 w ⟨p34, 3, none⟩ (.int .i64 C_29) fun w =>
    St1 w ⟨p34, 4, none⟩ (.int .i64 Next_30) fun w => St1 w ⟨p34, 5, none⟩ (.int .i64 Val_31) fun w => St1 w ⟨p34, 6, none⟩ (.int .i64 Pos_32) fun w => St1 w ⟨p34, 7, none⟩ (.string Name_33) fun w =>
    LdI .i64 w ⟨p34, 2, none⟩ fun B_35 =>
    S.gen_Engine_block g B_35 w (fun w =>
    LdI .i64 w ⟨p, 1, none⟩ fun Ret_36 =>
    Join (fun (w : World) => LdI .i64 w ⟨p, 1, none⟩ fun Ret_37 => S.gen_class Ret_37 26 27 w (fun r38 w => S.gen_Engine_op g r38 w (fun w => K w))) fun J39 =>
    if (decide (Ret_36 ≥ 2)) = true then S.gen_Engine_op g 7 w (fun w => J39 w) else S.gen_Engine_num g 0 w (fun w => J39 w)))) fun u12 e12 G12 => ?_
  · rw [es] at st
    exact st
  have q12 : GM u12 g ck m P (L ++ headS F) [] (en.set i (L.length : Nat)) (gO g (fset Z9 12 s11)) := by
    unfold GM headS
    rw [(em_by L _).1, (em_by L _).2]
    exact ⟨_, _, _, _, _, _, e12, rfl⟩
  have G9_12 : Gw (gO g Z') u9.drew (gO g (fset Z9 12 s11)) u12 := by
    rw [hO9]
    exact ((Gw.new f10).trans G11).trans G12
  obtain ⟨c12, hp12⟩ := keepB c9 hp9 G9_12
  refine ldI c12 (m := F.node) rfl ?_
  refine GQ.node q12 (by omega) sd fun u13 q13 F13 => ?_
  refine lay8 (n := ndAt P.ns F.node) fun u14 p34 b14 hp14 F14 => ?_
  have q14 : GM u14 g ck m P (L ++ headS F) [] (en.set i (L.length : Nat)) (gO g (fset Z9 12 s11)) := GM.fr0 q13 F14
  obtain ⟨c14, hp14'⟩ := keepB c12 hp12 ((Gw.new F13).trans (Gw.new F14))
  have lL : (L ++ headS F).length = L.length + 5 := by rw [List.length_append, hlh]
  refine ldI b14 (m := (ndAt P.ns F.node).b) rfl ?_
  refine gblock_spec (n := P.ns.length) pt.good q14 ⟨by omega, by omega, fb3⟩ (by omega) (by rw [lL]; unfold cB cS; omega) (by simp only [List.length_nil]; omega) fun u15 O15 q15 G15 => ?_
  rw [lL] at q15
  obtain ⟨c15, hp15⟩ := keepB c14 hp14' G15
  have lL2 : (L ++ headS F ++ cB P P.ns.length (ndAt P.ns F.node).b (L.length + 5)).length = L.length + 5 + (blkS P.ns (sS P.ns P.st.ty P.st.ref P.ns.length) (ndAt P.ns F.node).b (L.length + 5)).length := by rw [List.length_append, lL]
  refine ldI c15 (m := F.ret) rfl ?_
  have Gall : Gw (gO g Z) w O15 u15 := ((G09.trans G9_12).trans ((Gw.new F13).trans (Gw.new F14))).trans G15
  have tl : (tailS F.ret).length = (if 2 ≤ F.ret then 1 else 9) + 1 := by
    unfold tailS
    rw [List.length_append, byS_len]
    split
    · rfl
    · rw [numS_len]; rfl
  refine join_W (fun u => ∃ O', GM u g ck m P (L ++ headS F ++ cB P P.ns.length (ndAt P.ns F.node).b (L.length + 5) ++ (if 2 ≤ F.ret then byS [7] else numS 0)) [] (en.set i (L.length : Nat)) O' ∧ Gw (gO g Z) w O' u ∧ Blk u p [.int .i64 F.node, .int .i64 F.ret, .int .i64 F.pi, .int .i64 F.pr, .int .i64 F.li, .int .i64 F.lr, .string F.name]) ?_ ?_
  · rintro u ⟨O16, q16, G16, c16⟩
    refine ldI c16 (m := F.ret) rfl (gclass_spec (i := 26) (r := 27) (gop q16 (cls_lt (by omega) (by omega)) ?_ fun u17 O17 q17 G17 => hK u17 O17 ?_ (G16.trans G17)))
    · rw [List.length_append, lL2]
      split
      · rename_i h; rw [if_pos h] at tl; rw [byS_len]; simp only [List.length_cons, List.length_nil]; omega
      · rename_i h; rw [if_neg h] at tl; rw [numS_len]; omega
    · unfold tailS
      simp only [List.append_assoc] at q17 ⊢
      exact q17
  · intro J hJ
    by_cases h2 : 2 ≤ F.ret
    · rw [if_pos (by simpa using h2)]
      rw [if_pos h2] at tl
      refine gop (o := 7) q15 (by omega) (by rw [lL2]; omega) fun u16 O16 q16 G16 => hJ u16 ⟨O16, ?_, Gall.trans G16, (keepB c15 hp15 G16).1⟩
      rw [if_pos h2]; exact q16
    · rw [if_neg (by simpa using h2)]
      rw [if_neg h2] at tl
      refine gnum q15 (by rw [lL2]; omega) fun u16 O16 q16 G16 => hJ u16 ⟨O16, ?_, Gall.trans G16, (keepB c15 hp15 G16).1⟩
      rw [if_neg h2]; exact q16
end Go.Proofs.Qxb6500562aGreat
