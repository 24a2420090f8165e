/-
  The reader of sentences: SET, columns; the sentences.
-/
import Derived.Test.Qxb6500564aGreatQyG
namespace Go.Proofs.Qxb6500564aGreat
open Go.Den Go.Zip
set_option linter.unusedVariables false
set_option linter.unusedSimpArgs false
variable {w w' u v : World} {i j k n a b p st B : Nat} {s x : ByteArray} {t : Tk} {L L' : List Tk} {T T' : Smt} {y : Nat → Sl}

theorem PX.fresh (h : PX w B p st s L T y) {q : Nat} (hq : w.heap.size ≤ q) (F : FrP (fun b => B ≤ b) u v) (f : Fr q 1 v w') : FrP (fun b => B ≤ b) u w' :=
  F.trans' (FrP.of (P := fun b => b = q) f fun b h1 h2 => by omega) fun b hb => .inl (by have := h.pb.lt; have := h.bp; omega)
set_option maxHeartbeats 2000000 in
theorem sets_loop {K : World → Prop} {m0 : Bool} {L0 : List Tk} {R : List Cp × List Tk} (h : PX w B p st s L0 { T with sets := [] } y) (hr0 : RdL sttP sttL kCOM R FU m0 [] L0)
    (hK : ∀ w' y', PX w' B p st s R.2 { T with sets := R.1 } y' → FrP (fun b => B ≤ b) w w' → K w') :
    LoopP (σ := Bool × Unit) (fun st3 w next4 =>
    if st3.1 = true then
      New w (.cells #[.string ⟨#[]⟩, .int .i64 0, .bool false, .int .i64 0, .string ⟨#[]⟩] 233) fun p5 w =>
      St1 w ⟨p5, 0, none⟩ (.string ⟨#[]⟩) fun w =>
      St1 w ⟨p5, 1, none⟩ (.int .i64 2) fun w =>
      St1 w ⟨p5, 2, none⟩ (.bool false) fun w =>
      St1 w ⟨p5, 3, none⟩ (.int .i64 0) fun w =>
      St1 w ⟨p5, 4, none⟩ (.string ⟨#[]⟩) fun w =>
      S.query_parser_name p w (fun r6 w =>
      St1 w ⟨p5, 0, none⟩ (.string r6) fun w =>
      S.query_parser_want p (⟨#[61]⟩ : ByteArray) w (fun w =>
      S.query_parser_lit p w (fun IsStr_7 I_8 S_9 w =>
      St1 w ⟨p5, 2, none⟩ (.bool IsStr_7) fun w =>
      St1 w ⟨p5, 3, none⟩ (.int .i64 I_8) fun w =>
      St1 w ⟨p5, 4, none⟩ (.string S_9) fun w =>
      Drew w fun w =>
      Hold w ⟨st, 7, none⟩ 1 fun R10 =>
      LdS w ⟨st, 7, none⟩ fun Sets_11 =>
      LdStr w ⟨p5, 0, none⟩ fun Col_12 =>
      LdI .i64 w ⟨p5, 1, none⟩ fun Op_13 =>
      LdB w ⟨p5, 2, none⟩ fun Lit_IsStr_14 =>
      LdI .i64 w ⟨p5, 3, none⟩ fun Lit_I_15 =>
      LdStr w ⟨p5, 4, none⟩ fun Lit_S_16 =>
      New w (.cells #[.string Col_12, .int .i64 Op_13, .bool Lit_IsStr_14, .int .i64 Lit_I_15, .string Lit_S_16] 233) fun p17 w =>
      After R10 w <|
      AppS 233 [.string ⟨#[]⟩, .int .i64 0, .bool false, .int .i64 0, .string ⟨#[]⟩] 56 5 w Sets_11 ⟨some ⟨p17, 0, none⟩, 1, 1⟩ fun l18 w =>
      St1 w ⟨st, 7, none⟩ (.slice l18.a l18.l l18.c) fun w =>
      S.query_parser_eat p (⟨#[44]⟩ : ByteArray) w (fun r19 w =>
      next4 (r19, ()) w))))
    else
      K w) (m0, ()) w := by
  refine loopN (fun m sv u => ∃ (more : Bool) (A : List Cp) (L' : List Tk) (y' : Nat → Sl), sv = (more, ()) ∧ PX u B p st s L' { T with sets := A } y' ∧ RdL sttP sttL kCOM R m more A L' ∧ FrP (fun b => B ≤ b) w u) FU
    ⟨_, [], _, y, rfl, h, hr0, FrP.refl _ _⟩ ?_
  rintro m _ u ⟨more, A, L', y', rfl, hx, hr, Fu⟩ Q hQ
  dsimp only
  refine ifb (fun hm => ?_) fun hm => ?_
  · subst hm
    obtain ⟨hm0, hA, hr⟩ := hr.next (hx.pb.len hx.sm).1 len_stt
    have hq := hx.apart (Nat.le_refl u.heap.size)
    refine newB fun u1 q1 g1 z1 => ?_
    refine st1 q1 (by show _ < 5; omega) fun u2 q2 g2 z2 => st1 q2 (by show _ < 5; omega) fun u3 q3 g3 z3 => st1 q3 (by show _ < 5; omega) fun u4 q4 g4 z4 => st1 q4 (by show _ < 5; omega) fun u5 q5 g5 z5 => st1 q5 (by show _ < 5; omega) fun u6 q6 g6 z6 => ?_
    have q6 : Blk u6 u.heap.size (cpC ⟨⟨#[]⟩, 2, v0⟩) := q6
    have g16 : Fr 0 0 u u6 := g1.thenNew ((((g2.trans g3).trans g4).trans g5).trans g6) (Nat.le_refl _)
    have x6 := hx.fr0 g16
    refine name_spec x6.pb x6.sm fun u7 b7 g7 => ?_
    have x7 := x6.to b7 g7
    have q7 := q6.fr g7 (by have := hq.1; omega)
    refine st1 q7 (by show _ < 5; omega) fun u8 q8 g8 z8 => ?_
    have q8 : Blk u8 u.heap.size (cpC ⟨nmP L', 2, v0⟩) := q8
    have x8 := x7.ap hq g8
    have f8 := hx.fresh (Nat.le_refl _) ((Fu.trans (FrP.of0 g16)).trans (x6.b1 g7)) g8
    refine want_spec x8.pb x8.sm fun u9 b9 g9 => ?_
    have x9 := x8.to b9 g9
    have q9 := q8.fr g9 (by have := hq.1; omega)
    refine lit_spec x9.pb x9.sm fun v1 b1 g1 => ?_
    have xv1 := x9.to b1 g1
    have qv1 := q9.fr g1 (by have := hq.1; omega)
    refine st1 qv1 (by show _ < 5; omega) fun v2 r2 k2 t2 => st1 r2 (by show _ < 5; omega) fun v3 r3 k3 t3 => st1 r3 (by show _ < 5; omega) fun v4 r4 k4 t4 => ?_
    have r4 : Blk v4 u.heap.size (cpC (sttP L')) := r4
    have k24 := (k2.trans k3).trans k4
    have xv4 := (xv1.ap hq k24).dr
    have Fv4 : FrP (fun b => B ≤ b) w v4.drew := (hx.fresh (Nat.le_refl _) ((f8.trans (x8.b1 g9)).trans (x9.b1 g1)) k24).drew
    have r4 := r4.drew
    refine drew_ (hold_ (ldS xv4.blk rfl (ldStr r4 rfl (ldI r4 rfl (ldB r4 rfl (ldI r4 rfl (ldStr r4 rfl (newB fun v5 r5 k5 t5 => ?_))))))))
    have xv5 := xv4.fr0 k5
    have r5 : Blk v5 v4.drew.heap.size (cpC (sttP L')) := r5
    refine ⟨holdS xv4.blk xv5.blk, ?_⟩
    have hln : A.length = (y' 3).l := by
      have e : (cpsC A).length = (y' 3).l * 5 := (xv5.os 3 (by omega)).len
      rw [cpsC_len] at e; omega
    have hA : A.length < 300 := hA
    refine xv5.app (i := 3) (S' := { T with sets := A ++ [sttP L'] }) (by omega) r5 rfl rfl rfl (by rw [← hln]; omega) ⟨cpsC_snoc A (sttP L'), fun j hj hne => ?_⟩ (fun s' => rfl) fun v6 s6 xv6 l6 F6 => ?_
    · rcases j with _ | _ | _ | _ | _ | j
      · rfl
      · rfl
      · rfl
      · exact absurd rfl hne
      · rfl
      · omega
    refine eat_spec xv6.pb xv6.sm fun v7 b7 k7 => ?_
    exact hQ (m - 1) _ _ (by omega) ⟨_, _, _, _, rfl, xv6.to b7 k7, hr, ((Fv4.trans (FrP.of0 k5)).trans (xv5.base (by omega) F6)).trans (xv6.b1 k7)⟩
  · subst hm
    obtain ⟨rfl, rfl⟩ := hr.out
    exact hK u y' hx Fu
theorem pkS_snoc (l : List (Cl × Bool)) (c : Cl × Bool) (i q : Nat) : pkS (l ++ [c]) i q = if c.2 then i + l.length else pkS l i q := by
  induction l generalizing i q with
  | nil => rfl
  | cons d l ih =>
    show pkS (l ++ [c]) (i + 1) _ = if c.2 then i + (l.length + 1) else pkS l (i + 1) _
    rw [ih]
    cases c.2
    · rfl
    · show i + 1 + l.length = i + (l.length + 1); omega
theorem keys_snoc (l : List (Cl × Bool)) (c : Cl × Bool) : keys (l ++ [c]) = keys l + if c.2 then 1 else 0 := by
  unfold keys
  rw [List.filter_append, List.length_append]
  cases e : c.2
  · rw [List.filter_cons_of_neg (by rw [e]; simp)]; rfl
  · rw [List.filter_cons_of_pos (by rw [e])]; rfl
def cdT (T : Smt) (A : List (Cl × Bool)) : Smt := { T with defs := A.map (·.1), pk := pkS A 0 0 }
set_option maxHeartbeats 4000000 in
theorem cols_loop {K : Int → World → Prop} {L0 : List Tk} {R : List (Cl × Bool) × List Tk} (h : PX w B p st s L0 (cdT T []) y) (hr0 : RdL colP colL kCOM R FU true [] L0)
    (hK : ∀ w' y', PX w' B p st s R.2 (cdT T R.1) y' → FrP (fun b => B ≤ b) w w' → K ((keys R.1 : Nat) : Int) w') :
    LoopP (σ := Int × Bool × Unit) (fun st11 w next12 =>
      if st11.2.1 = true then
        New w (.cells #[.string ⟨#[]⟩, .bool false] 149) fun p13 w =>
        St1 w ⟨p13, 0, none⟩ (.string ⟨#[]⟩) fun w =>
        St1 w ⟨p13, 1, none⟩ (.bool false) fun w =>
        S.query_parser_name p w (fun r14 w =>
        St1 w ⟨p13, 0, none⟩ (.string r14) fun w =>
        S.query_parser_eat p (⟨#[84, 69, 88, 84]⟩ : ByteArray) w (fun r15 w =>
        St1 w ⟨p13, 1, none⟩ (.bool r15) fun w =>
        LdB w ⟨p13, 1, none⟩ fun IsStr_16 =>
        Join (fun (w : World) =>
          S.query_parser_eat p (⟨#[75, 69, 89]⟩ : ByteArray) w (fun r17 w =>
          Join (fun (keys_18 : Int) (w : World) =>
            Drew w fun w =>
            Hold w ⟨st, 2, none⟩ 1 fun R19 =>
            LdS w ⟨st, 2, none⟩ fun Defs_20 =>
            LdStr w ⟨p13, 0, none⟩ fun Name_21 =>
            LdB w ⟨p13, 1, none⟩ fun IsStr_22 =>
            New w (.cells #[.string Name_21, .bool IsStr_22] 149) fun p23 w =>
            After R19 w <|
            AppS 149 [.string ⟨#[]⟩, .bool false] 24 2 w Defs_20 ⟨some ⟨p23, 0, none⟩, 1, 1⟩ fun l24 w =>
            St1 w ⟨st, 2, none⟩ (.slice l24.a l24.l l24.c) fun w =>
            S.query_parser_eat p (⟨#[44]⟩ : ByteArray) w (fun r25 w =>
            next12 (keys_18, r25, ()) w)) fun J26 =>
          if r17 = true then
            Let (W (st11.1 + 1)) fun keys_27 =>
            LdS w ⟨st, 2, none⟩ fun Defs_28 =>
            St1 w ⟨st, 3, none⟩ (.int .i64 (Defs_28.l : Int)) fun w =>
            J26 keys_27 w
          else
            J26 st11.1 w)) fun J29 =>
        if (!IsStr_16) = true then
          S.query_parser_want p (⟨#[73, 78, 84]⟩ : ByteArray) w (fun w =>
          J29 w)
        else
          J29 w))
      else
        K st11.1 w) (0, true, ()) w := by
  refine loopN (fun m sv u => ∃ (more : Bool) (A : List (Cl × Bool)) (L' : List Tk) (y' : Nat → Sl), sv = (((keys A : Nat) : Int), more, ()) ∧ PX u B p st s L' (cdT T A) y' ∧ RdL colP colL kCOM R m more A L' ∧ FrP (fun b => B ≤ b) w u) FU
    ⟨true, [], _, y, rfl, h, hr0, FrP.refl _ _⟩ ?_
  rintro m _ u ⟨more, A, L', y', rfl, hx, hr, Fu⟩ Q hQ
  dsimp only
  refine ifb (fun hm => ?_) fun hm => ?_
  · subst hm
    obtain ⟨hm0, hA, hr⟩ := hr.next (hx.pb.len hx.sm).1 len_col
    have hA : A.length < 300 := hA
    have hkA : keys A ≤ A.length := List.length_filter_le ..
    have hq := hx.apart (Nat.le_refl u.heap.size)
    refine newB fun u1 q1 g1 z1 => ?_
    refine st1 q1 (by show _ < 2; omega) fun u2 q2 g2 z2 => st1 q2 (by show _ < 2; omega) fun u6 q6 g6 z6 => ?_
    have q6 : Blk u6 u.heap.size (colC1 ⟨⟨#[]⟩, false⟩) := q6
    have g16 : Fr 0 0 u u6 := g1.thenNew (g2.trans g6) (Nat.le_refl _)
    have x6 := hx.fr0 g16
    refine name_spec x6.pb x6.sm fun u7 b7 g7 => ?_
    have x7 := x6.to b7 g7
    have q7 := q6.fr g7 (by have := hq.1; omega)
    refine st1 q7 (by show _ < 2; omega) fun u8 q8 g8 z8 => ?_
    have x8 := x7.ap hq g8
    have f8 := hx.fresh (Nat.le_refl _) ((Fu.trans (FrP.of0 g16)).trans (x6.b1 g7)) g8
    refine eat_spec x8.pb x8.sm fun u9 b9 g9 => ?_
    have x9 := x8.to b9 g9
    have q9 := q8.fr g9 (by have := hq.1; omega)
    refine st1 q9 (by show _ < 2; omega) fun u10 q10 g10 z10 => ?_
    have q10 : Blk u10 u.heap.size (colC1 (colP L').1) := q10
    have x10 := x9.ap hq g10
    have f10 := hx.fresh (Nat.le_refl _) (f8.trans (x8.b1 g9)) g10
    refine ldB q10 rfl (join_W (fun v => PX v B p st s (if isP ⟨#[84, 69, 88, 84]⟩ (nmL L') then (nmL L').tail else wnt ⟨#[73, 78, 84]⟩ (nmL L')) (cdT T A) y' ∧ Blk v u.heap.size (colC1 (colP L').1) ∧ FrP (fun b => B ≤ b) w v) ?_ ?_)
    · rintro v ⟨xv, qv, Fv⟩
      refine eat_spec xv.pb xv.sm fun v1 b1 k1 => ?_
      have xv1 := xv.to b1 k1
      have qv1 := qv.fr k1 (by have := hq.1; omega)
      have Fv1 := Fv.trans (xv.b1 k1)
      have hln : A.length = (y' 0).l := by
        have e : (colC (A.map (·.1))).length = (y' 0).l * 2 := (xv1.os 0 (by omega)).len
        rw [colC_len, List.length_map] at e; omega
      refine join_P (fun kx v2 => kx = ((keys (A ++ [colP L']) : Nat) : Int) ∧ PX v2 B p st s (colL L') { T with defs := A.map (·.1), pk := pkS (A ++ [colP L']) 0 0 } y' ∧ Blk v2 u.heap.size (colC1 (colP L').1) ∧ FrP (fun b => B ≤ b) w v2) ?_ ?_
      · rintro _ v2 ⟨rfl, xv2, qv2, Fv2⟩
        have xv4 := xv2.dr
        have r4 := qv2.drew
        refine drew_ (hold_ (ldS xv4.blk rfl (ldStr r4 rfl (ldB r4 rfl (newB fun v5 r5 k5 t5 => ?_)))))
        have xv5 := xv4.fr0 k5
        have r5 : Blk v5 v2.drew.heap.size (colC1 (colP L').1) := r5
        refine ⟨holdS xv4.blk xv5.blk, ?_⟩
        refine xv5.app (i := 0) (S' := cdT T (A ++ [colP L'])) (by omega) r5 rfl rfl rfl (by rw [← hln]; omega) ⟨?_, fun j hj hne => ?_⟩ (fun s' => rfl) fun v6 s6 xv6 l6 F6 => ?_
        · show colC ((A ++ [colP L']).map (·.1)) = colC (A.map (·.1)) ++ _
          rw [List.map_append]
          exact colC_snoc _ _
        · rcases j with _ | _ | _ | _ | _ | j
          · exact absurd rfl hne
          · rfl
          · rfl
          · rfl
          · rfl
          · omega
        refine eat_spec xv6.pb xv6.sm fun v7 b7 k7 => ?_
        exact hQ (m - 1) _ _ (by omega) ⟨_, _, _, _, rfl, xv6.to b7 k7, hr, (((Fv2.drew.trans (FrP.of0 k5)).trans (xv5.base (by omega) F6)).trans (xv6.b1 k7))⟩
      · intro J hJ
        have ek := keys_snoc A (colP L')
        have ep := pkS_snoc A (colP L') 0 0
        refine ifb (fun hk => ?_) fun hk => ?_
        · have hk2 : (colP L').2 = true := hk
          rw [hk2, if_pos rfl] at ek ep
          refine let_ ?_
          rw [W_succ (by omega)]
          refine ldS xv1.blk rfl (st1 xv1.blk (by show _ < 13; omega) fun v2 b2 k2 t2 => ?_)
          refine hJ _ _ ⟨by rw [ek], ?_, qv1.fr k2 (by have := hq.2.1; omega), Fv1.trans (xv1.b2 k2)⟩
          refine xv1.set ?_ k2 fun i => by rcases i with _ | _ | _ | _ | _ <;> rfl
          rw [ep, Nat.zero_add, hln]
          exact b2
        · have hk2 : (colP L').2 = false := hk
          rw [hk2, if_neg (by simp)] at ek ep
          refine hJ _ _ ⟨by rw [ek]; rfl, ?_, qv1, Fv1⟩
          rw [ep]
          exact xv1
    · intro J hJ
      refine ifn (fun hs => ?_) fun hs => ?_
      · have hs : isP ⟨#[84, 69, 88, 84]⟩ (nmL L') = false := hs
        have e1 : aft ⟨#[84, 69, 88, 84]⟩ (nmL L') = nmL L' := by unfold aft; rw [hs]; rfl
        rw [e1] at x10
        refine want_spec x10.pb x10.sm fun v1 b1 k1 => ?_
        refine hJ v1 ⟨?_, q10.fr k1 (by have := hq.1; omega), f10.trans (x10.b1 k1)⟩
        rw [hs, if_neg (by simp)]
        exact x10.to b1 k1
      · have hs : isP ⟨#[84, 69, 88, 84]⟩ (nmL L') = true := hs
        have e1 : aft ⟨#[84, 69, 88, 84]⟩ (nmL L') = (nmL L').tail := by unfold aft; rw [hs]; rfl
        rw [e1] at x10
        refine hJ u10 ⟨?_, q10, f10⟩
        rw [hs, if_pos rfl]
        exact x10
  · subst hm
    obtain ⟨rfl, rfl⟩ := hr.out
    exact hK u y' hx Fu
end Go.Proofs.Qxb6500564aGreat
