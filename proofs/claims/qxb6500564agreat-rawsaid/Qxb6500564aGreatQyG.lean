/-
  The reader of sentences: WHERE, and the other lists.
-/
import Derived.Test.Qxb6500564aGreatQyF
namespace Go.Proofs.Qxb6500564aGreat
open Go.Den Go.Zip
set_option linter.unusedVariables false
set_option linter.unusedSimpArgs false
variable {w w' u v : World} {i j k n a b p st B : Nat} {s x : ByteArray} {t : Tk} {L L' : List Tk} {T T' : Smt} {y : Nat → Sl}

theorem cpsC_len (l : List Cp) : (cpsC l).length = l.length * 5 := flat_length (f := cpC) (c := 5) (fun _ => rfl) l
theorem strC_len (l : List ByteArray) : (strC l).length = l.length * 1 := flat_length (f := fun x : ByteArray => [Value.string x]) (c := 1) (fun _ => rfl) l
theorem cpsC_snoc (l : List Cp) (c : Cp) : cpsC (l ++ [c]) = cpsC l ++ cpC c := by unfold cpsC; rw [List.flatMap_append, List.flatMap_cons, List.flatMap_nil, List.append_nil]
theorem strC_snoc (l : List ByteArray) (c : ByteArray) : strC (l ++ [c]) = strC l ++ [.string c] := by unfold strC; rw [List.flatMap_append, List.flatMap_cons, List.flatMap_nil, List.append_nil]
theorem PX.hdt (h : PX w B p st s L T y) {K : Int → ByteArray → Int → Int → Prop} (hK : ∀ e, K ((hd L).kind : Nat) (hd L).text (hd L).val e) : LdI .i64 w ⟨p, 1, none⟩ fun a => LdStr w ⟨p, 2, none⟩ fun b => LdI .i64 w ⟨p, 3, none⟩ fun c => LdI .i64 w ⟨p, 4, none⟩ fun d => K a b c d := by
  obtain ⟨t, e, c, h1, rfl⟩ := h.pb
  exact ldI c rfl (ldStr c rfl (ldI c rfl (ldI c rfl (hK _))))
theorem PX.ap {q : Nat} (h : PX w B p st s L T y) (hq : Apart y p st q) (f : Fr q 1 w w') : PX w' B p st s L T y :=
  ⟨h.sm, h.pb.fr f (by have := hq.1; omega), h.blk.fr f (by have := hq.2.1; omega), fun i hi => (h.os i hi).frp (FrP.of (P := fun b => b = q) f fun b h1 h2 => by omega) fun b hb e => hq.2.2 i hi (e ▸ hb), h.dj, h.no, h.ne, h.bp, h.bs⟩
set_option maxHeartbeats 2000000 in
theorem where_spec {K : World → Prop} (h : PX w B p st s L T y) (hw : T.wh = []) (hK : ∀ w' y', PX w' B p st s (whP L).2 { T with wh := (whP L).1 } y' → FrP (fun b => B ≤ b) w w' → K w') : S.query_parser_where p st w K := by
  unfold S.query_parser_where
  refine eat_spec h.pb h.sm fun w1 b1 f1 => ?_
  have h1 := h.to b1 f1
  have F1 := h.b1 f1
  have h10 : PX w1 B p st s (aft ⟨#[87, 72, 69, 82, 69]⟩ L) { T with wh := [] } y := by rw [← hw]; exact h1
  have hr0 : RdL cmpP cmpL kAND (whP L) FU (isP ⟨#[87, 72, 69, 82, 69]⟩ L) [] (aft ⟨#[87, 72, 69, 82, 69]⟩ L) := by
    have hl := (h1.pb.len h1.sm).2
    unfold whP
    unfold aft at hl ⊢
    cases e : isP ⟨#[87, 72, 69, 82, 69]⟩ L with
    | true =>
      rw [e, if_pos rfl] at hl
      rw [if_pos rfl, if_pos rfl]
      exact RdL.start hl
    | false => exact ⟨rfl, rfl⟩
  refine loopN (fun m sv u => ∃ (more : Bool) (A : List Cp) (L' : List Tk) (y' : Nat → Sl), sv = (more, ()) ∧ PX u B p st s L' { T with wh := A } y' ∧ RdL cmpP cmpL kAND (whP L) m more A L' ∧ FrP (fun b => B ≤ b) w u) FU
    ⟨_, [], _, y, rfl, h10, hr0, F1⟩ ?_
  rintro m _ u ⟨more, A, L', y', rfl, hx, hr, Fu⟩ Q hQ
  dsimp only
  refine ifb (fun hm => ?_) fun hm => ?_
  · subst hm
    obtain ⟨hm0, hA, hr⟩ := hr.next (hx.pb.len hx.sm).1 len_cmp
    have hq := hx.apart (Nat.le_refl u.heap.size)
    refine newB fun u1 q1 g1 z1 => ?_
    refine st1 q1 (by show _ < 5; omega) fun u2 q2 g2 z2 => st1 q2 (by show _ < 5; omega) fun u3 q3 g3 z3 => st1 q3 (by show _ < 5; omega) fun u4 q4 g4 z4 => st1 q4 (by show _ < 5; omega) fun u5 q5 g5 z5 => st1 q5 (by show _ < 5; omega) fun u6 q6 g6 z6 => ?_
    have q6 : Blk u6 u.heap.size (cpC ⟨⟨#[]⟩, 0, v0⟩) := q6
    have g16 : Fr 0 0 u u6 := g1.thenNew ((((g2.trans g3).trans g4).trans g5).trans g6) (Nat.le_refl _)
    have x6 := hx.fr0 g16
    refine name_spec x6.pb x6.sm fun u7 b7 g7 => ?_
    have x7 := x6.to b7 g7
    have q7 := q6.fr g7 (by have := hq.1; omega)
    refine st1 q7 (by show _ < 5; omega) fun u8 q8 g8 z8 => ?_
    have q8 : Blk u8 u.heap.size (cpC ⟨nmP L', 0, v0⟩) := q8
    have x8 := x7.ap hq g8
    refine x8.hdt fun e8 => opOf_spec fun u9 g9 => ?_
    have x9 := x8.fr0 g9
    have q9 := q8.fr g9 (by omega)
    refine st1 q9 (by show _ < 5; omega) fun u10 q10 g10 z10 => ?_
    have q10 : Blk u10 u.heap.size (cpC ⟨nmP L', opC (hd (nmL L')), v0⟩) := q10
    have x10 := x9.ap hq g10
    have f10 : FrP (fun b => B ≤ b) w u10 := ((((Fu.trans (FrP.of0 g16)).trans (x6.b1 g7)).trans' (FrP.of (P := fun b => b = u.heap.size) g8 fun b h1 h2 => by omega) fun b hb => .inl (by have := hx.pb.lt; have := hx.bp; omega)).trans (FrP.of0 g9)).trans' (FrP.of (P := fun b => b = u.heap.size) g10 fun b h1 h2 => by omega) fun b hb => .inl (by have := hx.pb.lt; have := hx.bp; omega)
    refine ldI q10 rfl (join_W (fun v => PX v B p st s (opL (nmL L')) { T with wh := A } y' ∧ Blk v u.heap.size (cpC ⟨nmP L', opC (hd (nmL L')), v0⟩) ∧ FrP (fun b => B ≤ b) w v) ?_ ?_)
    · rintro v ⟨xv, qv, Fv⟩
      refine lit_spec xv.pb xv.sm fun v1 b1 g1 => ?_
      have xv1 := xv.to b1 g1
      have qv1 := qv.fr g1 (by have := hq.1; omega)
      refine st1 qv1 (by show _ < 5; omega) fun v2 r2 k2 t2 => st1 r2 (by show _ < 5; omega) fun v3 r3 k3 t3 => st1 r3 (by show _ < 5; omega) fun v4 r4 k4 t4 => ?_
      have r4 : Blk v4 u.heap.size (cpC (cmpP L')) := r4
      have k24 := (k2.trans k3).trans k4
      have xv4 := (xv1.ap hq k24).dr
      have Fv4 : FrP (fun b => B ≤ b) w v4.drew := ((Fv.trans (xv.b1 g1)).trans' (FrP.of (P := fun b => b = u.heap.size) k24 fun b h1 h2 => by omega) fun b hb => .inl (by have := hx.pb.lt; have := hx.bp; omega)).drew
      have r4 := r4.drew
      refine drew_ (hold_ (ldS xv4.blk rfl (ldStr r4 rfl (ldI r4 rfl (ldB r4 rfl (ldI r4 rfl (ldStr r4 rfl (newB fun v5 r5 k5 t5 => ?_))))))))
      have xv5 := xv4.fr0 k5
      have r5 : Blk v5 v4.drew.heap.size (cpC (cmpP L')) := r5
      refine ⟨holdS xv4.blk xv5.blk, ?_⟩
      have hln := (xv5.os 4 (by omega)).len
      have hln : A.length = (y' 4).l := by
        have e : (cpsC A).length = (y' 4).l * 5 := hln
        rw [cpsC_len] at e; omega
      have hA : A.length < 300 := hA
      refine xv5.app (i := 4) (S' := { T with wh := A ++ [cmpP L'] }) (by omega) r5 rfl rfl rfl (by rw [← hln]; omega) ⟨cpsC_snoc A (cmpP L'), fun j hj hne => ?_⟩ (fun s' => rfl) fun v6 s6 xv6 l6 F6 => ?_
      · rcases j with _ | _ | _ | _ | _ | j
        · rfl
        · rfl
        · rfl
        · rfl
        · exact absurd rfl hne
        · omega
      refine eat_spec xv6.pb xv6.sm fun v7 b7 k7 => ?_
      refine hQ (m - 1) _ _ (by omega) ⟨_, _, _, _, rfl, xv6.to b7 k7, hr, ((Fv4.trans (FrP.of0 k5)).trans (xv5.base (by omega) F6)).trans (xv6.b1 k7)⟩
    · intro J hJ
      refine ifnk (fun hne => ?_) fun he => ?_
      · have hne : ((opC (hd (nmL L')) : Nat) : Int) ≠ 0 := hne
        have hne : ¬ opC (hd (nmL L')) = 0 := by omega
        have hopl : opL (nmL L') = (nmL L').tail := by unfold opL; rw [if_neg hne]
        refine step_spec x10.pb x10.sm ?_ fun v bv gv => hJ v ⟨?_, q10.fr gv (by have := hq.1; omega), f10.trans (x10.b1 gv)⟩
        · refine Decidable.byContradiction fun hk => hne ?_
          unfold opC
          rw [if_pos (by omega)]
        · rw [hopl]
          exact x10.to bv gv
      · have he : ((opC (hd (nmL L')) : Nat) : Int) = 0 := he
        have he : opC (hd (nmL L')) = 0 := by omega
        have hopl : opL (nmL L') = bad := by unfold opL; rw [if_pos he]
        refine pfail_spec x10.pb fun v bv gv => hJ v ⟨?_, q10.fr gv (by have := hq.1; omega), f10.trans (x10.b1 gv)⟩
        rw [hopl]
        exact x10.to bv gv
  · subst hm
    obtain ⟨rfl, rfl⟩ := hr.out
    exact hK u y' hx Fu
theorem rowC_snoc (l : List Vl) (c : Vl) : rowC (l ++ [c]) = rowC l ++ valC c := by unfold rowC; rw [List.flatMap_append, List.flatMap_cons, List.flatMap_nil, List.append_nil]
theorem colC_snoc (l : List Cl) (c : Cl) : colC (l ++ [c]) = colC l ++ colC1 c := by unfold colC; rw [List.flatMap_append, List.flatMap_cons, List.flatMap_nil, List.append_nil]
/-- A list of names is read. -/
theorem names_loop {K : World → Prop} {m0 : Bool} {L0 : List Tk} {R : List ByteArray × List Tk} (h : PX w B p st s L0 { T with list := [] } y) (hr0 : RdL nmP nmL kCOM R FU m0 [] L0)
    (hK : ∀ w' y', PX w' B p st s R.2 { T with list := R.1 } y' → FrP (fun b => B ≤ b) w w' → K w') :
    LoopP (σ := Bool × Unit) (fun st13 w next14 =>
    if st13.1 = true then
      Drew w fun w =>
      Hold w ⟨st, 6, none⟩ 1 fun R15 =>
      LdS w ⟨st, 6, none⟩ fun List_16 =>
      S.query_parser_name p w (fun r17 w =>
      After R15 w <|
      New w (.cells #[.string r17] 9) fun p18 w =>
      After R15 w <|
      AppS 9 [.string ⟨#[]⟩] 16 1 w List_16 ⟨some ⟨p18, 0, none⟩, 1, 1⟩ fun l19 w =>
      St1 w ⟨st, 6, none⟩ (.slice l19.a l19.l l19.c) fun w =>
      S.query_parser_eat p (⟨#[44]⟩ : ByteArray) w (fun r20 w =>
      next14 (r20, ()) w))
    else
      K w) (m0, ()) w := by
  refine loopN (fun m sv u => ∃ (more : Bool) (A : List ByteArray) (L' : List Tk) (y' : Nat → Sl), sv = (more, ()) ∧ PX u B p st s L' { T with list := A } y' ∧ RdL nmP nmL kCOM R m more A L' ∧ FrP (fun b => B ≤ b) w u) FU
    ⟨_, [], _, y, rfl, h, hr0, FrP.refl _ _⟩ ?_
  rintro m _ u ⟨more, A, L', y', rfl, hx, hr, Fu⟩ Q hQ
  dsimp only
  refine ifb (fun hm => ?_) fun hm => ?_
  · subst hm
    obtain ⟨hm0, hA, hr⟩ := hr.next (hx.pb.len hx.sm).1 len_nm
    have x0 := hx.dr
    refine drew_ (hold_ (ldS x0.blk rfl (name_spec x0.pb x0.sm fun u1 b1 g1 => ?_)))
    have x1 := x0.to b1 g1
    refine ⟨holdS x0.blk x1.blk, newB fun u2 q2 g2 z2 => ?_⟩
    have x2 := x1.fr0 g2
    refine ⟨holdS x0.blk x2.blk, ?_⟩
    have hln : A.length = (y' 2).l := by
      have e : (strC A).length = (y' 2).l * 1 := (x2.os 2 (by omega)).len
      rw [strC_len] at e; omega
    have hA : A.length < 300 := hA
    refine x2.app (i := 2) (S' := { T with list := A ++ [nmP L'] }) (by omega) q2 rfl rfl rfl (by rw [← hln]; omega) ⟨strC_snoc A (nmP L'), fun j hj hne => ?_⟩ (fun s' => rfl) fun v6 s6 xv6 l6 F6 => ?_
    · rcases j with _ | _ | _ | _ | _ | j
      · rfl
      · rfl
      · exact absurd rfl hne
      · rfl
      · rfl
      · omega
    refine eat_spec xv6.pb xv6.sm fun v7 b7 k7 => ?_
    exact hQ (m - 1) _ _ (by omega) ⟨_, _, _, _, rfl, xv6.to b7 k7, hr, (((Fu.drew.trans (x0.b1 g1)).trans (FrP.of0 g2)).trans (x2.base (by omega) F6)).trans (xv6.b1 k7)⟩
  · subst hm
    obtain ⟨rfl, rfl⟩ := hr.out
    exact hK u y' hx Fu
/-- A list of values is read. -/
theorem lits_loop {K : World → Prop} {m0 : Bool} {L0 : List Tk} {R : List Vl × List Tk} (h : PX w B p st s L0 { T with lits := [] } y) (hr0 : RdL ltP ltL kCOM R FU m0 [] L0)
    (hK : ∀ w' y', PX w' B p st s R.2 { T with lits := R.1 } y' → FrP (fun b => B ≤ b) w w' → K w') :
    LoopP (σ := Bool × Unit) (fun st2 w next3 =>
    if st2.1 = true then
      Drew w fun w =>
      Hold w ⟨st, 4, none⟩ 1 fun R4 =>
      LdS w ⟨st, 4, none⟩ fun Lits_5 =>
      S.query_parser_lit p w (fun IsStr_6 I_7 S_8 w =>
      After R4 w <|
      New w (.cells #[.bool IsStr_6, .int .i64 I_7, .string S_8] 167) fun p9 w =>
      After R4 w <|
      AppS 167 [.bool false, .int .i64 0, .string ⟨#[]⟩] 32 3 w Lits_5 ⟨some ⟨p9, 0, none⟩, 1, 1⟩ fun l10 w =>
      St1 w ⟨st, 4, none⟩ (.slice l10.a l10.l l10.c) fun w =>
      S.query_parser_eat p (⟨#[44]⟩ : ByteArray) w (fun r11 w =>
      next3 (r11, ()) w))
    else
      K w) (m0, ()) w := by
  refine loopN (fun m sv u => ∃ (more : Bool) (A : List Vl) (L' : List Tk) (y' : Nat → Sl), sv = (more, ()) ∧ PX u B p st s L' { T with lits := A } y' ∧ RdL ltP ltL kCOM R m more A L' ∧ FrP (fun b => B ≤ b) w u) FU
    ⟨_, [], _, y, rfl, h, hr0, FrP.refl _ _⟩ ?_
  rintro m _ u ⟨more, A, L', y', rfl, hx, hr, Fu⟩ Q hQ
  dsimp only
  refine ifb (fun hm => ?_) fun hm => ?_
  · subst hm
    obtain ⟨hm0, hA, hr⟩ := hr.next (hx.pb.len hx.sm).1 len_lt
    have x0 := hx.dr
    refine drew_ (hold_ (ldS x0.blk rfl (lit_spec x0.pb x0.sm fun u1 b1 g1 => ?_)))
    have x1 := x0.to b1 g1
    refine ⟨holdS x0.blk x1.blk, newB fun u2 q2 g2 z2 => ?_⟩
    have x2 := x1.fr0 g2
    refine ⟨holdS x0.blk x2.blk, ?_⟩
    have hln : A.length = (y' 1).l := by
      have e : (rowC A).length = (y' 1).l * 3 := (x2.os 1 (by omega)).len
      rw [rowC_len] at e; omega
    have hA : A.length < 300 := hA
    refine x2.app (i := 1) (S' := { T with lits := A ++ [ltP L'] }) (by omega) q2 rfl rfl rfl (by rw [← hln]; omega) ⟨rowC_snoc A (ltP L'), fun j hj hne => ?_⟩ (fun s' => rfl) fun v6 s6 xv6 l6 F6 => ?_
    · rcases j with _ | _ | _ | _ | _ | j
      · rfl
      · exact absurd rfl hne
      · rfl
      · rfl
      · rfl
      · omega
    refine eat_spec xv6.pb xv6.sm fun v7 b7 k7 => ?_
    exact hQ (m - 1) _ _ (by omega) ⟨_, _, _, _, rfl, xv6.to b7 k7, hr, (((Fu.drew.trans (x0.b1 g1)).trans (FrP.of0 g2)).trans (x2.base (by omega) F6)).trans (xv6.b1 k7)⟩
  · subst hm
    obtain ⟨rfl, rfl⟩ := hr.out
    exact hK u y' hx Fu
end Go.Proofs.Qxb6500564aGreat
