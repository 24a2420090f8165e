/-
  The reader of sentences: CREATE, the first word, Parse.
-/
import Derived.Test.Qxb6500564aGreatQyI
namespace Go.Proofs.Qxb6500564aGreat
open Go.Den Go.Zip
set_option linter.unusedVariables false
set_option linter.unusedSimpArgs false
variable {w w' u v : World} {i j k n a b p st B : Nat} {s x : ByteArray} {t : Tk} {L L' : List Tk} {T T' : Smt} {y : Nat → Sl}

set_option maxHeartbeats 2000000 in
theorem creates_spec {K : World → Prop} (h : PX w B p st s L ps0 y) (hK : ∀ w' y', PX w' B p st s (creP L).2 (creP L).1 y' → FrP (fun b => B ≤ b) w w' → K w') : S.query_parser_creates p st w K := by
  unfold S.query_parser_creates
  refine pxEat h fun w1 h1 f1 => ifn (fun hp => ?_) fun hp => ?_
  · rw [aft_f hp] at h1
    unfold creP at hK
    rw [if_neg (by rw [hp]; simp)] at hK
    dsimp only at hK
    refine h1.put { ps0 with kind := 6 } (by omega) rfl (vcI rfl rfl rfl rfl rfl) fun w2 h2 f2 => pxWant h2 fun w3 h3 f3 => pxWant h3 fun w4 h4 f4 => pxName h4 fun w5 h5 f5 => ?_
    generalize wnt ⟨#[79, 78]⟩ (wnt ⟨#[73, 78, 68, 69, 88]⟩ L) = L1 at *
    refine h5.put { ps0 with kind := 6, table := nmP L1 } (by omega) rfl (vcI rfl rfl rfl rfl rfl) fun w6 h6 f6 => pxWant h6 fun w7 h7 f7 => ?_
    generalize wnt ⟨#[40]⟩ (nmL L1) = L2 at *
    have x0 := h7.dr
    refine drew_ (hold_ (ldS x0.blk rfl (name_spec x0.pb x0.sm fun u1 b1 g1 => ?_)))
    have x1 := x0.to b1 g1
    refine ⟨holdS x0.blk x1.blk, newB fun u2 q2 g2 z2 => ?_⟩
    have x2 := x1.fr0 g2
    refine ⟨holdS x0.blk x2.blk, ?_⟩
    have hln : 0 = (y 2).l := by
      have e : (strC []).length = (y 2).l * 1 := (x2.os 2 (by omega)).len
      rw [strC_len] at e
      rw [List.length_nil] at e; omega
    refine x2.app (i := 2) (S' := { ps0 with kind := 6, table := nmP L1, list := [nmP L2] }) (by omega) q2 rfl rfl rfl (by rw [← hln]; omega) ⟨rfl, fun j hj hne => ?_⟩ (fun s' => rfl) fun v6 s6 xv6 l6 F6 => ?_
    · rcases j with _ | _ | _ | _ | _ | j
      · rfl
      · rfl
      · exact absurd rfl hne
      · rfl
      · rfl
      · omega
    exact pxWant xv6 fun v7 x7 f8 => hK v7 _ x7 ((((((((((f1.trans f2).trans f3).trans f4).trans f5).trans f6).trans f7).drew.trans (x0.b1 g1)).trans (FrP.of0 g2)).trans (x2.base (by omega) F6)).trans f8)
  · rw [aft_t hp] at h1
    unfold creP at hK
    rw [if_pos hp] at hK
    dsimp only at hK
    refine h1.put { ps0 with kind := 4 } (by omega) rfl (vcI rfl rfl rfl rfl rfl) fun w2 h2 f2 => pxName h2 fun w3 h3 f3 => ?_
    refine h3.put { ps0 with kind := 4, table := nmP L.tail } (by omega) rfl (vcI rfl rfl rfl rfl rfl) fun w4 h4 f4 => pxWant h4 fun w5 h5 f5 => ?_
    have F5 := (((f1.trans f2).trans f3).trans f4).trans f5
    generalize wnt ⟨#[40]⟩ (nmL L.tail) = L1 at *
    refine join_P (fun kx u => ∃ y', kx = ((keys (lstP colP colL kCOM FU L1).1 : Nat) : Int) ∧ PX u B p st s (lstP colP colL kCOM FU L1).2 (cdT { ps0 with kind := 4, table := nmP L.tail } (lstP colP colL kCOM FU L1).1) y' ∧ FrP (fun b => B ≤ b) w u) ?_ ?_
    · rintro _ u ⟨y', rfl, hu, Fu⟩
      refine pxWant hu fun w6 h6 f6 => ifnk (fun hk => ?_) fun hk => ?_
      · rw [if_neg (by omega)] at hK
        exact pfail_spec h6.pb fun w7 b7 g7 => hK w7 y' (h6.to b7 g7) ((Fu.trans f6).trans (h6.b1 g7))
      · rw [if_pos (by omega)] at hK
        exact hK w6 y' h6 (Fu.trans f6)
    · intro J hJ
      exact cols_loop (T := { ps0 with kind := 4, table := nmP L.tail }) h5 h5.start fun w6 y6 h6 f6 => hJ _ w6 ⟨y6, rfl, h6, F5.trans f6⟩
set_option maxHeartbeats 2000000 in
theorem sentence_spec {K : World → Prop} (h : PX w B p st s L ps0 y) (hK : ∀ w' y', PX w' B p st s (senP L).2 (senP L).1 y' → FrP (fun b => B ≤ b) w w' → K w') : S.query_parser_sentence p st w K := by
  unfold S.query_parser_sentence
  unfold senP at hK
  refine pxEat h fun w1 h1 f1 => ifb (fun hp => ?_) fun hp => ?_
  · rw [aft_t hp] at h1
    rw [if_pos hp] at hK
    exact selects_spec h1 fun w' y' h' F' => hK w' y' h' (f1.trans F')
  rw [aft_f hp] at h1
  rw [if_neg (by rw [hp]; simp)] at hK
  refine pxEat h1 fun w2 h2 f2 => ifb (fun hp => ?_) fun hp => ?_
  · rw [aft_t hp] at h2
    rw [if_pos hp] at hK
    exact inserts_spec h2 fun w' y' h' F' => hK w' y' h' ((f1.trans f2).trans F')
  rw [aft_f hp] at h2
  rw [if_neg (by rw [hp]; simp)] at hK
  have f2 := f1.trans f2
  refine pxEat h2 fun w3 h3 f3 => ifb (fun hp => ?_) fun hp => ?_
  · rw [aft_t hp] at h3
    rw [if_pos hp] at hK
    exact updates_spec h3 fun w' y' h' F' => hK w' y' h' ((f2.trans f3).trans F')
  rw [aft_f hp] at h3
  rw [if_neg (by rw [hp]; simp)] at hK
  have f3 := f2.trans f3
  refine pxEat h3 fun w4 h4 f4 => ifb (fun hp => ?_) fun hp => ?_
  · rw [aft_t hp] at h4
    rw [if_pos hp] at hK
    refine h4.put { ps0 with kind := 10 } (by omega) rfl (vcI rfl rfl rfl rfl rfl) fun w5 h5 f5 => pxWant h5 fun w6 h6 f6 => pxName h6 fun w7 h7 f7 => ?_
    refine h7.put { ps0 with kind := 10, table := nmP (wnt ⟨#[70, 82, 79, 77]⟩ L.tail) } (by omega) rfl (vcI rfl rfl rfl rfl rfl) fun w8 h8 f8 => where_spec h8 rfl fun w9 y9 h9 f9 => ?_
    exact hK w9 y9 h9 ((((((f3.trans f4).trans f5).trans f6).trans f7).trans f8).trans f9)
  rw [aft_f hp] at h4
  rw [if_neg (by rw [hp]; simp)] at hK
  have f4 := f3.trans f4
  refine pxEat h4 fun w5 h5 f5 => ifb (fun hp => ?_) fun hp => ?_
  · rw [aft_t hp] at h5
    rw [if_pos hp] at hK
    exact h5.put { ps0 with kind := 1 } (by omega) rfl (vcI rfl rfl rfl rfl rfl) fun w6 h6 f6 => hK w6 y h6 ((f4.trans f5).trans f6)
  rw [aft_f hp] at h5
  rw [if_neg (by rw [hp]; simp)] at hK
  have f5 := f4.trans f5
  refine pxEat h5 fun w6 h6 f6 => ifb (fun hp => ?_) fun hp => ?_
  · rw [aft_t hp] at h6
    rw [if_pos hp] at hK
    exact h6.put { ps0 with kind := 2 } (by omega) rfl (vcI rfl rfl rfl rfl rfl) fun w7 h7 f7 => hK w7 y h7 ((f5.trans f6).trans f7)
  rw [aft_f hp] at h6
  rw [if_neg (by rw [hp]; simp)] at hK
  have f6 := f5.trans f6
  refine pxEat h6 fun w7 h7 f7 => ifb (fun hp => ?_) fun hp => ?_
  · rw [aft_t hp] at h7
    rw [if_pos hp] at hK
    exact h7.put { ps0 with kind := 3 } (by omega) rfl (vcI rfl rfl rfl rfl rfl) fun w8 h8 f8 => hK w8 y h8 ((f6.trans f7).trans f8)
  rw [aft_f hp] at h7
  rw [if_neg (by rw [hp]; simp)] at hK
  have f7 := f6.trans f7
  refine pxEat h7 fun w8 h8 f8 => ifb (fun hp => ?_) fun hp => ?_
  · rw [aft_t hp] at h8
    rw [if_pos hp] at hK
    refine h8.put { ps0 with kind := 5 } (by omega) rfl (vcI rfl rfl rfl rfl rfl) fun w9 h9 f9 => pxWant h9 fun w10 h10 f10 => pxName h10 fun w11 h11 f11 => ?_
    exact h11.put { ps0 with kind := 5, table := nmP (wnt ⟨#[84, 65, 66, 76, 69]⟩ L.tail) } (by omega) rfl (vcI rfl rfl rfl rfl rfl) fun w12 h12 f12 => hK w12 y h12 (((((f7.trans f8).trans f9).trans f10).trans f11).trans f12)
  rw [aft_f hp] at h8
  rw [if_neg (by rw [hp]; simp)] at hK
  have f8 := f7.trans f8
  refine pxEat h8 fun w9 h9 f9 => ifb (fun hp => ?_) fun hp => ?_
  · rw [aft_t hp] at h9
    rw [if_pos hp] at hK
    exact creates_spec h9 fun w' y' h' F' => hK w' y' h' ((f8.trans f9).trans F')
  rw [aft_f hp] at h9
  rw [if_neg (by rw [hp]; simp)] at hK
  exact pfail_spec h9.pb fun w10 b10 g10 => hK w10 y (h9.to b10 g10) ((f8.trans f9).trans (h9.b1 g10))
/-- Thirteen cells are laid and read. -/
theorem lay13 {q : Nat} {vs : List Value} {T : Smt} {y : Nat → Sl} {K : Int → ByteArray → Sl → Int → Sl → Bool → Sl → Sl → Sl → ByteArray → Bool → Bool → Int → World → Prop} (h : Blk w q vs) (hl : vs.length = 13)
    (hK : ∀ w', Blk w' q (smC T y) → Fr q 1 w w' → K (T.kind : Nat) T.table (y 0) (T.pk : Nat) (y 1) T.star (y 2) (y 3) (y 4) T.order T.desc T.hasLim T.lim w') :
    St1 w ⟨q, 0, none⟩ (.int .i64 (T.kind : Nat)) fun w => St1 w ⟨q, 1, none⟩ (.string T.table) fun w => St1 w ⟨q, 2, none⟩ (.slice (y 0).a (y 0).l (y 0).c) fun w => St1 w ⟨q, 3, none⟩ (.int .i64 (T.pk : Nat)) fun w =>
    St1 w ⟨q, 4, none⟩ (.slice (y 1).a (y 1).l (y 1).c) fun w => St1 w ⟨q, 5, none⟩ (.bool T.star) fun w => St1 w ⟨q, 6, none⟩ (.slice (y 2).a (y 2).l (y 2).c) fun w => St1 w ⟨q, 7, none⟩ (.slice (y 3).a (y 3).l (y 3).c) fun w =>
    St1 w ⟨q, 8, none⟩ (.slice (y 4).a (y 4).l (y 4).c) fun w => St1 w ⟨q, 9, none⟩ (.string T.order) fun w => St1 w ⟨q, 10, none⟩ (.bool T.desc) fun w => St1 w ⟨q, 11, none⟩ (.bool T.hasLim) fun w => St1 w ⟨q, 12, none⟩ (.int .i64 T.lim) fun w =>
    LdI .i64 w ⟨q, 0, none⟩ fun a0 => LdStr w ⟨q, 1, none⟩ fun a1 => LdS w ⟨q, 2, none⟩ fun a2 => LdI .i64 w ⟨q, 3, none⟩ fun a3 => LdS w ⟨q, 4, none⟩ fun a4 => LdB w ⟨q, 5, none⟩ fun a5 => LdS w ⟨q, 6, none⟩ fun a6 => LdS w ⟨q, 7, none⟩ fun a7 => LdS w ⟨q, 8, none⟩ fun a8 => LdStr w ⟨q, 9, none⟩ fun a9 => LdB w ⟨q, 10, none⟩ fun a10 => LdB w ⟨q, 11, none⟩ fun a11 => LdI .i64 w ⟨q, 12, none⟩ fun a12 =>
    K a0 a1 a2 a3 a4 a5 a6 a7 a8 a9 a10 a11 a12 w := by
  match vs, hl with
  | [_, _, _, _, _, _, _, _, _, _, _, _, _], _ =>
    refine st1 h (by show _ < 13; omega) fun w1 h f1 _ => st1 h (by show _ < 13; omega) fun w2 h f2 _ => st1 h (by show _ < 13; omega) fun w3 h f3 _ => st1 h (by show _ < 13; omega) fun w4 h f4 _ => st1 h (by show _ < 13; omega) fun w5 h f5 _ => st1 h (by show _ < 13; omega) fun w6 h f6 _ => st1 h (by show _ < 13; omega) fun w7 h f7 _ => st1 h (by show _ < 13; omega) fun w8 h f8 _ => st1 h (by show _ < 13; omega) fun w9 h f9 _ => st1 h (by show _ < 13; omega) fun w10 h f10 _ => st1 h (by show _ < 13; omega) fun w11 h f11 _ => st1 h (by show _ < 13; omega) fun w12 h f12 _ => st1 h (by show _ < 13; omega) fun w13 h f13 _ => ?_
    have h : Blk w13 q (smC T y) := h
    exact ldI h rfl (ldStr h rfl (ldS h rfl (ldI h rfl (ldS h rfl (ldB h rfl (ldS h rfl (ldS h rfl (ldS h rfl (ldStr h rfl (ldB h rfl (ldB h rfl (ldI h rfl (hK w13 h ((((((((((((f1.trans f2).trans f3).trans f4).trans f5).trans f6).trans f7).trans f8).trans f9).trans f10).trans f11).trans f12).trans f13))))))))))))))
/-- The lists of a statement, in memory from B on. -/
structure SL (w : World) (B : Nat) (T : Smt) (y : Nat → Sl) : Prop where
  os : ∀ i, i < 5 → OS w (y i) (vc T i) (sz i)
  dj : ∀ i j, i < 5 → j < 5 → i ≠ j → ∀ b, owns (y i) b → owns (y j) b → False
  no : ∀ i, i < 5 → ∀ b, owns (y i) b → B ≤ b
set_option maxHeartbeats 4000000 in
theorem Parse_spec {K : Int → ByteArray → Sl → Int → Sl → Bool → Sl → Sl → Sl → ByteArray → Bool → Bool → Int → Bool → World → Prop} (hs : s.size ≤ 256)
    (h1 : prsP s = none → ∀ w', Fr 0 0 w w' → K 0 ⟨#[]⟩ nilS 0 nilS false nilS nilS nilS ⟨#[]⟩ false false 0 false w')
    (h2 : ∀ T, prsP s = some T → ∀ w' y, SL w' w.heap.size T y → Fr 0 0 w w' → K (T.kind : Nat) T.table (y 0) (T.pk : Nat) (y 1) T.star (y 2) (y 3) (y 4) T.order T.desc T.hasLim T.lim true w') : S.query_Parse s w K := by
  unfold S.query_Parse
  refine newB fun w1 q1 g1 z1 => ?_
  rw [if_neg (by simp; omega)]
  refine newB fun w2 q2 g2 z2 => ?_
  have q2 : Blk w2 w1.heap.size (pbC s ⟨0, ⟨#[]⟩, 0⟩ ((0 : Nat) : Int)) := q2
  refine lex_at q2 hs (Nat.zero_le _) fun w3 b3 g3 => newB fun w4 q4 g4 z4 => ?_
  have g13 : Fr 0 0 w1 w3 := g2.thenNew g3 (Nat.le_refl _)
  have g14 := g13.trans g4
  have hle := g13.le
  have x4 : PX w4 w1.heap.size w1.heap.size w3.heap.size s (TS s 0) ps0 (fun _ => nilS) :=
    ⟨hs, b3.fr g4 (by omega), q4, fun i hi => by
      rcases i with _ | _ | _ | _ | _ <;> exact OS.nil _ _, fun i j _ _ _ b hb => (by cases hb), fun i _ b hb => (by cases hb), by have := g2.le; have := g3.le; omega, Nat.le_refl _, by omega⟩
  refine sentence_spec x4 fun w5 y5 x5 F5 => x5.hdk ?_
  have F15 : FrP (fun b => w1.heap.size ≤ b) w1 w5 := (FrP.of0 g14).trans F5
  have q5 := Blk.frp q1 F15 (by omega)
  have f05 : Fr 0 0 w w5 := ⟨(g1.1).trans F15.1, fun b hb hn => by rw [F15.2 b (by omega) (by omega), g1.2 b hb (by omega)]⟩
  refine ifnk (fun hk => ?_) fun hk => ?_
  · have hk : ¬ (hd (senP (TS s 0)).2).kind = 0 := by omega
    refine lay13 (T := ps0) (y := fun _ => nilS) (K := fun a0 a1 a2 a3 a4 a5 a6 a7 a8 a9 a10 a11 a12 w => K a0 a1 a2 a3 a4 a5 a6 a7 a8 a9 a10 a11 a12 false w) q5 rfl fun w6 q6 g6 => ?_
    exact h1 (by unfold prsP; rw [if_neg hk]) w6 (f05.thenNew g6 (Nat.le_refl _))
  · have hk : (hd (senP (TS s 0)).2).kind = 0 := by omega
    have c5 := x5.blk
    refine ldI c5 rfl (ldStr c5 rfl (ldS c5 rfl (ldI c5 rfl (ldS c5 rfl (ldB c5 rfl (ldS c5 rfl (ldS c5 rfl (ldS c5 rfl (ldStr c5 rfl (ldB c5 rfl (ldB c5 rfl (ldI c5 rfl ?_))))))))))))
    refine lay13 (T := (senP (TS s 0)).1) (y := y5) (K := fun a0 a1 a2 a3 a4 a5 a6 a7 a8 a9 a10 a11 a12 w => K a0 a1 a2 a3 a4 a5 a6 a7 a8 a9 a10 a11 a12 true w) q5 rfl fun w6 q6 g6 => ?_
    refine h2 _ (by unfold prsP; rw [if_pos hk]) w6 y5 ⟨fun i hi => (x5.os i hi).frp (FrP.of (P := fun b => b = w.heap.size) g6 fun b h1 h2 => by omega) fun b hb e => ?_, x5.dj, fun i hi b hb => ?_⟩ (f05.thenNew g6 (Nat.le_refl _))
    · have := (x5.no i hi b hb).2.2; omega
    · have := (x5.no i hi b hb).2.2; omega
end Go.Proofs.Qxb6500564aGreat
