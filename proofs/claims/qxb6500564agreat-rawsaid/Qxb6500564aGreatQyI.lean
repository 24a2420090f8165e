/-
  The reader of sentences: the sentences.
-/
import Derived.Test.Qxb6500564aGreatQyH
namespace Go.Proofs.Qxb6500564aGreat
open Go.Den Go.Zip
set_option linter.unusedVariables false
set_option linter.unusedSimpArgs false
variable {w w' u v : World} {i j k n a b p st B : Nat} {s x : ByteArray} {t : Tk} {L L' : List Tk} {T T' : Smt} {y : Nat → Sl}

/-- A field of the statement that is no list is laid. -/
theorem PX.put {o : Nat} {c : Value} {K : World → Prop} (h : PX w B p st s L T y) (T' : Smt) (ho : o < 13) (hc : (smC T y).set o c = smC T' y) (hv : ∀ i, vc T' i = vc T i) (hK : ∀ w', PX w' B p st s L T' y → FrP (fun b => B ≤ b) w w' → K w') : St1 w ⟨st, o, none⟩ c K :=
  st1 h.blk ho fun w1 b1 f1 z1 => hK w1 (h.set (hc ▸ b1) f1 hv) (h.b2 f1)
theorem vcI {A C : Smt} (h0 : A.defs = C.defs) (h1 : A.lits = C.lits) (h2 : A.list = C.list) (h3 : A.sets = C.sets) (h4 : A.wh = C.wh) (i : Nat) : vc A i = vc C i := by
  rcases i with _ | _ | _ | _ | _
  · show colC _ = colC _; rw [h0]
  · show rowC _ = rowC _; rw [h1]
  · show strC _ = strC _; rw [h2]
  · show cpsC _ = cpsC _; rw [h3]
  · show cpsC _ = cpsC _; rw [h4]
theorem pxWant {K : World → Prop} (h : PX w B p st s L T y) (hK : ∀ w', PX w' B p st s (wnt x L) T y → FrP (fun b => B ≤ b) w w' → K w') : S.query_parser_want p x w K :=
  want_spec h.pb h.sm fun w1 b1 f1 => hK w1 (h.to b1 f1) (h.b1 f1)
theorem pxEat {K : Bool → World → Prop} (h : PX w B p st s L T y) (hK : ∀ w', PX w' B p st s (aft x L) T y → FrP (fun b => B ≤ b) w w' → K (isP x L) w') : S.query_parser_eat p x w K :=
  eat_spec h.pb h.sm fun w1 b1 f1 => hK w1 (h.to b1 f1) (h.b1 f1)
theorem pxName {K : ByteArray → World → Prop} (h : PX w B p st s L T y) (hK : ∀ w', PX w' B p st s (nmL L) T y → FrP (fun b => B ≤ b) w w' → K (nmP L) w') : S.query_parser_name p w K :=
  name_spec h.pb h.sm fun w1 b1 f1 => hK w1 (h.to b1 f1) (h.b1 f1)
theorem PX.start (h : PX w B p st s L T y) {α : Type} {f : List Tk → α} {g : List Tk → List Tk} : RdL f g x (lstP f g x FU L) FU true [] L := RdL.start (h.pb.len h.sm).2
theorem aft_t (h : isP x L = true) : aft x L = L.tail := by unfold aft; rw [h]; rfl
theorem aft_f (h : isP x L = false) : aft x L = L := by unfold aft; rw [h]; rfl
theorem inserts_spec {K : World → Prop} (h : PX w B p st s L ps0 y) (hK : ∀ w' y', PX w' B p st s (insP L).2 (insP L).1 y' → FrP (fun b => B ≤ b) w w' → K w') : S.query_parser_inserts p st w K := by
  unfold S.query_parser_inserts
  refine h.put { ps0 with kind := 7 } (by omega) rfl (vcI rfl rfl rfl rfl rfl) fun w1 h1 f1 => pxWant h1 fun w2 h2 f2 => pxName h2 fun w3 h3 f3 => ?_
  refine h3.put { ps0 with kind := 7, table := nmP (wnt ⟨#[73, 78, 84, 79]⟩ L) } (by omega) rfl (vcI rfl rfl rfl rfl rfl) fun w4 h4 f4 => pxWant h4 fun w5 h5 f5 => pxWant h5 fun w6 h6 f6 => ?_
  refine lits_loop (K := fun w => S.query_parser_want p (⟨#[41]⟩ : ByteArray) w (fun w => K w)) (T := { ps0 with kind := 7, table := nmP (wnt ⟨#[73, 78, 84, 79]⟩ L) }) h6 h6.start fun w7 y7 h7 f7 => pxWant h7 fun w8 h8 f8 => ?_
  exact hK w8 y7 h8 (((((((f1.trans f2).trans f3).trans f4).trans f5).trans f6).trans f7).trans f8)
theorem updates_spec {K : World → Prop} (h : PX w B p st s L ps0 y) (hK : ∀ w' y', PX w' B p st s (updP L).2 (updP L).1 y' → FrP (fun b => B ≤ b) w w' → K w') : S.query_parser_updates p st w K := by
  unfold S.query_parser_updates
  refine h.put { ps0 with kind := 9 } (by omega) rfl (vcI rfl rfl rfl rfl rfl) fun w1 h1 f1 => pxName h1 fun w2 h2 f2 => ?_
  refine h2.put { ps0 with kind := 9, table := nmP L } (by omega) rfl (vcI rfl rfl rfl rfl rfl) fun w3 h3 f3 => pxWant h3 fun w4 h4 f4 => ?_
  rw [join_eq]
  refine sets_loop (K := fun w => S.query_parser_where p st w (fun w => K w)) (T := { ps0 with kind := 9, table := nmP L }) h4 h4.start fun w5 y5 h5 f5 => where_spec h5 rfl fun w6 y6 h6 f6 => ?_
  exact hK w6 y6 h6 (((((f1.trans f2).trans f3).trans f4).trans f5).trans f6)
theorem PX.hdv (h : PX w B p st s L T y) {K : Int → Prop} (hK : K (hd L).val) : LdI .i64 w ⟨p, 3, none⟩ K := by
  obtain ⟨t, e, c, h1, rfl⟩ := h.pb
  exact ldI c rfl hK
theorem PX.hdk (h : PX w B p st s L T y) {K : Int → Prop} (hK : K ((hd L).kind : Nat)) : LdI .i64 w ⟨p, 1, none⟩ K := by
  obtain ⟨t, e, c, h1, rfl⟩ := h.pb
  exact ldI c rfl hK
set_option maxHeartbeats 2000000 in
theorem selects_spec {K : World → Prop} (h : PX w B p st s L ps0 y) (hK : ∀ w' y', PX w' B p st s (selP L).2 (selP L).1 y' → FrP (fun b => B ≤ b) w w' → K w') : S.query_parser_selects p st w K := by
  unfold S.query_parser_selects
  refine h.put { ps0 with kind := 8 } (by omega) rfl (vcI rfl rfl rfl rfl rfl) fun w1 h1 f1 => pxEat h1 fun w2 h2 f2 => ?_
  refine h2.put { ps0 with kind := 8, star := isP ⟨#[42]⟩ L } (by omega) rfl (vcI rfl rfl rfl rfl rfl) fun w3 h3 f3 => ldB h3.blk rfl (let_ ?_)
  have F3 := (f1.trans f2).trans f3
  have hr : RdL nmP nmL kCOM (selN L) FU (!(isP ⟨#[42]⟩ L)) [] (aft ⟨#[42]⟩ L) := by
    unfold selN
    cases e : isP ⟨#[42]⟩ L with
    | true => exact ⟨rfl, aft_t e⟩
    | false =>
      rw [aft_f e] at h3 ⊢
      exact h3.start
  refine join_W (fun u => ∃ y', PX u B p st s (selN L).2 { ps0 with kind := 8, star := isP ⟨#[42]⟩ L, list := (selN L).1 } y' ∧ FrP (fun b => B ≤ b) w u) ?_ ?_
  · rintro u ⟨y1, hu, Fu⟩
    refine pxWant hu fun w4 h4 f4 => pxName h4 fun w5 h5 f5 => ?_
    refine h5.put { ps0 with kind := 8, star := isP ⟨#[42]⟩ L, list := (selN L).1, table := nmP (wnt ⟨#[70, 82, 79, 77]⟩ (selN L).2) } (by omega) rfl (vcI rfl rfl rfl rfl rfl) fun w6 h6 f6 => where_spec h6 rfl fun w7 y7 h7 f7 => pxEat h7 fun w8 h8 f8 => ?_
    have F8 := ((((Fu.trans f4).trans f5).trans f6).trans f7).trans f8
    have lim : ∀ (v : World) (L3 : List Tk) (T3 : Smt), PX v B p st s L3 T3 y7 → T3.hasLim = false → T3.lim = 0 → FrP (fun b => B ≤ b) w v →
        (∀ w', PX w' B p st s (limP L3).2.2 { T3 with hasLim := (limP L3).1, lim := (limP L3).2.1 } y7 → FrP (fun b => B ≤ b) w w' → K w') →
        S.query_parser_eat p (⟨#[76, 73, 77, 73, 84]⟩ : ByteArray) v (fun r6 w =>
      if r6 = true then
        St1 w ⟨st, 11, none⟩ (.bool true) fun w =>
        LdI .i64 w ⟨p, 3, none⟩ fun Val_7 =>
        St1 w ⟨st, 12, none⟩ (.int .i64 Val_7) fun w =>
        LdI .i64 w ⟨p, 1, none⟩ fun Kind_8 =>
        if (Kind_8 == 4) = true then
          S.query_parser_step p w (fun w =>
          K w)
        else
          S.query_parser_fail p w (fun w =>
          K w)
      else
        K w) := fun v L3 T3 h3 e1 e2 F3 hk => by
      refine pxEat h3 fun v1 k1 g1 => ifb (fun hp => ?_) fun hp => ?_
      · rw [aft_t hp] at k1
        unfold limP at hk
        rw [if_pos hp] at hk
        refine k1.put { T3 with hasLim := true } (by omega) rfl (vcI rfl rfl rfl rfl rfl) fun v2 k2 g2 => k2.hdv ?_
        refine k2.put { T3 with hasLim := true, lim := (hd L3.tail).val } (by omega) rfl (vcI rfl rfl rfl rfl rfl) fun v3 k3 g3 => k3.hdk (ifk (fun h4 => ?_) fun h4 => ?_)
        · have h4 : (hd L3.tail).kind = 4 := by omega
          dsimp only at hk
          rw [if_pos h4] at hk
          exact step_spec k3.pb k3.sm (by omega) fun v4 b4 g4 => hk v4 (k3.to b4 g4) ((((F3.trans g1).trans g2).trans g3).trans (k3.b1 g4))
        · have h4 : ¬ (hd L3.tail).kind = 4 := by omega
          dsimp only at hk
          rw [if_neg h4] at hk
          exact pfail_spec k3.pb fun v4 b4 g4 => hk v4 (k3.to b4 g4) ((((F3.trans g1).trans g2).trans g3).trans (k3.b1 g4))
      · rw [aft_f hp] at k1
        unfold limP at hk
        rw [if_neg (by rw [hp]; simp)] at hk
        refine hk v1 ?_ (F3.trans g1)
        have : { T3 with hasLim := false, lim := 0 } = T3 := by rw [← e1, ← e2]
        rw [this]
        exact k1
    refine join_W (fun v => PX v B p st s (ordP (whP (nmL (wnt ⟨#[70, 82, 79, 77]⟩ (selN L).2))).2).2.2 { ps0 with kind := 8, star := isP ⟨#[42]⟩ L, list := (selN L).1, table := nmP (wnt ⟨#[70, 82, 79, 77]⟩ (selN L).2), wh := (whP (nmL (wnt ⟨#[70, 82, 79, 77]⟩ (selN L).2))).1, order := (ordP (whP (nmL (wnt ⟨#[70, 82, 79, 77]⟩ (selN L).2))).2).1, desc := (ordP (whP (nmL (wnt ⟨#[70, 82, 79, 77]⟩ (selN L).2))).2).2.1 } y7 ∧ FrP (fun b => B ≤ b) w v) ?_ ?_
    · rintro v ⟨hv, Fv⟩
      exact lim v _ _ hv rfl rfl Fv fun w' h' F' => hK w' y7 h' F'
    · intro J hJ
      generalize hM : (whP (nmL (wnt ⟨#[70, 82, 79, 77]⟩ (selN L).2))).2 = M at *
      generalize hN : (whP (nmL (wnt ⟨#[70, 82, 79, 77]⟩ (selN L).2))).1 = N at *
      refine ifb (fun hp => ?_) fun hp => ?_
      · rw [aft_t hp] at h8
        unfold ordP at hJ
        rw [if_pos hp] at hJ
        refine pxWant h8 fun v1 k1 g1 => pxName k1 fun v2 k2 g2 => ?_
        refine k2.put { ps0 with kind := 8, star := isP ⟨#[42]⟩ L, list := (selN L).1, table := nmP (wnt ⟨#[70, 82, 79, 77]⟩ (selN L).2), wh := N, order := nmP (wnt ⟨#[66, 89]⟩ M.tail) } (by omega) rfl (vcI rfl rfl rfl rfl rfl) fun v3 k3 g3 => pxEat k3 fun v4 k4 g4 => ?_
        refine k4.put { ps0 with kind := 8, star := isP ⟨#[42]⟩ L, list := (selN L).1, table := nmP (wnt ⟨#[70, 82, 79, 77]⟩ (selN L).2), wh := N, order := nmP (wnt ⟨#[66, 89]⟩ M.tail), desc := isP ⟨#[68, 69, 83, 67]⟩ (nmL (wnt ⟨#[66, 89]⟩ M.tail)) } (by omega) rfl (vcI rfl rfl rfl rfl rfl) fun v5 k5 g5 => ?_
        exact hJ v5 ⟨k5, ((((F8.trans g1).trans g2).trans g3).trans g4).trans g5⟩
      · rw [aft_f hp] at h8
        unfold ordP at hJ
        rw [if_neg (by rw [hp]; simp)] at hJ
        exact hJ w8 ⟨h8, F8⟩
  · intro J hJ
    exact names_loop (T := { ps0 with kind := 8, star := isP ⟨#[42]⟩ L }) h3 hr fun w4 y4 h4 f4 => hJ w4 ⟨y4, h4, F3.trans f4⟩
end Go.Proofs.Qxb6500564aGreat
