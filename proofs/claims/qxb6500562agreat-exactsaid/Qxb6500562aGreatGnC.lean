/-
  The code generator: emits, in symbols; nodes.
-/
import Derived.Test.Qxb6500562aGreatGnB
namespace Go.Proofs.Qxb6500562aGreat
open Go.Den Go.Zip
set_option linter.unusedVariables false
set_option linter.unusedSimpArgs false
variable {w w' : World} {g : Nat} {P : Prg} {O O' : Nat → Prop} {hs en : List Int} {ck m : Nat} {L A B : List Sym} {x : Int}

def GM (w : World) (g ck m : Nat) (P : Prg) (L : List Sym) (hs en : List Int) (O : Nat → Prop) : Prop := GQ w g ck m P (L.map r0) hs (callsOf 0 L) en O
theorem map_by (l : List Nat) : (byS l).map r0 = l := by
  unfold byS
  rw [List.map_map]
  have : (r0 ∘ Sum.inl : Nat → Nat) = id := rfl
  rw [this, List.map_id]
theorem em_by (L : List Sym) (l : List Nat) : (L ++ byS l).map r0 = L.map r0 ++ l ∧ callsOf 0 (L ++ byS l) = callsOf 0 L := by
  rw [List.map_append, map_by, callsOf_app, callsOf_by, List.append_nil]; exact ⟨rfl, rfl⟩
theorem calls_len : ∀ (L : List Sym) (p : Nat), (callsOf p L).length ≤ L.length
  | [], p => Nat.le_refl _
  | .inl _ :: L, p => by have := calls_len L (p + 1); show (callsOf (p + 1) L).length ≤ L.length + 1; omega
  | .inr (_, true) :: L, p => by have := calls_len L (p + 1); show (callsOf (p + 1) L).length ≤ L.length + 1; omega
  | .inr (_, false) :: L, p => by have := calls_len L (p + 1); show (callsOf (p + 1) L).length + 1 ≤ L.length + 1; omega
theorem gop {o : Nat} {K : World → Prop} (q : GM w g ck m P L hs en O) (ho : o < 256) (hc : L.length + 1 ≤ 60000) (hK : ∀ w' O', GM w' g ck m P (L ++ byS [o]) hs en O' → Gw O w O' w' → K w') : S.gen_Engine_op g (o : Nat) w K := by
  refine op_spec q (by rw [List.length_map]; omega) fun w' O' q' G => hK w' O' ?_ G
  have e : b8 (o : Nat) = o := by unfold b8; rw [U8_nat, Int.toNat_natCast, Nat.mod_eq_of_lt ho]
  unfold GM
  rw [(em_by L [o]).1, (em_by L [o]).2]
  rw [e] at q'
  exact q'
theorem gslot {o : Nat} {s : Int} {K : World → Prop} (q : GM w g ck m P L hs en O) (ho : o < 256) (hc : L.length + 2 ≤ 60000) (hK : ∀ w' O', GM w' g ck m P (L ++ byS [o, b8 s]) hs en O' → Gw O w O' w' → K w') : S.gen_Engine_slot g (o : Nat) s w K := by
  refine slot_spec q (by rw [List.length_map]; omega) fun w' O' q' G => hK w' O' ?_ G
  have e : b8 (o : Nat) = o := by unfold b8; rw [U8_nat, Int.toNat_natCast, Nat.mod_eq_of_lt ho]
  unfold GM
  rw [(em_by L _).1, (em_by L _).2]
  rw [e] at q'
  exact q'
theorem gnum {v : Int} {K : World → Prop} (q : GM w g ck m P L hs en O) (hc : L.length + 9 ≤ 60000) (hK : ∀ w' O', GM w' g ck m P (L ++ numS v) hs en O' → Gw O w O' w' → K w') : S.gen_Engine_num g v w K := by
  refine num_spec q (by rw [List.length_map]; omega) fun w' O' q' G => hK w' O' ?_ G
  unfold GM
  have e : numS v = byS (0 :: i64B v) := rfl
  rw [e] at q' ⊢
  rw [map_by] at q'
  rw [(em_by L _).1, (em_by L _).2]
  exact q'
theorem gback {o to_ : Nat} {K : World → Prop} (q : GM w g ck m P L hs en O) (ho : o < 256) (hc : L.length + 3 ≤ 60000) (hK : ∀ w' O', GM w' g ck m P (L ++ jmpS o to_) hs en O' → Gw O w O' w' → K w') : S.gen_Engine_back g (o : Nat) (to_ : Nat) w K := by
  refine back_spec q (by rw [List.length_map]; omega) fun w' O' q' G => hK w' O' ?_ G
  have e : b8 (o : Nat) = o := by unfold b8; rw [U8_nat, Int.toNat_natCast, Nat.mod_eq_of_lt ho]
  unfold GM jmpS
  rw [(em_by L _).1, (em_by L _).2]
  rw [e] at q'
  exact q'
theorem gahead {o : Nat} {K : World → Prop} (q : GM w g ck m P L hs en O) (ho : o < 256) (hc : L.length + 3 ≤ 60000) (hh : hs.length ≤ 60000) (hK : ∀ w' O', GM w' g ck m P (L ++ byS [o, 0, 0]) (hs ++ [((L.length + 1 : Nat) : Int)]) en O' → Gw O w O' w' → K w') : S.gen_Engine_ahead g (o : Nat) w K := by
  refine ahead_spec q (by rw [List.length_map]; omega) (by omega) fun w' O' q' G => hK w' O' ?_ G
  have e : b8 (o : Nat) = o := by unfold b8; rw [U8_nat, Int.toNat_natCast, Nat.mod_eq_of_lt ho]
  unfold GM
  rw [(em_by L _).1, (em_by L _).2]
  rw [e, List.length_map] at q'
  exact q'
theorem gcall {fn : Int} {K : World → Prop} (q : GM w g ck m P L hs en O) (hc : L.length + 3 ≤ 60000) (hK : ∀ w' O', GM w' g ck m P (L ++ [.inl 24, .inr (fn, false), .inr (fn, true)]) hs en O' → Gw O w O' w' → K w') : S.gen_Engine_call g fn w K := by
  refine call_spec q (by rw [List.length_map]; omega) (by have := calls_len L 0; omega) fun w' O' q' G => hK w' O' ?_ G
  unfold GM
  rw [List.map_append, callsOf_app]
  rw [List.length_map] at q'
  have e1 : ([.inl 24, .inr (fn, false), .inr (fn, true)] : List Sym).map r0 = [24, 0, 0] := by simp [r0, rnd]
  have e2 : callsOf (0 + L.length) ([.inl 24, .inr (fn, false), .inr (fn, true)] : List Sym) = [(((L.length + 1 : Nat) : Int), fn)] := by rw [Nat.zero_add]; rfl
  rw [e1, e2]
  exact q'
theorem set_fill (a b : List Nat) (o u v : Nat) : ((a ++ [o, 0, 0] ++ b).set (a.length + 1) u).set (a.length + 1 + 1) v = a ++ [o, u, v] ++ b := by
  rw [List.append_assoc, List.set_append_right _ _ (by omega), List.set_append_right _ _ (by omega), List.append_assoc]
  congr 1
  rw [show a.length + 1 - a.length = 1 by omega, show a.length + 1 + 1 - a.length = 2 by omega]
  rfl
theorem em_fill (A B : List Sym) (o t : Nat) : (((A ++ byS [o, 0, 0] ++ B).map r0).set (A.length + 1) (t % 256)).set (A.length + 1 + 1) (t / 256 % 256) = (A ++ jmpS o t ++ B).map r0 ∧ callsOf 0 (A ++ byS [o, 0, 0] ++ B) = callsOf 0 (A ++ jmpS o t ++ B) := by
  constructor
  · have el : A.length = (A.map r0).length := by rw [List.length_map]
    rw [List.map_append, List.map_append, map_by, el, set_fill, List.map_append, List.map_append]
    unfold jmpS
    rw [map_by]; rfl
  · rw [callsOf_app, callsOf_app, callsOf_by, callsOf_app (A ++ jmpS o t), callsOf_app A]
    unfold jmpS
    rw [callsOf_by]
    simp only [List.length_append, byS_len]
    rfl
theorem gland {o : Nat} {K : World → Prop} (q : GM w g ck m P (A ++ byS [o, 0, 0] ++ B) (hs ++ [((A.length + 1 : Nat) : Int)]) en O) (hc : A.length + 3 + B.length ≤ 60000) (hh : hs.length ≤ 60000)
    (hK : ∀ w' O', GM w' g ck m P (A ++ jmpS o (A.length + 3 + B.length) ++ B) hs en O' → Gw O w O' w' → K w') : S.gen_Engine_land g w K := by
  have hl : ((A ++ byS [o, 0, 0] ++ B).map r0).length = A.length + 3 + B.length := by rw [List.length_map]; simp only [List.length_append, byS_len, List.length_cons, List.length_nil]
  refine land_spec q (by rw [hl]; omega) (by rw [hl]; omega) (by omega) fun w' O' q' G => hK w' O' ?_ G
  unfold GM
  rw [hl, (em_fill A B o _).1, (em_fill A B o (A.length + 3 + B.length)).2] at q'
  exact q'
theorem gover {o : Nat} {K : World → Prop} (q : GM w g ck m P (A ++ byS [o, 0, 0] ++ B) (hs ++ [((A.length + 1 : Nat) : Int)]) en O) (hc : A.length + 3 + B.length + 3 ≤ 60000) (hh : hs.length ≤ 60000)
    (hK : ∀ w' O', GM w' g ck m P (A ++ jmpS o (A.length + 3 + B.length + 3) ++ B ++ byS [21, 0, 0]) (hs ++ [((A.length + 3 + B.length + 1 : Nat) : Int)]) en O' → Gw O w O' w' → K w') : S.gen_Engine_over g w K := by
  have hl : ((A ++ byS [o, 0, 0] ++ B).map r0).length = A.length + 3 + B.length := by rw [List.length_map]; simp only [List.length_append, byS_len, List.length_cons, List.length_nil]
  refine over_spec q (by rw [hl]; omega) (by rw [hl]; omega) (by omega) fun w' O' q' G => hK w' O' ?_ G
  unfold GM
  have e : (A ++ byS [o, 0, 0] ++ B).map r0 ++ [21, 0, 0] = (A ++ byS [o, 0, 0] ++ (B ++ byS [21, 0, 0])).map r0 := by rw [← List.append_assoc, (em_by (A ++ byS [o, 0, 0] ++ B) [21, 0, 0]).1]
  have e2 : callsOf 0 (A ++ byS [o, 0, 0] ++ B) = callsOf 0 (A ++ byS [o, 0, 0] ++ (B ++ byS [21, 0, 0])) := by rw [← List.append_assoc, (em_by (A ++ byS [o, 0, 0] ++ B) [21, 0, 0]).2]
  rw [hl, e, e2, (em_fill A _ o _).1, (em_fill A _ o (A.length + 3 + B.length + 3)).2] at q'
  rw [List.append_assoc (A ++ jmpS o _)]
  exact q'
/-! ### Nodes, types, slots -/
theorem nd_cells (ns : List Nd) {i : Nat} (hi : i < ns.length) {k : Nat} (hk : k < 8) : (ns.flatMap ndV)[i * 8 + k]? = (ndV (ndAt ns (i : Int)))[k]? := by
  rw [flat_get (c := 8) (fun _ => rfl) ns i k hk, List.getElem?_eq_getElem hi]
  unfold ndAt
  simp [hi]
theorem GQ.node {cs : List Nat} {cl : List (Int × Int)} {K : Int → Int → Int → Int → Int → Int → Int → ByteArray → World → Prop} (q : GQ w g ck m P cs hs cl en O) (h0 : 0 ≤ x) (h1 : x < P.ns.length)
    (hK : ∀ w', GQ w' g ck m P cs hs cl en O → Fr 0 0 w w' → K (ndAt P.ns x).kind (ndAt P.ns x).a (ndAt P.ns x).b (ndAt P.ns x).c (ndAt P.ns x).next (ndAt P.ns x).val (ndAt P.ns x).pos (ndAt P.ns x).name w') : S.gen_Engine_node g x w K := by
  unfold S.gen_Engine_node
  obtain ⟨i, rfl⟩ : ∃ i : Nat, x = i := ⟨x.toNat, by omega⟩
  obtain ⟨f, Z, b1, b2, b3, b4, e, rfl⟩ := q
  refine newB fun w1 c1 f1 s1 => ?_
  have e1 := e.fr0 f1
  refine ldS e1.x.rc (by rw [tab_get (by omega), e1.t.t1]) ?_
  refine ix rfl (by omega) (by dsimp only; omega) ?_
  rw [Nat.zero_add, Int.toNat_natCast]
  have cell : ∀ k, k < 8 → (P.ns.flatMap ndV)[i * 8 + k]? = (ndV (ndAt P.ns (i : Int)))[k]? := fun k hk => nd_cells P.ns (by omega) hk
  generalize hn : ndAt P.ns (i : Int) = n at *
  refine ldI e1.t.n1 (m := n.kind) ((cell 0 (by omega)).trans rfl) ?_
  refine ldI e1.t.n1 (m := n.a) ((cell 1 (by omega)).trans rfl) ?_
  refine ldI e1.t.n1 (m := n.b) ((cell 2 (by omega)).trans rfl) ?_
  refine ldI e1.t.n1 (m := n.c) ((cell 3 (by omega)).trans rfl) ?_
  refine ldI e1.t.n1 (m := n.next) ((cell 4 (by omega)).trans rfl) ?_
  refine ldI e1.t.n1 (m := n.val) ((cell 5 (by omega)).trans rfl) ?_
  refine ldI e1.t.n1 (m := n.pos) ((cell 6 (by omega)).trans rfl) ?_
  refine ldStr e1.t.n1 (m := n.name) ((cell 7 (by omega)).trans rfl) ?_
  refine Go.Den.st1 c1 (by simp) fun u2 b2 f2 t2 => ?_
  refine Go.Den.st1 b2 (by simp) fun u3 b3 f3 t3 => ?_
  refine Go.Den.st1 b3 (by simp) fun u4 b4 f4 t4 => ?_
  refine Go.Den.st1 b4 (by simp) fun u5 b5 f5 t5 => ?_
  refine Go.Den.st1 b5 (by simp) fun u6 b6 f6 t6 => ?_
  refine Go.Den.st1 b6 (by simp) fun u7 b7 f7 t7 => ?_
  refine Go.Den.st1 b7 (by simp) fun u8 b8 f8 t8 => ?_
  refine Go.Den.st1 b8 (by simp) fun u9 b9 f9 t9 => ?_
  have F : Fr 0 0 w u9 := (f1.any _ 1).trans (((((((f2.trans f3).trans f4).trans f5).trans f6).trans f7).trans f8).trans f9) |>.fresh (Nat.le_refl _) 0 0
  refine ldI b9 rfl (ldI b9 rfl (ldI b9 rfl (ldI b9 rfl (ldI b9 rfl (ldI b9 rfl (ldI b9 rfl (ldStr b9 rfl ?_)))))))
  exact hK u9 ⟨_, _, _, _, _, _, e.fr0 F, rfl⟩ F
/-- A node, laid into a record of the caller's own. -/
theorem lay8 {n : Nd} {K : Nat → World → Prop} (hK : ∀ w' p, Blk w' p (ndV n) → w.heap.size ≤ p → Fr 0 0 w w' → K p w') :
    New w (.cells #[.int .i64 0, .int .i64 0, .int .i64 0, .int .i64 0, .int .i64 0, .int .i64 0, .int .i64 0, .string ⟨#[]⟩] 150) fun p9 w => St1 w ⟨p9, 0, none⟩ (.int .i64 n.kind) fun w => St1 w ⟨p9, 1, none⟩ (.int .i64 n.a) fun w => St1 w ⟨p9, 2, none⟩ (.int .i64 n.b) fun w => St1 w ⟨p9, 3, none⟩ (.int .i64 n.c) fun w =>
      St1 w ⟨p9, 4, none⟩ (.int .i64 n.next) fun w => St1 w ⟨p9, 5, none⟩ (.int .i64 n.val) fun w => St1 w ⟨p9, 6, none⟩ (.int .i64 n.pos) fun w => St1 w ⟨p9, 7, none⟩ (.string n.name) fun w => K p9 w := by
  refine newB fun u1 c1 f1 s1 => ?_
  refine Go.Den.st1 c1 (by simp) fun u2 b2 f2 t2 => ?_
  refine Go.Den.st1 b2 (by simp) fun u3 b3 f3 t3 => ?_
  refine Go.Den.st1 b3 (by simp) fun u4 b4 f4 t4 => ?_
  refine Go.Den.st1 b4 (by simp) fun u5 b5 f5 t5 => ?_
  refine Go.Den.st1 b5 (by simp) fun u6 b6 f6 t6 => ?_
  refine Go.Den.st1 b6 (by simp) fun u7 b7 f7 t7 => ?_
  refine Go.Den.st1 b7 (by simp) fun u8 b8 f8 t8 => ?_
  refine Go.Den.st1 b8 (by simp) fun u9 b9 f9 t9 => ?_
  have F : Fr 0 0 w u9 := (f1.any _ 1).trans (((((((f2.trans f3).trans f4).trans f5).trans f6).trans f7).trans f8).trans f9) |>.fresh (Nat.le_refl _) 0 0
  exact hK u9 _ b9 (Nat.le_refl _) F
/-- A block of one's own stands. -/
theorem keepB {p : Nat} {vs : List Value} (b : Blk w p vs) (hn : ¬ O p) (G : Gw O w O' w') : Blk w' p vs ∧ ¬ O' p := ⟨b.frp G.1 hn, fun h => (G.2 _ h).elim hn fun h' => by have := b.lt; omega⟩
theorem rdI {b : Nat} {zs : List Int} {n : Nat} {K : Int → Prop} (h : Blk w b (ints zs)) (hn : zs.length = n) (h0 : 0 ≤ x) (h1 : x < n) (hK : K (gI zs x)) : Ix (some ⟨b, 0, none⟩) n x fun b o => LdI .i64 w ⟨b, o + Int.toNat x * 1, none⟩ K := by
  refine ix rfl h0 h1 (ldI h (m := gI zs x) ?_ hK)
  rw [Nat.zero_add, Nat.mul_one]
  refine ints_get ?_
  unfold gI
  rw [List.getD_eq_getElem?_getD, List.getElem?_eq_getElem (by omega)]; rfl
theorem GM.fr0 (q : GM w g ck m P L hs en O) (F : Fr 0 0 w w') : GM w' g ck m P L hs en O := by
  obtain ⟨f, Z, b1, b2, b3, b4, e, rfl⟩ := q
  exact ⟨_, _, _, _, _, _, e.fr0 F, rfl⟩
theorem GM.ty {K : Int → Prop} (q : GM w g ck m P L hs en O) (h0 : 0 ≤ x) (h1 : x < P.ns.length) (hK : K (gI P.st.ty x)) : LdS w ⟨g, 6, none⟩ fun Ty => Ix Ty.a Ty.l x fun b o => LdI .i64 w ⟨b, o + Int.toNat x * 1, none⟩ K := by
  obtain ⟨f, Z, b1, b2, b3, b4, e, rfl⟩ := q
  exact ldS e.x.rc (by rw [tab_get (by omega), e.t.t2]) (rdI e.t.n2 e.t.l2 h0 h1 hK)
theorem GM.ref {K : Int → Prop} (q : GM w g ck m P L hs en O) (h0 : 0 ≤ x) (h1 : x < P.ns.length) (hK : K (gI P.st.ref x)) : LdS w ⟨g, 7, none⟩ fun Ty => Ix Ty.a Ty.l x fun b o => LdI .i64 w ⟨b, o + Int.toNat x * 1, none⟩ K := by
  obtain ⟨f, Z, b1, b2, b3, b4, e, rfl⟩ := q
  exact ldS e.x.rc (by rw [tab_get (by omega), e.t.t3]) (rdI e.t.n3 e.t.l3 h0 h1 hK)
theorem gclass_spec {ty : Int} {i r : Nat} {K : Int → World → Prop} (hK : K (cls ty i r : Nat) w) : S.gen_class ty (i : Nat) (r : Nat) w K := by
  unfold S.gen_class
  unfold cls at hK
  by_cases h : 2 ≤ ty
  · rw [if_pos h] at hK; rw [if_pos (by simpa using h)]; exact hK
  · rw [if_neg h] at hK; rw [if_neg (by simpa using h)]; exact hK
theorem cls_lt {ty : Int} {i r : Nat} (h1 : i < 256) (h2 : r < 256) : cls ty i r < 256 := by unfold cls; split <;> assumption
theorem binOp_spec {t : Int} {K : Int → World → Prop} (hK : K (binO t : Nat) w) : S.gen_binOp t w K := by
  unfold S.gen_binOp
  unfold binO at hK
  simp only [beq_iff_eq]
  repeat (first | exact hK | (split <;> rename_i hh <;> first | (rw [if_pos hh] at hK; exact hK) | rw [if_neg hh] at hK))
theorem binO_lt (t : Int) : binO t < 256 := by unfold binO; repeat' split
                                               all_goals omega
theorem gstore_spec {ty : Int} {K : World → Prop} (q : GM w g ck m P L hs en O) (h0 : 0 ≤ x) (h1 : x < P.ns.length) (hc : L.length + 2 ≤ 60000) (hK : ∀ w' O', GM w' g ck m P (L ++ byS [cls ty 3 5, b8 (gI P.st.ref x)]) hs en O' → Gw O w O' w' → K w') : S.gen_Engine_store g x ty w K := by
  unfold S.gen_Engine_store
  exact gclass_spec (i := 3) (r := 5) (q.ref h0 h1 (gslot q (cls_lt (by omega) (by omega)) hc hK))
end Go.Proofs.Qxb6500562aGreat
