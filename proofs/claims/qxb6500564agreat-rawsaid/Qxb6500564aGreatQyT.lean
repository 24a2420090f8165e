/-
  The model's reader: parse.
-/
import Derived.Test.Qxb6500564aGreatQyS
namespace Go.Proofs.Qxb6500564aGreat
open Go.Den Go.Zip
set_option linter.unusedVariables false
set_option linter.unusedSimpArgs false
variable {w w' u v : World} {i j k n a b r st B q : Nat} {s x y : ByteArray} {t : Tk} {A L L' : List Tk} {M M' : Mst} {z : Nat → Sl} {bd : Bool}

theorem st12 {vs : List Value} {K : World → Prop} (h : Blk w q vs) (hl : vs.length = 12) (hK : ∀ w', Blk w' q (mC M z) → Fr q 1 w w' → K w') :
    St1 w ⟨q, 0, none⟩ (.int .i64 (M.kind : Nat)) fun w => St1 w ⟨q, 1, none⟩ (.string M.table) fun w => St1 w ⟨q, 2, none⟩ (.slice (z 0).a (z 0).l (z 0).c) fun w => St1 w ⟨q, 3, none⟩ (.int .i64 (M.pk : Nat)) fun w =>
    St1 w ⟨q, 4, none⟩ (.slice (z 1).a (z 1).l (z 1).c) fun w => St1 w ⟨q, 5, none⟩ (.slice (z 2).a (z 2).l (z 2).c) fun w => St1 w ⟨q, 6, none⟩ (.bool M.star) fun w => St1 w ⟨q, 7, none⟩ (.slice (z 3).a (z 3).l (z 3).c) fun w =>
    St1 w ⟨q, 8, none⟩ (.string M.order) fun w => St1 w ⟨q, 9, none⟩ (.bool M.desc) fun w => St1 w ⟨q, 10, none⟩ (.bool M.hasLim) fun w => St1 w ⟨q, 11, none⟩ (.int .i64 M.lim) fun w => K w := by
  match vs, hl with
  | [_, _, _, _, _, _, _, _, _, _, _, _], _ =>
    exact st1 h (by show _ < 12; omega) fun w1 h f1 _ => st1 h (by show _ < 12; omega) fun w2 h f2 _ => st1 h (by show _ < 12; omega) fun w3 h f3 _ => st1 h (by show _ < 12; omega) fun w4 h f4 _ => st1 h (by show _ < 12; omega) fun w5 h f5 _ => st1 h (by show _ < 12; omega) fun w6 h f6 _ => st1 h (by show _ < 12; omega) fun w7 h f7 _ => st1 h (by show _ < 12; omega) fun w8 h f8 _ => st1 h (by show _ < 12; omega) fun w9 h f9 _ => st1 h (by show _ < 12; omega) fun w10 h f10 _ => st1 h (by show _ < 12; omega) fun w11 h f11 _ => st1 h (by show _ < 12; omega) fun w12 h f12 _ => hK w12 h (((((((((((f1.trans f2).trans f3).trans f4).trans f5).trans f6).trans f7).trans f8).trans f9).trans f10).trans f11).trans f12)
theorem ld12 {K : Int → ByteArray → Sl → Int → Sl → Sl → Bool → Sl → ByteArray → Bool → Bool → Int → Prop} (h : Blk w q (mC M z)) (hK : K (M.kind : Nat) M.table (z 0) (M.pk : Nat) (z 1) (z 2) M.star (z 3) M.order M.desc M.hasLim M.lim) :
    LdI .i64 w ⟨q, 0, none⟩ fun a0 => LdStr w ⟨q, 1, none⟩ fun a1 => LdS w ⟨q, 2, none⟩ fun a2 => LdI .i64 w ⟨q, 3, none⟩ fun a3 => LdS w ⟨q, 4, none⟩ fun a4 => LdS w ⟨q, 5, none⟩ fun a5 => LdB w ⟨q, 6, none⟩ fun a6 => LdS w ⟨q, 7, none⟩ fun a7 => LdStr w ⟨q, 8, none⟩ fun a8 => LdB w ⟨q, 9, none⟩ fun a9 => LdB w ⟨q, 10, none⟩ fun a10 => LdI .i64 w ⟨q, 11, none⟩ fun a11 =>
    K a0 a1 a2 a3 a4 a5 a6 a7 a8 a9 a10 a11 :=
  ldI h rfl (ldStr h rfl (ldS h rfl (ldI h rfl (ldS h rfl (ldS h rfl (ldB h rfl (ldS h rfl (ldStr h rfl (ldB h rfl (ldB h rfl (ldI h rfl hK)))))))))))
theorem isP_not (h : isP x L = true) (hne : x ≠ y) : isP y L = false := by
  rw [Bool.eq_false_iff]
  intro e
  exact hne ((isP_iff.1 h).2.symm.trans (isP_iff.1 e).2)
/-- The lists of the model's statement, in memory from B on. -/
structure ML (w : World) (B : Nat) (M : Mst) (z : Nat → Sl) : Prop where
  os : ∀ i, i < 4 → OS w (z i) (vm [] M i) (szm i)
  dj : ∀ i j, i < 4 → j < 4 → i ≠ j → ∀ b, owns (z i) b → owns (z j) b → False
  no : ∀ i, i < 4 → ∀ b, owns (z i) b → B ≤ b
set_option maxHeartbeats 4000000 in
/-- The end of parse. -/
theorem mfin {p1 : Nat} {vs : List Value} {K : Int → ByteArray → Sl → Int → Sl → Sl → Bool → Sl → ByteArray → Bool → Bool → Int → Bool → World → Prop} (h : MX w B r st A L M z) (q1 : Blk w p1 vs) (hl : vs.length = 12) (hp : p1 < B)
    (h1 : (hd L).kind ≠ 0 → ∀ a0 a1 a2 a3 a4 a5 a6 a7 a8 a9 a10 a11 w', Fr p1 1 w w' → K a0 a1 a2 a3 a4 a5 a6 a7 a8 a9 a10 a11 false w')
    (h2 : (hd L).kind = 0 → ∀ w', ML w' B M z → Fr p1 1 w w' → K (M.kind : Nat) M.table (z 0) (M.pk : Nat) (z 1) (z 2) M.star (z 3) M.order M.desc M.hasLim M.lim true w') :
        Drew w fun w =>
        LdI .i64 w ⟨st, 0, none⟩ fun kind_43 =>
        LdStr w ⟨st, 1, none⟩ fun table_44 =>
        LdS w ⟨st, 2, none⟩ fun cols_45 =>
        LdI .i64 w ⟨st, 3, none⟩ fun pk_46 =>
        LdS w ⟨st, 4, none⟩ fun names_47 =>
        LdS w ⟨st, 5, none⟩ fun vals_48 =>
        LdB w ⟨st, 6, none⟩ fun star_49 =>
        LdS w ⟨st, 7, none⟩ fun where_50 =>
        LdStr w ⟨st, 8, none⟩ fun order_51 =>
        LdB w ⟨st, 9, none⟩ fun desc_52 =>
        LdB w ⟨st, 10, none⟩ fun hasLimit_53 =>
        LdI .i64 w ⟨st, 11, none⟩ fun limit_54 =>
        LdB w ⟨r, 2, none⟩ fun bad_55 =>
        if (!bad_55) = true then
          Hold w ⟨r, 1, none⟩ 1 fun R56 =>
          LdI .i64 w ⟨r, 1, none⟩ fun i_57 =>
          Hold w ⟨r, 0, none⟩ 1 fun R58 =>
          LdS w ⟨r, 0, none⟩ fun t_59 =>
          St1 w ⟨p1, 0, none⟩ (.int .i64 kind_43) fun w =>
          St1 w ⟨p1, 1, none⟩ (.string table_44) fun w =>
          St1 w ⟨p1, 2, none⟩ (.slice cols_45.a cols_45.l cols_45.c) fun w =>
          St1 w ⟨p1, 3, none⟩ (.int .i64 pk_46) fun w =>
          St1 w ⟨p1, 4, none⟩ (.slice names_47.a names_47.l names_47.c) fun w =>
          St1 w ⟨p1, 5, none⟩ (.slice vals_48.a vals_48.l vals_48.c) fun w =>
          St1 w ⟨p1, 6, none⟩ (.bool star_49) fun w =>
          St1 w ⟨p1, 7, none⟩ (.slice where_50.a where_50.l where_50.c) fun w =>
          St1 w ⟨p1, 8, none⟩ (.string order_51) fun w =>
          St1 w ⟨p1, 9, none⟩ (.bool desc_52) fun w =>
          St1 w ⟨p1, 10, none⟩ (.bool hasLimit_53) fun w =>
          St1 w ⟨p1, 11, none⟩ (.int .i64 limit_54) fun w =>
          After R58 w <|
          After R56 w <|
          LdI .i64 w ⟨p1, 0, none⟩ fun kind_60 =>
          LdStr w ⟨p1, 1, none⟩ fun table_61 =>
          LdS w ⟨p1, 2, none⟩ fun cols_62 =>
          LdI .i64 w ⟨p1, 3, none⟩ fun pk_63 =>
          LdS w ⟨p1, 4, none⟩ fun names_64 =>
          LdS w ⟨p1, 5, none⟩ fun vals_65 =>
          LdB w ⟨p1, 6, none⟩ fun star_66 =>
          LdS w ⟨p1, 7, none⟩ fun where_67 =>
          LdStr w ⟨p1, 8, none⟩ fun order_68 =>
          LdB w ⟨p1, 9, none⟩ fun desc_69 =>
          LdB w ⟨p1, 10, none⟩ fun hasLimit_70 =>
          LdI .i64 w ⟨p1, 11, none⟩ fun limit_71 =>
          K kind_60 table_61 cols_62 pk_63 names_64 vals_65 star_66 where_67 order_68 desc_69 hasLimit_70 limit_71 (i_57 == (t_59.l : Int)) w
        else
          St1 w ⟨p1, 0, none⟩ (.int .i64 kind_43) fun w =>
          St1 w ⟨p1, 1, none⟩ (.string table_44) fun w =>
          St1 w ⟨p1, 2, none⟩ (.slice cols_45.a cols_45.l cols_45.c) fun w =>
          St1 w ⟨p1, 3, none⟩ (.int .i64 pk_46) fun w =>
          St1 w ⟨p1, 4, none⟩ (.slice names_47.a names_47.l names_47.c) fun w =>
          St1 w ⟨p1, 5, none⟩ (.slice vals_48.a vals_48.l vals_48.c) fun w =>
          St1 w ⟨p1, 6, none⟩ (.bool star_49) fun w =>
          St1 w ⟨p1, 7, none⟩ (.slice where_50.a where_50.l where_50.c) fun w =>
          St1 w ⟨p1, 8, none⟩ (.string order_51) fun w =>
          St1 w ⟨p1, 9, none⟩ (.bool desc_52) fun w =>
          St1 w ⟨p1, 10, none⟩ (.bool hasLimit_53) fun w =>
          St1 w ⟨p1, 11, none⟩ (.int .i64 limit_54) fun w =>
          LdI .i64 w ⟨p1, 0, none⟩ fun kind_72 =>
          LdStr w ⟨p1, 1, none⟩ fun table_73 =>
          LdS w ⟨p1, 2, none⟩ fun cols_74 =>
          LdI .i64 w ⟨p1, 3, none⟩ fun pk_75 =>
          LdS w ⟨p1, 4, none⟩ fun names_76 =>
          LdS w ⟨p1, 5, none⟩ fun vals_77 =>
          LdB w ⟨p1, 6, none⟩ fun star_78 =>
          LdS w ⟨p1, 7, none⟩ fun where_79 =>
          LdStr w ⟨p1, 8, none⟩ fun order_80 =>
          LdB w ⟨p1, 9, none⟩ fun desc_81 =>
          LdB w ⟨p1, 10, none⟩ fun hasLimit_82 =>
          LdI .i64 w ⟨p1, 11, none⟩ fun limit_83 =>
          K kind_72 table_73 cols_74 pk_75 names_76 vals_77 star_78 where_79 order_80 desc_81 hasLimit_82 limit_83 false w := by
  obtain ⟨i, bd, M1, hs, hh⟩ := h.dr
  have q1 := q1.drew
  refine drew_ (ld12 (M := M1) (z := z) hs.blk (ldB hs.rb rfl ?_))
  have hne : p1 ≠ r := by have := hs.br; omega
  rcases hh with ⟨rfl, rfl, rfl⟩ | ⟨rfl, rfl⟩
  · rw [if_pos (show (!false) = true from rfl)]
    refine hold_ (ldI hs.rb rfl (hold_ (ldS hs.rb rfl (st12 (M := M1) (z := z) q1 hl fun w2 b2 f2 => ?_))))
    have rb2 := hs.rb.fr f2 (by omega)
    refine ⟨holdS hs.rb rb2, holdS hs.rb rb2, ld12 (M := M1) (z := z) b2 ?_⟩
    have htl : (⟨(z 4).a, (z 4).l, (z 4).c⟩ : Sl).l = A.length := hs.tl
    rw [htl]
    by_cases e : i < A.length
    · obtain ⟨t, ht⟩ := get_lt e
      have e2 : (((i : Nat) : Int) == ((A.length : Nat) : Int)) = false := by rw [beq_eq_false_iff_ne]; omega
      rw [e2]
      refine h1 ?_ _ _ _ _ _ _ _ _ _ _ _ _ _ f2
      rw [hd_at ht]
      have := (hs.ok t (List.mem_of_getElem? ht)).1
      omega
    · have := hs.il
      have e2 : (((i : Nat) : Int) == ((A.length : Nat) : Int)) = true := by rw [beq_iff_eq]; omega
      rw [e2]
      refine h2 (by rw [drop_end e]; rfl) w2 ⟨fun k hk => ?_, fun i j hi hj => hs.dj i j (by omega) (by omega), fun k hk b hb => (hs.no k (by omega) b hb).2.2⟩ f2
      have o := (hs.os k (by omega)).frp (FrP.of (P := fun b => b = p1) f2 fun b h1 h2 => by omega) fun b hb e => by
        have := (hs.no k (by omega) b hb).2.2
        omega
      rcases k with _ | _ | _ | _ | k
      · exact o
      · exact o
      · exact o
      · exact o
      · omega
  · rw [if_neg (by simp)]
    refine st12 (M := M1) (z := z) q1 hl fun w2 b2 f2 => ld12 (M := M1) (z := z) b2 (h1 (by decide) _ _ _ _ _ _ _ _ _ _ _ _ _ f2)
end Go.Proofs.Qxb6500564aGreat
