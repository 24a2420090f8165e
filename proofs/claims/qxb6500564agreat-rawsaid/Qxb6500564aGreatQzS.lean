/-
  UPDATE: the settings are laid into a row, on both sides.
-/
import Derived.Test.Qxb6500564aGreatQzR
namespace Go.Proofs.Qxb6500564aGreat
open Go.Den Go.Zip
set_option linter.unusedVariables false
set_option linter.unusedSimpArgs false
variable {w w' u v : World} {i j k n a b b0 q g p p1 p2 : Nat} {nm n0 : ByteArray} {cs : List Cl} {sc hit ys zs r x xs : Sl} {row : List Vl} {T : Smt} {ss hs : List Sl} {rows hr : List (List Vl)} {val : Vl} {sets : List Cp} {C2 : List Value} {pk ixx : Int}

theorem osSet {K : World → Prop} (o : OS w x (rowC row) 3) (hi : i < row.length) (hk : ∀ w', OS w' x (rowC (row.set i val)) 3 → FrP (owns x) w w' → K w') :
    Ix x.a x.l (i : Int) fun b o => St1 w ⟨b, o + Int.toNat (i : Int) * 3, none⟩ (.bool val.st) fun w => St1 w ⟨b, o + Int.toNat (i : Int) * 3 + 1, none⟩ (.int .i64 val.i) fun w => St1 w ⟨b, o + Int.toNat (i : Int) * 3 + 2, none⟩ (.string val.s) fun w => K w := by
  rcases o with ⟨_, e⟩ | ⟨q, hq, hl, hc, junk, hb, hbl⟩
  · have := rowC_len row
    rw [e] at this
    exact absurd this (by show ¬ (0 : Nat) = _; omega)
  · have hl' := hl
    rw [rowC_len] at hl'
    have hL : (rowC (row.set i val)).length = (rowC row).length := by rw [rowC_len, rowC_len, List.length_set]
    refine ix hq (by omega) (by omega) (layV hb hi fun w' b' f' => hk w' (.inr ⟨q, hq, by rw [hL]; exact hl, hc, junk, b', by rw [List.length_append, hL, ← List.length_append]; exact hbl⟩) (FrP.of f' fun b h1 h2 => ?_))
    have : b = q := by omega
    subst this
    exact hq
theorem FR.turn (h : FR b0 u r ss rows) (hx : ss[p]? = some x) (F : FrP (owns x) u v) (o : OS v x (rowC row) 3) : FR b0 v r ss (rows.set p row) := by
  have hxm := List.mem_of_getElem? hx
  refine ⟨h.arr.frp F fun b hb hx' => (h.rb x hxm b hx').2 hb, ⟨by rw [List.length_set]; exact h.row.1, fun i s r' h1 h2 => ?_⟩, h.ra, h.rb, h.dis⟩
  by_cases e : i = p
  · subst e
    rw [hx] at h1
    cases h1
    have hl := (List.getElem?_eq_some_iff.1 hx).1
    rw [List.getElem?_set_self (by rw [← h.row.1]; exact hl)] at h2
    cases h2
    exact o
  · rw [List.getElem?_set_ne (fun h => e h.symm)] at h2
    exact (h.row.2 i s r' h1 h2).frp F fun b hb hx' => pw_get (fun a c h b hb hb' => h b hb' hb) h.dis e h1 hx b hb hx'
theorem stRow_len {row : List Vl} : (stRow cs sets row).length = row.length := by
  unfold stRow
  induction sets generalizing row with
  | nil => rfl
  | cons c l ih => rw [List.foldl_cons, ih, List.length_set]
theorem stRow_snoc {c : Cp} (h : sets[p]? = some c) : stRow cs (sets.take (p + 1)) row = (stRow cs (sets.take p) row).set (coI cs c.col).toNat c.lit := by
  unfold stRow
  rw [List.take_add_one, h, List.foldl_append]
  rfl
set_option maxHeartbeats 4000000 in
/-- The real one. -/
theorem set_row {J : World → Prop} (b1 : Blk w p1 (schC n0 sc pk ixx)) (b2 : Blk w p2 C2) (e2 : C2[7]? = some (slV ys)) (oc : OS w sc (colC cs) 2) (hcl : cs.length < 1000000) (oy : OS w ys (cpsC sets) 5) (hsl : sets.length < 1000000)
    (oh : OS w hit (hs.map slV) 1) (hx : hs[i]? = some xs) (ox : OS w xs (rowC row) 3) (hrow : row.length = cs.length) (hco : ∀ c ∈ sets, coN cs c.col ≠ none)
    (nx : ∀ b, owns xs b → b ≠ p1 ∧ b ≠ p2 ∧ ¬ owns sc b ∧ ¬ owns ys b ∧ ¬ owns hit b)
    (hJ : ∀ w', OS w' xs (rowC (stRow cs sets row)) 3 → FrP (owns xs) w w' → J w') :
        LoopP (σ := Int × Unit) (fun st51 w next52 =>
          LdS w ⟨p2, 7, none⟩ fun Sets_53 =>
          if (decide (st51.1 < (Sets_53.l : Int))) = true then
            Drew w fun w =>
            Ix hit.a hit.l (i : Int) fun b54 o55 =>
            Hold w ⟨b54, o55 + Int.toNat (i : Int) * 1, none⟩ 1 fun R56 =>
            LdS w ⟨b54, o55 + Int.toNat (i : Int) * 1, none⟩ fun x_57 =>
            LdStr w ⟨p1, 0, none⟩ fun Name_58 =>
            LdS w ⟨p1, 1, none⟩ fun Cols_59 =>
            LdI .i64 w ⟨p1, 2, none⟩ fun PK_60 =>
            LdI .i64 w ⟨p1, 3, none⟩ fun Index_61 =>
            LdS w ⟨p2, 7, none⟩ fun Sets_62 =>
            Ix Sets_62.a Sets_62.l st51.1 fun b63 o64 =>
            LdStr w ⟨b63, o64 + Int.toNat st51.1 * 5, none⟩ fun Col_65 =>
            Hold w ⟨p2, 7, none⟩ 1 fun R66 =>
            LdS w ⟨p2, 7, none⟩ fun Sets_67 =>
            Ix Sets_67.a Sets_67.l st51.1 fun b68 o69 =>
            Hold w ⟨b68, o69 + Int.toNat st51.1 * 5 + 2, none⟩ 3 fun R70 =>
            LdB w ⟨b68, o69 + Int.toNat st51.1 * 5 + 2, none⟩ fun IsStr_71 =>
            LdI .i64 w ⟨b68, o69 + Int.toNat st51.1 * 5 + 2 + 1, none⟩ fun I_72 =>
            LdStr w ⟨b68, o69 + Int.toNat st51.1 * 5 + 2 + 2, none⟩ fun S_73 =>
            S.query_ColOf Name_58 Cols_59 PK_60 Index_61 Col_65 w (fun r74 w =>
            After R70 w <|
            After R66 w <|
            After R56 w <|
            Ix x_57.a x_57.l r74 fun b75 o76 =>
            St1 w ⟨b75, o76 + Int.toNat r74 * 3, none⟩ (.bool IsStr_71) fun w =>
            St1 w ⟨b75, o76 + Int.toNat r74 * 3 + 1, none⟩ (.int .i64 I_72) fun w =>
            St1 w ⟨b75, o76 + Int.toNat r74 * 3 + 2, none⟩ (.string S_73) fun w =>
            Let (W (st51.1 + 1)) fun j_77 =>
            next52 (j_77, ()) w)
          else
            J w) (0, ()) w := by
  have hyn := lenAt (c := 5) (f := cpC) (fun _ => rfl) oy (by omega)
  have hyn' : (⟨ys.a, ys.l, ys.c⟩ : Sl).l = sets.length := hyn
  refine loopN (fun m sv u => ∃ (p : Nat), sv = ((p : Int), ()) ∧ p + m = sets.length ∧ OS u xs (rowC (stRow cs (sets.take p) row)) 3 ∧ FrP (owns xs) w u) sets.length ⟨0, rfl, by omega, ox, FrP.refl _ _⟩ ?_
  rintro m _ u ⟨p, rfl, hm, ou, fu⟩ Q hQ
  dsimp only
  have b1u := b1.frp fu fun h => (nx _ h).1 rfl
  have b2u := b2.frp fu fun h => (nx _ h).2.1 rfl
  refine ldS b2u e2 (ifd (fun hlt => ?_) fun hlt => ?_)
  · have hlt : p < sets.length := by omega
    obtain ⟨c, hc⟩ : ∃ c, sets[p]? = some c := ⟨_, List.getElem?_eq_getElem hlt⟩
    obtain ⟨ci, hci⟩ := Option.ne_none_iff_exists'.1 (hco c (List.mem_of_getElem? hc))
    have hcil := coN_lt hci
    have ohu := OS.dr (oh.frp fu fun b hb h => (nx b h).2.2.2.2 hb)
    have oyu := OS.dr (oy.frp fu fun b hb h => (nx b h).2.2.2.1 hb)
    have ocu := OS.dr (oc.frp fu fun b hb h => (nx b h).2.2.1 hb)
    have hil := (List.getElem?_eq_some_iff.1 hx).1
    have hhl : hit.l = hs.length := by
      have := OS.len oh
      rw [List.length_map] at this; omega
    refine drew_ (OS.get ohu (by omega) fun g2 us2 hb2 he2 ho2 => ?_)
    have ex : us2[0 + Int.toNat (i : Int) * 1]? = some (slV xs) := by
      rw [Int.toNat_natCast, Nat.zero_add, Nat.mul_one, he2 i (by rw [List.length_map]; exact hil), List.getElem?_map, hx]; rfl
    refine hold_ (ldS hb2 ex (ldStr b1u.drew rfl (ldS b1u.drew rfl (ldI b1u.drew rfl (ldI b1u.drew rfl (ldS b2u.drew e2 (cellAt (c := 5) (f := cpC) (fun _ => rfl) oyu (by omega) hc fun g3 us3 hb3 e03 ek3 ho3 => ldStr hb3 e03 (hold_ (ldS b2u.drew e2 (cellAt (c := 5) (f := cpC) (fun _ => rfl) oyu (by omega) hc fun g5 us5 hb5 e05 ek5 ho5 => hold_ (ldB hb5 (ek5 2 (by omega)) (ldI hb5 (ek5 3 (by omega)) (ldStr hb5 (ek5 4 (by omega)) (ColOf_spec ocu hcl fun u2 f2 => ?_))))))))))))))
    refine ⟨holdS hb5 (hb5.fr f2 (by omega)), holdS b2u.drew (b2u.drew.fr f2 (by omega)), holdS hb2 (hb2.fr f2 (by omega)), ?_⟩
    rw [coI_some hci]
    refine osSet (val := c.lit) (i := ci) (OS.fr0 (OS.dr ou) f2) (by rw [stRow_len, hrow]; exact hcil) fun u3 o3 F3 => let_ ?_
    rw [W_succ (by omega)]
    refine hQ (m - 1) _ _ (by omega) ⟨p + 1, rfl, by omega, ?_, (fu.drew.trans (FrP.of0 f2)).trans F3⟩
    rw [stRow_snoc hc, coI_some hci, Int.toNat_natCast]
    exact o3
  · rw [List.take_of_length_le (by omega)] at ou
    exact hJ u ou fu
set_option maxHeartbeats 4000000 in
/-- The model. -/
theorem mset_row {J : World → Prop} (b1 : Blk w p1 (schC n0 sc pk ixx)) (b2 : Blk w p2 C2) (e4 : C2[4]? = some (slV ys)) (e5 : C2[5]? = some (slV zs)) (oc : OS w sc (colC cs) 2) (hcl : cs.length < 1000000) (oy : OS w ys (strC (sets.map (·.col))) 1) (oz : OS w zs (rowC (sets.map (·.lit))) 3) (hsl : sets.length < 1000000)
    (oh : OS w hit (hs.map slV) 1) (hx : hs[i]? = some xs) (ox : OS w xs (rowC row) 3) (hrow : row.length = cs.length) (hco : ∀ c ∈ sets, coN cs c.col ≠ none)
    (nx : ∀ b, owns xs b → b ≠ p1 ∧ b ≠ p2 ∧ ¬ owns sc b ∧ ¬ owns ys b ∧ ¬ owns zs b ∧ ¬ owns hit b)
    (hJ : ∀ w', OS w' xs (rowC (stRow cs sets row)) 3 → FrP (owns xs) w w' → J w') :
                      LoopP (σ := Int × Unit) (fun st132 w next133 =>
                        LdS w ⟨p2, 4, none⟩ fun names_134 =>
                        if (decide (st132.1 < (names_134.l : Int))) = true then
                          Drew w fun w =>
                          Ix hit.a hit.l (i : Int) fun b135 o136 =>
                          Hold w ⟨b135, o136 + Int.toNat (i : Int) * 1, none⟩ 1 fun R137 =>
                          LdS w ⟨b135, o136 + Int.toNat (i : Int) * 1, none⟩ fun x_138 =>
                          LdStr w ⟨p1, 0, none⟩ fun Name_139 =>
                          LdS w ⟨p1, 1, none⟩ fun Cols_140 =>
                          LdI .i64 w ⟨p1, 2, none⟩ fun PK_141 =>
                          LdI .i64 w ⟨p1, 3, none⟩ fun Index_142 =>
                          LdS w ⟨p2, 4, none⟩ fun names_143 =>
                          Ix names_143.a names_143.l st132.1 fun b144 o145 =>
                          LdStr w ⟨b144, o145 + Int.toNat st132.1 * 1, none⟩ fun x_146 =>
                          Hold w ⟨p2, 5, none⟩ 1 fun R147 =>
                          LdS w ⟨p2, 5, none⟩ fun vals_148 =>
                          Ix vals_148.a vals_148.l st132.1 fun b149 o150 =>
                          Hold w ⟨b149, o150 + Int.toNat st132.1 * 3, none⟩ 3 fun R151 =>
                          LdB w ⟨b149, o150 + Int.toNat st132.1 * 3, none⟩ fun IsStr_152 =>
                          LdI .i64 w ⟨b149, o150 + Int.toNat st132.1 * 3 + 1, none⟩ fun I_153 =>
                          LdStr w ⟨b149, o150 + Int.toNat st132.1 * 3 + 2, none⟩ fun S_154 =>
                          S.querym_colOf Name_139 Cols_140 PK_141 Index_142 x_146 w (fun r155 w =>
                          After R151 w <|
                          After R147 w <|
                          After R137 w <|
                          Ix x_138.a x_138.l r155 fun b156 o157 =>
                          St1 w ⟨b156, o157 + Int.toNat r155 * 3, none⟩ (.bool IsStr_152) fun w =>
                          St1 w ⟨b156, o157 + Int.toNat r155 * 3 + 1, none⟩ (.int .i64 I_153) fun w =>
                          St1 w ⟨b156, o157 + Int.toNat r155 * 3 + 2, none⟩ (.string S_154) fun w =>
                          Let (W (st132.1 + 1)) fun j_158 =>
                          next133 (j_158, ()) w)
                        else
                          J w) (0, ()) w := by
  have hyn : ys.l = (sets.map (·.col)).length := lenAt (c := 1) (f := fun x : ByteArray => [Value.string x]) (fun _ => rfl) oy (by omega)
  rw [List.length_map] at hyn
  have hyn' : (⟨ys.a, ys.l, ys.c⟩ : Sl).l = sets.length := hyn
  refine loopN (fun m sv u => ∃ (p : Nat), sv = ((p : Int), ()) ∧ p + m = sets.length ∧ OS u xs (rowC (stRow cs (sets.take p) row)) 3 ∧ FrP (owns xs) w u) sets.length ⟨0, rfl, by omega, ox, FrP.refl _ _⟩ ?_
  rintro m _ u ⟨p, rfl, hm, ou, fu⟩ Q hQ
  dsimp only
  have b1u := b1.frp fu fun h => (nx _ h).1 rfl
  have b2u := b2.frp fu fun h => (nx _ h).2.1 rfl
  refine ldS b2u e4 (ifd (fun hlt => ?_) fun hlt => ?_)
  · have hlt : p < sets.length := by omega
    obtain ⟨c, hc⟩ : ∃ c, sets[p]? = some c := ⟨_, List.getElem?_eq_getElem hlt⟩
    obtain ⟨ci, hci⟩ := Option.ne_none_iff_exists'.1 (hco c (List.mem_of_getElem? hc))
    have hcil := coN_lt hci
    have hc1 : (sets.map (·.col))[p]? = some c.col := by rw [List.getElem?_map, hc]; rfl
    have hc2 : (sets.map (·.lit))[p]? = some c.lit := by rw [List.getElem?_map, hc]; rfl
    have ohu := OS.dr (oh.frp fu fun b hb h => (nx b h).2.2.2.2.2 hb)
    have oyu := OS.dr (oy.frp fu fun b hb h => (nx b h).2.2.2.1 hb)
    have ozu := OS.dr (oz.frp fu fun b hb h => (nx b h).2.2.2.2.1 hb)
    have ocu := OS.dr (oc.frp fu fun b hb h => (nx b h).2.2.1 hb)
    have hil := (List.getElem?_eq_some_iff.1 hx).1
    have hhl : hit.l = hs.length := by
      have := OS.len oh
      rw [List.length_map] at this; omega
    refine drew_ (OS.get ohu (by omega) fun g2 us2 hb2 he2 ho2 => ?_)
    have ex : us2[0 + Int.toNat (i : Int) * 1]? = some (slV xs) := by
      rw [Int.toNat_natCast, Nat.zero_add, Nat.mul_one, he2 i (by rw [List.length_map]; exact hil), List.getElem?_map, hx]; rfl
    refine hold_ (ldS hb2 ex (ldStr b1u.drew rfl (ldS b1u.drew rfl (ldI b1u.drew rfl (ldI b1u.drew rfl (ldS b2u.drew e4 (cellAt (c := 1) (f := fun x : ByteArray => [Value.string x]) (fun _ => rfl) oyu (by omega) hc1 fun g3 us3 hb3 e03 ek3 ho3 => ldStr hb3 e03 (hold_ (ldS b2u.drew e5 (cellAt (c := 3) (f := valC) (fun _ => rfl) ozu (by omega) hc2 fun g5 us5 hb5 e05 ek5 ho5 => hold_ (ldB hb5 e05 (ldI hb5 (ek5 1 (by omega)) (ldStr hb5 (ek5 2 (by omega)) (mcolOf_spec ocu hcl fun u2 f2 => ?_))))))))))))))
    refine ⟨holdS hb5 (hb5.fr f2 (by omega)), holdS b2u.drew (b2u.drew.fr f2 (by omega)), holdS hb2 (hb2.fr f2 (by omega)), ?_⟩
    rw [coI_some hci]
    refine osSet (val := c.lit) (i := ci) (OS.fr0 (OS.dr ou) f2) (by rw [stRow_len, hrow]; exact hcil) fun u3 o3 F3 => let_ ?_
    rw [W_succ (by omega)]
    refine hQ (m - 1) _ _ (by omega) ⟨p + 1, rfl, by omega, ?_, (fu.drew.trans (FrP.of0 f2)).trans F3⟩
    rw [stRow_snoc hc, coI_some hci, Int.toNat_natCast]
    exact o3
  · rw [List.take_of_length_le (by omega)] at ou
    exact hJ u ou fu
end Go.Proofs.Qxb6500564aGreat
