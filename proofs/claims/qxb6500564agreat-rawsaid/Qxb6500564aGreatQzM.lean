/-
  SELECT's end: the model's project: one row is picked.
-/
import Derived.Test.Qxb6500564aGreatQzL
namespace Go.Proofs.Qxb6500564aGreat
open Go.Den Go.Zip
set_option linter.unusedVariables false
set_option linter.unusedSimpArgs false
variable {w w' u v : World} {i j k n a b b0 h0 q g : Nat} {x nm : ByteArray} {cs : List Cl} {sc hit c r : Sl} {row : List Vl} {T : Smt} {ss hs : List Sl} {rows hr : List (List Vl)} {val : Vl} {ns : List ByteArray}

/-- One row of the answer is picked (model). -/
theorem mpick_row {J : Sl → World → Prop} {p1 : Nat} {C1 : List Value} {xs : Sl} {n0 : ByteArray} {pk ixx : Int} (hC1 : C1 = schC n0 sc pk ixx) (b1 : Blk w p1 C1) (oc : OS w sc (colC cs) 2) (hcl : cs.length < 1000000) (on : OS w c (strC ns) 1) (hnl : ns.length < 1000000)
    (oh : OS w hit (hs.map slV) 1) (hx : hs[i]? = some xs) (ox : OS w xs (rowC row) 3) (hrow : row.length = cs.length) (hco : ∀ n ∈ ns, coN cs n ≠ none)
    (hJ : ∀ w' rs, OS w' rs (rowC (prR cs ns row)) 3 → (∀ b, owns rs b → w.heap.size ≤ b) → Fr 0 0 w w' → J rs w') :
            LoopP (σ := Sl × Int × Unit) (fun st19 w next20 =>
              if (decide (st19.2.1 < (c.l : Int))) = true then
                Drew w fun w =>
                Ix hit.a hit.l (i : Int) fun b21 o22 =>
                Hold w ⟨b21, o22 + Int.toNat (i : Int) * 1, none⟩ 1 fun R23 =>
                LdS w ⟨b21, o22 + Int.toNat (i : Int) * 1, none⟩ fun Rows_24 =>
                LdStr w ⟨p1, 0, none⟩ fun Name_25 =>
                LdS w ⟨p1, 1, none⟩ fun Cols_26 =>
                LdI .i64 w ⟨p1, 2, none⟩ fun PK_27 =>
                LdI .i64 w ⟨p1, 3, none⟩ fun Index_28 =>
                Ix c.a c.l st19.2.1 fun b29 o30 =>
                LdStr w ⟨b29, o30 + Int.toNat st19.2.1 * 1, none⟩ fun x_31 =>
                S.querym_colOf Name_25 Cols_26 PK_27 Index_28 x_31 w (fun r32 w =>
                After R23 w <|
                Ix Rows_24.a Rows_24.l r32 fun b33 o34 =>
                LdB w ⟨b33, o34 + Int.toNat r32 * 3, none⟩ fun IsStr_35 =>
                LdI .i64 w ⟨b33, o34 + Int.toNat r32 * 3 + 1, none⟩ fun I_36 =>
                LdStr w ⟨b33, o34 + Int.toNat r32 * 3 + 2, none⟩ fun S_37 =>
                New w (.cells #[.bool IsStr_35, .int .i64 I_36, .string S_37] 167) fun p38 w =>
                AppS 167 [.bool false, .int .i64 0, .string ⟨#[]⟩] 32 3 w st19.1 ⟨some ⟨p38, 0, none⟩, 1, 1⟩ fun l39 w =>
                Let (W (st19.2.1 + 1)) fun j_40 =>
                next20 (l39, j_40, ()) w)
              else
                J st19.1 w) (⟨none, 0, 0⟩, 0, ()) w := by
  subst hC1
  have hcn := lenAt (c := 1) (f := fun x : ByteArray => [Value.string x]) (fun _ => rfl) on (by omega)
  refine loopN (fun m sv u => ∃ (p : Nat) (rs : Sl), sv = (rs, (p : Int), ()) ∧ p + m = ns.length ∧ OS u rs (rowC (prR cs (ns.take p) row)) 3 ∧ (∀ b, owns rs b → w.heap.size ≤ b) ∧ Fr 0 0 w u) ns.length ⟨0, nilS, rfl, by omega, OS.nil _ _, fun b hb => (by cases hb), Fr.refl _ _ _⟩ ?_
  rintro m _ u ⟨p, rs, rfl, hm, ors, hrs, fu⟩ Q hQ
  dsimp only
  refine ifd (fun hlt => ?_) fun hlt => ?_
  · have hlt : p < ns.length := by omega
    obtain ⟨nm, hnm⟩ : ∃ nm, ns[p]? = some nm := ⟨_, List.getElem?_eq_getElem hlt⟩
    obtain ⟨ci, hci⟩ := Option.ne_none_iff_exists'.1 (hco nm (List.mem_of_getElem? hnm))
    have hcil := coN_lt hci
    have b1u := b1.fr fu (by omega)
    have ohu := OS.dr (OS.fr0 oh fu)
    have hil := (List.getElem?_eq_some_iff.1 hx).1
    have hhl : hit.l = hs.length := by
      have := OS.len oh
      rw [List.length_map] at this; omega
    refine drew_ (OS.get ohu (by omega) fun g2 us2 hb2 he2 ho2 => ?_)
    have ex : us2[0 + Int.toNat (i : Int) * 1]? = some (slV xs) := by
      rw [Int.toNat_natCast, Nat.zero_add, Nat.mul_one, he2 i (by rw [List.length_map]; exact hil), List.getElem?_map, hx]; rfl
    refine hold_ (ldS hb2 ex (ldStr b1u.drew rfl (ldS b1u.drew rfl (ldI b1u.drew rfl (ldI b1u.drew rfl (cellAt (c := 1) (f := fun x : ByteArray => [Value.string x]) (fun _ => rfl) (OS.dr (OS.fr0 on fu)) (by omega) hnm fun g3 us3 hb3 e03 ek3 ho3 => ldStr hb3 e03 (mcolOf_spec (OS.dr (OS.fr0 oc fu)) hcl fun u2 f2 => ?_)))))))
    refine ⟨holdS hb2 (hb2.fr f2 (by omega)), ?_⟩
    rw [coI_some hci]
    obtain ⟨vv, hvv⟩ : ∃ vv, row[ci]? = some vv := ⟨_, List.getElem?_eq_getElem (by omega)⟩
    refine cellAt (c := 3) (f := valC) (fun _ => rfl) (OS.fr0 (OS.dr (OS.fr0 ox fu)) f2) (by omega) hvv fun g4 us4 hb4 e04 ek4 ho4 => ldB hb4 e04 (ldI hb4 (ek4 1 (by omega)) (ldStr hb4 (ek4 2 (by omega)) (newB fun u3 q3 f3 z3 => ?_)))
    have q3 : Blk u3 u2.heap.size (valC vv) := q3
    have f23 : Fr 0 0 u u3 := (f2.trans f3 : Fr 0 0 u.drew u3)
    have ors3 := OS.fr0 ors f23
    have hrl := row_l ors3
    have hpl : (prR cs (ns.take p) row).length = p := by unfold prR; rw [List.length_map, List.length_take]; omega
    have hle := fu.le
    have hle2 := f23.le
    refine app1 ors3 q3 rfl rfl rfl (by rw [hrl, hpl]; omega) fun rs' u4 o4 l4 gr F4 => let_ ?_
    rw [W_succ (by omega)]
    have e : prR cs (ns.take (p + 1)) row = prR cs (ns.take p) row ++ [vv] := by
      rw [List.take_add_one, hnm]
      unfold prR
      rw [List.map_append]
      show _ ++ [row.getD (coI cs nm).toNat v0] = _
      rw [coI_some hci, Int.toNat_natCast, getD_of hvv]
    refine hQ (m - 1) _ _ (by omega) ⟨p + 1, rs', rfl, by omega, by rw [e, rowC_snoc]; exact o4, fun b hb => ?_, ?_⟩
    · rcases gr b hb with h | h
      · exact hrs b h
      · omega
    · have F : FrP (fun b => w.heap.size ≤ b) w u4 := (FrP.of0 (fu.trans f23)).trans (F4.mono fun b hb => hrs b hb)
      exact ⟨F.1, fun b hb _ => F.2 b hb (by omega)⟩
  · have : ns.take p = ns := List.take_of_length_le (by omega)
    rw [this] at ors
    exact hJ u rs ors hrs fu
end Go.Proofs.Qxb6500564aGreat
