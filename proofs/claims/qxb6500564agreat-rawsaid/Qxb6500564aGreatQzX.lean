/-
  The model's run: the hits.
-/
import Derived.Test.Qxb6500564aGreatQzW
namespace Go.Proofs.Qxb6500564aGreat
open Go.Den Go.Zip
set_option linter.unusedVariables false
set_option linter.unusedSimpArgs false
variable {w w' w3 u v : World} {i j k n a b b0 q g d p h0 p1 p2 p3 : Nat} {nm n0 : ByteArray} {cs : List Cl} {sc hit r c x xs rw_ : Sl} {row : List Vl} {T : Smt} {M : Mst} {z : Nat → Sl} {ss hs : List Sl} {rows hr rws : List (List Vl)} {U U' : Mu} {O O' O1 O1' Op : Nat → Prop} {t tq : Tb} {s : Int} {C1 C2 C3 : List Value}

set_option maxHeartbeats 4000000 in
theorem mhits {J : Sl → World → Prop} {pk ixx : Int} (gs : GS p1 p2 p3 (mC (toM T) z) C2 (schC n0 sc pk ixx) sc cs (toM T) z w) (fr : FR b0 w rw_ ss rws) (hlen : ∀ row ∈ rws, row.length = cs.length) (hl8 : rws.length ≤ 8) (hcl : cs.length < 1000) (hT : SmOk T) (hco : ∀ c ∈ T.wh, coN cs c.col ≠ none)
    (lp : p1 < b0 ∧ p2 < b0 ∧ p3 < b0) (lc : ∀ b, owns sc b → b < b0) (lz : ∀ i, i < 4 → ∀ b, owns (z i) b → b < b0) (hb0 : b0 ≤ w.heap.size)
    (hJ : ∀ v hit hs, GS p1 p2 p3 (mC (toM T) z) C2 (schC n0 sc pk ixx) sc cs (toM T) z v → FrP (fun b => b0 ≤ b) w v → FR b0 v hit hs (rws.filter (mtP cs T.wh)) → J hit v) :
            LoopP (σ := Sl × Int × Unit) (fun st160 w next161 =>
              if (decide (st160.2.1 < (rw_.l : Int))) = true then
                Join (fun (hit_162 : Sl) (w : World) =>
                  Let (W (st160.2.1 + 1)) fun i_163 =>
                  next161 (hit_162, i_163, ()) w) fun J164 =>
                Drew w fun w =>
                LdStr w ⟨p3, 0, none⟩ fun Name_165 =>
                LdS w ⟨p3, 1, none⟩ fun Cols_166 =>
                LdI .i64 w ⟨p3, 2, none⟩ fun PK_167 =>
                LdI .i64 w ⟨p3, 3, none⟩ fun Index_168 =>
                LdS w ⟨p1, 7, none⟩ fun where_169 =>
                Ix rw_.a rw_.l st160.2.1 fun b170 o171 =>
                LdS w ⟨b170, o171 + Int.toNat st160.2.1 * 1, none⟩ fun x_172 =>
                S.querym_match Name_165 Cols_166 PK_167 Index_168 where_169 x_172 w (fun r173 w =>
                if r173 = true then
                  Ix rw_.a rw_.l st160.2.1 fun b174 o175 =>
                  LdS w ⟨b174, o175 + Int.toNat st160.2.1 * 1, none⟩ fun x_176 =>
                  New w (.cells #[.slice x_176.a x_176.l x_176.c] 61) fun p177 w =>
                  AppS 61 [.slice none 0 0] 24 1 w st160.1 ⟨some ⟨p177, 0, none⟩, 1, 1⟩ fun l178 w =>
                  J164 l178 w
                else
                  J164 st160.1 w)
              else
                J st160.1 w) (⟨none, 0, 0⟩, 0, ()) w := by
  have hrl := fr.len
  have hn3 := hT.n3
  have keep : ∀ {u v : World} {P : Nat → Prop}, GS p1 p2 p3 (mC (toM T) z) C2 (schC n0 sc pk ixx) sc cs (toM T) z u → FrP P u v → (∀ b, P b → b0 ≤ b) → GS p1 p2 p3 (mC (toM T) z) C2 (schC n0 sc pk ixx) sc cs (toM T) z v := fun {u v P} g F hP =>
    g.frp F ⟨fun h => by have := hP _ h; omega, fun h => by have := hP _ h; omega, fun h => by have := hP _ h; omega⟩ (fun b hb h => by have := hP _ h; have := lc b hb; omega) fun i hi b hb h => by have := hP _ h; have := lz i hi b hb; omega
  refine loopN (fun m sv v2 => ∃ (p : Nat) (hit : Sl) (hs : List Sl), sv = (hit, (p : Int), ()) ∧ p + m = rws.length ∧ HT b0 v2 hit hs ((rws.take p).filter (mtP cs T.wh)) ss p ∧ GS p1 p2 p3 (mC (toM T) z) C2 (schC n0 sc pk ixx) sc cs (toM T) z v2 ∧ FrP (fun b => b0 ≤ b) w v2 ∧ FR b0 v2 rw_ ss rws ∧ b0 ≤ v2.heap.size ∧ ∀ b, owns hit b → ¬ owns rw_ b) rws.length
    ⟨0, nilS, [], rfl, by omega, HT.nil _ _ _, gs, FrP.refl _ _, fr, hb0, fun b hb => (by cases hb)⟩ ?_
  rintro m _ v2 ⟨p, hit, hs, rfl, hm, ht, fs2, F2, fr2, hsz2, hno⟩ Q hQ
  dsimp only
  refine ifd (fun hlt => ?_) fun hlt => ?_
  · have hlt : p < rws.length := by omega
    obtain ⟨row, hrow⟩ : ∃ row, rws[p]? = some row := ⟨_, List.getElem?_eq_getElem hlt⟩
    obtain ⟨xs, hxs⟩ : ∃ xs, ss[p]? = some xs := ⟨_, List.getElem?_eq_getElem (by rw [fr.row.1]; exact hlt)⟩
    have hrm := List.mem_of_getElem? hrow
    have hxm := List.mem_of_getElem? hxs
    have htk2 : (rws.take (p + 1)).filter (mtP cs T.wh) = (rws.take p).filter (mtP cs T.wh) ++ (if mtP cs T.wh row then [row] else []) := by
      rw [List.take_add_one, hrow, List.filter_append]
      congr 1
      cases hmm : mtP cs T.wh row
      · rw [if_neg (by simp)]; simp [hmm]
      · rw [if_pos rfl]; simp [hmm]
    refine join_P (fun hit' v3 => ∃ hs', HT b0 v3 hit' hs' ((rws.take (p + 1)).filter (mtP cs T.wh)) ss (p + 1) ∧ GS p1 p2 p3 (mC (toM T) z) C2 (schC n0 sc pk ixx) sc cs (toM T) z v3 ∧ FrP (fun b => b0 ≤ b) w v3 ∧ FR b0 v3 rw_ ss rws ∧ b0 ≤ v3.heap.size ∧ ∀ b, owns hit' b → ¬ owns rw_ b) ?_ ?_
    · rintro hit' v3 ⟨hs', ht3, fs3, F3, fr3, hsz3, hno3⟩
      refine let_ ?_
      rw [W_succ (by omega)]
      exact hQ (m - 1) _ _ (by omega) ⟨p + 1, hit', hs', rfl, by omega, ht3, fs3, F3, fr3, hsz3, hno3⟩
    · intro J33 hJ33
      have fd := fs2.dr
      have frd : FR b0 v2.drew rw_ ss rws := fr2.fr0 ((Fr.refl 0 0 v2).drew)
      have gets : ∀ {z : World} {KK : Sl → Prop}, FR b0 z rw_ ss rws → KK xs → Ix rw_.a rw_.l (p : Int) fun b o => LdS z ⟨b, o + Int.toNat (p : Int) * 1, none⟩ KK := fun {z KK} h hk => by
        refine OS.get h.arr (by rw [h.len]; exact hlt) fun g2 us hb he2 ho => ?_
        have e : us[p]? = some (slV xs) := by
          rw [he2 p (by rw [List.length_map, h.row.1]; exact hlt), List.getElem?_map, hxs]; rfl
        exact ldS hb (by rw [Int.toNat_natCast, Nat.zero_add, Nat.mul_one]; exact e) hk
      refine drew_ (ldStr fd.b3 rfl (ldS fd.b3 rfl (ldI fd.b3 rfl (ldI fd.b3 rfl (ldS fd.b1 rfl (gets frd (mmatch_spec (wh := T.wh) (row := row) fd.oc (by omega) (fd.oz 3 (by omega)) (by omega) (frd.row.2 p xs row hxs hrow) (hlen row hrm) hco hT.op fun v3 g3 => ifb (fun hm2 => ?_) fun hm2 => ?_)))))))
      · have fr3 := frd.fr0 g3
        have ht3 := ht.fr0 ((Fr.refl 0 0 v2).drew) |>.fr0 g3
        have hle3 := g3.le
        refine gets fr3 (ht3.add fr3 (by omega) hxs hrow (fun v4 hit4 ht4 F4 gr4 => ?_) (by exact Nat.le_trans hsz2 hle3))
        have fs4 := keep (fd.fr0 g3) F4 fun b hb => hb.1
        refine hJ33 _ _ ⟨hs ++ [xs], by rw [htk2, hm2, if_pos rfl]; exact ht4, fs4, ((F2.drew.trans (FrP.of0 g3)).trans' F4 fun b hb => .inl hb.1), ⟨fr3.arr.frp F4 fun b hb h => hno b h.2 hb, fr3.row.frp F4 fun t ht b hb h => ht3.rn t ht b hb h.2, fr3.ra, fr3.rb, fr3.dis⟩, Nat.le_trans (Nat.le_trans hsz2 hle3) F4.1.1, fun b hb hb' => ?_⟩
        rcases gr4 b hb with h | h
        · exact hno b h hb'
        · have := OS.lt fr3.arr hb'; omega
      · have ht3 := (ht.fr0 ((Fr.refl 0 0 v2).drew) |>.fr0 g3).skip
        exact hJ33 _ _ ⟨hs, by rw [htk2, hm2, if_neg (by simp), List.append_nil]; exact ht3, fd.fr0 g3, F2.drew.trans (FrP.of0 g3), frd.fr0 g3, by have := g3.le; exact Nat.le_trans hsz2 this, hno⟩
  · have hpe : rws.length ≤ p := by omega
    rw [List.take_of_length_le hpe] at ht
    exact hJ v2 hit hs fs2 F2 (ht.fin fr2)
end Go.Proofs.Qxb6500564aGreat
