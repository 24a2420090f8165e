/-
  SELECT's end: the real engine.
-/
import Derived.Test.Qxb6500564aGreatQzH
namespace Go.Proofs.Qxb6500564aGreat
open Go.Den Go.Zip
set_option linter.unusedVariables false
set_option linter.unusedSimpArgs false
variable {w w' u v : World} {i j k n a b b0 h0 q g : Nat} {x nm : ByteArray} {cs : List Cl} {sc hit c r : Sl} {row : List Vl} {T : Smt} {y : Nat → Sl} {ss hs : List Sl} {rows hr : List (List Vl)} {val : Vl} {ns : List ByteArray}

theorem reps_row : ∀ n, reps (valC v0) n = rowC (List.replicate n v0)
  | 0 => rfl
  | n + 1 => by
    rw [reps, reps_row n, List.replicate_succ]
    rfl
/-- One row of the answer is picked (real). -/
theorem pick_row {J : World → Prop} {p1 p8 : Nat} {C1 C8 : List Value} {xs : Sl} {l12 : Sl} {n0 : ByteArray} {pk ixx : Int} (hC1 : C1 = schC n0 sc pk ixx) (b1 : Blk w p1 C1) (b8 : Blk w p8 C8) (e8 : C8[2]? = some (slV c)) (oc : OS w sc (colC cs) 2) (hcl : cs.length < 1000000) (on : OS w c (strC ns) 1) (hnl : ns.length < 1000000)
    (oh : OS w hit (hs.map slV) 1) (hx : hs[i]? = some xs) (ox : OS w xs (rowC row) 3) (hrow : row.length = cs.length) (hco : ∀ n ∈ ns, coN cs n ≠ none)
    (h12 : l12 = fullS g ns.length) (bg : Blk w g (rowC (List.replicate ns.length v0))) (ng : g ≠ p1 ∧ g ≠ p8 ∧ ¬ owns sc g ∧ ¬ owns c g ∧ ¬ owns hit g ∧ ¬ owns xs g)
    (hJ : ∀ w', Blk w' g (rowC (prR cs ns row)) → Fr g 1 w w' → J w') :
            LoopP (σ := Int × Unit) (fun st18 w next19 =>
              LdS w ⟨p8, 2, none⟩ fun Cols_20 =>
              if (decide (st18.1 < (Cols_20.l : Int))) = true then
                Drew w fun w =>
                Ix hit.a hit.l (i : Int) fun b21 o22 =>
                Hold w ⟨b21, o22 + Int.toNat (i : Int) * 1, none⟩ 1 fun R23 =>
                LdS w ⟨b21, o22 + Int.toNat (i : Int) * 1, none⟩ fun x_24 =>
                LdStr w ⟨p1, 0, none⟩ fun Name_25 =>
                LdS w ⟨p1, 1, none⟩ fun Cols_26 =>
                LdI .i64 w ⟨p1, 2, none⟩ fun PK_27 =>
                LdI .i64 w ⟨p1, 3, none⟩ fun Index_28 =>
                LdS w ⟨p8, 2, none⟩ fun Cols_29 =>
                Ix Cols_29.a Cols_29.l st18.1 fun b30 o31 =>
                LdStr w ⟨b30, o31 + Int.toNat st18.1 * 1, none⟩ fun x_32 =>
                S.query_ColOf Name_25 Cols_26 PK_27 Index_28 x_32 w (fun r33 w =>
                After R23 w <|
                Ix x_24.a x_24.l r33 fun b34 o35 =>
                LdB w ⟨b34, o35 + Int.toNat r33 * 3, none⟩ fun IsStr_36 =>
                LdI .i64 w ⟨b34, o35 + Int.toNat r33 * 3 + 1, none⟩ fun I_37 =>
                LdStr w ⟨b34, o35 + Int.toNat r33 * 3 + 2, none⟩ fun S_38 =>
                Ix l12.a l12.l st18.1 fun b39 o40 =>
                St1 w ⟨b39, o40 + Int.toNat st18.1 * 3, none⟩ (.bool IsStr_36) fun w =>
                St1 w ⟨b39, o40 + Int.toNat st18.1 * 3 + 1, none⟩ (.int .i64 I_37) fun w =>
                St1 w ⟨b39, o40 + Int.toNat st18.1 * 3 + 2, none⟩ (.string S_38) fun w =>
                Let (W (st18.1 + 1)) fun j_41 =>
                next19 (j_41, ()) w)
              else
                J w) (0, ()) w := by
  subst hC1
  subst h12
  have hcn := lenAt (c := 1) (f := fun x : ByteArray => [Value.string x]) (fun _ => rfl) on (by omega)
  have hcn' : (⟨c.a, c.l, c.c⟩ : Sl).l = ns.length := hcn
  refine loopN (fun m sv u => ∃ (p : Nat), sv = ((p : Int), ()) ∧ p + m = ns.length ∧ Blk u g (rowC ((prR cs (ns.take p) row) ++ List.replicate m v0)) ∧ Fr g 1 w u) ns.length ⟨0, rfl, by omega, bg, Fr.refl _ _ _⟩ ?_
  rintro m _ u ⟨p, rfl, hm, bu, fu⟩ Q hQ
  dsimp only
  have kB : ∀ {q : Nat} {vs : List Value}, Blk w q vs → q ≠ g → Blk u q vs := fun {q vs} h hne => h.fr fu (by omega)
  have kO : ∀ {s : Sl} {vs : List Value} {z : Nat}, OS w s vs z → ¬ owns s g → OS u s vs z := fun {s vs z} h hne => h.frp (FrP.of (P := fun b => b = g) fu fun b h1 h2 => by omega) fun b hb e => hne (e ▸ hb)
  have b1u := kB b1 (fun e => ng.1 e.symm)
  have b8u := kB b8 (fun e => ng.2.1 e.symm)
  refine ldS b8u e8 (ifd (fun hlt => ?_) fun hlt => ?_)
  · have hlt : p < ns.length := by omega
    obtain ⟨nm, hnm⟩ : ∃ nm, ns[p]? = some nm := ⟨_, List.getElem?_eq_getElem hlt⟩
    obtain ⟨ci, hci⟩ := Option.ne_none_iff_exists'.1 (hco nm (List.mem_of_getElem? hnm))
    have hcil := coN_lt hci
    have ohu := OS.dr (kO oh ng.2.2.2.2.1)
    have hil := (List.getElem?_eq_some_iff.1 hx).1
    have hhl : hit.l = hs.length := by
      have := OS.len oh
      rw [List.length_map] at this; omega
    refine drew_ (OS.get ohu (by omega) fun g2 us2 hb2 he2 ho2 => ?_)
    have ex : us2[0 + Int.toNat (i : Int) * 1]? = some (slV xs) := by
      rw [Int.toNat_natCast, Nat.zero_add, Nat.mul_one, he2 i (by rw [List.length_map]; exact hil), List.getElem?_map, hx]; rfl
    refine hold_ (ldS hb2 ex (ldStr b1u.drew rfl (ldS b1u.drew rfl (ldI b1u.drew rfl (ldI b1u.drew rfl (ldS b8u.drew e8 (cellAt (c := 1) (f := fun x : ByteArray => [Value.string x]) (fun _ => rfl) (OS.dr (kO on ng.2.2.2.1)) (by omega) hnm fun g3 us3 hb3 e03 ek3 ho3 => ldStr hb3 e03 (ColOf_spec (OS.dr (kO oc ng.2.2.1)) hcl fun u2 f2 => ?_))))))))
    refine ⟨holdS hb2 (hb2.fr f2 (by omega)), ?_⟩
    rw [coI_some hci]
    obtain ⟨vv, hvv⟩ : ∃ vv, row[ci]? = some vv := ⟨_, List.getElem?_eq_getElem (by omega)⟩
    refine cellAt (c := 3) (f := valC) (fun _ => rfl) (OS.fr0 (OS.dr (kO ox ng.2.2.2.2.2)) f2) (by omega) hvv fun g4 us4 hb4 e04 ek4 ho4 => ldB hb4 e04 (ldI hb4 (ek4 1 (by omega)) (ldStr hb4 (ek4 2 (by omega)) ?_))
    have hpl : (prR cs (ns.take p) row).length = p := by unfold prR; rw [List.length_map, List.length_take]; omega
    have bu2 : Blk u2 g (rowC ((prR cs (ns.take p) row) ++ List.replicate m v0) ++ []) := by
      rw [List.append_nil]
      exact bu.drew.fr f2 (by omega)
    refine ix (b := g) (o := 0) rfl (by omega) (by show (p : Int) < ((ns.length : Nat) : Int); omega) (layV (val := vv) (i := p) bu2 (by rw [List.length_append, hpl, List.length_replicate]; omega) fun u3 b3 f3 => ?_)
    refine let_ ?_
    rw [W_succ (by omega)]
    refine hQ (m - 1) _ _ (by omega) ⟨p + 1, rfl, by omega, ?_, (fu.drew.then0 f2).trans f3⟩
    rw [List.append_nil] at b3
    have e : (prR cs (ns.take p) row ++ List.replicate m v0).set p vv = prR cs (ns.take (p + 1)) row ++ List.replicate (m - 1) v0 := by
      obtain ⟨m', rfl⟩ : ∃ m', m = m' + 1 := ⟨m - 1, by omega⟩
      rw [List.set_append_right _ _ (by omega), hpl, Nat.sub_self, List.replicate_succ, List.set_cons_zero, List.take_add_one, hnm]
      unfold prR
      rw [List.map_append, List.append_assoc]
      show _ = _ ++ ([row.getD (coI cs nm).toNat v0] ++ _)
      rw [coI_some hci, Int.toNat_natCast, getD_of hvv]
      rfl
    rw [e] at b3
    exact b3
  · have : m = 0 := by omega
    subst this
    rw [List.take_of_length_le (by omega), List.replicate_zero, List.append_nil] at bu
    exact hJ u bu fu
end Go.Proofs.Qxb6500564aGreat
