/-
  The store: Tables, walked.
-/
import Derived.Test.Qxb6500564aGreatTbX
namespace Go.Proofs.Qxb6500564aGreat
open Go.Den Go.Zip
set_option linter.unusedVariables false
set_option linter.unusedSimpArgs false
variable {dq : Nat}
variable {w w' u v : World} {i j n t f p : Nat} {D : List Bk} {R : List Wr} {cur cur' : Nat → Bk} {op : Bool} {O : Nat → Prop} {T : Nat → Option Es} {pg : Nat → List Nat} {xs : List Th} {nm : ByteArray}

theorem strs_app (a b : List ByteArray) : strs (a ++ b) = strs a ++ strs b := by simp [strs]
theorem heads_snoc (l : List (ByteArray × Nat)) (q : ByteArray × Nat) : headsOf (l ++ [q]) = headsOf l ++ (if q.2 = 0 then [q.1] else []) := by
  unfold headsOf
  rw [List.filter_append, List.map_append]
  congr 1
  by_cases h : q.2 = 0
  · rw [if_pos h, List.filter_cons_of_pos (by simpa using h)]; rfl
  · rw [if_neg h, List.filter_cons_of_neg (by simpa using h)]; rfl
set_option maxHeartbeats 4000000 in
theorem ttables_spec {K : Sl → World → Prop} (s : TW dq w t f p D R cur op O) (c : FCp cur T pg) (d : DBT T xs)
    (hK : ∀ w' r, TW dq w' t f p D R cur op O → FrP O w w' → OS w' r (strs (xs.map fun x => x.tb.name)) 1 → (∀ b, owns r b → w.heap.size ≤ b) → K r w') : S.table_Store_Tables t w K := by
  unfold S.table_Store_Tables
  have hcat : (cat xs).length ≤ 64 := c.hgt (i := 0) (by omega) d.cat0
  refine all_spec (i := 0) s c (by omega) d.cat0 fun w1 r1 S1 F1 o1 own1 => ?_
  have hl := kv_l o1
  have hpl : (prts xs).length = (cat xs).length := by
    have := congrArg List.length (cat_keys xs)
    rw [List.length_map, List.length_map] at this
    exact this.symm
  have l1 := F1.1.1
  refine loopN (fun m st u => ∃ (k : Nat) (out : Sl), st = (out, (k : Int), ()) ∧ k + m = (cat xs).length ∧ OS u out (strs (headsOf ((prts xs).take k))) 1 ∧ (∀ b, owns out b → w1.heap.size ≤ b) ∧ OS u r1 (kvC (cat xs)) 2 ∧ FrP (fun b => w1.heap.size ≤ b) w1 u) (cat xs).length
    ⟨0, ⟨none, 0, 0⟩, rfl, by omega, OS.nil _ _, fun b hb => by (unfold owns at hb; cases hb), o1, FrP.refl _ _⟩ ?_
  rintro m _ u ⟨k, out, rfl, hm, ou, hown, ou1, Fu⟩ Q hQ
  dsimp only
  have Su : TW dq u t f p D R cur op O := S1.new Fu s fun b hb => by omega
  have FFu : FrP O w u := F1.trans' Fu fun b hb => .inr (by omega)
  refine ifd (fun h1 => ?_) fun h1 => ?_
  · have hk : k < (cat xs).length := by omega
    obtain ⟨e, he⟩ : ∃ e, (cat xs)[k]? = some e := ⟨_, List.getElem?_eq_getElem hk⟩
    obtain ⟨q, hq⟩ : ∃ q, (prts xs)[k]? = some q := ⟨_, List.getElem?_eq_getElem (by omega)⟩
    have ek : e.1 = catK q.1 q.2 := by
      have := congrArg (fun l => l[k]?) (cat_keys xs)
      simp only [List.getElem?_map, he, hq, Option.map_some] at this
      exact Option.some.inj this
    have hqo := prts_ok d q (List.mem_of_getElem? hq)
    have htk : (prts xs).take (k + 1) = (prts xs).take k ++ [q] := by rw [List.take_add_one, hq]; rfl
    refine join_P (fun x u' => OS u' x (strs (headsOf ((prts xs).take (k + 1)))) 1 ∧ (∀ b, owns x b → w1.heap.size ≤ b) ∧ OS u' r1 (kvC (cat xs)) 2 ∧ FrP (fun b => w1.heap.size ≤ b) w1 u') ?_ ?_
    · rintro x u' ⟨a1, a2, a3, a4⟩
      refine let_ ?_
      rw [W_succ (by omega)]
      exact hQ (m - 1) _ _ (by omega) ⟨k + 1, x, rfl, by omega, a1, a2, a3, a4⟩
    · intro J hJ
      refine kvKey ou1 he ?_
      rw [ek]
      have hsz := catK_size hqo.1 hqo.2
      have hbt := catK_bt hqo.1 hqo.2
      have hpl7 : (padL (bt q.1) 6).length = 7 := padL_len (by rw [bt_len]; exact hqo.1)
      rw [if_pos (by rw [hsz]; simp)]
      refine ixB (o := 7) (m := q.2) (by rw [hbt, List.getElem?_append_right (by omega), hpl7]; rfl) ?_
      by_cases h0 : q.2 = 0
      · rw [if_pos (by simp [h0])]
        refine cutStr (lo := 0) (hi := 7) (by omega) (by omega) ?_
        have ec : (catK q.1 q.2).extract 0 7 = padB q.1 6 := by
          apply bt_inj
          rw [bt_extract, hbt, padB_bt hqo.1 (by omega), List.drop_zero, List.take_append_of_le_length (by omega), List.take_of_length_le (by omega)]
        rw [ec]
        refine unpad_spec (n := 6) hqo.1 (by omega) ?_
        rw [if_pos rfl]
        refine newB fun u1 b1 g1 z1 => ?_
        have b1 : Blk u1 u.heap.size (strs [q.1]) := b1
        have ou' : OS u1 out (strs (headsOf ((prts xs).take k))) 1 := ou.frp (FrP.of0 (P := fun _ => False) g1) fun _ _ h => h
        have hol : out.l ≤ 64 := by
          have := ou.len
          rw [strs_length] at this
          have h2 : (headsOf ((prts xs).take k)).length ≤ k := by
            unfold headsOf
            rw [List.length_map]
            exact Nat.le_trans (List.length_filter_le ..) (by rw [List.length_take]; omega)
          omega
        have lu := Fu.1.1
        refine app1 ou' b1 rfl rfl rfl (by omega) fun out' u2 o2 l2 own2 F2 => hJ _ _ ⟨?_, fun b hb => ?_, ?_, ?_⟩
        · rw [htk, heads_snoc, if_pos h0, strs_app]; exact o2
        · exact (own2 b hb).elim (hown b) fun h => by have := g1.1.1; omega
        · exact (ou1.frp (FrP.of0 (P := fun _ => False) g1) fun _ _ h => h).frp F2 fun b hb h => by have := hown b h; have := o1.lt hb; omega
        · exact (Fu.trans (FrP.of0 g1)).trans (F2.mono fun b hb => hown b hb)
      · rw [if_neg (by simp only [beq_iff_eq]; omega)]
        refine hJ _ _ ⟨?_, hown, ou1, Fu⟩
        rw [htk, heads_snoc, if_neg h0, List.append_nil]
        exact ou
  · have e : k = (cat xs).length := by omega
    rw [e, List.take_of_length_le (by omega), heads_all] at ou
    exact hK u out Su FFu ou fun b hb => by have := hown b hb; omega
end Go.Proofs.Qxb6500564aGreat
