/-
  The store: load.
-/
import Derived.Test.Qxb6500564aGreatTbG
namespace Go.Proofs.Qxb6500564aGreat
open Go.Den Go.Zip
set_option linter.unusedVariables false
set_option linter.unusedSimpArgs false
variable {dq : Nat}
variable {w w' : World} {i j n t f p : Nat} {D : List Bk} {R : List Wr} {cur cur' : Nat → Bk} {op : Bool} {O : Nat → Prop} {T : Nat → Option Es} {pg : Nat → List Nat} {xs : List Th} {s : Sl}

def schC (nm : ByteArray) (s : Sl) (pk ix : Int) : List Value := [.string nm, .slice s.a s.l s.c, .int .i64 pk, .int .i64 ix]
theorem st4 {q : Nat} {nm : ByteArray} {s : Sl} {pk ix : Int} {vs : List Value} {K : World → Prop} (h : Blk w q vs) (hl : vs.length = 4) (hk : ∀ w', Blk w' q (schC nm s pk ix) → Fr q 1 w w' → K w') :
    St1 w ⟨q, 0, none⟩ (.string nm) fun w => St1 w ⟨q, 1, none⟩ (.slice s.a s.l s.c) fun w => St1 w ⟨q, 2, none⟩ (.int .i64 pk) fun w => St1 w ⟨q, 3, none⟩ (.int .i64 ix) fun w => K w := by
  match vs, hl with
  | [_, _, _, _], _ =>
    refine st1 h (by show _ < 4; omega) fun w1 h f1 _ => st1 h (by show _ < 4; omega) fun w2 h f2 _ => st1 h (by show _ < 4; omega) fun w3 h f3 _ => st1 h (by show _ < 4; omega) fun w4 h f4 _ => hk w4 h (((f1.trans f2).trans f3).trans f4)
theorem rd4 {q : Nat} {nm : ByteArray} {s : Sl} {pk ix : Int} {K : ByteArray → Sl → Int → Int → Prop} (b : Blk w q (schC nm s pk ix)) (hk : K nm s pk ix) :
    LdStr w ⟨q, 0, none⟩ fun a => LdS w ⟨q, 1, none⟩ fun b => LdI .i64 w ⟨q, 2, none⟩ fun c => LdI .i64 w ⟨q, 3, none⟩ fun d => K a b c d := ldStr b rfl (ldS b rfl (ldI b rfl (ldI b rfl hk)))
theorem rd5' {q : Nat} {a0 a1 a2 a3 a4 : Int} {K : Int → Int → Int → Int → Int → Prop} (b : Blk w q [.int .i64 a0, .int .i64 a1, .int .i64 a2, .int .i64 a3, .int .i64 a4]) (hk : K a0 a1 a2 a3 a4) :
    LdI .i64 w ⟨q, 0, none⟩ fun a => LdI .i64 w ⟨q, 1, none⟩ fun b => LdI .i64 w ⟨q, 2, none⟩ fun c => LdI .i64 w ⟨q, 3, none⟩ fun d => LdI .i64 w ⟨q, 4, none⟩ fun e => K a b c d e := ldI b rfl (ldI b rfl (ldI b rfl (ldI b rfl (ldI b rfl hk))))
theorem noSchema_spec {K : ByteArray → Sl → Int → Int → World → Prop} (hK : ∀ w', Fr 0 0 w w' → K ⟨#[]⟩ ⟨none, 0, 0⟩ 0 (-1) w') : S.table_noSchema w K := by
  unfold S.table_noSchema
  exact newB fun w1 c1 f1 s1 => st4 (s := ⟨none, 0, 0⟩) c1 rfl fun w2 c2 f2 => rd4 c2 (hK w2 (f1.thenNew f2 (Nat.le_refl _)))
/-- Head and schema are laid and read. -/
theorem out9 {q1 q2 : Nat} {a0 a1 a2 a3 a4 : Int} {nm : ByteArray} {s : Sl} {pk ix : Int} {us vs : List Value} {K : Int → Int → Int → Int → Int → ByteArray → Sl → Int → Int → World → Prop} (b1 : Blk w q1 us) (l1 : us.length = 5) (b2 : Blk w q2 vs) (l2 : vs.length = 4) (hne : q1 ≠ q2)
    (hk : ∀ w', FrP (fun b => b = q1 ∨ b = q2) w w' → K a0 a1 a2 a3 a4 nm s pk ix w') :
    St1 w ⟨q1, 0, none⟩ (.int .i64 a0) fun w => St1 w ⟨q1, 1, none⟩ (.int .i64 a1) fun w => St1 w ⟨q1, 2, none⟩ (.int .i64 a2) fun w => St1 w ⟨q1, 3, none⟩ (.int .i64 a3) fun w => St1 w ⟨q1, 4, none⟩ (.int .i64 a4) fun w =>
    St1 w ⟨q2, 0, none⟩ (.string nm) fun w => St1 w ⟨q2, 1, none⟩ (.slice s.a s.l s.c) fun w => St1 w ⟨q2, 2, none⟩ (.int .i64 pk) fun w => St1 w ⟨q2, 3, none⟩ (.int .i64 ix) fun w =>
    LdI .i64 w ⟨q1, 0, none⟩ fun a => LdI .i64 w ⟨q1, 1, none⟩ fun b => LdI .i64 w ⟨q1, 2, none⟩ fun c => LdI .i64 w ⟨q1, 3, none⟩ fun d => LdI .i64 w ⟨q1, 4, none⟩ fun e =>
    LdStr w ⟨q2, 0, none⟩ fun a' => LdS w ⟨q2, 1, none⟩ fun b' => LdI .i64 w ⟨q2, 2, none⟩ fun c' => LdI .i64 w ⟨q2, 3, none⟩ fun d' => K a b c d e a' b' c' d' w := by
  refine st5 b1 l1 fun w1 c1 f1 => st4 (b2.fr f1 (by omega)) l2 fun w2 c2 f2 => rd5' (c1.fr f2 (by omega)) (rd4 c2 (hk w2 ?_))
  exact (FrP.of f1 fun b h1 h2 => .inl (by omega)).trans (FrP.of f2 fun b h1 h2 => .inr (by omega))
def c0 : Cl := ⟨⟨#[]⟩, false⟩
def fillC (cs : List Cl) (t : Nat) : List Cl := cs.take t ++ List.replicate (cs.length - t) c0
theorem fillC_len {cs : List Cl} {t : Nat} (h : t ≤ cs.length) : (fillC cs t).length = cs.length := by unfold fillC; simp; omega
theorem fillC_step {cs : List Cl} {c : Cl} {t : Nat} (hc : cs[t]? = some c) : (fillC cs t).set t c = fillC cs (t + 1) := by
  have ht : t < cs.length := (List.getElem?_eq_some_iff.1 hc).1
  unfold fillC
  rw [List.set_append, if_neg (by rw [List.length_take]; omega), List.length_take, Nat.min_eq_left (by omega), Nat.sub_self, show cs.length - t = (cs.length - (t + 1)) + 1 by omega, List.replicate_succ, List.set_cons_zero, List.take_add_one, hc, Option.toList_some, List.append_assoc]
  rfl
theorem colC_rep (m : Nat) : reps [.string ⟨#[]⟩, .bool false] m = colC (List.replicate m c0) := by
  induction m with
  | zero => rfl
  | succ m ih => show _ ++ reps _ m = _; rw [ih, List.replicate_succ]; rfl
theorem colSet {q : Nat} {cs : List Cl} {x : Cl} {K : World → Prop} (b : Blk w q (colC cs)) (hi : i < cs.length) (hk : ∀ w', Blk w' q (colC (cs.set i x)) → Fr q 1 w w' → K w') :
    St1 w ⟨q, 0 + Int.toNat (i : Int) * 2, none⟩ (.string x.name) fun w => St1 w ⟨q, 0 + Int.toNat (i : Int) * 2 + 1, none⟩ (.bool x.st) fun w => K w := by
  have hl := colC_len cs
  rw [Int.toNat_natCast, Nat.zero_add]
  refine st1 b (by omega) fun w1 c1 f1 _ => st1 c1 (by rw [List.length_set]; omega) fun w2 c2 f2 _ => hk w2 ?_ (f1.trans f2)
  have e : ((colC cs).set (i * 2) (.string x.name)).set (i * 2 + 1) (.bool x.st) = colC (cs.set i x) := by
    refine List.ext_getElem? fun m => ?_
    rcases Nat.lt_or_ge m (cs.length * 2) with hm | hm
    · obtain ⟨r, k, hk3, rfl⟩ : ∃ r k, k < 2 ∧ m = r * 2 + k := ⟨m / 2, m % 2, Nat.mod_lt _ (by omega), by omega⟩
      have hr : r < cs.length := by omega
      obtain ⟨y, hy⟩ : ∃ y, cs[r]? = some y := ⟨_, List.getElem?_eq_getElem hr⟩
      rw [List.getElem?_set, List.getElem?_set]
      by_cases e : r = i
      · subst e
        rw [colC_get (cs := cs.set r x) hk3 (List.getElem?_set_self hr)]
        simp only [List.length_set]
        rcases (by omega : k = 0 ∨ k = 1) with rfl | rfl
        · rw [if_neg (by omega), if_pos (by omega), if_pos (by omega)]; rfl
        · rw [if_pos rfl, if_pos (by omega)]; rfl
      · rw [if_neg (by omega), if_neg (by omega)]
        rw [colC_get hk3 hy, colC_get (cs := cs.set i x) hk3 (by rw [List.getElem?_set_ne (fun h => e h.symm)]; exact hy)]
    · rw [List.getElem?_eq_none (by simp; omega), List.getElem?_eq_none (by rw [colC_len, List.length_set]; omega)]
  rw [← e]
  exact c2
set_option maxHeartbeats 4000000 in
theorem load_store {nm : ByteArray} {K : Int → Int → Int → Int → Int → ByteArray → Sl → Int → Int → Int → World → Prop} (s : TW dq w t f p D R cur op O) (c : FCp cur T pg) (d : DBT T xs)
    (h1 : fnd nm xs = none → ∀ w', TW dq w' t f p D R cur op O → FrP O w w' → K 0 0 0 0 0 ⟨#[]⟩ ⟨none, 0, 0⟩ 0 (-1) 10 w')
    (h2 : ∀ x, fnd nm xs = some x → ∀ w' q, TW dq w' t f p D R cur op O → FrP O w w' → w.heap.size ≤ q → Blk w' q (colC x.tb.cols) → K x.hd.nc x.hd.pk x.hd.ix x.hd.rows x.hd.idx nm (fullS q x.tb.cols.length) x.tb.pk x.tb.ix 0 w') : S.table_Store_load t nm w K := by
  unfold S.table_Store_load
  refine newB fun w1 a1 f1 s1 => newB fun w2 b2 f2 s2 => ?_
  have a1 : Blk w1 w.heap.size [.int .i64 0, .int .i64 0, .int .i64 0, .int .i64 0, .int .i64 0] := a1
  have b2 : Blk w2 w1.heap.size (schC ⟨#[]⟩ ⟨none, 0, 0⟩ 0 0) := b2
  have a2 := a1.fr f2 (by omega)
  have F2 : Fr 0 0 w w2 := f1.then0 f2
  have S2 := (s.fr0 f1).fr0 f2
  have nw : ∀ b, (b = w.heap.size ∨ b = w1.heap.size) → ¬ O b := fun b hb h => by have := s.2.1.2.1.lt h; omega
  -- the answer 'no such table'
  have none_ : fnd nm xs = none → ∀ u, Blk u w.heap.size [.int .i64 0, .int .i64 0, .int .i64 0, .int .i64 0, .int .i64 0] → Blk u w1.heap.size (schC ⟨#[]⟩ ⟨none, 0, 0⟩ 0 0) → TW dq u t f p D R cur op O → FrP O w u → ∀ u1, Fr 0 0 u u1 → ∀ u2, FrP (fun b => b = w.heap.size ∨ b = w1.heap.size) u1 u2 → K 0 0 0 0 0 ⟨#[]⟩ ⟨none, 0, 0⟩ 0 (-1) 10 u2 := fun hf u au bu Su Fu u1 g1 u2 g2 =>
    h1 hf u2 ((Su.fr0 g1).new g2 s fun b hb => by omega) ((Fu.trans (FrP.of0 g1)).trans' g2 fun b hb => .inr (by omega))
  refine goodName_spec ?_
  by_cases hg : 1 ≤ nm.size ∧ nm.size ≤ 6
  · rw [decide_eq_true hg, if_neg (by simp)]
    refine catKey_spec (i := 0) hg.2 (by omega) fun w3 f3 => ?_
    have S3 := S2.fr0 f3
    refine S3.ft (fget_spec (i := 0) S3.2.1 c (by omega) d.cat0 fun w4 s4 F4 => ?_)
    have S4 := S3.ofO F4 s4
    have a4 := (a2.fr f3 (by omega)).frp F4 (nw _ (.inl rfl))
    have b4 := (b2.fr f3 (by omega)).frp F4 (nw _ (.inr rfl))
    have FF4 : FrP O w w4 := (FrP.of0 (F2.then0 f3)).trans F4
    rw [gt_cat hg.2 (by omega) d.small d.srt]
    cases hf : fnd nm xs with
    | none =>
      dsimp only [FindA]
      rw [if_pos (by simp)]
      refine noSchema_spec fun w5 f5 => out9 (s := ⟨none, 0, 0⟩) (a4.fr f5 (by omega)) rfl (b4.fr f5 (by omega)) rfl (by omega) fun w6 F6 => none_ hf w4 a4 b4 S4 FF4 w5 f5 w6 F6
    | some x =>
      obtain ⟨hx, hxn⟩ := fnd_mem hf
      have okx := d.ok x hx
      have okt := okx.1
      unfold TbOk at okt
      subst hxn
      dsimp only
      rw [gt_head]
      dsimp only [FindA]
      rw [if_neg (by simp)]
      refine headOf_spec okx.2 fun w5 f5 => ?_
      have S5 := S4.fr0 f5
      refine newB fun w6 c6 f6 s6 => st5 c6 rfl fun w7 c7 f7 => ?_
      have c7 : Blk w7 w5.heap.size x.hd.cells := c7
      have l4 : w1.heap.size + 1 ≤ w4.heap.size := by
        have e1 := f3.1.1
        have e2 := F4.1.1
        omega
      have l5 := f5.1.1
      have S7 := (S5.fr0 f6).new (Q := fun b => b = w5.heap.size) (FrP.of f7 fun b h1 h2 => by omega) s fun b hb => by omega
      have FF7 : FrP O w w7 := ((FF4.trans (FrP.of0 f5)).trans (FrP.of0 f6)).trans' (Q := fun b => b = w5.heap.size) (FrP.of f7 fun b h1 h2 => by omega) fun b hb => .inr (by omega)
      have a7 := ((a4.fr f5 (by omega)).fr f6 (by omega)).fr f7 (by omega)
      have b7 := ((b4.fr f5 (by omega)).fr f6 (by omega)).fr f7 (by omega)
      rw [join_eq, if_neg (by simp), if_neg (by simp)]
      refine ldI c7 rfl ?_
      have hnc : x.hd.nc = x.tb.cols.length := rfl
      rw [hnc]
      refine mkS (by omega) (by omega) (by omega) (by omega) fun w8 q8 f8 s8 => ?_
      rw [Int.toNat_natCast, colC_rep] at q8
      rw [Int.toNat_natCast]
      have l7 := f7.1.1
      have S8 := S7.fr0 f8
      have FF8 := FF7.trans (FrP.of0 f8)
      have nO7 : ¬ O w7.heap.size := fun h => by have := s.2.1.2.1.lt h; omega
      have nO5 : ¬ O w5.heap.size := fun h => by have := s.2.1.2.1.lt h; omega
      refine join_W (fun u => Blk u w7.heap.size (colC x.tb.cols) ∧ Blk u w5.heap.size x.hd.cells ∧ Blk u w.heap.size [.int .i64 0, .int .i64 0, .int .i64 0, .int .i64 0, .int .i64 0] ∧ Blk u w1.heap.size (schC ⟨#[]⟩ ⟨none, 0, 0⟩ 0 0) ∧ TW dq u t f p D R cur op O ∧ FrP O w u) ?_ ?_
      · rintro u ⟨qu, cu, au, bu, Su, Fu⟩
        refine drew_ (rd5 cu.drew (hold_ (ldI cu.drew rfl (hold_ (ldI cu.drew rfl (st5 au.drew rfl fun u1 a1' g1 => ?_))))))
        have cu1 := cu.drew.fr g1 (by omega)
        refine ⟨holdS cu.drew cu1, holdS cu.drew cu1, st4 (s := fullS w7.heap.size x.tb.cols.length) (bu.drew.fr g1 (by omega)) rfl fun u2 b2' g2 => rd5' (a1'.fr g2 (by omega)) (rd4 b2' ?_)⟩
        have Sd : TW dq u.drew t f p D R cur op O := ⟨Su.1.drew, ⟨Su.2.1.1.drew, Su.2.1.2.1.frp (FrP.refl (fun _ => False) u).drew (fun _ _ h => h), Su.2.1.2.2⟩, Su.2.2⟩
        have G : FrP (fun b => b = w.heap.size ∨ b = w1.heap.size) u.drew u2 := (FrP.of g1 fun b h1 h2 => .inl (by omega)).trans (FrP.of g2 fun b h1 h2 => .inr (by omega))
        exact h2 x hf u2 w7.heap.size (Sd.new G s fun b hb => by omega) (Fu.drew.trans' G fun b hb => .inr (by omega)) (by omega) (qu.drew.frp G fun h => by omega)
      · intro J hJ
        have a8 := a7.fr f8 (by omega)
        have b8 := b7.fr f8 (by omega)
        have c8 := c7.fr f8 (by omega)
        refine loopN (fun m st u => ∃ k : Nat, st = ((k : Int), ()) ∧ k + m = x.tb.cols.length ∧ Blk u w7.heap.size (colC (fillC x.tb.cols k)) ∧ Blk u w5.heap.size x.hd.cells ∧ Blk u w.heap.size [.int .i64 0, .int .i64 0, .int .i64 0, .int .i64 0, .int .i64 0] ∧ Blk u w1.heap.size (schC ⟨#[]⟩ ⟨none, 0, 0⟩ 0 0) ∧ TW dq u t f p D R cur op O ∧ FrP O w u) x.tb.cols.length
          ⟨0, rfl, by omega, q8, c8, a8, b8, S8, FF8⟩ ?_
        rintro m _ u ⟨k, rfl, hm, qu, cu, au, bu, Su, Fu⟩ Q hQ
        dsimp only
        refine ldI cu rfl (ifd (fun h3 => ?_) fun h3 => hJ _ ⟨?_, cu, au, bu, Su, Fu⟩)
        · rw [hnc] at h3
          obtain ⟨cl, hcl⟩ : ∃ cl, x.tb.cols[k]? = some cl := ⟨_, List.getElem?_eq_getElem (by omega)⟩
          have hgood := okt.2.2.1 cl (List.mem_of_getElem? hcl)
          rw [show W (1 + (k : Int)) = ((1 + k : Nat) : Int) by rw [W_id (by omega) (by omega)]; omega]
          refine catKey_spec hg.2 (by omega) fun u1 g1 => ?_
          have Su1 := Su.fr0 g1
          refine Su1.ft (fget_spec (i := 0) Su1.2.1 c (by omega) d.cat0 fun u2 su2 Fu2 => ?_)
          have Su2 := Su1.ofO Fu2 su2
          rw [gt_cat hg.2 (by omega) d.small d.srt, hf]
          dsimp only
          rw [gt_col hg.2 okt.2.1.2 hcl]
          dsimp only [FindA]
          refine colOf_spec hgood.1 hgood.2 fun u3 g3 => ?_
          have q3 := (((qu.fr g1 (by omega)).frp Fu2 nO7).fr g3 (by omega))
          have c3 := (((cu.fr g1 (by omega)).frp Fu2 nO5).fr g3 (by omega))
          have a3 := (((au.fr g1 (by omega)).frp Fu2 (nw _ (.inl rfl))).fr g3 (by omega))
          have b3 := (((bu.fr g1 (by omega)).frp Fu2 (nw _ (.inr rfl))).fr g3 (by omega))
          refine ixF (by omega) (colSet (x := cl) q3 (by rw [fillC_len (by omega)]; omega) fun u4 q4 g4 => ?_)
          rw [fillC_step hcl] at q4
          rw [join_eq, if_neg (by simp), if_neg (by simp)]
          refine let_ ?_
          rw [W_succ (by omega)]
          refine hQ (m - 1) _ _ (by omega) ⟨k + 1, rfl, by omega, q4, c3.fr g4 (by omega), a3.fr g4 (by omega), b3.fr g4 (by omega), ?_, ?_⟩
          · exact (Su2.fr0 g3).new (Q := fun b => b = w7.heap.size) (FrP.of g4 fun b h1 h2 => by omega) s fun b hb => by omega
          · exact (((Fu.trans (FrP.of0 g1)).trans Fu2).trans (FrP.of0 g3)).trans' (Q := fun b => b = w7.heap.size) (FrP.of g4 fun b h1 h2 => by omega) fun b hb => .inr (by omega)
        · rw [hnc] at h3
          have e : k = x.tb.cols.length := by omega
          have : fillC x.tb.cols k = x.tb.cols := by unfold fillC; rw [e, Nat.sub_self]; simp
          rw [this] at qu
          exact qu
  · rw [decide_eq_false hg, if_pos (by simp)]
    have hf : fnd nm xs = none := by
      cases hf : fnd nm xs with
      | none => rfl
      | some x =>
        obtain ⟨hx, hxn⟩ := fnd_mem hf
        have := (d.ok x hx).1.1
        rw [hxn] at this
        exact absurd this hg
    refine noSchema_spec fun w5 f5 => out9 (s := ⟨none, 0, 0⟩) (a2.fr f5 (by omega)) rfl (b2.fr f5 (by omega)) rfl (by omega) fun w6 F6 => none_ hf w2 a2 b2 S2 (FrP.of0 F2) w5 f5 w6 F6
end Go.Proofs.Qxb6500564aGreat
