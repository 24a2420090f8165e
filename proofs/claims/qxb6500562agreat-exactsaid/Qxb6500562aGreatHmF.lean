/-
  The model's heap: tidy.
-/
import Derived.Test.Qxb6500562aGreatHmE
namespace Go.Proofs.Qxb6500562aGreat
open Go.Den Go.Zip
set_option linter.unusedVariables false
set_option linter.unusedSimpArgs false
variable {w w' w0 u : World} {h : Nat} {es fs : List OE} {roots l : List Int} {so sr s : Sl} {M : SH} {O O' P : Nat → Prop} {nb : Nat}

def z2 : List Value := [.slice none 0 0, .slice none 0 0]
structure TI (w u : World) (s : Sl) (l : List Int) (nb : Nat) (es fs : List OE) : Prop where
  lw : Lw w u s l
  bl : Blk u nb (fs.flatMap obC ++ reps z2 (l.length - fs.length))
  nw : w.heap.size ≤ nb ∧ ¬ owns s nb
  fl : fs.length ≤ l.length
  fp : ∀ j (hj : j < fs.length), ∃ x q, l[j]? = some x ∧ es[x.toNat]? = some q ∧ fs[j].ib = q.ib ∧ fs[j].ob = ⟨q.ob.refs.map (ixOf l), q.ob.ints⟩
  fb : ∀ f ∈ fs, w.heap.size ≤ f.rb ∧ f.rb ≠ nb ∧ ¬ owns s f.rb ∧ Blk u f.rb (ints f.ob.refs)
  fd : fs.Pairwise fun a b => a.rb ≠ b.rb
theorem TI.ext (t : TI w u s l nb es fs) (f : Fr 0 0 u w') : TI w w' s l nb es fs :=
  ⟨⟨FrP.trans' t.lw.1 (FrP.of0 (P := fun _ => False) f) fun b hb => hb.elim, t.lw.2.1.frp (P := fun _ => False) (FrP.of0 f) fun _ _ h => h, t.lw.2.2⟩, t.bl.fr f (by omega), t.nw, t.fl, t.fp, fun e he => ⟨(t.fb e he).1, (t.fb e he).2.1, (t.fb e he).2.2.1, (t.fb e he).2.2.2.fr f (by omega)⟩, t.fd⟩
theorem set2 (A B : List Value) (a0 a1 v0 v1 : Value) {n : Nat} (hn : n = A.length) : ((A ++ (a0 :: a1 :: B)).set n v0).set (n + 1) v1 = (A ++ [v0, v1]) ++ B := by
  subst hn
  rw [List.set_append_right _ _ (by omega), List.set_append_right _ _ (by omega)]
  simp
/-- One object is copied. -/
theorem TI.snoc {e : OE} (t : TI w u s l nb es fs) (hl : fs.length < l.length) (f : Fr nb 1 u w') (hb : Blk w' nb ((fs ++ [e]).flatMap obC ++ reps z2 (l.length - (fs.length + 1)))) (h1 : w.heap.size ≤ e.rb) (h2 : e.rb ≠ nb) (h3 : ¬ owns s e.rb) (h4 : Blk w' e.rb (ints e.ob.refs)) (h5 : ∀ f ∈ fs, f.rb ≠ e.rb)
    {x : Int} {q : OE} (hx : l[fs.length]? = some x) (hq : es[x.toNat]? = some q) (h6 : e.ib = q.ib) (h7 : e.ob = ⟨q.ob.refs.map (ixOf l), q.ob.ints⟩) : TI w w' s l nb es (fs ++ [e]) := by
  refine ⟨⟨FrP.trans' t.lw.1 (FrP.of (P := fun b => b = nb) f fun b h1 h2 => by omega) fun b hb => .inr (by rw [hb]; exact t.nw.1), t.lw.2.1.frp (FrP.of (P := fun b => b = nb) f fun b h1 h2 => by omega) fun b hb e => t.nw.2 (by rw [← e]; exact hb), t.lw.2.2⟩, by simpa using hb, t.nw, by simp; omega, fun j hj => ?_, fun g hg => ?_, ?_⟩
  · by_cases hjl : j < fs.length
    · rw [List.getElem_append_left hjl]
      exact t.fp j hjl
    · have : j = fs.length := by simp at hj; omega
      subst this
      exact ⟨x, q, hx, hq, by simpa using h6, by simpa using h7⟩
  · rcases List.mem_append.1 hg with hg | hg
    · have := t.fb g hg
      exact ⟨this.1, this.2.1, this.2.2.1, this.2.2.2.fr f (by omega)⟩
    · simp only [List.mem_singleton] at hg
      subst hg
      exact ⟨h1, h2, h3, h4⟩
  · rw [List.pairwise_append]
    refine ⟨t.fd, by simp, fun a ha b hb => ?_⟩
    simp only [List.mem_singleton] at hb
    subst hb
    exact h5 a ha
set_option maxHeartbeats 1000000 in
theorem mtidy_spec {K : World → Prop} (m : HM w h M O) (hK : ∀ w' O', HM w' h (tidy M) O' → Gw O w O' w' → K w') : S.heapm_Heap_tidy h w K := by
  unfold S.heapm_Heap_tidy
  refine morder_spec m fun s u hL => ?_
  have hwm := m.wm
  have hwt := hwm.tidy
  have hlen := order_len hwm
  have hol := hwm.ol
  have hrl24 := hwm.rl
  have hin := order_in hwm
  have hnd := order_nodup M
  obtain ⟨es, so, sr, m, e, rfl⟩ := m
  have hel : M.objs.length = es.length := by rw [e]; simp
  have hmm : ∀ u', FrP (fun b => w.heap.size ≤ b) w u' → HMm u' h es M.roots so sr := fun u' f => m.frp f fun b hb h2 => by have := m.lt b hb; omega
  have htd : tidy M = ⟨(order M).map fun x => ⟨(obAt M x).refs.map (ixOf (order M)), (obAt M x).ints⟩, M.roots.map (ixOf (order M))⟩ := rfl
  generalize hl : order M = l at *
  have hsl : s.l = l.length := by have := hL.2.1.len; simpa [ints] using this.symm
  rw [hsl]
  refine mkS (by omega) (by omega) (by omega) (by omega) fun u1 c1 g1 z1 => ?_
  simp only [Int.toNat_natCast] at c1 ⊢
  have c1 : Blk u1 u.heap.size (reps z2 l.length) := c1
  have hwu := hL.1.1.1
  have t0 : TI w u1 s l u.heap.size es [] := by
    refine ⟨⟨FrP.trans' hL.1 (FrP.of0 (P := fun _ => False) g1) fun b hb => hb.elim, hL.2.1.frp (P := fun _ => False) (FrP.of0 g1) fun _ _ h => h, hL.2.2⟩, by simpa using c1, ⟨by omega, fun ho => ?_⟩, by simp, fun j hj => (by simp at hj), fun f hf => (by cases hf), .nil⟩
    have := hL.2.1.lt ho; omega
  generalize hnb : u.heap.size = nb at *
  refine join_W (fun u => ∃ fs, fs.length = l.length ∧ TI w u s l nb es fs) ?_ ?_
  · rintro u ⟨fs, hfl, t⟩
    have mu := hmm u (t.lw.1.mono fun b hb => hb.elim)
    have hrl := mu.rl
    refine ldS mu.rc rfl ?_
    refine join_W (fun u' => FrP (owns sr) u u' ∧ OS u' sr (ints (M.roots.map (ixOf l))) 1) ?_ ?_
    · rintro u' ⟨fu, ou⟩
      have hsh := m.d1.2.1
      refine st1 (mu.rc.frp fu hsh) (by simp) fun u2 b2 f2 _ => ?_
      have hlt := m.lt
      have hnbh : nb ≠ h := fun e => by have := m.rc.lt; have := t.nw.1; omega
      have old : ∀ b, w.heap.size ≤ b → b ≠ h ∧ ¬ owns sr b := fun b hb => ⟨fun e => by have := m.rc.lt; omega, fun ho => by have := m.rt.lt ho; omega⟩
      have keep : ∀ b vs, b ≠ h → ¬ owns sr b → Blk u b vs → Blk u2 b vs := fun b vs h1 h2 hb => (hb.frp fu h2).fr f2 (by omega)
      have hmap : fs.map OE.ob = (tidy M).objs := by
        rw [htd]
        apply List.ext_getElem
        · simp [hfl]
        · intro j hj1 hj2
          simp only [List.getElem_map]
          have hj : j < fs.length := by simpa using hj1
          obtain ⟨x, q, hx, hq, hi, ho⟩ := t.fp j hj
          rw [List.getElem?_eq_getElem (by omega)] at hx
          have hx := Option.some.inj hx
          have hxo : obAt M x = q.ob := by
            unfold obAt
            rw [e, List.getD_eq_getElem?_getD, List.getElem?_map, hq]; rfl
          rw [ho, hx, hxo]
      have erts : (tidy M).roots = M.roots.map (ixOf l) := by rw [htd]
      have hfs : ∀ f ∈ fs, ∃ q ∈ es, f.ib = q.ib ∧ f.ob.ints = q.ob.ints := fun f hf => by
        obtain ⟨j, hj, rfl⟩ := List.mem_iff_getElem.1 hf
        obtain ⟨x, q, hx, hq, hi, ho⟩ := t.fp j hj
        exact ⟨q, List.mem_of_getElem? hq, hi, by rw [ho]⟩
      have hso : ∀ b, owns (⟨some ⟨nb, 0, none⟩, l.length, l.length⟩ : Sl) b → b = nb := fun b hb => by unfold owns at hb; injection hb with h1; injection h1 with h2; exact h2.symm
      have m2 : HMm u2 h fs (M.roots.map (ixOf l)) ⟨some ⟨nb, 0, none⟩, l.length, l.length⟩ sr := by
        refine ⟨b2, .inr ⟨nb, rfl, by rw [flat_length (c := 2) (fun _ => rfl), hfl], Nat.le_refl _, [], ?_, ?_⟩, ?_, fun f hf => ?_, ⟨?_, fun f hf => ?_⟩, ⟨fun ho => hnbh (hso h ho).symm, hsh, fun b hb ho => ?_⟩, fun f hf b hb => ?_, ?_⟩
        · have := t.bl
          rw [hfl, Nat.sub_self] at this
          exact keep nb _ hnbh (old nb t.nw.1).2 (by simpa [reps] using this)
        · simp [flat_length (f := obC) (c := 2) (fun _ => rfl), hfl]
        · exact ou.frp (FrP.of (P := fun b => b = h) f2 fun b h1 h2 => by omega) fun b hb e => hsh (by rw [← e]; exact hb)
        · have hb := t.fb f hf
          refine ⟨keep _ _ (old _ hb.1).1 (old _ hb.1).2 hb.2.2.2, ?_⟩
          obtain ⟨q, hq, e1, e2⟩ := hfs f hf
          have hd := m.d2 q hq q.ib (.inr rfl)
          rw [e1, e2]
          exact keep _ _ hd.1 hd.2.2 (mu.bk q hq).2
        · rw [List.pairwise_iff_getElem]
          intro i j hi hj hij
          have hb1 := t.fb _ (List.getElem_mem hi)
          have hb2 := t.fb _ (List.getElem_mem hj)
          obtain ⟨x1, q1, hx1, hq1, hi1, _⟩ := t.fp i hi
          obtain ⟨x2, q2, hx2, hq2, hi2, _⟩ := t.fp j hj
          have l1 := (m.bk q1 (List.mem_of_getElem? hq1)).2.lt
          have l2 := (m.bk q2 (List.mem_of_getElem? hq2)).2.lt
          refine ⟨List.pairwise_iff_getElem.1 t.fd i j hi hj hij, by rw [hi2]; omega, by rw [hi1]; omega, ?_⟩
          rw [hi1, hi2]
          have hxne : x1 ≠ x2 := by
            intro hxe
            have h1 := ixOf_at hnd hx1
            have h2 := ixOf_at hnd hx2
            rw [hxe, h2] at h1
            omega
          have r1 := hin x1 (List.mem_of_getElem? hx1)
          have r2 := hin x2 (List.mem_of_getElem? hx2)
          have hp := List.pairwise_iff_getElem.1 m.nd.1
          have hn1 : x1.toNat < es.length := by omega
          have hn2 : x2.toNat < es.length := by omega
          rw [List.getElem?_eq_getElem hn1] at hq1
          rw [List.getElem?_eq_getElem hn2] at hq2
          rw [← Option.some.inj hq1, ← Option.some.inj hq2]
          rcases Nat.lt_or_ge x1.toNat x2.toNat with hlt | hge
          · exact (hp _ _ hn1 hn2 hlt).2.2.2
          · exact ((hp _ _ hn2 hn1 (by omega)).2.2.2).symm
        · have hb := t.fb f hf
          obtain ⟨q, hq, e1, _⟩ := hfs f hf
          have := (m.bk q hq).2.lt
          rw [e1]; omega
        · rw [hso b hb] at ho
          exact (old nb t.nw.1).2 ho
        · rcases hb with rfl | rfl
          · have hb := t.fb f hf
            exact ⟨(old _ hb.1).1, fun ho => hb.2.1 (hso _ ho), (old _ hb.1).2⟩
          · obtain ⟨q, hq, e1, _⟩ := hfs f hf
            have hd := m.d2 q hq q.ib (.inr rfl)
            have := (m.bk q hq).2.lt
            rw [e1]
            exact ⟨hd.1, fun ho => by have := hso _ ho; have := t.nw.1; omega, hd.2.2⟩
        · rw [hmap, ← erts]; exact hwt
      refine hK u2 _ ⟨fs, _, sr, by rw [erts]; exact m2, hmap.symm, rfl⟩ ⟨?_, ?_⟩
      · refine FrP.trans' (FrP.trans' (t.lw.1.mono fun b hb => hb.elim) fu fun b hb => .inl (.inr (.inr (.inl hb)))) (FrP.of (P := fun b => b = h) f2 fun b h1 h2 => by omega) fun b hb => .inl (.inl hb)
      · rintro b (hb | hb | hb | ⟨f, hf, rfl | rfl⟩)
        · exact .inl (.inl hb)
        · right; rw [hso b hb]; exact t.nw.1
        · exact .inl (.inr (.inr (.inl hb)))
        · exact .inr (t.fb f hf).1
        · obtain ⟨q, hq, e1, _⟩ := hfs f hf
          exact .inl (.inr (.inr (.inr ⟨q, hq, .inr e1⟩)))
    · intro J4 hJ4
      refine loopN (fun n v u' => ∃ i : Nat, v = ((i : Int), ()) ∧ i + n = M.roots.length ∧ FrP (owns sr) u u' ∧ OS u' sr (ints ((M.roots.take i).map (ixOf l) ++ M.roots.drop i)) 1) M.roots.length ⟨0, rfl, by omega, FrP.refl _ _, by simpa using mu.rt⟩ ?_
      rintro n _ u' ⟨i, rfl, hi, fu, ou⟩ Q hQ
      dsimp only
      cases n with
      | zero =>
        rw [if_neg (by simp only [decide_eq_true_eq]; omega)]
        rw [List.take_of_length_le (by omega), List.drop_of_length_le (by omega), List.append_nil] at ou
        exact hJ4 u' ⟨fu, ou⟩
      | succ n =>
        rw [if_pos (by simp only [decide_eq_true_eq]; omega)]
        have hmid : ((M.roots.take i).map (ixOf l) ++ M.roots.drop i).length = M.roots.length := by simp; omega
        refine osRd ou (by omega) (by omega) ?_
        rw [Int.toNat_natCast]
        have hat : ((M.roots.take i).map (ixOf l) ++ M.roots.drop i).getD i (-1) = M.roots.getD i (-1) := by
          rw [List.getD_eq_getElem?_getD, List.getD_eq_getElem?_getD, List.getElem?_append_right (by simp; omega)]
          have : i - ((M.roots.take i).map (ixOf l)).length = 0 := by simp; omega
          rw [this, List.getElem?_drop, Nat.add_zero]
        rw [hat]
        refine drew_ ?_
        have fu : FrP (owns sr) u u'.drew := fu
        have ou : OS u'.drew sr _ 1 := ou.frp (P := fun _ => False) (FrP.of0 (Fr.refl 0 0 u').drew) fun _ _ h => h
        generalize u'.drew = u' at *
        have hsh := m.d1.2.1
        have brc := mu.rc.frp fu hsh
        refine ldS brc rfl ?_
        have hLs : OS u' s (ints l) 1 := t.lw.2.1.frp fu fun b hb ho => by have := t.lw.2.2 b hb; have := m.rt.lt ho; omega
        refine mfind_spec hLs (by omega) ?_
        refine ⟨held brc brc, ?_⟩
        refine osSt ou (by omega) (by omega) fun u2 o2 f2 => ?_
        rw [W_succ (by omega)]
        refine hQ n _ u2 (by omega) ⟨i + 1, rfl, by omega, fu.trans f2, ?_⟩
        have hset : ((M.roots.take i).map (ixOf l) ++ M.roots.drop i).set (Int.toNat (i : Int)) (ixOf l (M.roots.getD i (-1))) = (M.roots.take (i + 1)).map (ixOf l) ++ M.roots.drop (i + 1) := by
          rw [Int.toNat_natCast, List.set_append_right _ _ (by simp; omega)]
          have h1 : i - ((M.roots.take i).map (ixOf l)).length = 0 := by simp; omega
          rw [h1, List.drop_eq_getElem_cons (by omega), List.set_cons_zero, List.take_add_one, List.getElem?_eq_getElem (by omega), List.map_append]
          have h2 : M.roots.getD i (-1) = M.roots[i] := by rw [List.getD_eq_getElem?_getD, List.getElem?_eq_getElem (by omega)]; rfl
          rw [h2]
          simp
        rw [hset] at o2
        exact o2
  · intro J15 hJ15
    refine loopN (fun n v u => ∃ fs, v = ((fs.length : Int), ()) ∧ fs.length + n = l.length ∧ TI w u s l nb es fs) l.length ⟨[], rfl, by simp, t0⟩ ?_
    rintro n _ u ⟨fs, rfl, hn, t⟩ Q hQ
    dsimp only
    cases n with
    | zero =>
      rw [if_neg (by simp only [decide_eq_true_eq]; omega)]
      exact hJ15 u ⟨fs, by omega, t⟩
    | succ n =>
      rw [if_pos (by simp only [decide_eq_true_eq]; omega)]
      rw [← hsl]
      refine osRd t.lw.2.1 (by omega) (by omega) ?_
      rw [Int.toNat_natCast]
      have hxi : l[fs.length]? = some (l.getD fs.length (-1)) := by rw [List.getD_eq_getElem?_getD, List.getElem?_eq_getElem (by omega)]; rfl
      have hx := hin _ (List.mem_of_getElem? hxi)
      generalize l.getD fs.length (-1) = x at *
      obtain ⟨q, he1, he2, hqm⟩ := es_at e hx.1 hx.2
      have mu := hmm u (t.lw.1.mono fun b hb => hb.elim)
      have hfl := m.wm.fl q.ob (List.mem_map.2 ⟨q, hqm, rfl⟩)
      refine mu.refs hx.1 he1 ?_
      dsimp only
      refine mkS (by omega) (by omega) (by omega) (by omega) fun u1 c1 g1 z1 => ?_
      simp only [Int.toNat_natCast, reps_ints] at c1 ⊢
      have t1 := t.ext g1
      have hule := t.lw.1.1.1
      have hrbw : w.heap.size ≤ u.heap.size := hule
      have hrbn : u.heap.size ≠ nb := fun e => by have := t.bl.lt; omega
      have hrbs : ¬ owns s u.heap.size := fun ho => by have := t.lw.2.1.lt ho; omega
      have hrbf : ∀ f ∈ fs, f.rb ≠ u.heap.size := fun f hf e => by have := (t.fb f hf).2.2.2.lt; omega
      generalize hrb : u.heap.size = rb at *
      have mu1 := hmm u1 (t1.lw.1.mono fun b hb => hb.elim)
      refine mu1.refs hx.1 he1 ?_
      dsimp only
      refine join_W (fun u2 => Fr 0 0 u u2 ∧ Blk u2 rb (ints (q.ob.refs.map (ixOf l)))) ?_ ?_
      · rintro u2 ⟨f2, b2⟩
        have t2 := t.ext f2
        have mu2 := hmm u2 (t2.lw.1.mono fun b hb => hb.elim)
        refine mu2.intsS hx.1 he1 (ix rfl (by omega) (by omega) ?_)
        rw [Nat.zero_add]
        have hA : (fs.flatMap obC).length = fs.length * 2 := flat_length (c := 2) (fun _ => rfl) _
        have hrep : reps z2 (l.length - fs.length) = .slice none 0 0 :: .slice none 0 0 :: reps z2 (l.length - (fs.length + 1)) := by
          rw [show l.length - fs.length = (l.length - (fs.length + 1)) + 1 by omega]; rfl
        have hbl := t2.bl
        rw [hrep] at hbl
        refine st1 hbl (by simp [hA]) fun u3 b3 f3 _ => st1 b3 (by simp [hA]) fun u4 b4 f4 _ => ?_
        rw [set2 _ _ _ _ _ _ hA.symm] at b4
        have F := f3.trans f4
        rw [W_succ (by omega)]
        have t4 := t2.snoc (e := ⟨rb, q.ib, ⟨q.ob.refs.map (ixOf l), q.ob.ints⟩⟩) (by omega) F (by rw [List.flatMap_append]; simpa [obC] using b4) hrbw hrbn hrbs (b2.fr F (by omega)) hrbf hxi he1 rfl rfl
        refine hQ n _ u4 (by omega) ⟨_, ?_, ?_, t4⟩
        · simp
        · simp; omega
      · intro J36 hJ36
        refine loopN (fun n v u2 => ∃ j : Nat, v = ((j : Int), ()) ∧ j + n = q.ob.refs.length ∧ Fr 0 0 u u2 ∧ Blk u2 rb (ints ((q.ob.refs.take j).map (ixOf l) ++ List.replicate (q.ob.refs.length - j) 0))) q.ob.refs.length ⟨0, rfl, by omega, g1, by simpa using c1⟩ ?_
        rintro n2 _ u2 ⟨j, rfl, hj, f2, b2⟩ Q2 hQ2
        dsimp only
        cases n2 with
        | zero =>
          rw [if_neg (by simp only [decide_eq_true_eq]; omega)]
          rw [List.take_of_length_le (by omega), show q.ob.refs.length - j = 0 by omega, List.replicate_zero, List.append_nil] at b2
          exact hJ36 u2 ⟨f2, b2⟩
        | succ n2 =>
          rw [if_pos (by simp only [decide_eq_true_eq]; omega)]
          have t2 := t.ext f2
          have mu2 := hmm u2 (t2.lw.1.mono fun b hb => hb.elim)
          refine ix rfl (by omega) (by omega) ?_
          refine ldA (mu2.bk q hqm).1 (m := q.ob.refs.getD j (-1)) (by rw [Int.toNat_natCast, List.getD_eq_getElem?_getD, List.getElem?_eq_getElem (by omega)]; rfl) ?_
          refine mfind_spec t2.lw.2.1 (by omega) ?_
          refine ix rfl (by omega) (by omega) ?_
          refine stA b2 (by simp; omega) fun u3 b3 f3 _ => ?_
          rw [W_succ (by omega)]
          have hset : ((q.ob.refs.take j).map (ixOf l) ++ List.replicate (q.ob.refs.length - j) 0).set (Int.toNat (j : Int)) (ixOf l (q.ob.refs.getD j (-1))) = (q.ob.refs.take (j + 1)).map (ixOf l) ++ List.replicate (q.ob.refs.length - (j + 1)) 0 := by
            rw [Int.toNat_natCast, List.set_append_right _ _ (by simp; omega)]
            have h1 : j - ((q.ob.refs.take j).map (ixOf l)).length = 0 := by simp; omega
            rw [h1, show q.ob.refs.length - j = (q.ob.refs.length - (j + 1)) + 1 by omega, List.replicate_succ, List.set_cons_zero, List.take_add_one, List.getElem?_eq_getElem (by omega), List.map_append]
            have h2 : q.ob.refs.getD j (-1) = q.ob.refs[j] := by rw [List.getD_eq_getElem?_getD, List.getElem?_eq_getElem (by omega)]; rfl
            rw [h2]
            simp
          rw [hset] at b3
          exact hQ2 n2 _ u3 (by omega) ⟨j + 1, rfl, by omega, (f2.any rb 1).trans f3 |>.fresh (by omega) 0 0, b3⟩
end Go.Proofs.Qxb6500562aGreat
