/-
  The model: writes into the list of tables; a copy of a database.
-/
import Derived.Test.Qxb6500564aGreatMcC
namespace Go.Proofs.Qxb6500564aGreat
open Go.Den Go.Zip
set_option linter.unusedVariables false
set_option linter.unusedSimpArgs false
variable {w w' u v : World} {i j n q g b : Nat} {s r x : Sl} {row : List Vl} {rows : List (List Vl)} {cs : List Cl} {nm : ByteArray} {P Q : Nat → Prop} {ss : List Sl} {ms : List MR} {m m' : MR}

theorem set_in {α : Type} (A B : List α) (z : List α) (k : Nat) (x : α) (hk : k < z.length) : (A ++ (z ++ B)).set (A.length + k) x = A ++ (z.set k x ++ B) := by
  rw [List.set_append_right _ _ (by omega), Nat.add_sub_cancel_left, List.set_append_left _ _ hk]
theorem lay5 {A B z : List Value} {K : World → Prop} (h : Blk w q (A ++ (z ++ B))) (hz : z.length = 5) (hA : A.length = i * 5) (hk : ∀ w', Blk w' q (A ++ (mrC m ++ B)) → Fr q 1 w w' → K w') :
    St1 w ⟨q, 0 + Int.toNat (i : Int) * 5, none⟩ (.string m.t.name) fun w => St1 w ⟨q, 0 + Int.toNat (i : Int) * 5 + 1, none⟩ (.slice m.cs.a m.cs.l m.cs.c) fun w => St1 w ⟨q, 0 + Int.toNat (i : Int) * 5 + 2, none⟩ (.int .i64 (m.t.pk : Int)) fun w => St1 w ⟨q, 0 + Int.toNat (i : Int) * 5 + 3, none⟩ (.int .i64 m.t.ix) fun w => St1 w ⟨q, 0 + Int.toNat (i : Int) * 5 + 4, none⟩ (.slice m.rs.a m.rs.l m.rs.c) fun w => K w := by
  have e : ∀ k, 0 + Int.toNat (i : Int) * 5 + k = A.length + k := fun k => by rw [Int.toNat_natCast, Nat.zero_add, hA]
  have e0 : 0 + Int.toNat (i : Int) * 5 = A.length + 0 := e 0
  rw [e 1, e 2, e 3, e 4, e0]
  have hl : ∀ y : List Value, y.length = 5 → (A ++ (y ++ B)).length = A.length + 5 + B.length := fun y hy => by rw [List.length_append, List.length_append, hy]; omega
  match z, hz with
  | [_, _, _, _, _], _ =>
    refine st1 h (by rw [hl _ rfl]; omega) fun w1 h f1 _ => ?_
    rw [set_in A B _ 0 _ (by show 0 < 5; omega)] at h
    refine st1 h (by rw [hl _ rfl]; omega) fun w2 h f2 _ => ?_
    rw [set_in A B _ 1 _ (by show 1 < 5; omega)] at h
    refine st1 h (by rw [hl _ rfl]; omega) fun w3 h f3 _ => ?_
    rw [set_in A B _ 2 _ (by show 2 < 5; omega)] at h
    refine st1 h (by rw [hl _ rfl]; omega) fun w4 h f4 _ => ?_
    rw [set_in A B _ 3 _ (by show 3 < 5; omega)] at h
    refine st1 h (by rw [hl _ rfl]; omega) fun w5 h f5 _ => ?_
    rw [set_in A B _ 4 _ (by show 4 < 5; omega)] at h
    exact hk w5 h ((((f1.trans f2).trans f3).trans f4).trans f5)
theorem ms_split (h : ms[i]? = some m) : msC ms = msC (ms.take i) ++ (mrC m ++ msC (ms.drop (i + 1))) := by
  have hi : i < ms.length := (List.getElem?_eq_some_iff.1 h).1
  have e : ms = ms.take i ++ m :: ms.drop (i + 1) := by
    have hm : ms[i] = m := by rw [List.getElem?_eq_getElem hi] at h; exact Option.some.inj h
    rw [← hm, ← List.drop_eq_getElem_cons hi, List.take_append_drop]
  show ms.flatMap mrC = _
  rw [e, List.flatMap_append, List.flatMap_cons, ← e]
  rfl
theorem ms_set (h : ms[i]? = some m) (m' : MR) : msC (ms.set i m') = msC (ms.take i) ++ (mrC m' ++ msC (ms.drop (i + 1))) := by
  have hi : i < ms.length := (List.getElem?_eq_some_iff.1 h).1
  rw [ms_split (m := m') (by rw [List.getElem?_set_self hi]), List.take_set_of_le (Nat.le_refl _), List.drop_set_of_lt (by omega)]
theorem ms_take_len (h : ms[i]? = some m) : (msC (ms.take i)).length = i * 5 := by
  have hi : i < ms.length := (List.getElem?_eq_some_iff.1 h).1
  rw [msC_len, List.length_take, Nat.min_eq_left (by omega)]
/-- A table is laid into a place of the list. -/
theorem arr_set {K : World → Prop} (o : OS w s (msC ms) 5) (ho : owns s g) (h : ms[i]? = some m) (hk : ∀ w', OS w' s (msC (ms.set i m')) 5 → Fr g 1 w w' → K w') :
    St1 w ⟨g, 0 + Int.toNat (i : Int) * 5, none⟩ (.string m'.t.name) fun w => St1 w ⟨g, 0 + Int.toNat (i : Int) * 5 + 1, none⟩ (.slice m'.cs.a m'.cs.l m'.cs.c) fun w => St1 w ⟨g, 0 + Int.toNat (i : Int) * 5 + 2, none⟩ (.int .i64 (m'.t.pk : Int)) fun w => St1 w ⟨g, 0 + Int.toNat (i : Int) * 5 + 3, none⟩ (.int .i64 m'.t.ix) fun w => St1 w ⟨g, 0 + Int.toNat (i : Int) * 5 + 4, none⟩ (.slice m'.rs.a m'.rs.l m'.rs.c) fun w => K w := by
  rcases o with ⟨rfl, e⟩ | ⟨g', a, e, c, junk, d, e2⟩
  · unfold owns at ho; cases ho
  · have hg : g' = g := by
      unfold owns at ho
      rw [a] at ho
      simpa using ho
    subst hg
    rw [ms_split h, List.append_assoc, List.append_assoc] at d
    refine lay5 d rfl (ms_take_len h) fun w' b' f' => hk w' (.inr ⟨g', a, ?_, c, junk, ?_, ?_⟩) f'
    · rw [msC_len, List.length_set, ← msC_len]; exact e
    · rw [ms_set h, List.append_assoc, List.append_assoc]; exact b'
    · rw [List.length_append, msC_len, List.length_set, ← msC_len, ← List.length_append]; exact e2
/-- One cell of a table turns. -/
theorem arr_set1 {k : Nat} {y : Value} {K : World → Prop} (o : OS w s (msC ms) 5) (ho : owns s g) (h : ms[i]? = some m) (hk5 : k < 5) (e' : mrC m' = (mrC m).set k y) (hk : ∀ w', OS w' s (msC (ms.set i m')) 5 → Fr g 1 w w' → K w') :
    St1 w ⟨g, 0 + Int.toNat (i : Int) * 5 + k, none⟩ y K := by
  rcases o with ⟨rfl, e⟩ | ⟨g', a, e, c, junk, d, e2⟩
  · unfold owns at ho; cases ho
  · have hg : g' = g := by
      unfold owns at ho
      rw [a] at ho
      simpa using ho
    subst hg
    rw [ms_split h, List.append_assoc, List.append_assoc] at d
    have ea : 0 + Int.toNat (i : Int) * 5 + k = (msC (ms.take i)).length + k := by rw [ms_take_len h, Int.toNat_natCast, Nat.zero_add]
    rw [ea]
    refine st1 d (by rw [List.length_append, List.length_append, mrC_len]; omega) fun w' b' f' _ => hk w' (.inr ⟨g', a, ?_, c, junk, ?_, ?_⟩) f'
    · rw [msC_len, List.length_set, ← msC_len]; exact e
    · rw [set_in _ _ _ _ _ (by rw [mrC_len]; exact hk5), ← e'] at b'
      rw [ms_set h, List.append_assoc, List.append_assoc]; exact b'
    · rw [List.length_append, msC_len, List.length_set, ← msC_len, ← List.length_append]; exact e2
def z5 : List Value := [.string ⟨#[]⟩, .slice none 0 0, .int .i64 0, .int .i64 0, .slice none 0 0]
theorem msC_snoc (ms : List MR) (m : MR) : msC (ms ++ [m]) = msC ms ++ mrC m := by
  unfold msC
  rw [List.flatMap_append]
  simp
set_option maxHeartbeats 4000000 in
theorem dbClone_spec {d o : Nat} {K : Sl → World → Prop} (h : MD w d o s ms) (hl : ms.length ≤ 1000) (hs : ∀ m ∈ ms, TbSm m.t)
    (hK : ∀ w' s' ms', MT w' s' ms' → dbOf ms' = dbOf ms → (∀ b, mo s' ms' b → w.heap.size ≤ b) → Fr 0 0 w w' → K s' w') : S.api_DB_Clone d o w K := by
  unfold S.api_DB_Clone
  have hsl := h.mt.l
  refine newB fun w1 c1 f1 s1 => ?_
  refine (h.fr0 f1).lds (mkS (by omega) (by omega) (by omega) (by omega) fun w2 c2 f2 s2 => ?_)
  rw [Int.toNat_natCast, hsl] at c2
  rw [Int.toNat_natCast, hsl]
  have c12 := c1.fr f2 (by omega)
  rw [join_eq]
  have F2 := f1.then0 f2
  have l1 := f1.1.1
  refine loopN (fun n st u => ∃ (k : Nat) (ms' : List MR), st = ((k : Int), ()) ∧ k + n = ms.length ∧ ms'.length = k ∧ dbOf ms' = (dbOf ms).take k ∧ Blk u w1.heap.size (msC ms' ++ reps z5 (ms.length - k)) ∧ (∀ m ∈ ms', MOk u m) ∧ (∀ b, (imm ms' b ∨ ∃ m ∈ ms', owns m.rs b) → w2.heap.size ≤ b) ∧
      (∀ m ∈ ms', ∀ b, owns m.rs b → ¬ imm ms' b) ∧ (ms'.Pairwise fun a b => ∀ q, owns a.rs q → ¬ owns b.rs q) ∧ Fr 0 0 w u ∧ Blk u w.heap.size [.slice none 0 0] ∧ w2.heap.size ≤ u.heap.size) ms.length
    ⟨0, [], rfl, by omega, rfl, by simp [dbOf], c2, fun m hm => (by cases hm), ?_, fun m hm => (by cases hm), List.Pairwise.nil, F2, c12, Nat.le_refl _⟩ ?_
  · rintro b (⟨m, hm, _⟩ | ⟨m, hm, _⟩) <;> cases hm
  rintro n _ u ⟨k, ms', rfl, hn, hlk, hdb, bu, oku, geu, rIu, disu, Fu, cu, lu⟩ Q hQ
  dsimp only
  have hu := h.fr0 Fu
  refine hu.lds (ifd (fun hk => ?_) fun hk => ?_)
  · have hk' : k < ms.length := by omega
    obtain ⟨m, hm⟩ : ∃ m, ms[k]? = some m := ⟨_, List.getElem?_eq_getElem hk'⟩
    have hmm := List.mem_of_getElem? hm
    refine hu.lds (hu.mt.at hm fun g hg => hu.mt.nam hg hm (hu.mt.cl hg hm (hu.mt.pk hg hm (hu.mt.ix hg hm (hu.mt.rw hg hm (cloneTable_spec (hu.mt.ok m hmm) (hs m hmm) fun v qc qr qs hqc hqr hri hnr hcr hmo fv => ?_))))))
    have bv := bu.fr fv (by omega)
    rw [show ms.length - k = (ms.length - (k + 1)) + 1 by omega] at bv
    have bv : Blk v w1.heap.size (msC ms' ++ (z5 ++ reps z5 (ms.length - (k + 1)))) := bv
    have lL := bu.lt
    refine ixF (by omega) (lay5 (m := newM m.t qc qr qs) bv rfl (by rw [msC_len, hlk]) fun v2 b2 f2' => ?_)
    refine let_ ?_
    rw [W_succ (by omega)]
    have G : FrP (fun b => b = w1.heap.size) v v2 := FrP.of f2' fun b h1 h2 => by omega
    have lw2 : w2.heap.size = w1.heap.size + 1 := s2
    have newge : ∀ b, (owns (newM m.t qc qr qs).cs b ∨ (∃ r ∈ (newM m.t qc qr qs).ss, owns r b) ∨ owns (newM m.t qc qr qs).rs b) → u.heap.size ≤ b := by
      rintro b (hb | ⟨r, hr, hb⟩ | hb)
      · rw [full_owns hb]; exact hqc
      · exact hri.ge (rowSs_owns hr hb)
      · rw [full_owns hb]; exact hqr
    have oldlt : ∀ b, (imm ms' b ∨ ∃ m ∈ ms', owns m.rs b) → b < u.heap.size := by
      rintro b (hb | ⟨m, hm, hb⟩)
      · exact immlt oku hb
      · exact (oku m hm).rs.lt hb
    have immS : ∀ b, imm (ms' ++ [newM m.t qc qr qs]) b → imm ms' b ∨ (owns (newM m.t qc qr qs).cs b ∨ ∃ r ∈ (newM m.t qc qr qs).ss, owns r b) := by
      rintro b ⟨m1, hm1, hb⟩
      rcases List.mem_append.1 hm1 with hm1 | hm1
      · exact .inl ⟨m1, hm1, hb⟩
      · rw [List.mem_singleton.1 hm1] at hb
        exact .inr hb
    refine hQ (n - 1) _ _ (by omega) ⟨k + 1, ms' ++ [newM m.t qc qr qs], rfl, by omega, by rw [List.length_append, hlk]; rfl, ?_, ?_, fun m1 hm1 => ?_, fun b hb => ?_, fun m1 hm1 b hb => ?_, ?_, (Fu.then0 fv).thenNew f2' (by omega), (cu.fr fv (by omega)).fr f2' (by omega), by have := fv.1.1; have := f2'.1.1; omega⟩
    · unfold dbOf at hdb ⊢
      rw [List.map_append, hdb, List.take_add_one, List.getElem?_map, hm]
      rfl
    · rw [msC_snoc, List.append_assoc]
      exact b2
    · rcases List.mem_append.1 hm1 with hm1 | hm1
      · refine ((oku m1 hm1).frp (FrP.of0 (P := fun _ => False) fv) (fun _ _ h => h) (fun _ _ _ _ h => h) fun _ _ h => h).frp G (fun b hb e => ?_) (fun r hr b hb e => ?_) fun b hb e => ?_
        · have := geu b (.inl ⟨m1, hm1, .inl hb⟩); omega
        · have := geu b (.inl ⟨m1, hm1, .inr ⟨r, hr, hb⟩⟩); omega
        · have := geu b (.inr ⟨m1, hm1, hb⟩); omega
      · rw [List.mem_singleton.1 hm1]
        refine hmo.frp G (fun b hb e => ?_) (fun r hr b hb e => ?_) fun b hb e => ?_
        · have := newge b (.inl hb); omega
        · have := newge b (.inr (.inl ⟨r, hr, hb⟩)); omega
        · have := newge b (.inr (.inr hb)); omega
    · rcases hb with hb | ⟨m1, hm1, hb⟩
      · rcases immS b hb with hb | hb | hb
        · exact geu b (.inl hb)
        · have := newge b (.inl hb); omega
        · have := newge b (.inr (.inl hb)); omega
      · rcases List.mem_append.1 hm1 with hm1 | hm1
        · exact geu b (.inr ⟨m1, hm1, hb⟩)
        · rw [List.mem_singleton.1 hm1] at hb
          have := newge b (.inr (.inr hb)); omega
    · rcases List.mem_append.1 hm1 with hm1 | hm1
      · intro hi
        rcases immS b hi with hi | hi
        · exact rIu m1 hm1 b hb hi
        · have h1 := oldlt b (.inr ⟨m1, hm1, hb⟩)
          have h2 := newge b (hi.elim .inl fun h => .inr (.inl h))
          omega
      · rw [List.mem_singleton.1 hm1] at hb
        intro hi
        have h2 := newge b (.inr (.inr hb))
        rcases immS b hi with hi | hi | ⟨r, hr, hi⟩
        · have h1 := oldlt b (.inl hi)
          omega
        · rw [full_owns hb] at hi
          exact hcr (full_owns hi).symm
        · rw [full_owns hb] at hi
          exact hnr (rowSs_owns hr hi)
    · refine List.pairwise_append.2 ⟨disu, List.pairwise_singleton _ _, fun a ha c hc b hb hb' => ?_⟩
      rw [List.mem_singleton.1 hc] at hb'
      have h1 := oldlt b (.inr ⟨a, ha, hb⟩)
      have h2 := newge b (.inr (.inr hb'))
      omega
  · have hk' : k = ms.length := by omega
    subst hk'
    rw [Nat.sub_self] at bu
    have bu : Blk u w1.heap.size (msC ms' ++ []) := bu
    rw [List.append_nil] at bu
    refine st1 cu (by show 0 < 1; omega) fun v c1' g1 _ => ?_
    have c1' : Blk v w.heap.size [slV (fullS w1.heap.size ms.length)] := c1'
    refine ldS c1' rfl ?_
    have lw1 : w1.heap.size = w.heap.size + 1 := s1
    have lw2 : w2.heap.size = w1.heap.size + 1 := s2
    have G : FrP (fun b => b = w.heap.size) u v := FrP.of g1 fun b h1 h2 => by omega
    have hm' : (msC ms').length = ms.length * 5 := by rw [msC_len, hlk]
    refine hK v _ ms' ⟨.inr ⟨w1.heap.size, rfl, hm', Nat.le_refl _, [], by rw [List.append_nil]; exact bu.fr g1 (by omega), by rw [List.append_nil]; exact hm'⟩, fun m1 hm1 => ?_, fun b hb => ?_, rIu, disu⟩ ?_ (fun b hb => ?_) (Fu.thenNew g1 (Nat.le_refl _))
    · refine (oku m1 hm1).frp G (fun b hb e => ?_) (fun r hr b hb e => ?_) fun b hb e => ?_
      · have := geu b (.inl ⟨m1, hm1, .inl hb⟩); omega
      · have := geu b (.inl ⟨m1, hm1, .inr ⟨r, hr, hb⟩⟩); omega
      · have := geu b (.inr ⟨m1, hm1, hb⟩); omega
    · rw [full_owns hb]
      refine ⟨fun hi => ?_, fun m1 hm1 hi => ?_⟩
      · have := geu _ (.inl hi); omega
      · have := geu _ (.inr ⟨m1, hm1, hi⟩); omega
    · rw [hdb, List.take_of_length_le (by unfold dbOf; rw [List.length_map]; exact Nat.le_refl _)]
    · rcases hb with hb | hb | hb
      · rw [full_owns hb]; omega
      · have := geu b (.inl hb); omega
      · have := geu b (.inr hb); omega
end Go.Proofs.Qxb6500564aGreat
