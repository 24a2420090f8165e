/-
  The model's parser: Parse.
-/
import Derived.Test.Qxb6500562aGreatParS
namespace Go.Proofs.Qxb6500562aGreat
open Go.Den Go.Zip
set_option linter.unusedVariables false
set_option linter.unusedSimpArgs false
variable {α β : Type} {T : List Tok} {w0 w w' : World} {s tb p : Nat} {L : List (Nat × List Value)} {vs : List Value}

/-! ### The lexer's tokens -/
theorem lexAt_tok {r : List Nat} {i : Nat} : ∀ t ∈ (lexAt r i).2.1, t.kind ≠ 0 ∧ 0 ≤ t.val ∧ t.val ≤ 9223372036854775807 ∧ t.text.size ≤ 4096 := by
  have hkw : ∀ l, kwP l ≠ 0 := fun l h => by rcases kwP_or l with h1 | ⟨h1, _⟩ <;> omega
  have hval : ∀ (l : List Nat) (v u : Nat), v ≤ 9223372036854775807 → valP l v = some u → u ≤ 9223372036854775807 := by
    intro l
    induction l with
    | nil => intro v u h e; cases e; exact h
    | cons c l ih =>
      intro v u h e
      unfold valP at e
      split at e
      · cases e
      · exact ih _ _ (by omega) e
  intro t ht
  unfold lexAt at ht
  split at ht
  · cases ht
  split at ht
  · cases ht
  split at ht
  · split at ht
    · cases ht
    · simp only [List.mem_singleton] at ht
      subst ht
      split
      · refine ⟨by simp, by simp, by simp, ?_⟩
        rename_i h8 _
        simp only [strOf_size, List.length_take]
        omega
      · exact ⟨by have := hkw (List.take (upto (fun m => isW (r.getD (i + m) 0)) (r.length - i)) (List.drop i r)); dsimp only; omega, by simp, by simp, Nat.zero_le _⟩
  split at ht
  · split at ht
    · rename_i v hv
      simp only [List.mem_singleton] at ht
      subst ht
      have := hval _ _ _ (by omega) hv
      exact ⟨by simp, by simp, by dsimp only; omega, Nat.zero_le _⟩
    · cases ht
  split at ht
  · rename_i h
    simp only [List.mem_singleton] at ht
    subst ht
    exact ⟨by dsimp only; omega, by simp, by simp, Nat.zero_le _⟩
  split at ht
  · rename_i h
    simp only [List.mem_singleton] at ht
    subst ht
    exact ⟨by dsimp only; omega, by simp, by simp, Nat.zero_le _⟩
  · cases ht
theorem lexR_tok {r : List Nat} {i : Nat} {acc : List Tok} (h : LexR r i acc) : ∀ t ∈ acc, t.kind ≠ 0 ∧ 0 ≤ t.val ∧ t.val ≤ 9223372036854775807 ∧ t.text.size ≤ 4096 := by
  obtain ⟨k, hk⟩ := h
  induction k generalizing i acc with
  | zero => cases hk; intro t ht; cases ht
  | succ k ih =>
    simp only [lexI] at hk
    cases hp : lexI r k with
    | none => rw [hp] at hk; cases hk
    | some st =>
      rw [hp, Option.bind_some] at hk
      unfold lexS at hk
      split at hk
      · cases hk
        intro t ht
        rcases List.mem_append.1 ht with ht | ht
        · exact ih (i := st.1) (acc := st.2) hp t ht
        · exact lexAt_tok t ht
      · cases hk
theorem lexR_le {r : List Nat} {i : Nat} {acc : List Tok} (h : LexR r i acc) : i ≤ r.length := by
  obtain ⟨k, hk⟩ := h
  induction k generalizing i acc with
  | zero => cases hk; omega
  | succ k ih =>
    simp only [lexI] at hk
    cases hp : lexI r k with
    | none => rw [hp] at hk; cases hk
    | some st =>
      rw [hp, Option.bind_some] at hk
      unfold lexS at hk
      split at hk
      · rename_i hc
        cases hk
        have h1 := hc.1
        have he := hc.2
        have ht : ∀ a b, twinP a b ≠ 0 → b ≠ 0 := fun a b h e => h (by subst e; unfold twinP; simp)
        have hr2 : twinP (r.getD st.1 0) (r.getD (st.1 + 1) 0) ≠ 0 → st.1 + 2 ≤ r.length := fun h => by
          rcases Nat.lt_or_ge (st.1 + 1) r.length with h2 | h2
          · omega
          · exfalso
            apply ht _ _ h
            rw [List.getD_eq_getElem?_getD, List.getElem?_eq_none h2]; rfl
        unfold lexAt
        have u1 := (upto_run (fun m => r.getD (st.1 + m) 0 != 10) (r.length - st.1)).1
        have u2 := (upto_run (fun m => isW (r.getD (st.1 + m) 0)) (r.length - st.1)).1
        have u3 := (upto_run (fun m => isD (r.getD (st.1 + m) 0)) (r.length - st.1)).1
        split
        · dsimp only; omega
        split
        · dsimp only; omega
        split
        · split <;> dsimp only <;> omega
        split
        · split <;> dsimp only <;> omega
        split
        · rename_i h; have := hr2 h; dsimp only; omega
        split <;> dsimp only <;> omega
      · cases hk
theorem lexA_tok {r : List Nat} {ts : List Tok} {pos : Nat} (h : LexA r ts 0 pos) (hr : r.length ≤ 4096) : TokOK ts := by
  rcases h.ex with ⟨_, _, i, acc, h1, h2, rfl⟩ | ⟨h1, _⟩
  · have hl := lexR_len h1
    have hle := lexR_le h1
    have ht := lexR_tok h1
    have hget : ∀ j, j < acc.length → ∃ t ∈ acc, tk (acc ++ [⟨0, r.length, 0, ⟨#[]⟩⟩]) j = t := fun j hj => by
      refine ⟨acc[j], List.getElem_mem hj, ?_⟩
      unfold tk
      rw [List.getD_eq_getElem?_getD, List.getElem?_append_left hj, List.getElem?_eq_getElem hj]; rfl
    have hlast : tk (acc ++ [⟨0, r.length, 0, ⟨#[]⟩⟩]) acc.length = ⟨0, r.length, 0, ⟨#[]⟩⟩ := by unfold tk; simp
    refine ⟨by simp, fun j hj => ?_, by simp; omega, fun j => ?_⟩
    · simp only [List.length_append, List.length_cons, List.length_nil] at hj ⊢
      rcases Nat.lt_or_ge j acc.length with h3 | h3
      · obtain ⟨t, m, e⟩ := hget j h3
        unfold knd
        rw [e]
        have := (ht t m).1
        constructor
        · intro h; exact absurd h this
        · intro h; omega
      · have : j = acc.length := by omega
        subst this
        unfold knd
        rw [hlast]
        simp
    · rcases Nat.lt_or_ge j acc.length with h3 | h3
      · obtain ⟨t, m, e⟩ := hget j h3
        rw [e]
        exact (ht t m).2
      · by_cases h4 : j = acc.length
        · subst h4; rw [hlast]; exact ⟨by simp, by simp, Nat.zero_le _⟩
        · unfold tk
          rw [List.getD_eq_getElem?_getD, List.getElem?_eq_none (by simp; omega)]
          exact ⟨by simp, by simp, Nat.zero_le _⟩
  · exact absurd rfl h1
/-- What Parse answers. -/
def ParA (src : ByteArray) (res : PR Int) : Prop :=
  (4096 < src.size ∧ res = .error (31, 4096)) ∨ (src.size ≤ 4096 ∧ ∃ (ts : List Tok) (e p : Nat), LexA (bt src) ts e p ∧ ((e ≠ 0 ∧ res = .error ((e : Int), (p : Int))) ∨ (e = 0 ∧ res = pTree ts)))
theorem ParA.uniq {src : ByteArray} {r r' : PR Int} (h : ParA src r) (h' : ParA src r') : r = r' := by
  rcases h with ⟨h1, rfl⟩ | ⟨h1, ts, e, p, h2, h3⟩ <;> rcases h' with ⟨h1', rfl⟩ | ⟨h1', ts', e', p', h2', h3'⟩
  · rfl
  · omega
  · omega
  · obtain ⟨rfl, rfl, rfl⟩ := h2.uniq h2'
    rcases h3 with ⟨a, rfl⟩ | ⟨a, rfl⟩ <;> rcases h3' with ⟨b, rfl⟩ | ⟨b, rfl⟩
    · rfl
    · omega
    · omega
    · rfl
theorem ParA.tree {src : ByteArray} {root : Int} {st : PS} (h : ParA src (.ok (root, st))) : Good 0 st.2 ∧ ∃ l, Ch st.2 root l ∧ Segs st.2 l ∧ ∀ x ∈ l, 0 ≤ x ∧ x < st.2.length ∧ (ndAt st.2 x).kind = 0 := by
  rcases h with ⟨_, h⟩ | ⟨h1, ts, e, p, h2, h3⟩
  · cases h
  · rcases h3 with ⟨_, h⟩ | ⟨rfl, h⟩
    · cases h
    · exact tree_ok (lexA_tok h2 (by rw [bt_length]; exact h1)).val h.symm
/-- A tree, handed out. -/
def TreeOut (n0 : Nat) (w' : World) (res : PR Int) (s : Sl) (root e pos : Int) : Prop :=
  match res with
  | .error q => s = ⟨none, 0, 0⟩ ∧ root = -1 ∧ e = q.1 ∧ pos = q.2 ∧ e ≠ 0
  | .ok (x, _, ns) => root = x ∧ e = 0 ∧ pos = 0 ∧ ns.length ≤ 200 ∧ ((ns = [] ∧ s = ⟨none, 0, 0⟩) ∨ (ns ≠ [] ∧ ∃ b, n0 ≤ b ∧ s = ⟨some ⟨b, 0, none⟩, ns.length, ns.length⟩ ∧ Blk w' b (ns.flatMap ndV)))
/-- The answer's four cells, laid and read back. -/
theorem ans4 {p : Nat} {a b c d : Value} {s : Sl} {root e pos : Int} {K : Sl → Int → Int → Int → World → Prop} (h : Blk w p [a, b, c, d])
    (hK : ∀ w', Fr p 1 w w' → K s root e pos w') : St1 w ⟨p, 0, none⟩ (.slice s.a s.l s.c) fun w => St1 w ⟨p, 1, none⟩ (.int .i64 root) fun w => St1 w ⟨p, 2, none⟩ (.int .i64 e) fun w => St1 w ⟨p, 3, none⟩ (.int .i64 pos) fun w =>
      LdS w ⟨p, 0, none⟩ fun x => LdI .i64 w ⟨p, 1, none⟩ fun y => LdI .i64 w ⟨p, 2, none⟩ fun z => LdI .i64 w ⟨p, 3, none⟩ fun q => K x y z q w := by
  refine st1 h (by simp) fun v4 b4 f4 s4 => ?_
  refine st1 b4 (by simp) fun v5 b5 f5 s5 => ?_
  refine st1 b5 (by simp) fun v6 b6 f6 s6 => ?_
  refine st1 b6 (by simp) fun v7 b7 f7 s7 => ?_
  refine ldS b7 rfl (ldI b7 rfl (ldI b7 rfl (ldI b7 rfl ?_)))
  exact hK v7 (((f4.trans f5).trans f6).trans f7)
theorem mparse_spec {src : ByteArray} {lx : Nat} {K : Sl → Int → Int → Int → World → Prop} (hp : Blk w p [.pointer (some ⟨lx, 0, none⟩)])
    (hK : ∀ s root e pos w' res, Fr 0 0 w w' → ParA src res → TreeOut w.heap.size w' res s root e pos → K s root e pos w') : S.parsem_Parser_Parse p src w K := by
  unfold S.parsem_Parser_Parse
  refine newB fun w1 b1 f1 s1 => ?_
  generalize hp1 : w.heap.size = p1 at *
  have hpl := hp.lt
  refine ldP (hp.fr f1 (by omega)) rfl ?_
  by_cases hsz : src.size ≤ 4096
  · refine mlex_spec hsz fun sl e pos w2 f2 hout => ?_
    obtain ⟨ts, e', p', hA, rfl, rfl, hor⟩ := hout
    have b2 := b1.fr f2 (by omega)
    have F2 := f1.trans f2
    rcases hor with ⟨hne, hs⟩ | ⟨he0, tb, htb, hs, bt⟩
    · refine newB fun w3 b3 f3 s3 => ?_
      refine st1 b3 (by simp) fun v4 b4 f4 s4 => ?_
      refine st1 b4 (by simp) fun v5 b5 f5 s5 => ?_
      refine st1 b5 (by simp) fun v6 b6 f6 s6 => ?_
      refine ldI b6 rfl ?_
      rw [if_pos (by simp; omega)]
      refine ldI b6 rfl (ldI b6 rfl ?_)
      have f46 := (f4.trans f5).trans f6
      have hl2 := b2.lt
      have F6 : Fr 0 0 w v6 := ((F2.trans f3).any _ 1).trans f46 |>.fresh (by have := F2.le; omega) 0 0
      refine ans4 (s := ⟨none, 0, 0⟩) ((b2.fr f3 (by omega)).fr f46 (by omega)) fun w' f' => ?_
      exact hK _ _ _ _ w' (.error (e', p')) ((F6.any p1 1).trans f' |>.fresh (by omega) 0 0) (.inr ⟨hsz, ts, e', p', hA, .inl ⟨hne, rfl⟩⟩) ⟨rfl, rfl, rfl, rfl, by omega⟩
    · subst he0
      refine newB fun w3 b3 f3 s3 => ?_
      refine st1 b3 (by simp) fun v4 b4 f4 s4 => ?_
      refine st1 b4 (by simp) fun v5 b5 f5 s5 => ?_
      refine st1 b5 (by simp) fun v6 b6 f6 s6 => ?_
      refine ldI b6 rfl ?_
      rw [if_neg (by simp)]
      refine ldS b6 rfl ?_
      have hl2 := b2.lt
      have htl := bt.lt
      have f46 := (f4.trans f5).trans f6
      have F6 : Fr 0 0 w v6 := ((F2.trans f3).any _ 1).trans f46 |>.fresh (by have := F2.le; omega) 0 0
      have b16 := (b2.fr f3 (by omega)).fr f46 (by omega)
      have bt6 := (bt.fr f3 (by omega)).fr f46 (by omega)
      have hle6 := F6.le
      refine newB fun w7 b7 f7 s7 => ?_
      have hT := lexA_tok hA (by rw [bt_length]; exact hsz)
      have F7 := F6.trans f7
      subst hs
      generalize hst : v6.heap.size = st at *
      have hp6 := b16.lt
      have ht6 := bt6.lt
      have h7 : PM ts w st tb (.ok ((), 0, []) : PR Unit) [(p1, [.slice none 0 0, .int .i64 0, .int .i64 0, .int .i64 0])] w7 := by
        refine ⟨hT, ⟨none, 0, 0⟩, ⟨FrP.of0 F7, fun b hb => ?_, fun q hq => ?_, fun q hq => ?_, ?_⟩, by simp [owns], hT.ne, by simp, b7, OS.nil _ _⟩
        · rcases hb with rfl | hb
          · exact ⟨by omega, .inr (by omega)⟩
          · simp [owns] at hb
        · simp only [List.cons_append, List.nil_append, List.mem_cons, List.not_mem_nil, or_false] at hq
          rcases hq with rfl | rfl
          · exact ⟨b16.fr f7 (by omega), fun h => by rcases h with h | h; (dsimp only at h; omega); simp [owns] at h⟩
          · exact ⟨bt6.fr f7 (by omega), fun h => by rcases h with h | h; (dsimp only at h; omega); simp [owns] at h⟩
        · simp only [List.cons_append, List.nil_append, List.mem_cons, List.not_mem_nil, or_false] at hq
          rcases hq with rfl | rfl <;> exact .inr (by dsimp only; omega)
        · simp only [List.cons_append, List.nil_append, List.pairwise_cons, List.mem_cons, List.not_mem_nil, or_false, forall_eq, List.Pairwise.nil, and_true, false_implies, implies_true]
          omega
      refine mprog_spec h7 fun root w8 h8 hr8 => ?_
      have hAA : ∀ res, pTree ts = res → ParA src res := fun res e => .inr ⟨hsz, ts, 0, p', hA, .inr ⟨rfl, e.symm⟩⟩
      obtain ⟨sl8, hs8, hn8, hst8⟩ := h8.ex
      have F8 : Fr 0 0 w w8 := hs8.fr.ofR fun b h => h.elim
      rcases hres : pTree ts with ⟨e, q⟩ | ⟨x, i, ns⟩
      · rw [hres] at hst8
        obtain ⟨a1, j, a2, a3⟩ := hst8
        refine ldI a3 rfl ?_
        rw [if_pos (by simpa using a1)]
        refine drew_ ?_
        have a3 := a3.drew
        have b9 := hs8.blk.drew
        have F9 := F8.drew
        generalize w8.drew = w9 at *
        refine ldI a3 rfl (ldI a3 rfl ?_)
        refine ans4 (s := ⟨none, 0, 0⟩) b9 fun w' f' => ?_
        exact hK _ _ _ _ w' (.error (e, q)) ((F9.any p1 1).trans f' |>.fresh (by omega) 0 0) (hAA _ hres) ⟨rfl, rfl, rfl, rfl, a1⟩
      · rw [hres] at hst8
        obtain ⟨a1, a2, a3, a4⟩ := hst8
        have hroot := hr8 _ _ hres
        subst hroot
        refine ldI a3 rfl ?_
        rw [if_neg (by simp)]
        refine ldS a3 rfl ?_
        have hl4 := a4.len
        rw [nds_len] at hl4
        have hll : sl8.l = ns.length := by omega
        have b8 := hs8.blk
        by_cases hns : ns = []
        · subst hns
          rw [if_pos (by simp [hll])]
          refine ans4 (s := ⟨none, 0, 0⟩) b8 fun w' f' => ?_
          exact hK _ _ _ _ w' (.ok (root, i, [])) ((F8.any p1 1).trans f' |>.fresh (by omega) 0 0) (hAA _ hres) ⟨rfl, rfl, rfl, by simp, .inl ⟨rfl, rfl⟩⟩
        · have hpos : 0 < ns.length := List.length_pos_iff.2 hns
          rw [if_neg (by simp only [beq_iff_eq]; omega)]
          refine ldS a3 rfl ?_
          dsimp only
          refine mkS (by omega) (by omega) (by omega) (by omega) fun u3 c3 g3 t3 => ?_
          simp only [Int.toNat_natCast] at c3 ⊢
          have a3' := a3.fr g3 (by omega)
          refine ldS a3' rfl ?_
          have a4' := a4.frp (FrP.of0 (P := fun _ => False) g3) (fun _ _ h => h)
          have hrl : (reps [Value.int .i64 0, .int .i64 0, .int .i64 0, .int .i64 0, .int .i64 0, .int .i64 0, .int .i64 0, .string ⟨#[]⟩] sl8.l).length = sl8.l * 8 := by rw [reps_length]; rfl
          have htl := nds_len ns
          rcases a4' with ⟨e1, e2⟩ | ⟨gb, d1, d2, d3, junk, d4, d5⟩
          · have := congrArg List.length e2
            rw [htl] at this
            simp at this
            omega
          have hgb : gb < w8.heap.size := by
            exact (hs8.ow gb (.inr d1)).1
          have hp8 := b8.lt
          refine copyS (n := sl8.l) (us := ns.flatMap ndV) d4 d1 c3 rfl (show sl8.l = Nat.min sl8.l sl8.l from (Nat.min_self _).symm) (by rw [List.drop_zero, List.take_append_of_le_length (by omega), List.take_of_length_le (by omega)]) (by rw [htl, hll]) (nds_ok ns) (by simp only [hrl, htl]; omega) fun u4 c4 g4 t4 => ?_
          simp only [List.take_zero, List.nil_append] at c4
          rw [List.drop_of_length_le (by simp only [hrl, htl]; omega), List.append_nil] at c4
          have bu4 := (b8.fr g3 (by omega)).fr g4 (by omega)
          refine ans4 (s := ⟨some ⟨w8.heap.size, 0, none⟩, sl8.l, sl8.l⟩) bu4 fun u5 f5 => ?_
          have F4 : Fr 0 0 w u4 := ((F8.trans g3).any _ 1).trans g4 |>.fresh (by have := F8.le; omega) 0 0
          exact hK _ _ _ _ u5 (.ok (root, i, ns)) ((F4.any p1 1).trans f5 |>.fresh (by omega) 0 0) (hAA _ hres) ⟨rfl, rfl, rfl, a2, .inr ⟨hns, w8.heap.size, by have := F8.le; omega, by rw [hll], c4.fr f5 (by omega)⟩⟩
  · refine mlex_long (by omega) fun w2 f2 => ?_
    have b2 := b1.fr f2 (by omega)
    have F2 := f1.trans f2
    refine newB fun w3 b3 f3 s3 => ?_
    refine st1 b3 (by simp) fun v4 b4 f4 s4 => ?_
    refine st1 b4 (by simp) fun v5 b5 f5 s5 => ?_
    refine st1 b5 (by simp) fun v6 b6 f6 s6 => ?_
    refine ldI b6 rfl ?_
    rw [if_pos (by decide)]
    refine ldI b6 rfl (ldI b6 rfl ?_)
    have f46 := (f4.trans f5).trans f6
    have hl2 := b2.lt
    have F6 : Fr 0 0 w v6 := ((F2.trans f3).any _ 1).trans f46 |>.fresh (by have := F2.le; omega) 0 0
    refine ans4 (s := ⟨none, 0, 0⟩) ((b2.fr f3 (by omega)).fr f46 (by omega)) fun w' f' => ?_
    exact hK _ _ _ _ w' (.error (31, 4096)) ((F6.any p1 1).trans f' |>.fresh (by omega) 0 0) (.inl ⟨by omega, rfl⟩) ⟨rfl, rfl, rfl, rfl, by decide⟩
end Go.Proofs.Qxb6500562aGreat
