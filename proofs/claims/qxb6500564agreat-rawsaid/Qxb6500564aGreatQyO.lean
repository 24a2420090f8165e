/-
  The model's reader: is, eat, want, name, lit.
-/
import Derived.Test.Qxb6500564aGreatQyN
namespace Go.Proofs.Qxb6500564aGreat
open Go.Den Go.Zip
set_option linter.unusedVariables false
set_option linter.unusedSimpArgs false
variable {w w' u v : World} {i j k n a b r st B q : Nat} {s x : ByteArray} {t : Tk} {A L L' : List Tk} {M M' : Mst} {z : Nat → Sl} {bd : Bool}

/-- The model's reader stands ahead of L and has read M; or it is bad. -/
def MX (w : World) (B r st : Nat) (A L : List Tk) (M : Mst) (z : Nat → Sl) : Prop :=
  ∃ i bd M1, MXs w B r st A i bd M1 z ∧ ((bd = false ∧ M1 = M ∧ L = A.drop i ++ [endT]) ∨ (bd = true ∧ L = bad))
theorem end_ne {l : List Tk} : l ++ [endT] ≠ bad := fun e => by
  have : endT ∈ bad := by rw [← e]; simp
  rw [show bad = [badT.1] from rfl, List.mem_singleton] at this
  have : endT.kind = badT.1.kind := by rw [this]
  exact absurd this (by decide)
theorem MX.any (h : MX w B r st A bad M z) (M' : Mst) : MX w B r st A bad M' z := by
  obtain ⟨i, bd, M1, hs, h | h⟩ := h
  · exact absurd h.2.2.symm end_ne
  · exact ⟨i, bd, M1, hs, .inr h⟩
theorem MX.fr0 (h : MX w B r st A L M z) (f : Fr 0 0 w w') : MX w' B r st A L M z := by
  obtain ⟨i, bd, M1, hs, h⟩ := h
  exact ⟨i, bd, M1, hs.fr0 f, h⟩
theorem MX.dr (h : MX w B r st A L M z) : MX w.drew B r st A L M z := h.fr0 ((Fr.refl 0 0 w).drew)
theorem MX.ap (h : MX w B r st A L M z) (hq : Apart z r st q) (f : Fr q 1 w w') : MX w' B r st A L M z := by
  obtain ⟨i, bd, M1, hs, h⟩ := h
  exact ⟨i, bd, M1, hs.ap hq f, h⟩
theorem MX.apart (h : MX w B r st A L M z) (hq : w.heap.size ≤ b) : Apart z r st b := by
  obtain ⟨i, bd, M1, hs, h⟩ := h
  exact hs.apart hq
theorem MX.b1 (h : MX w B r st A L M z) (f : Fr r 1 w w') : FrP (fun b => B ≤ b) w w' := by
  obtain ⟨i, bd, M1, hs, h⟩ := h
  exact hs.b1 f
theorem MX.bl (h : MX w B r st A L M z) : B ≤ w.heap.size := by
  obtain ⟨i, bd, M1, hs, h⟩ := h
  have := hs.rb.lt; have := hs.br; omega
theorem MX.rl (h : MX w B r st A L M z) : r < w.heap.size ∧ st < w.heap.size := by
  obtain ⟨i, bd, M1, hs, h⟩ := h
  exact ⟨hs.rb.lt, hs.blk.lt⟩
theorem drop_cons (h : A[i]? = some t) : A.drop i = t :: A.drop (i + 1) := by
  have hi := (List.getElem?_eq_some_iff.1 h).1
  rw [List.drop_eq_getElem_cons hi]
  congr 1
  rw [List.getElem?_eq_getElem hi] at h
  exact Option.some.inj h
theorem drop_end (h : ¬ i < A.length) : A.drop i = [] := List.drop_of_length_le (by omega)
theorem hd_end : hd [endT] = endT := rfl
theorem hd_at (h : A[i]? = some t) : hd (A.drop i ++ [endT]) = t := by rw [drop_cons h]; rfl
theorem tl_at (h : A[i]? = some t) : (A.drop i ++ [endT]).tail = A.drop (i + 1) ++ [endT] := by rw [drop_cons h]; rfl
def XG (x : ByteArray) : Prop := (kwP x || !letP (btA x 0)) = true
def misB (A : List Tk) (i : Nat) (x : ByteArray) : Bool := match A[i]? with
  | some t => (mkk t.kind == 1 || mkk t.kind == 4) && decide (t.text = x)
  | none => false
theorem dec_tl {a b : ByteArray} : (a.toList == b.toList) = decide (a = b) := by
  by_cases e : a = b
  · rw [decide_eq_true e, e]; simp
  · rw [decide_eq_false e, tl_ne e]
theorem get_lt (h : i < A.length) : ∃ t, A[i]? = some t := ⟨_, List.getElem?_eq_getElem h⟩
theorem mis_spec {K : Bool → World → Prop} (h : MXs w B r st A i bd M z) (hK : K (misB A i x) w.drew) : S.querym_reader_is r x w K := by
  unfold S.querym_reader_is
  have h := h.dr
  have htl : (⟨(z 4).a, (z 4).l, (z 4).c⟩ : Sl).l = A.length := h.tl
  refine drew_ (ldI h.rb rfl (ldS h.rb rfl (ifd (fun hlt => ?_) fun hlt => ?_)))
  · have hlt : i < A.length := by omega
    obtain ⟨t, ht⟩ := get_lt hlt
    unfold misB at hK
    rw [ht] at hK
    dsimp only at hK
    refine ldS h.rb rfl (ldI h.rb rfl (h.kd ht (ifk (fun h1 => ?_) fun h1 => ?_)))
    · have e : mkk t.kind = 1 := by omega
      rw [e] at hK
      refine ldS h.rb rfl (ldI h.rb rfl (h.tx ht ?_))
      rw [dec_tl]
      exact hK
    · refine ldS h.rb rfl (ldI h.rb rfl (h.kd ht (ifk (fun h4 => ?_) fun h4 => ?_)))
      · have e : mkk t.kind = 4 := by omega
        rw [e] at hK
        refine ldS h.rb rfl (ldI h.rb rfl (h.tx ht ?_))
        rw [dec_tl]
        exact hK
      · have e1 : (mkk t.kind == 1) = false := by rw [beq_eq_false_iff_ne]; omega
        have e4 : (mkk t.kind == 4) = false := by rw [beq_eq_false_iff_ne]; omega
        rw [e1, e4] at hK
        exact hK
  · unfold misB at hK
    rw [List.getElem?_eq_none (by omega)] at hK
    exact hK
theorem misB_lt (h : misB A i x = true) : i < A.length := by
  unfold misB at h
  refine Decidable.byContradiction fun hn => ?_
  rw [List.getElem?_eq_none (by omega)] at h
  cases h
theorem kind_cases (h : MXs w B r st A n bd M z) (ht : A[i]? = some t) : t.kind = 2 ∨ t.kind = 3 ∨ t.kind = 4 ∨ t.kind = 5 ∨ t.kind = 6 := by
  have := h.ok t (List.mem_of_getElem? ht)
  have h1 := this.1
  have h2 := this.2.k6
  omega
theorem misB_eq (h : MXs w B r st A n bd M z) (hx : XG x) : misB A i x = isP x (A.drop i ++ [endT]) := by
  unfold misB isP
  by_cases hlt : i < A.length
  · obtain ⟨t, ht⟩ := get_lt hlt
    rw [hd_at ht, ht]
    dsimp only
    have hok := (h.ok t (List.mem_of_getElem? ht)).2
    rcases kind_cases h ht with e | e | e | e | e <;> rw [e]
    · obtain ⟨h1, h2⟩ := hok.nm e
      have : ¬ t.text = x := fun e => by
        subst e
        unfold XG at hx
        rw [h1, h2] at hx
        cases hx
      rw [decide_eq_false this, Bool.and_false, Bool.and_false]
    · rfl
    · rfl
    · rfl
    · rfl
  · rw [drop_end hlt, List.getElem?_eq_none (by omega)]
    rfl
theorem meat_spec {K : Bool → World → Prop} (h : MX w B r st A L M z) (hx : XG x) (hK : ∀ w' b, MX w' B r st A (aft x L) M z → (b = isP x L ∨ L = bad) → Fr r 1 w w' → K b w') : S.querym_reader_eat r x w K := by
  unfold S.querym_reader_eat
  obtain ⟨i, bd, M1, hs, h⟩ := h
  have hal := hs.al
  refine mis_spec hs (ifb (fun hb => ?_) fun hb => ?_)
  · have hd := hs.dr
    have hlt := misB_lt hb
    refine ldI hd.rb rfl (st1 hd.rb (by show _ < 3; omega) fun w1 b1 f1 z1 => ?_)
    have b1 : Blk w1 r [slV (z 4), .int .i64 (W ((i : Int) + 1)), .bool bd] := b1
    rw [W_succ (by omega)] at b1
    have h1 : MXs w1 B r st A (i + 1) bd M1 z := hd.rdr b1 f1 (by omega)
    rcases h with ⟨rfl, rfl, rfl⟩ | ⟨rfl, rfl⟩
    · have hp : isP x (A.drop i ++ [endT]) = true := by rw [← misB_eq hs hx]; exact hb
      obtain ⟨t, ht⟩ := get_lt hlt
      refine hK w1 true ⟨i + 1, false, _, h1, .inl ⟨rfl, rfl, ?_⟩⟩ (.inl hp.symm) f1
      rw [aft_t hp, tl_at ht]
    · exact hK w1 true ⟨i + 1, true, _, h1, .inr ⟨rfl, rfl⟩⟩ (.inr rfl) f1
  · have hd := hs.dr
    rcases h with ⟨rfl, rfl, rfl⟩ | ⟨rfl, rfl⟩
    · have hp : isP x (A.drop i ++ [endT]) = false := by rw [← misB_eq hs hx]; exact hb
      refine hK _ false ⟨i, false, _, hd, .inl ⟨rfl, rfl, ?_⟩⟩ (.inl hp.symm) ((Fr.refl _ _ w).drew)
      rw [aft_f hp]
    · exact hK _ false ⟨i, true, _, hd, .inr ⟨rfl, rfl⟩⟩ (.inr rfl) ((Fr.refl _ _ w).drew)
/-- The reader becomes bad. -/
theorem MX.mbad {K : World → Prop} (h : MX w B r st A L M z) (hK : ∀ w', MX w' B r st A bad M z → Fr r 1 w w' → K w') : St1 w ⟨r, 2, none⟩ (.bool true) K := by
  obtain ⟨i, bd, M1, hs, h⟩ := h
  refine st1 hs.rb (by show _ < 3; omega) fun w1 b1 f1 z1 => hK w1 ⟨i, true, M1, hs.rdr b1 f1 hs.il, .inr ⟨rfl, rfl⟩⟩ f1
theorem mwant_spec {K : World → Prop} (h : MX w B r st A L M z) (hx : XG x) (hK : ∀ w', MX w' B r st A (wnt x L) M z → Fr r 1 w w' → K w') : S.querym_reader_want r x w K := by
  unfold S.querym_reader_want
  refine meat_spec h hx fun w1 b h1 hb f1 => ifn (fun e => ?_) fun e => ?_
  · refine h1.mbad fun w2 h2 f2 => hK w2 ?_ (f1.trans f2)
    have : wnt x L = bad := by
      unfold wnt
      rcases hb with hb | hb
      · rw [← hb, e]; rfl
      · rw [hb]; rfl
    rw [this]
    exact h2
  · refine hK w1 ?_ f1
    rcases hb with hb | hb
    · unfold wnt
      rw [← hb, e, if_pos rfl]
      rw [aft_t (by rw [← hb, e])] at h1
      exact h1
    · rw [hb] at h1 ⊢
      exact h1
theorem mname_spec {K : ByteArray → World → Prop} (h : MX w B r st A L M z) (hK : ∀ w' y, MX w' B r st A (nmL L) M z → (y = nmP L ∨ nmL L = bad) → Fr r 1 w w' → K y w') : S.querym_reader_name r w K := by
  unfold S.querym_reader_name
  have h0 := h
  obtain ⟨i, bd, M1, hs, h⟩ := h
  have hal := hs.al
  have xd := hs.dr
  have htl : (⟨(z 4).a, (z 4).l, (z 4).c⟩ : Sl).l = A.length := xd.tl
  refine join_W (fun v => v = w.drew ∧ nmL L = bad) ?_ ?_
  · rintro _ ⟨rfl, e⟩
    refine h0.dr.mbad fun w2 h2 f2 => hK w2 ⟨#[]⟩ (by rw [e]; exact h2) (.inr e) f2
  intro J hJ
  have no : ¬ (hd L).kind = 2 ∨ L = bad → nmL L = bad := fun h => by
    unfold nmL
    rcases h with h | h
    · rw [if_neg h]
    · rw [h]; rfl
  refine drew_ (ldI xd.rb rfl (ldS xd.rb rfl (ifd (fun hlt => ?_) fun hlt => ?_)))
  · have hlt : i < A.length := by omega
    obtain ⟨t, ht⟩ := get_lt hlt
    have htm := hs.ok t (List.mem_of_getElem? ht)
    refine ldS xd.rb rfl (ldI xd.rb rfl (xd.kd ht (ifk (fun h1 => ?_) fun h1 => ?_)))
    · have h1 : mkk t.kind = 1 := by omega
      refine ldS xd.rb rfl (ldI xd.rb rfl (xd.tx ht (mkeyword_spec (ifn (fun hk => ?_) fun hk => ?_))))
      · have h2 : t.kind = 2 := by
          rcases kind_cases hs ht with e | e | e | e | e
          · exact e
          · have := htm.2.ky e; rw [hk] at this; cases this
          · rw [e] at h1; exact absurd h1 (by decide)
          · rw [e] at h1; exact absurd h1 (by decide)
          · rw [e] at h1; exact absurd h1 (by decide)
        refine ldI xd.rb rfl (st1 xd.rb (by show _ < 3; omega) fun w1 b1 f1 z1 => ?_)
        have b1 : Blk w1 r [slV (z 4), .int .i64 (W ((i : Int) + 1)), .bool bd] := b1
        rw [W_succ (by omega)] at b1
        have x1 : MXs w1 B r st A (i + 1) bd M1 z := xd.rdr b1 f1 (by omega)
        have x2 := x1.dr
        refine drew_ (ldS x2.rb rfl (ldI x2.rb rfl ?_))
        have e : W (((i + 1 : Nat) : Int) - 1) = (i : Int) := by rw [W_id (by omega) (by omega)]; omega
        rw [e]
        refine x2.tx ht ?_
        rcases h with ⟨rfl, rfl, rfl⟩ | ⟨rfl, rfl⟩
        · have hh := hd_at ht
          refine hK _ _ ⟨i + 1, false, _, x2, .inl ⟨rfl, rfl, ?_⟩⟩ (.inl ?_) f1
          · unfold nmL
            rw [hh, if_pos h2, tl_at ht]
          · unfold nmP
            rw [hh, if_pos h2]
        · exact hK _ _ ⟨i + 1, true, _, x2, .inr ⟨rfl, rfl⟩⟩ (.inr rfl) f1
      · refine hJ _ ⟨rfl, no ?_⟩
        rcases h with ⟨rfl, rfl, rfl⟩ | ⟨rfl, rfl⟩
        · refine .inl fun e => ?_
          rw [hd_at ht] at e
          have := (htm.2.nm e).1
          rw [hk] at this; cases this
        · exact .inr rfl
    · refine hJ _ ⟨rfl, no ?_⟩
      rcases h with ⟨rfl, rfl, rfl⟩ | ⟨rfl, rfl⟩
      · refine .inl fun e => ?_
        rw [hd_at ht] at e
        rw [e] at h1
        exact h1 rfl
      · exact .inr rfl
  · refine hJ _ ⟨rfl, no ?_⟩
    rcases h with ⟨rfl, rfl, rfl⟩ | ⟨rfl, rfl⟩
    · rw [drop_end (by omega)]
      exact .inl (by decide)
    · exact .inr rfl
set_option maxHeartbeats 2000000 in
theorem mlit_spec {K : Bool → Int → ByteArray → World → Prop} (h : MX w B r st A L M z) (hK : ∀ w' y, MX w' B r st A (ltL L) M z → (y = ltP L ∨ ltL L = bad) → Fr r 1 w w' → K y.st y.i y.s w') : S.querym_reader_lit r w K := by
  unfold S.querym_reader_lit
  have hq := h.apart (Nat.le_refl w.heap.size)
  have hrl := h.rl
  refine newB fun w0 q0 f0 z0 => ?_
  have h0 := h.fr0 f0
  obtain ⟨i, bd, M1, hs, h⟩ := h0
  have hal := hs.al
  have out : ∀ {u : World} {y : Vl} , Blk u w.heap.size (valC v0) → (∀ u', Fr w.heap.size 1 u u' → K y.st y.i y.s u') → (St1 u ⟨w.heap.size, 0, none⟩ (.bool y.st) fun w_1 => St1 w_1 ⟨w.heap.size, 1, none⟩ (.int .i64 y.i) fun w_1 => St1 w_1 ⟨w.heap.size, 2, none⟩ (.string y.s) fun w_1 => LdB w_1 ⟨w.heap.size, 0, none⟩ fun a => LdI .i64 w_1 ⟨w.heap.size, 1, none⟩ fun b => LdStr w_1 ⟨w.heap.size, 2, none⟩ fun c => K a b c w_1) := fun hb hu =>
    lay3 hb rfl fun u' b' f' => ldB b' rfl (ldI b' rfl (ldStr b' rfl (hu u' f')))
  have q0 : Blk w0 w.heap.size (valC v0) := q0
  -- the last road: nothing fits
  have lastR : ∀ u, MX u B r st A L M z → Fr 0 0 w u → Blk u w.heap.size (valC v0) → ltL L = bad →
      (St1 u ⟨r, 2, none⟩ (.bool true) fun w_1 => S.api_Int 0 w_1 (fun IsStr_2 I_3 S_4 w_1 => St1 w_1 ⟨w.heap.size, 0, none⟩ (.bool IsStr_2) fun w_1 => St1 w_1 ⟨w.heap.size, 1, none⟩ (.int .i64 I_3) fun w_1 => St1 w_1 ⟨w.heap.size, 2, none⟩ (.string S_4) fun w_1 => LdB w_1 ⟨w.heap.size, 0, none⟩ fun a => LdI .i64 w_1 ⟨w.heap.size, 1, none⟩ fun b => LdStr w_1 ⟨w.heap.size, 2, none⟩ fun c => K a b c w_1)) := fun u hu fu qu e => by
    refine hu.mbad fun u1 h1 f1 => api_Int_spec fun u2 f2 => out (y := v0) ((qu.fr f1 (by omega)).fr f2 (by omega)) fun u3 f3 => ?_
    exact hK u3 v0 (by rw [e]; exact (h1.fr0 f2).ap hq f3) (.inr e) ((((fu.any r 1).trans f1).then0 f2).thenNew f3 (Nat.le_refl _))
  have no : ¬ ((hd L).kind = 4 ∨ (hd L).kind = 5) ∨ L = bad → ltL L = bad := fun h => by
    unfold ltL
    rcases h with h | h
    · rw [if_neg h]
    · rw [h]; rfl
  -- the second road: a string
  refine join_W (fun u => MXs u B r st A i bd M1 z ∧ Fr 0 0 w u ∧ Blk u w.heap.size (valC v0) ∧ (∀ t, A[i]? = some t → t.kind ≠ 4)) ?_ ?_
  · rintro u ⟨xu, fu, qu, n4⟩
    refine join_W (fun v => MXs v B r st A i bd M1 z ∧ Fr 0 0 w v ∧ Blk v w.heap.size (valC v0) ∧ (∀ t, A[i]? = some t → t.kind ≠ 5)) ?_ ?_
    · rintro v ⟨xv, fv, qv, n5⟩
      refine lastR v ⟨i, bd, M1, xv, h⟩ fv qv (no ?_)
      rcases h with ⟨rfl, rfl, rfl⟩ | ⟨rfl, rfl⟩
      · by_cases hlt : i < A.length
        · obtain ⟨t, ht⟩ := get_lt hlt
          rw [hd_at ht]
          exact .inl fun e => e.elim (n4 t ht) (n5 t ht)
        · rw [drop_end hlt]
          exact .inl (by decide)
      · exact .inr rfl
    · intro J hJ
      have xd := xu.dr
      have htl : (⟨(z 4).a, (z 4).l, (z 4).c⟩ : Sl).l = A.length := xd.tl
      refine drew_ (ldI xd.rb rfl (ldS xd.rb rfl (ifd (fun hlt => ?_) fun hlt => ?_)))
      · have hlt : i < A.length := by omega
        obtain ⟨t, ht⟩ := get_lt hlt
        refine ldS xd.rb rfl (ldI xd.rb rfl (xd.kd ht (ifk (fun h3 => ?_) fun h3 => ?_)))
        · have h5 : t.kind = 5 := by
            rcases kind_cases hs ht with e | e | e | e | e
            · rw [e] at h3; exact absurd h3 (by decide)
            · rw [e] at h3; exact absurd h3 (by decide)
            · rw [e] at h3; exact absurd h3 (by decide)
            · exact e
            · rw [e] at h3; exact absurd h3 (by decide)
          refine ldI xd.rb rfl (st1 xd.rb (by show _ < 3; omega) fun w1 b1 f1 z1 => ?_)
          have b1 : Blk w1 r [slV (z 4), .int .i64 (W ((i : Int) + 1)), .bool bd] := b1
          rw [W_succ (by omega)] at b1
          have x2 : MXs w1.drew B r st A (i + 1) bd M1 z := (xd.rdr b1 f1 (by omega)).dr
          have q2 : Blk w1.drew w.heap.size (valC v0) := (qu.drew.fr f1 (by omega)).drew
          refine drew_ (ldS x2.rb rfl (ldI x2.rb rfl ?_))
          have e : W (((i + 1 : Nat) : Int) - 1) = (i : Int) := by rw [W_id (by omega) (by omega)]; omega
          rw [e]
          refine x2.tx ht (api_Str_spec fun u2 f2 => out (y := ⟨true, 0, t.text⟩) (q2.fr f2 (by omega)) fun u3 f3 => ?_)
          have x3 := (x2.fr0 f2).ap hq f3
          have F3 : Fr r 1 w u3 := ((((fu.any r 1).drew.trans f1).drew).then0 f2).thenNew f3 (Nat.le_refl _)
          rcases h with ⟨rfl, rfl, rfl⟩ | ⟨rfl, rfl⟩
          · have hh := hd_at ht
            refine hK _ ⟨true, 0, t.text⟩ ⟨i + 1, false, _, x3, .inl ⟨rfl, rfl, ?_⟩⟩ (.inl ?_) F3
            · unfold ltL
              rw [hh, if_pos (.inr h5), tl_at ht]
            · unfold ltP
              rw [hh, if_pos h5]
          · exact hK _ ⟨true, 0, t.text⟩ ⟨i + 1, true, _, x3, .inr ⟨rfl, rfl⟩⟩ (.inr rfl) F3
        · exact hJ _ ⟨xd, fu.drew, qu.drew, fun t' ht' e => by
            rw [ht] at ht'; cases ht'
            rw [e] at h3; exact h3 rfl⟩
      · exact hJ _ ⟨xd, fu.drew, qu.drew, fun t' ht' e => by
          have := (List.getElem?_eq_some_iff.1 ht').1
          omega⟩
  -- the first road: a number
  intro J hJ
  have xd := hs.dr
  have htl : (⟨(z 4).a, (z 4).l, (z 4).c⟩ : Sl).l = A.length := xd.tl
  have fu := f0
  refine drew_ (ldI xd.rb rfl (ldS xd.rb rfl (ifd (fun hlt => ?_) fun hlt => ?_)))
  · have hlt : i < A.length := by omega
    obtain ⟨t, ht⟩ := get_lt hlt
    refine ldS xd.rb rfl (ldI xd.rb rfl (xd.kd ht (ifk (fun h3 => ?_) fun h3 => ?_)))
    · have h5 : t.kind = 4 := by
        rcases kind_cases hs ht with e | e | e | e | e
        · rw [e] at h3; exact absurd h3 (by decide)
        · rw [e] at h3; exact absurd h3 (by decide)
        · exact e
        · rw [e] at h3; exact absurd h3 (by decide)
        · rw [e] at h3; exact absurd h3 (by decide)
      refine ldI xd.rb rfl (st1 xd.rb (by show _ < 3; omega) fun w1 b1 f1 z1 => ?_)
      have b1 : Blk w1 r [slV (z 4), .int .i64 (W ((i : Int) + 1)), .bool bd] := b1
      rw [W_succ (by omega)] at b1
      have x2 : MXs w1.drew B r st A (i + 1) bd M1 z := (xd.rdr b1 f1 (by omega)).dr
      have q2 : Blk w1.drew w.heap.size (valC v0) := (q0.drew.fr f1 (by omega)).drew
      refine drew_ (ldS x2.rb rfl (ldI x2.rb rfl ?_))
      have e : W (((i + 1 : Nat) : Int) - 1) = (i : Int) := by rw [W_id (by omega) (by omega)]; omega
      rw [e]
      refine x2.vl ht (api_Int_spec fun u2 f2 => out (y := ⟨false, t.val, ⟨#[]⟩⟩) (q2.fr f2 (by omega)) fun u3 f3 => ?_)
      have x3 := (x2.fr0 f2).ap hq f3
      have F3 : Fr r 1 w u3 := ((((fu.any r 1).drew.trans f1).drew).then0 f2).thenNew f3 (Nat.le_refl _)
      rcases h with ⟨rfl, rfl, rfl⟩ | ⟨rfl, rfl⟩
      · have hh := hd_at ht
        refine hK _ ⟨false, t.val, ⟨#[]⟩⟩ ⟨i + 1, false, _, x3, .inl ⟨rfl, rfl, ?_⟩⟩ (.inl ?_) F3
        · unfold ltL
          rw [hh, if_pos (.inl h5), tl_at ht]
        · unfold ltP
          rw [hh, if_neg (by omega), if_pos h5]
      · exact hK _ ⟨false, t.val, ⟨#[]⟩⟩ ⟨i + 1, true, _, x3, .inr ⟨rfl, rfl⟩⟩ (.inr rfl) F3
    · exact hJ _ ⟨xd, fu.drew, q0.drew, fun t' ht' e => by
        rw [ht] at ht'; cases ht'
        rw [e] at h3; exact h3 rfl⟩
  · exact hJ _ ⟨xd, fu.drew, q0.drew, fun t' ht' e => by
      have := (List.getElem?_eq_some_iff.1 ht').1
      omega⟩
end Go.Proofs.Qxb6500564aGreat
