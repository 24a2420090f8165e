/-
  The real heap: fields.
-/
import Derived.Test.Qxb6500562aGreatHrA
import Derived.Test.Qxb6500562aGreatHmH
namespace Go.Proofs.Qxb6500562aGreat
open Go.Den Go.Zip
set_option linter.unusedVariables false
set_option linter.unusedSimpArgs false
variable {w w' : World} {h : Nat} {f : Nat → Int} {M H : SH} {b : Nat}

theorem refsOf_spec {n m : Nat} {K : Int → World → Prop} (hm : m < 49) (hn : n ≤ 48) (hK : K n w) : S.heap_refsOf ((n * 49 + m : Nat) : Int) w K := by
  unfold S.heap_refsOf S.api_Quo
  rw [if_neg (by decide), if_neg (by decide)]
  refine ⟨by decide, ?_⟩
  rw [Int.tdiv_eq_ediv_of_nonneg (by omega), show ((n * 49 + m : Nat) : Int) / 49 = (n : Int) by omega, W_id (by omega) (by omega)]
  exact hK
theorem intsOf_spec {n m : Nat} {K : Int → World → Prop} (hm : m < 49) (hn : n ≤ 48) (hK : K m w) : S.heap_intsOf ((n * 49 + m : Nat) : Int) w K := by
  unfold S.heap_intsOf S.api_Rem
  rw [if_neg (by decide), if_neg (by decide)]
  refine ⟨by decide, ?_⟩
  rw [Int.tmod_eq_emod_of_nonneg (by omega), show ((n * 49 + m : Nat) : Int) % 49 = (m : Int) by omega]
  exact hK
theorem wordsOf_spec {n m : Nat} {K : Int → World → Prop} (hm : m < 49) (hn : n ≤ 48) (hK : K ((1 + n + m : Nat) : Int) w) : S.heap_wordsOf ((n * 49 + m : Nat) : Int) w K := by
  unfold S.heap_wordsOf
  refine refsOf_spec hm hn (intsOf_spec hm hn ?_)
  rw [W_id (x := 1 + (n : Int)) (by omega) (by omega), W_id (by omega) (by omega), show 1 + (n : Int) + (m : Int) = ((1 + n + m : Nat) : Int) by omega]
  exact hK
theorem RL.small (r : RL f M b) {k : Nat} (hk : k < M.objs.length) : (obN M k).refs.length + (obN M k).ints.length ≤ 47 ∧ b + ofs M k + osz (obN M k) ≤ 96 := by
  have := ofs_tot hk
  have := r.le
  have h3 := osz_eq (obN M k)
  have := r.bb
  omega
theorem hrat {i : Int} {K : Int → Int → World → Prop} (wm : WM M) (hb : Blk w h (memB f)) (r : RL f M b) (hK1 : hErr M i ≠ 0 → K (-1) (hErr M i) w) (hK2 : hErr M i = 0 → K ((b + ofs M (rtAt M i).toNat : Nat) : Int) 0 w) : S.heap_Heap_at h i w K := by
  unfold S.heap_Heap_at
  have h24 := wm.rl
  have bad : (i < 0 ∨ (M.roots.length : Int) ≤ i) → K (-1) 2 w := fun hc => by
    have hp : hErr M i = 2 := by unfold hErr; rw [if_pos hc]
    rw [hp] at hK1
    exact hK1 (by decide)
  by_cases h1 : i < 0
  · rw [if_pos (by simpa using h1)]
    exact bad (.inl h1)
  rw [if_neg (by simpa using h1)]
  refine ldH hb (by omega) ?_
  rw [r.tp]
  by_cases h2 : (M.roots.length : Int) ≤ i
  · rw [if_pos (by simpa using h2)]
    exact bad (.inr h2)
  rw [if_neg (by simpa using h2)]
  obtain ⟨k, rfl⟩ : ∃ k : Nat, i = k := ⟨i.toNat, by omega⟩
  refine ⟨by omega, by omega, ?_⟩
  rw [Int.toNat_natCast, Nat.mul_one]
  refine ldH hb (by omega) ?_
  rw [r.rt k (by omega)]
  have hrt : M.roots.getD k (-1) = rtAt M (k : Int) := by unfold rtAt; rw [Int.toNat_natCast]
  rw [hrt]
  unfold adr
  by_cases h3 : rtAt M (k : Int) < 0
  · rw [if_pos h3, if_pos (by decide)]
    have hp : hErr M (k : Int) = 4 := by unfold hErr; rw [if_neg (by omega), if_pos h3]
    rw [hp] at hK1
    exact hK1 (by decide)
  · rw [if_neg h3, if_neg (by simp only [decide_eq_true_eq]; omega)]
    refine ⟨by omega, by omega, ?_⟩
    refine ldH hb (by omega) ?_
    rw [r.rt k (by omega), hrt]
    unfold adr
    rw [if_neg h3]
    exact hK2 (by unfold hErr; rw [if_neg (by omega), if_neg h3])
theorem obAt_N {x : Int} : obAt M x = obN M x.toNat := rfl
theorem rlen {i : Int} {K : Int → Int → Int → World → Prop} (m : HR w h M) (hK : K (hLen M i).1 (hLen M i).2.1 (hLen M i).2.2 w) : S.heap_Heap_Len h i w K := by
  unfold S.heap_Heap_Len
  obtain ⟨wm, f, b, hb, r⟩ := m
  refine hrat wm hb r (fun he => ?_) fun he => ?_
  · rw [if_pos (by simpa using he)]
    unfold hLen at hK
    rw [if_pos he] at hK
    exact hK
  · rw [if_neg (by simp)]
    obtain ⟨q1, q2, _⟩ := hErr_ok wm he
    have hp : hLen M i = (((obN M (rtAt M i).toNat).refs.length : Int), ((obN M (rtAt M i).toNat).ints.length : Int), 0) := by unfold hLen; rw [if_neg (by simpa using he)]; rfl
    rw [hp] at hK
    have hk : (rtAt M i).toNat < M.objs.length := by omega
    generalize (rtAt M i).toNat = k at *
    have hs := r.small hk
    have ho := osz_eq (obN M k)
    refine ⟨by omega, by omega, ?_⟩
    rw [Int.toNat_natCast, Nat.mul_one, Nat.zero_add]
    refine ldH hb (by omega) ?_
    rw [r.hd k hk]
    refine refsOf_spec (by omega) (by omega) ?_
    refine ⟨by omega, by omega, ?_⟩
    refine ldH hb (by omega) ?_
    rw [r.hd k hk]
    refine intsOf_spec (by omega) (by omega) ?_
    exact hK
theorem rrefAt {i g : Int} {K : Int → Int → World → Prop} (wm : WM M) (hb : Blk w h (memB f)) (r : RL f M b) (hK1 : hErr M i ≠ 0 → K (-1) (hErr M i) w) (hK2 : hErr M i = 0 → (g < 0 ∨ ((obN M (rtAt M i).toNat).refs.length : Int) ≤ g) → K (-1) 5 w)
    (hK3 : hErr M i = 0 → 0 ≤ g → g < (obN M (rtAt M i).toNat).refs.length → K ((b + ofs M (rtAt M i).toNat + 1 + g.toNat : Nat) : Int) 0 w) : S.heap_Heap_refAt h i g w K := by
  unfold S.heap_Heap_refAt
  refine hrat wm hb r (fun he => ?_) fun he => ?_
  · rw [if_pos (by simpa using he)]
    exact hK1 he
  · rw [if_neg (by simp)]
    obtain ⟨q1, q2, _⟩ := hErr_ok wm he
    have hk : (rtAt M i).toNat < M.objs.length := by omega
    have hK2 := hK2 he
    have hK3 := hK3 he
    generalize (rtAt M i).toNat = k at *
    have hs := r.small hk
    have ho := osz_eq (obN M k)
    by_cases h1 : g < 0
    · rw [if_pos (by simpa using h1)]; exact hK2 (.inl h1)
    rw [if_neg (by simpa using h1)]
    refine ⟨by omega, by omega, ?_⟩
    rw [Int.toNat_natCast, Nat.mul_one, Nat.zero_add]
    refine ldH hb (by omega) ?_
    rw [r.hd k hk]
    refine refsOf_spec (by omega) (by omega) ?_
    by_cases h2 : ((obN M k).refs.length : Int) ≤ g
    · rw [if_pos (by simpa using h2)]; exact hK2 (.inr h2)
    rw [if_neg (by simpa using h2)]
    rw [W_id (x := ((b + ofs M k : Nat) : Int) + 1) (by omega) (by omega), W_id (by omega) (by omega), show ((b + ofs M k : Nat) : Int) + 1 + g = ((b + ofs M k + 1 + g.toNat : Nat) : Int) by omega]
    exact hK3 (by omega) (by omega)
theorem rintAt {i g : Int} {K : Int → Int → World → Prop} (wm : WM M) (hb : Blk w h (memB f)) (r : RL f M b) (hK1 : hErr M i ≠ 0 → K (-1) (hErr M i) w) (hK2 : hErr M i = 0 → (g < 0 ∨ ((obN M (rtAt M i).toNat).ints.length : Int) ≤ g) → K (-1) 5 w)
    (hK3 : hErr M i = 0 → 0 ≤ g → g < (obN M (rtAt M i).toNat).ints.length → K ((b + ofs M (rtAt M i).toNat + 1 + (obN M (rtAt M i).toNat).refs.length + g.toNat : Nat) : Int) 0 w) : S.heap_Heap_intAt h i g w K := by
  unfold S.heap_Heap_intAt
  refine hrat wm hb r (fun he => ?_) fun he => ?_
  · rw [if_pos (by simpa using he)]
    exact hK1 he
  · rw [if_neg (by simp)]
    obtain ⟨q1, q2, _⟩ := hErr_ok wm he
    have hk : (rtAt M i).toNat < M.objs.length := by omega
    have hK2 := hK2 he
    have hK3 := hK3 he
    generalize (rtAt M i).toNat = k at *
    have hs := r.small hk
    have ho := osz_eq (obN M k)
    refine ⟨by omega, by omega, ?_⟩
    rw [Int.toNat_natCast, Nat.mul_one, Nat.zero_add]
    refine ldH hb (by omega) ?_
    rw [r.hd k hk]
    by_cases h1 : g < 0
    · rw [if_pos (by simpa using h1)]; exact hK2 (.inl h1)
    rw [if_neg (by simpa using h1)]
    refine intsOf_spec (by omega) (by omega) ?_
    by_cases h2 : ((obN M k).ints.length : Int) ≤ g
    · rw [if_pos (by simpa using h2)]; exact hK2 (.inr h2)
    rw [if_neg (by simpa using h2)]
    refine refsOf_spec (by omega) (by omega) ?_
    rw [W_id (x := ((b + ofs M k : Nat) : Int) + 1) (by omega) (by omega), W_id (x := ((b + ofs M k : Nat) : Int) + 1 + ((obN M k).refs.length : Int)) (by omega) (by omega), W_id (by omega) (by omega),
      show ((b + ofs M k : Nat) : Int) + 1 + ((obN M k).refs.length : Int) + g = ((b + ofs M k + 1 + (obN M k).refs.length + g.toNat : Nat) : Int) by omega]
    exact hK3 (by omega) (by omega)
theorem rloadI {i g : Int} {K : Int → Int → World → Prop} (m : HR w h M) (hK : K (hLoadI M i g).1 (hLoadI M i g).2 w) : S.heap_Heap_LoadInt h i g w K := by
  unfold S.heap_Heap_LoadInt
  obtain ⟨wm, f, b, hb, r⟩ := m
  refine rintAt wm hb r (fun he => ?_) (fun he hc => ?_) fun he h0 h1 => ?_
  · rw [if_pos (by simpa using he)]
    unfold hLoadI at hK
    rw [if_pos he] at hK
    exact hK
  · rw [if_pos (by decide)]
    unfold hLoadI at hK
    rw [if_neg (by simpa using he), obAt_N, if_pos hc] at hK
    exact hK
  · rw [if_neg (by simp)]
    obtain ⟨q1, q2, _⟩ := hErr_ok wm he
    have hk : (rtAt M i).toNat < M.objs.length := by omega
    unfold hLoadI at hK
    rw [if_neg (by simpa using he), obAt_N, if_neg (by omega)] at hK
    generalize (rtAt M i).toNat = k at *
    have hs := r.small hk
    have ho := osz_eq (obN M k)
    refine ⟨by omega, by omega, ?_⟩
    rw [Int.toNat_natCast, Nat.mul_one, Nat.zero_add]
    refine ldH hb (by omega) ?_
    rw [r.it k g.toNat hk (by omega)]
    exact hK
theorem ofsL_set (os : List Ob) (k : Nat) (o : Ob) (h : osz o = osz (os.getD k ob0)) (j : Nat) : ofsL (os.set k o) j = ofsL os j := by
  unfold ofsL
  rw [List.map_take, List.map_take, List.map_set]
  have : (os.map osz).set k (osz o) = os.map osz := by
    apply List.ext_getElem?
    intro i
    rw [List.getElem?_set]
    by_cases e : k = i
    · subst e
      rw [if_pos rfl]
      by_cases hk : k < os.length
      · rw [if_pos (by simpa using hk), List.getElem?_map, List.getElem?_eq_getElem hk, h, List.getD_eq_getElem?_getD, List.getElem?_eq_getElem hk]; rfl
      · rw [if_neg (by simpa using hk), List.getElem?_eq_none (by simp; omega)]
    · rw [if_neg e]
  rw [this]
/-- An object's fields turn in place. -/
theorem RL.field {f' : Nat → Int} {k : Nat} {o : Ob} (r : RL f M b) (hk : k < M.objs.length) (h1 : o.refs.length = (obN M k).refs.length) (h2 : o.ints.length = (obN M k).ints.length)
    (he : ∀ t, (t ≤ b + ofs M k ∨ b + ofs M k + osz (obN M k) ≤ t) → f' t = f t) (hr : ∀ j, j < o.refs.length → f' (b + ofs M k + 1 + j) = adr M b (o.refs.getD j (-1))) (hi : ∀ j, j < o.ints.length → f' (b + ofs M k + 1 + o.refs.length + j) = o.ints.getD j 0) :
    RL f' ⟨M.objs.set k o, M.roots⟩ b := by
  have hs := r.small hk
  have hsz : osz o = osz (M.objs.getD k ob0) := by rw [osz_eq, h1, h2]; rfl
  have eo : ∀ j, ofs ⟨M.objs.set k o, M.roots⟩ j = ofs M j := fun j => ofsL_set _ _ _ hsz j
  have et : tot ⟨M.objs.set k o, M.roots⟩ = tot M := by unfold tot; rw [eo]; simp
  have ea : ∀ x, adr ⟨M.objs.set k o, M.roots⟩ b x = adr M b x := fun x => by unfold adr; rw [eo]
  have en : ∀ j, j < M.objs.length → obN ⟨M.objs.set k o, M.roots⟩ j = if j = k then o else obN M j := fun j hj => by
    unfold obN
    rw [List.getD_eq_getElem?_getD, List.getElem?_set]
    by_cases e : j = k
    · subst e; rw [if_pos rfl, if_pos hj, if_pos rfl]; rfl
    · rw [if_neg (fun h => e h.symm), if_neg e, ← List.getD_eq_getElem?_getD]
  have dis : ∀ j, j < M.objs.length → j ≠ k → ofs M j + osz (obN M j) ≤ ofs M k ∨ ofs M k + osz (obN M k) ≤ ofs M j := fun j hj hne => by
    rcases Nat.lt_or_ge j k with h | h
    · exact .inl (ofs_lt h (by omega))
    · exact .inr (ofs_lt (by omega) (by omega))
  have ho := osz_eq (obN M k)
  have hbb := r.bb
  refine ⟨r.bb, by rw [he _ (by omega)]; exact r.bs, by rw [he _ (by omega), et]; exact r.fr, by rw [et]; exact r.le, by rw [he _ (by omega)]; exact r.tp, fun i hi' => ?_, fun j hj => ?_, fun j i hj hi' => ?_, fun j i hj hi' => ?_⟩
  · rw [he _ (by omega), ea]; exact r.rt i hi'
  · have hj : j < M.objs.length := by simpa using hj
    rw [eo, en j hj]
    by_cases e : j = k
    · subst e; rw [if_pos rfl, he _ (by omega), r.hd _ hk]; unfold hdr; rw [h1, h2]
    · have hd := dis j hj e
      have hoj := osz_eq (obN M j)
      rw [if_neg e, he _ (by omega)]; exact r.hd j hj
  · have hj : j < M.objs.length := by simpa using hj
    rw [en j hj] at hi' ⊢
    rw [eo, ea]
    by_cases e : j = k
    · subst e
      rw [if_pos rfl] at hi' ⊢
      exact hr i hi'
    · have hd := dis j hj e
      have hoj := osz_eq (obN M j)
      rw [if_neg e] at hi' ⊢
      rw [he _ (by omega)]; exact r.rf j i hj hi'
  · have hj : j < M.objs.length := by simpa using hj
    rw [en j hj] at hi' ⊢
    rw [eo]
    by_cases e : j = k
    · subst e
      rw [if_pos rfl] at hi' ⊢
      exact hi i hi'
    · have hd := dis j hj e
      have hoj := osz_eq (obN M j)
      rw [if_neg e] at hi' ⊢
      rw [he _ (by omega)]; exact r.it j i hj hi'
theorem WM.field {k : Nat} {o : Ob} (m : WM M) (hk : k < M.objs.length) (h1 : o.refs.length = (obN M k).refs.length) (h2 : o.ints.length = (obN M k).ints.length) (hr : ∀ y ∈ o.refs, -1 ≤ y ∧ y < M.objs.length) : WM ⟨M.objs.set k o, M.roots⟩ := by
  have hin : obN M k ∈ M.objs := by unfold obN; rw [List.getD_eq_getElem?_getD, List.getElem?_eq_getElem hk]; exact List.getElem_mem hk
  refine ⟨m.rl, by simpa using m.ol, fun x hx => ?_, fun x hx => by simpa using m.rr x hx, fun x hx y hy => ?_⟩
  · rcases List.mem_or_eq_of_mem_set hx with hx | rfl
    · exact m.fl x hx
    · rw [h1, h2]; exact m.fl _ hin
  · rcases List.mem_or_eq_of_mem_set hx with hx | rfl
    · simpa using m.fr x hx y hy
    · simpa using hr y hy
theorem getD_set {l : List Int} {i : Nat} {v d : Int} (j : Nat) (hj : j < l.length) : (l.set i v).getD j d = if j = i then v else l.getD j d := by
  rw [List.getD_eq_getElem?_getD, List.getElem?_set]
  by_cases e : j = i
  · subst e; rw [if_pos rfl, if_pos hj, if_pos rfl]; rfl
  · rw [if_neg (fun h => e h.symm), if_neg e, ← List.getD_eq_getElem?_getD]
theorem rstoreI {i g v : Int} {K : Int → World → Prop} (m : HR w h M) (hK : ∀ w', HR w' h (hStoreI M i g v).2 → Fr h 1 w w' → K (hStoreI M i g v).1 w') : S.heap_Heap_StoreInt h i g v w K := by
  unfold S.heap_Heap_StoreInt
  have m0 := m
  obtain ⟨wm, f, b, hb, r⟩ := m
  refine rintAt wm hb r (fun he => ?_) (fun he hc => ?_) fun he h0 h1 => ?_
  · rw [if_pos (by simpa using he)]
    have hp : hStoreI M i g v = (hErr M i, M) := by unfold hStoreI; rw [if_pos he]
    rw [hp] at hK
    exact hK w m0 (Fr.refl _ _ _)
  · rw [if_pos (by decide)]
    have hp : hStoreI M i g v = (5, M) := by unfold hStoreI; rw [if_neg (by simpa using he)]; rw [obAt_N, if_pos hc]
    rw [hp] at hK
    exact hK w m0 (Fr.refl _ _ _)
  · rw [if_neg (by simp)]
    obtain ⟨q1, q2, _⟩ := hErr_ok wm he
    have hk : (rtAt M i).toNat < M.objs.length := by omega
    have hp : hStoreI M i g v = (0, ⟨M.objs.set (rtAt M i).toNat ⟨(obN M (rtAt M i).toNat).refs, (obN M (rtAt M i).toNat).ints.set g.toNat v⟩, M.roots⟩) := by
      unfold hStoreI; rw [if_neg (by simpa using he), obAt_N, if_neg (by omega)]; rfl
    rw [hp] at hK
    generalize (rtAt M i).toNat = k at *
    have hs := r.small hk
    have ho := osz_eq (obN M k)
    refine ⟨by omega, by omega, ?_⟩
    rw [Int.toNat_natCast, Nat.mul_one, Nat.zero_add]
    refine stH hb (by omega) fun u1 b1 f1 => ?_
    have hin : obN M k ∈ M.objs := by unfold obN; rw [List.getD_eq_getElem?_getD, List.getElem?_eq_getElem hk]; exact List.getElem_mem hk
    refine hK u1 ⟨wm.field hk rfl (by simp) (fun y hy => wm.fr _ hin y hy), _, b, b1, r.field hk rfl (by simp) (fun t ht => by rw [fset_ne (by omega)]) (fun j hj => ?_) fun j hj => ?_⟩ f1
    · dsimp only at hj ⊢
      rw [fset_ne (by omega)]; exact r.rf k j hk hj
    · dsimp only at hj ⊢
      rw [List.length_set] at hj
      rw [getD_set j hj]
      by_cases e : j = g.toNat
      · subst e; rw [fset_eq, if_pos rfl]
      · rw [fset_ne (by omega), if_neg e]; exact r.it k j hk hj
theorem rstoreR {i g j : Int} {K : Int → World → Prop} (m : HR w h M) (hK : ∀ w', HR w' h (hStoreR M i g j).2 → Fr h 1 w w' → K (hStoreR M i g j).1 w') : S.heap_Heap_StoreRef h i g j w K := by
  unfold S.heap_Heap_StoreRef
  have m0 := m
  obtain ⟨wm, f, b, hb, r⟩ := m
  refine rrefAt wm hb r (fun he => ?_) (fun he hc => ?_) fun he h0 h1 => ?_
  · rw [if_pos (by simpa using he)]
    have hp : hStoreR M i g j = (hErr M i, M) := by unfold hStoreR; rw [if_pos he]
    rw [hp] at hK
    exact hK w m0 (Fr.refl _ _ _)
  · rw [if_pos (by decide)]
    have hp : hStoreR M i g j = (5, M) := by unfold hStoreR; rw [if_neg (by simpa using he)]; rw [obAt_N, if_pos hc]
    rw [hp] at hK
    exact hK w m0 (Fr.refl _ _ _)
  · rw [if_neg (by simp)]
    obtain ⟨q1, q2, _⟩ := hErr_ok wm he
    have h24 := wm.rl
    have hk : (rtAt M i).toNat < M.objs.length := by omega
    have bad2 : (j < 0 ∨ (M.roots.length : Int) ≤ j) → K 2 w := fun hc => by
      have hp : hStoreR M i g j = (2, M) := by unfold hStoreR; rw [if_neg (by simpa using he), obAt_N, if_neg (by omega), if_pos hc]
      rw [hp] at hK
      exact hK w m0 (Fr.refl _ _ _)
    by_cases h3 : j < 0
    · rw [if_pos (by simpa using h3)]; exact bad2 (.inl h3)
    rw [if_neg (by simpa using h3)]
    refine ldH hb (by omega) ?_
    rw [r.tp]
    by_cases h4 : (M.roots.length : Int) ≤ j
    · rw [if_pos (by simpa using h4)]; exact bad2 (.inr h4)
    rw [if_neg (by simpa using h4)]
    have hp : hStoreR M i g j = (0, ⟨M.objs.set (rtAt M i).toNat ⟨(obN M (rtAt M i).toNat).refs.set g.toNat (rtAt M j), (obN M (rtAt M i).toNat).ints⟩, M.roots⟩) := by
      unfold hStoreR; rw [if_neg (by simpa using he), obAt_N, if_neg (by omega), if_neg (by omega)]; rfl
    rw [hp] at hK
    generalize (rtAt M i).toNat = k at *
    have hs := r.small hk
    have ho := osz_eq (obN M k)
    refine drew_ ?_
    have hb := hb.drew
    have F0 : Fr h 1 w w.drew := (Fr.refl _ _ _).drew
    generalize w.drew = v at *
    obtain ⟨n, rfl⟩ : ∃ n : Nat, j = n := ⟨j.toNat, by omega⟩
    refine ⟨by omega, by omega, ?_⟩
    rw [Int.toNat_natCast, Nat.mul_one]
    refine ldH hb (by omega) ?_
    refine ⟨by omega, by omega, ?_⟩
    rw [Int.toNat_natCast, Nat.mul_one, Nat.zero_add]
    refine stH hb (by omega) fun u1 b1 f1 => ?_
    have hin : obN M k ∈ M.objs := by unfold obN; rw [List.getD_eq_getElem?_getD, List.getElem?_eq_getElem hk]; exact List.getElem_mem hk
    have hrt : M.roots.getD n (-1) = rtAt M (n : Int) := by unfold rtAt; rw [Int.toNat_natCast]
    refine hK u1 ⟨wm.field hk (by simp) rfl (fun y hy => ?_), _, b, b1, r.field hk (by simp) rfl (fun t ht => by rw [fset_ne (by omega)]) (fun i hi => ?_) fun i hi => ?_⟩ (F0.trans f1)
    · rcases List.mem_or_eq_of_mem_set hy with hy | hy
      · exact wm.fr _ hin y hy
      · subst hy; rw [← hrt]; exact wm.rr _ (getD_in (by omega))
    · dsimp only at hi ⊢
      rw [List.length_set] at hi
      rw [getD_set i hi]
      by_cases e : i = g.toNat
      · subst e; rw [fset_eq, if_pos rfl, r.rt n (by omega), hrt]
      · rw [fset_ne (by omega), if_neg e]; exact r.rf k i hk hi
    · dsimp only at hi ⊢
      rw [List.length_set, fset_ne (by omega)]; exact r.it k i hk hi
theorem rloadR {i g j : Int} {K : Int → World → Prop} (m : HR w h M) (hK : ∀ w', HR w' h (hLoadR M i g j).2 → Fr h 1 w w' → K (hLoadR M i g j).1 w') : S.heap_Heap_LoadRef h i g j w K := by
  unfold S.heap_Heap_LoadRef
  have m0 := m
  obtain ⟨wm, f, b, hb, r⟩ := m
  refine rrefAt wm hb r (fun he => ?_) (fun he hc => ?_) fun he h0 h1 => ?_
  · rw [if_pos (by simpa using he)]
    have hp : hLoadR M i g j = (hErr M i, M) := by unfold hLoadR; rw [if_pos he]
    rw [hp] at hK
    exact hK w m0 (Fr.refl _ _ _)
  · rw [if_pos (by decide)]
    have hp : hLoadR M i g j = (5, M) := by unfold hLoadR; rw [if_neg (by simpa using he)]; rw [obAt_N, if_pos hc]
    rw [hp] at hK
    exact hK w m0 (Fr.refl _ _ _)
  · rw [if_neg (by simp)]
    obtain ⟨q1, q2, _⟩ := hErr_ok wm he
    have h24 := wm.rl
    have hk : (rtAt M i).toNat < M.objs.length := by omega
    have bad2 : (j < 0 ∨ (M.roots.length : Int) ≤ j) → K 2 w := fun hc => by
      have hp : hLoadR M i g j = (2, M) := by unfold hLoadR; rw [if_neg (by simpa using he), obAt_N, if_neg (by omega), if_pos hc]
      rw [hp] at hK
      exact hK w m0 (Fr.refl _ _ _)
    by_cases h3 : j < 0
    · rw [if_pos (by simpa using h3)]; exact bad2 (.inl h3)
    rw [if_neg (by simpa using h3)]
    refine ldH hb (by omega) ?_
    rw [r.tp]
    by_cases h4 : (M.roots.length : Int) ≤ j
    · rw [if_pos (by simpa using h4)]; exact bad2 (.inr h4)
    rw [if_neg (by simpa using h4)]
    have hp : hLoadR M i g j = (0, ⟨M.objs, M.roots.set j.toNat ((obN M (rtAt M i).toNat).refs.getD g.toNat (-1))⟩) := by
      unfold hLoadR; rw [if_neg (by simpa using he), obAt_N, if_neg (by omega), if_neg (by omega)]
    rw [hp] at hK
    generalize (rtAt M i).toNat = k at *
    have hs := r.small hk
    have ho := osz_eq (obN M k)
    refine drew_ ?_
    have hb := hb.drew
    have F0 : Fr h 1 w w.drew := (Fr.refl _ _ _).drew
    generalize w.drew = v at *
    obtain ⟨n, rfl⟩ : ∃ n : Nat, j = n := ⟨j.toNat, by omega⟩
    refine ⟨by omega, by omega, ?_⟩
    rw [Int.toNat_natCast, Nat.mul_one, Nat.zero_add]
    refine ldH hb (by omega) ?_
    refine ⟨by omega, by omega, ?_⟩
    rw [Int.toNat_natCast, Nat.mul_one]
    refine stH hb (by omega) fun u1 b1 f1 => ?_
    have hin : obN M k ∈ M.objs := by unfold obN; rw [List.getD_eq_getElem?_getD, List.getElem?_eq_getElem hk]; exact List.getElem_mem hk
    have hgi := getD_in (l := (obN M k).refs) (k := g.toNat) (by omega)
    have hw : WM ⟨M.objs, M.roots.set n ((obN M k).refs.getD g.toNat (-1))⟩ := ⟨by simpa using wm.rl, wm.ol, wm.fl, fun x hx => by
      rcases List.mem_or_eq_of_mem_set hx with hx | hx
      · exact wm.rr x hx
      · subst hx; exact wm.fr _ hin _ hgi, wm.fr⟩
    rw [Int.toNat_natCast] at hK
    refine hK u1 ⟨hw, _, b, b1, r.turn (by simpa using wm.rl) (fun t ht => by rw [fset_ne (by omega)]) (by rw [fset_ne (by omega), r.tp]; simp) fun i hi => ?_⟩ (F0.trans f1)
    rw [List.length_set] at hi
    rw [getD_set i hi]
    by_cases e : i = n
    · subst e; rw [fset_eq, if_pos rfl, r.rf k g.toNat hk (by omega)]
    · rw [fset_ne (by omega), if_neg e]; exact r.rt i hi
end Go.Proofs.Qxb6500562aGreat
