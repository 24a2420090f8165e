/-
  Strings as rows of bytes, copies, loops by an indexed invariant.
-/
import Derived.Test.Qxb6500564aGreatGrow
set_option linter.unusedVariables false
set_option linter.unusedSimpArgs false
namespace Go.Zip
open Go.Den
/-- The bytes of a string. -/
def bt (s : ByteArray) : List Nat := s.data.toList.map UInt8.toNat
def strOf (l : List Nat) : ByteArray := ⟨(l.map UInt8.ofNat).toArray⟩
@[simp] theorem bt_length (s : ByteArray) : (bt s).length = s.size := by unfold bt; rw [List.length_map, Array.length_toList]; rfl
theorem bt_inj {s t : ByteArray} (h : bt s = bt t) : s = t := by
  apply ByteArray.ext
  apply Array.toList_inj.1
  have : ∀ (a b : List UInt8), a.map UInt8.toNat = b.map UInt8.toNat → a = b := by
    intro a
    induction a with
    | nil => intro b hb; cases b with | nil => rfl | cons _ _ => simp at hb
    | cons x a ih => intro b hb; cases b with
      | nil => simp at hb
      | cons y b => simp at hb; rw [UInt8.toNat_inj.1 hb.1, ih b (by simpa using hb.2)]
  exact this _ _ h
theorem bt_append (s t : ByteArray) : bt (s ++ t) = bt s ++ bt t := by simp [bt, ByteArray.data_append]
theorem bt_extract (s : ByteArray) (i j : Nat) : bt (s.extract i j) = ((bt s).drop i).take (j - i) := by
  simp [bt, ByteArray.data_extract, List.map_take, List.map_drop, List.extract_eq_take_drop]
theorem bt_lt {s : ByteArray} {x : Nat} (h : x ∈ bt s) : x < 256 := by
  simp only [bt, List.mem_map] at h
  obtain ⟨c, _, rfl⟩ := h
  exact c.toNat_lt
theorem bt_get_lt {s : ByteArray} {i x : Nat} (h : (bt s)[i]? = some x) : x < 256 := bt_lt (List.mem_of_getElem? h)
theorem bt_strOf {l : List Nat} (h : ∀ x ∈ l, x < 256) : bt (strOf l) = l := by
  simp only [bt, strOf, List.map_map]
  have : ∀ x ∈ l, (UInt8.toNat ∘ UInt8.ofNat) x = x := fun x hx => by
    have := h x hx
    simp only [Function.comp, UInt8.toNat_ofNat']
    omega
  rw [List.map_congr_left this]
  simp
theorem strOf_bt (s : ByteArray) : strOf (bt s) = s := bt_inj (bt_strOf fun x hx => bt_lt hx)
theorem strOf_size (l : List Nat) : (strOf l).size = l.length := by simp [strOf, ByteArray.size]
theorem bt_empty : bt ⟨#[]⟩ = [] := rfl
theorem strEq (s t : ByteArray) : (s.toList == t.toList) = decide (bt s = bt t) := by
  rw [ByteArray.toList_eq, ByteArray.toList_eq]
  by_cases h : s = t
  · subst h; simp
  · have h1 : ¬ (bt s = bt t) := fun e => h (bt_inj e)
    have h2 : ¬ (s.data.toList = t.data.toList) := fun e => h (ByteArray.ext (Array.toList_inj.1 e))
    rw [decide_eq_false h1]
    simpa using h2
theorem strEq_self (s : ByteArray) : (s.toList == s.toList) = true := by simp

/-- How far a test holds, at most 'lim' places. -/
def upto (P : Nat → Bool) (lim : Nat) : Nat := ((List.range lim).takeWhile P).length
def IsRun (P : Nat → Bool) (lim n : Nat) : Prop := n ≤ lim ∧ (∀ m, m < n → P m = true) ∧ (n < lim → P n = false)
theorem IsRun.uniq {P : Nat → Bool} {lim n m : Nat} (h : IsRun P lim n) (h' : IsRun P lim m) : n = m := by
  obtain ⟨a1, a2, a3⟩ := h
  obtain ⟨b1, b2, b3⟩ := h'
  rcases Nat.lt_trichotomy n m with h | h | h
  · have := b2 n h; have := a3 (by omega); simp_all
  · exact h
  · have := a2 m h; have := b3 (by omega); simp_all
theorem takeWhile_run {P : Nat → Bool} : ∀ (k a : Nat), IsRun (fun m => P (a + m)) k ((List.range' a k).takeWhile P).length
  | 0, a => ⟨by simp, by simp, by simp⟩
  | k + 1, a => by
    rw [List.range'_succ, List.takeWhile_cons]
    cases h : P a with
    | true =>
      simp only [if_true, List.length_cons]
      obtain ⟨c1, c2, c3⟩ := takeWhile_run (P := P) k (a + 1)
      refine ⟨by omega, fun m hm => ?_, fun hlt => ?_⟩
      · cases m with
        | zero => simpa using h
        | succ m => have := c2 m (by omega); simpa [Nat.add_assoc, Nat.add_comm 1] using this
      · have := c3 (by omega); simpa [Nat.add_assoc, Nat.add_comm 1] using this
    | false => exact ⟨by simp, by simp, fun _ => by simpa using h⟩
theorem upto_run (P : Nat → Bool) (lim : Nat) : IsRun P lim (upto P lim) := by
  have := takeWhile_run (P := P) lim 0
  simp only [Nat.zero_add] at this
  rw [upto, List.range_eq_range']
  exact this
theorem upto_eq {P : Nat → Bool} {lim n : Nat} (h : IsRun P lim n) : upto P lim = n := (upto_run P lim).uniq h
end Go.Zip
namespace Go.Den
open Go.Zip
section
variable {w w' w'' : World} {b : Nat} {vs : List Value}
theorem ixStr {s : ByteArray} {i : Int} {m : Nat} {K : Int → Prop} (h0 : 0 ≤ i) (h : (bt s)[i.toNat]? = some m) (hk : K (m : Int)) : IxStr s i K := by
  simp only [bt, List.getElem?_map, Option.map_eq_some_iff] at h
  obtain ⟨c, hc, rfl⟩ := h
  refine ⟨c, h0, ?_, hk⟩
  have : s.data[i.toNat]? = some c := by rw [← Array.getElem?_toList]; exact hc
  have hlt : i.toNat < s.data.size := by
    rcases Nat.lt_or_ge i.toNat s.data.size with h | h
    · exact h
    · rw [Array.getElem?_eq_none h] at this; cases this
  rw [getElem?_pos s i.toNat hlt]
  rw [getElem?_pos s.data i.toNat hlt] at this
  exact this
theorem cutStr {s : ByteArray} {lo hi : Nat} {K : ByteArray → Prop} (h1 : lo ≤ hi) (h2 : hi ≤ s.size) (hk : K (s.extract lo hi)) : CutStr s (lo : Int) (hi : Int) K :=
  ⟨by omega, by omega, by omega, hk⟩

/-- A loop by an invariant that bears a number. -/
theorem loopN {σ : Type} {body : σ → World → (σ → World → Prop) → Prop} {s : σ} (I : Nat → σ → World → Prop) (n : Nat) (h0 : I n s w)
    (step : ∀ n s w, I n s w → ∀ Q : σ → World → Prop, (∀ m s' w', m < n → I m s' w' → Q s' w') → body s w Q) : LoopP body s w := by
  have least : ∀ x : σ × World, ∃ k : Nat, (∃ n, I n x.1 x.2) → I k x.1 x.2 ∧ ∀ n, I n x.1 x.2 → k ≤ n := by
    intro x
    by_cases h : ∃ n, I n x.1 x.2
    · obtain ⟨n, hn⟩ := h
      have : ∀ n, I n x.1 x.2 → ∃ k, I k x.1 x.2 ∧ ∀ n, I n x.1 x.2 → k ≤ n := by
        intro n
        induction n using Nat.strongRecOn with
        | ind n ih =>
          intro hn
          by_cases h : ∃ m, m < n ∧ I m x.1 x.2
          · obtain ⟨m, hm, hi⟩ := h
            exact ih m hm hi
          · exact ⟨n, hn, fun m hm => by
              rcases Nat.lt_or_ge m n with h' | h'
              · exact absurd ⟨m, h', hm⟩ h
              · exact h'⟩
      obtain ⟨k, hk⟩ := this n hn
      exact ⟨k, fun _ => hk⟩
    · exact ⟨0, fun h' => absurd h' h⟩
  obtain ⟨f, hf⟩ := Classical.axiomOfChoice least
  refine ⟨fun s w => ∃ n, I n s w, fun s w => f (s, w), ⟨n, h0⟩, fun s w hI => ?_⟩
  obtain ⟨hi, _⟩ := hf (s, w) hI
  refine step _ s w hi _ fun m s' w' hm hi' => ?_
  exact ⟨⟨m, hi'⟩, Nat.lt_of_le_of_lt ((hf (s', w') ⟨m, hi'⟩).2 m hi') hm⟩

theorem cellsAt_blk {o n : Nat} {us : List Value} (h : Blk w b vs) (hl : us.length = n) (hu : (vs.drop o).take n = us) : CellsAt w (some ⟨b, o, none⟩) n us := by
  refine ⟨hl, .inr ⟨b, o, rfl, fun i hi => ?_⟩⟩
  rw [h.cell, ← hu, List.getElem?_take, if_pos hi, List.getElem?_drop]
theorem putS_blk {o : Nat} {us : List Value} {K : World → Prop} (h : Blk w b vs) (hl : o + us.length ≤ vs.length)
    (hk : ∀ w', Blk w' b (vs.take o ++ us ++ vs.drop (o + us.length)) → Fr b 1 w w' → w'.heap.size = w.heap.size → K w') : PutS w (some ⟨b, o, none⟩) us K := by
  obtain ⟨p1, p2, p3⟩ := putC_blk us o w vs h hl
  refine .inr ⟨b, o, rfl, fun i hi => ⟨?_, h.frozen _⟩, hk _ p1 p2 p3⟩
  rw [h.cell, List.getElem?_eq_getElem (by omega)]
  rfl
/-- 'copy' out of a block into another (or the same). -/
theorem copyS {size : Nat} {d x : Sl} {us : List Value} {bx ox bd od : Nat} {ds xs : List Value} {n : Nat} {K : Int → World → Prop} (hx : Blk w bx xs) (hxa : x.a = some ⟨bx, ox, none⟩) (hd : Blk w bd ds) (hda : d.a = some ⟨bd, od, none⟩)
    (hn : n = Nat.min x.l d.l) (hu : (xs.drop ox).take (n * size) = us) (hl : us.length = n * size) (hok : us.all okV = true) (hfit : od + us.length ≤ ds.length)
    (hk : ∀ w', Blk w' bd (ds.take od ++ us ++ ds.drop (od + us.length)) → Fr bd 1 w w' → w'.heap.size = w.heap.size → K (n : Int) w') : CopyS size w d x K := by
  subst hn
  refine ⟨us, ?_, hok, ?_⟩
  · rw [hxa]; exact cellsAt_blk hx hl hu
  · rw [hda]; exact putS_blk hd hfit hk
/-- 'copy' of nothing. -/
theorem copyS_nil {size : Nat} {d x : Sl} {K : Int → World → Prop} (hn : Nat.min x.l d.l = 0) (hk : K 0 w) : CopyS size w d x K := by
  refine ⟨[], ⟨by simp [hn], .inl (by simp [hn])⟩, rfl, .inl ⟨rfl, by rw [hn]; exact hk⟩⟩
theorem ints_ok (zs : List Int) : (ints zs).all okV = true := by simp [ints, okV]
theorem byts_ok (zs : List Nat) : (byts zs).all okV = true := by simp [byts, okV]
theorem btS {o l c : Nat} {zs : List Nat} {K : ByteArray → Prop} (h : Blk w b vs) (hz : (vs.drop o).take l = byts zs) (hl : zs.length = l) (hlt : ∀ x ∈ zs, x < 256) (hk : K (strOf zs)) : BtS w ⟨some ⟨b, o, none⟩, l, c⟩ K := by
  refine ⟨zs.map UInt8.ofNat, cellsAt_blk h (by simpa using hl) ?_, hk⟩
  rw [hz, byts, List.map_map]
  refine List.map_congr_left fun x hx => ?_
  have := hlt x hx
  simp
  omega
/-- A write into the spare room behind what is laid. -/
theorem stJ {pre junk : List Value} {o : Nat} {v : Value} {K : World → Prop} (h : Blk w b (pre ++ junk)) (ho : o = pre.length) (hj : 0 < junk.length)
    (hk : ∀ w', Blk w' b ((pre ++ [v]) ++ junk.tail) → Fr b 1 w w' → w'.heap.size = w.heap.size → K w') : St1 w ⟨b, o, none⟩ v K := by
  refine st1 h (by simp; omega) fun w' h' f' s' => hk w' ?_ f' s'
  cases junk with
  | nil => simp at hj
  | cons j junk =>
    subst ho
    simpa using h'
theorem Fr.thenNew {p n q m : Nat} (f : Fr p n w w') (g : Fr q m w' w'') (h : w.heap.size ≤ q) : Fr p n w w'' :=
  ⟨f.1.trans g.1, fun b hb ho => by rw [g.2 b (by have := f.1.1; omega) (by omega), f.2 b hb ho]⟩
theorem Fr.thenNew2 {p n q m : Nat} (f : Fr p n w w') (g : Fr2 q m w' w'') (h1 : w.heap.size ≤ q) (h2 : w.heap.size ≤ m) : Fr p n w w'' :=
  ⟨f.1.trans g.1, fun b hb ho => by rw [g.2 b (by have := f.1.1; omega) (by omega) (by omega), f.2 b hb ho]⟩
theorem Fr.then0 {p n : Nat} (f : Fr p n w w') (g : Fr 0 0 w' w'') : Fr p n w w'' := f.trans (g.any p n)
theorem Blk.heq (h : Blk w b vs) (e : w'.heap = w.heap) : Blk w' b vs := by
  obtain ⟨ty, h⟩ := h
  exact ⟨ty, by rw [e]; exact h⟩
theorem reps_const (z : List Value) : ∀ n, (reps z n).length = n * z.length
  | 0 => by simp [reps]
  | n + 1 => by simp [reps, reps_const z n, Nat.succ_mul]; omega
/-- Rows of equal width. -/
theorem flat_get {α β : Type} {f : α → List β} {c : Nat} (hc : ∀ x, (f x).length = c) : ∀ (l : List α) (i k : Nat), k < c → (l.flatMap f)[i * c + k]? = l[i]?.bind fun x => (f x)[k]?
  | [], i, k, hk => by simp
  | x :: l, 0, k, hk => by
    rw [List.flatMap_cons, Nat.zero_mul, Nat.zero_add, List.getElem?_append_left (by rw [hc]; exact hk)]
    simp
  | x :: l, i + 1, k, hk => by
    rw [List.flatMap_cons, List.getElem?_append_right (by rw [hc, Nat.succ_mul]; omega), hc, show (i + 1) * c + k - c = i * c + k from by rw [Nat.succ_mul]; omega, flat_get hc l i k hk]
    simp
theorem flat_length {α β : Type} {f : α → List β} {c : Nat} (hc : ∀ x, (f x).length = c) (l : List α) : (l.flatMap f).length = l.length * c := by
  induction l with
  | nil => simp
  | cons x l ih => rw [List.flatMap_cons, List.length_append, hc, ih, List.length_cons, Nat.succ_mul]; omega
end
end Go.Den
