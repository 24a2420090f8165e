/-
  The model's tables in memory: reading, Find, place.
-/
import Derived.Test.Qxb6500564aGreatMcA
namespace Go.Proofs.Qxb6500564aGreat
open Go.Den Go.Zip
set_option linter.unusedVariables false
set_option linter.unusedSimpArgs false
variable {w w' u v : World} {i j n q g b : Nat} {s r x : Sl} {row : List Vl} {cs : List Cl} {nm : ByteArray} {P Q : Nat → Prop}

/-- Rows in memory: a slice for each. -/
def RowsAt (w : World) (ss : List Sl) (rows : List (List Vl)) : Prop := ss.length = rows.length ∧ ∀ (i : Nat) (s : Sl) (r : List Vl), ss[i]? = some s → rows[i]? = some r → OS w s (rowC r) 3
theorem RowsAt.frp {ss : List Sl} {rows : List (List Vl)} (h : RowsAt w ss rows) (F : FrP P w w') (hn : ∀ s ∈ ss, ∀ b, owns s b → ¬ P b) : RowsAt w' ss rows :=
  ⟨h.1, fun i s r h1 h2 => (h.2 i s r h1 h2).frp F (hn s (List.mem_of_getElem? h1))⟩
theorem RowsAt.fr0 {ss : List Sl} {rows : List (List Vl)} (h : RowsAt w ss rows) (F : Fr 0 0 w w') : RowsAt w' ss rows := h.frp (FrP.of0 (P := fun _ => False) F) fun _ _ _ _ h => h
theorem OS.fr0 {s : Sl} {vs : List Value} {sz : Nat} (h : OS w s vs sz) (F : Fr 0 0 w w') : OS w' s vs sz := h.frp (FrP.of0 (P := fun _ => False) F) fun _ _ h => h
theorem OS.dr {s : Sl} {vs : List Value} {sz : Nat} (h : OS w s vs sz) : OS w.drew s vs sz := h.frp (FrP.refl (fun _ => False) w).drew fun _ _ h => h
/-- A table in memory: its plain meaning, its columns, its rows' list, its rows. -/
structure MR where
  t : Tb
  cs : Sl
  rs : Sl
  ss : List Sl
def mrC (m : MR) : List Value := [.string m.t.name, slV m.cs, .int .i64 (m.t.pk : Int), .int .i64 m.t.ix, slV m.rs]
theorem mrC_len (m : MR) : (mrC m).length = 5 := rfl
def msC (ms : List MR) : List Value := ms.flatMap mrC
theorem msC_len (ms : List MR) : (msC ms).length = ms.length * 5 := flat_length (f := mrC) (c := 5) mrC_len ms
theorem msC_get {ms : List MR} {m : MR} {k : Nat} (hk : k < 5) (h : ms[i]? = some m) : (msC ms)[i * 5 + k]? = (mrC m)[k]? := by
  unfold msC
  rw [flat_get (f := mrC) (c := 5) mrC_len ms i k hk, h]; rfl
def dbOf (ms : List MR) : Db := ms.map (·.t)
structure MOk (w : World) (m : MR) : Prop where
  cs : OS w m.cs (colC m.t.cols) 2
  rs : OS w m.rs (m.ss.map slV) 1
  rows : RowsAt w m.ss m.t.rows
/-- The blocks that never turn: columns and rows. -/
def imm (ms : List MR) (b : Nat) : Prop := ∃ m ∈ ms, owns m.cs b ∨ ∃ r ∈ m.ss, owns r b
/-- The list of tables at s. -/
structure MT (w : World) (s : Sl) (ms : List MR) : Prop where
  arr : OS w s (msC ms) 5
  ok : ∀ m ∈ ms, MOk w m
  sI : ∀ b, owns s b → ¬ imm ms b ∧ ∀ m ∈ ms, ¬ owns m.rs b
  rI : ∀ m ∈ ms, ∀ b, owns m.rs b → ¬ imm ms b
  dis : ms.Pairwise fun a b => ∀ q, owns a.rs q → ¬ owns b.rs q
/-- The blocks of a list of tables. -/
def mo (s : Sl) (ms : List MR) (b : Nat) : Prop := owns s b ∨ imm ms b ∨ ∃ m ∈ ms, owns m.rs b
section
variable {ms : List MR} {m : MR}
theorem RowsAt.lt {ss : List Sl} {rows : List (List Vl)} (h : RowsAt w ss rows) {s : Sl} (hs : s ∈ ss) {b : Nat} (hb : owns s b) : b < w.heap.size := by
  obtain ⟨i, hi, e⟩ := List.getElem_of_mem hs
  exact (h.2 i s _ (by rw [List.getElem?_eq_getElem hi, e]) (List.getElem?_eq_getElem (by rw [← h.1]; exact hi))).lt hb
theorem MOk.frp (h : MOk w m) (F : FrP P w w') (h1 : ∀ b, owns m.cs b → ¬ P b) (h2 : ∀ r ∈ m.ss, ∀ b, owns r b → ¬ P b) (h3 : ∀ b, owns m.rs b → ¬ P b) : MOk w' m :=
  ⟨h.cs.frp F h1, h.rs.frp F h3, h.rows.frp F h2⟩
theorem MT.frp (h : MT w s ms) (F : FrP P w w') (hn : ∀ b, mo s ms b → ¬ P b) : MT w' s ms :=
  ⟨h.arr.frp F fun b hb => hn b (.inl hb), fun m hm => (h.ok m hm).frp F (fun b hb => hn b (.inr (.inl ⟨m, hm, .inl hb⟩))) (fun r hr b hb => hn b (.inr (.inl ⟨m, hm, .inr ⟨r, hr, hb⟩⟩))) fun b hb => hn b (.inr (.inr ⟨m, hm, hb⟩)), h.sI, h.rI, h.dis⟩
theorem MT.fr0 (h : MT w s ms) (F : Fr 0 0 w w') : MT w' s ms := h.frp (FrP.of0 (P := fun _ => False) F) fun _ _ h => h
theorem MT.dr (h : MT w s ms) : MT w.drew s ms := h.frp (FrP.refl (fun _ => False) w).drew fun _ _ h => h
theorem immlt (h : ∀ m ∈ ms, MOk w m) {b : Nat} (hb : imm ms b) : b < w.heap.size := by
  obtain ⟨m, hm, hb | ⟨r, hr, hb⟩⟩ := hb
  · exact (h m hm).cs.lt hb
  · exact (h m hm).rows.lt hr hb
theorem MT.molt (h : MT w s ms) : ∀ b, mo s ms b → b < w.heap.size := fun b hb => by
  rcases hb with hb | hb | ⟨m, hm, hb⟩
  · exact h.arr.lt hb
  · exact immlt h.ok hb
  · exact (h.ok m hm).rs.lt hb
theorem MT.l (h : MT w s ms) : s.l = ms.length := by
  have := h.arr.len
  rw [msC_len] at this
  omega
theorem MT.at (h : MT w s ms) (hi : ms[i]? = some m) {K : Nat → Nat → Prop} (hk : ∀ g, owns s g → K g 0) : Ix s.a s.l (i : Int) K :=
  OS.get h.arr (by rw [h.l]; exact (List.getElem?_eq_some_iff.1 hi).1) fun g us b hu ho => hk g ho
theorem arr_cell (h : OS w s (msC ms) 5) (ho : owns s g) (hi : ms[i]? = some m) : ∃ us, Blk w g us ∧ ∀ k, k < 5 → us[0 + Int.toNat (i : Int) * 5 + k]? = (mrC m)[k]? := by
  rcases h with ⟨rfl, e⟩ | ⟨g', a, e, c, junk, d, e2⟩
  · unfold owns at ho; cases ho
  · have hg : g' = g := by
      unfold owns at ho
      rw [a] at ho
      simpa using ho
    subst hg
    refine ⟨_, d, fun k hk => ?_⟩
    have hil : i < ms.length := (List.getElem?_eq_some_iff.1 hi).1
    rw [Int.toNat_natCast, Nat.zero_add, List.getElem?_append_left (by rw [msC_len]; omega), msC_get hk hi]
theorem MT.nam (h : MT w s ms) (ho : owns s g) (hi : ms[i]? = some m) {K : ByteArray → Prop} (hk : K m.t.name) : LdStr w ⟨g, 0 + Int.toNat (i : Int) * 5, none⟩ K := by
  obtain ⟨us, b, hc⟩ := arr_cell h.arr ho hi
  exact ldStr b (hc 0 (by omega)) hk
theorem MT.cl (h : MT w s ms) (ho : owns s g) (hi : ms[i]? = some m) {K : Sl → Prop} (hk : K m.cs) : LdS w ⟨g, 0 + Int.toNat (i : Int) * 5 + 1, none⟩ K := by
  obtain ⟨us, b, hc⟩ := arr_cell h.arr ho hi
  exact ldS b (hc 1 (by omega)) hk
theorem MT.pk (h : MT w s ms) (ho : owns s g) (hi : ms[i]? = some m) {K : Int → Prop} (hk : K (m.t.pk : Int)) : LdI .i64 w ⟨g, 0 + Int.toNat (i : Int) * 5 + 2, none⟩ K := by
  obtain ⟨us, b, hc⟩ := arr_cell h.arr ho hi
  exact ldI b (hc 2 (by omega)) hk
theorem MT.ix (h : MT w s ms) (ho : owns s g) (hi : ms[i]? = some m) {K : Int → Prop} (hk : K m.t.ix) : LdI .i64 w ⟨g, 0 + Int.toNat (i : Int) * 5 + 3, none⟩ K := by
  obtain ⟨us, b, hc⟩ := arr_cell h.arr ho hi
  exact ldI b (hc 3 (by omega)) hk
theorem MT.rw (h : MT w s ms) (ho : owns s g) (hi : ms[i]? = some m) {K : Sl → Prop} (hk : K m.rs) : LdS w ⟨g, 0 + Int.toNat (i : Int) * 5 + 4, none⟩ K := by
  obtain ⟨us, b, hc⟩ := arr_cell h.arr ho hi
  exact ldS b (hc 4 (by omega)) hk
/-- A DB that lies in cell o of block d. -/
structure MD (w : World) (d o : Nat) (s : Sl) (ms : List MR) : Prop where
  ld : ∃ cells, Blk w d cells ∧ cells[o]? = some (slV s)
  mt : MT w s ms
  nd : ¬ mo s ms d
theorem MD.lds {o d : Nat} (h : MD w d o s ms) {K : Sl → Prop} (hk : K s) : LdS w ⟨d, o, none⟩ K := by
  obtain ⟨cells, b, hc⟩ := h.ld
  exact ldS b hc hk
theorem MD.frp {o d : Nat} (h : MD w d o s ms) (F : FrP P w w') (hd : ¬ P d) (hn : ∀ b, mo s ms b → ¬ P b) : MD w' d o s ms := by
  obtain ⟨cells, b, hc⟩ := h.ld
  exact ⟨⟨cells, b.frp F hd, hc⟩, h.mt.frp F hn, h.nd⟩
theorem MD.fr0 {o d : Nat} (h : MD w d o s ms) (F : Fr 0 0 w w') : MD w' d o s ms := h.frp (FrP.of0 (P := fun _ => False) F) (fun h => h) fun _ _ h => h
theorem MD.dr {o d : Nat} (h : MD w d o s ms) : MD w.drew d o s ms := h.frp (FrP.refl (fun _ => False) w).drew (fun h => h) fun _ _ h => h
theorem str_eq {a b : ByteArray} {A B : Prop} (h1 : a = b → A) (h2 : a ≠ b → B) : if (a.toList == b.toList) = true then A else B := by
  by_cases e : a = b
  · rw [if_pos (by simp [e])]; exact h1 e
  · rw [if_neg (by
      rw [beq_iff_eq]
      exact fun h => e (toList_inj h))]
    exact h2 e
/-- Find. -/
theorem mfind_spec {d o : Nat} {K : Int → World → Prop} (h : MD w d o s ms) (hl : ms.length ≤ 1000)
    (h1 : fnB nm (dbOf ms) = none → K (-1) w) (h2 : ∀ (i : Nat) (m : MR), ms[i]? = some m → m.t.name = nm → (∀ j m', j < i → ms[j]? = some m' → m'.t.name ≠ nm) → fnB nm (dbOf ms) = some m.t → K (i : Int) w) : S.api_DB_Find d o nm w K := by
  unfold S.api_DB_Find
  have hsl := h.mt.l
  refine loopN (fun n st u => ∃ k : Nat, st = ((k : Int), ()) ∧ k + n = ms.length ∧ w = u ∧ ∀ j m', j < k → ms[j]? = some m' → m'.t.name ≠ nm) ms.length ⟨0, rfl, by omega, rfl, fun j _ hj => by omega⟩ ?_
  rintro n _ _ ⟨k, rfl, hn, rfl, hall⟩ Q hQ
  dsimp only
  refine h.lds (ifd (fun hk => ?_) fun hk => ?_)
  · have hk' : k < ms.length := by omega
    obtain ⟨m, hm⟩ : ∃ m, ms[k]? = some m := ⟨_, List.getElem?_eq_getElem hk'⟩
    refine h.lds (h.mt.at hm fun g hg => h.mt.nam hg hm (str_eq (fun e => ?_) fun e => ?_))
    · refine h2 k m hm e hall ?_
      unfold fnB dbOf
      rw [List.find?_map]
      have : List.find? ((fun x : Tb => decide (x.name = nm)) ∘ fun x : MR => x.t) ms = some m := by
        rw [List.find?_eq_some_iff_getElem]
        have hmk : ms[k] = m := by
          rw [List.getElem?_eq_getElem hk'] at hm
          exact Option.some.inj hm
        refine ⟨by simpa using e, k, hk', hmk, fun j hj => ?_⟩
        have := hall j ms[j] hj (List.getElem?_eq_getElem (by omega))
        simpa using this
      rw [this]; rfl
    · refine let_ ?_
      rw [W_succ (by omega)]
      refine hQ (n - 1) _ _ (by omega) ⟨k + 1, rfl, by omega, rfl, fun j m' hj hm' => ?_⟩
      by_cases ej : j = k
      · subst ej
        rw [hm] at hm'
        cases hm'
        exact e
      · exact hall j m' (by omega) hm'
  · refine h1 ?_
    unfold fnB dbOf
    rw [List.find?_map, List.find?_eq_none.2]
    · rfl
    · intro m hm
      obtain ⟨j, hj, e⟩ := List.getElem_of_mem hm
      have := hall j m (by omega) (by rw [List.getElem?_eq_getElem hj, e])
      simpa using this
end
/-- place, plain. -/
def plc (pk : Nat) (key : Vl) : List (List Vl) → Nat × Bool
  | [] => (0, false)
  | r :: rs => if cmpV key (r.getD pk v0) ≤ 0 then (0, cmpV key (r.getD pk v0) == 0) else ((plc pk key rs).1 + 1, (plc pk key rs).2)
theorem plc_cons (pk : Nat) (key : Vl) (r : List Vl) (rs : List (List Vl)) : plc pk key (r :: rs) = if cmpV key (r.getD pk v0) ≤ 0 then (0, cmpV key (r.getD pk v0) == 0) else ((plc pk key rs).1 + 1, (plc pk key rs).2) := rfl
theorem plc_le (pk : Nat) (key : Vl) : ∀ rows : List (List Vl), (plc pk key rows).1 ≤ rows.length
  | [] => Nat.le_refl _
  | r :: rs => by
    unfold plc
    split
    · simp
    · show (plc pk key rs).1 + 1 ≤ rs.length + 1
      have := plc_le pk key rs
      omega
theorem ss_get {ss : List Sl} (h : ss[i]? = some s) {o : OS w r (ss.map slV) 1} {K : Sl → Prop} (hk : K s) : Ix r.a r.l (i : Int) fun b o => LdS w ⟨b, o + Int.toNat (i : Int) * 1, none⟩ K := by
  have hl := o.len
  rw [List.length_map] at hl
  have hi : i < ss.length := (List.getElem?_eq_some_iff.1 h).1
  refine OS.get o (by omega) fun g us b hu _ => ?_
  refine ldS b ?_ hk
  rw [Int.toNat_natCast, Nat.zero_add, Nat.mul_one, hu _ (by rw [List.length_map]; exact hi), List.getElem?_map, h]; rfl
theorem mplace_spec {ms : List MR} {m : MR} {key : Vl} {K : Int → Bool → World → Prop} (h : MT w s ms) (ho : owns s g) (hi : ms[i]? = some m) (hl : m.t.rows.length ≤ 1000) (hpk : ∀ r ∈ m.t.rows, m.t.pk < r.length)
    (hK : ∀ w', Fr 0 0 w w' → K ((plc m.t.pk key m.t.rows).1 : Int) (plc m.t.pk key m.t.rows).2 w') : S.api_Table_place g (0 + Int.toNat (i : Int) * 5) key.st key.i key.s w K := by
  unfold S.api_Table_place
  have hm := h.ok m (List.mem_of_getElem? hi)
  have hrl : m.rs.l = m.t.rows.length := by
    have := hm.rs.len
    rw [List.length_map, hm.rows.1] at this
    omega
  refine newB fun w1 c1 f1 s1 => ?_
  have c1 : Blk w1 w.heap.size (valC key) := c1
  rw [join_eq]
  refine loopN (fun n st u => ∃ k : Nat, st = ((k : Int), ()) ∧ k + n = m.t.rows.length ∧ Blk u w.heap.size (valC key) ∧ Fr 0 0 w u ∧ plc m.t.pk key m.t.rows = (k + (plc m.t.pk key (m.t.rows.drop k)).1, (plc m.t.pk key (m.t.rows.drop k)).2)) m.t.rows.length ⟨0, rfl, by omega, c1, f1, by simp⟩ ?_
  rintro n _ u ⟨k, rfl, hn, bu, fu, hp⟩ Q hQ
  dsimp only
  have hu := h.fr0 fu
  have hmu := hu.ok m (List.mem_of_getElem? hi)
  refine hu.rw ho hi (ifd (fun hk => ?_) fun hk => ?_)
  · have hk' : k < m.t.rows.length := by omega
    obtain ⟨row, hrow⟩ : ∃ row, m.t.rows[k]? = some row := ⟨_, List.getElem?_eq_getElem hk'⟩
    obtain ⟨sr, hsr⟩ : ∃ sr, m.ss[k]? = some sr := ⟨_, List.getElem?_eq_getElem (by rw [hm.rows.1]; exact hk')⟩
    have hdrop : m.t.rows.drop k = row :: m.t.rows.drop (k + 1) := by
      rw [List.drop_eq_getElem_cons hk']
      congr 1
      rw [List.getElem?_eq_getElem hk'] at hrow
      exact Option.some.inj hrow
    have hud := hu.dr
    have hmd := hud.ok m (List.mem_of_getElem? hi)
    have hpr := hpk row (List.mem_of_getElem? hrow)
    refine drew_ (ldB bu.drew rfl (ldI bu.drew rfl (ldStr bu.drew rfl (hud.rw ho hi (ss_get hsr (o := hmd.rs) (hud.pk ho hi (rowGet (hmd.rows.2 k sr row hsr hrow) (getD_some hpr) (cmp_spec (a := key) fun u2 f2 => ?_))))))))
    rw [hdrop, plc_cons] at hp
    refine ifd (fun hc => ?_) fun hc => ?_
    · rw [if_pos hc] at hp
      have := hK u2 (fu.drew.then0 f2)
      rw [hp] at this
      exact this
    · rw [if_neg hc] at hp
      refine let_ ?_
      rw [W_succ (by omega)]
      refine hQ (n - 1) _ _ (by omega) ⟨k + 1, rfl, by omega, bu.drew.fr f2 (by omega), fu.drew.then0 f2, ?_⟩
      rw [hp]
      refine Prod.ext ?_ rfl
      show k + ((plc m.t.pk key (m.t.rows.drop (k + 1))).1 + 1) = k + 1 + _
      omega
  · have hk' : k = m.t.rows.length := by omega
    refine hu.rw ho hi ?_
    have := hK u fu
    rw [hp, hk', List.drop_length] at this
    rw [hrl]
    exact this
end Go.Proofs.Qxb6500564aGreat
