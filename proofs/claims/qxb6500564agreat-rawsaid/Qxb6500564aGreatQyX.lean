/-
  Running a statement: columns by name, comparisons, WHERE on a row; both sides.
-/
import Derived.Test.Qxb6500564aGreatQyW
namespace Go.Proofs.Qxb6500564aGreat
open Go.Den Go.Zip
set_option linter.unusedVariables false
set_option linter.unusedSimpArgs false
variable {w w' u v : World} {i j k n a b r st B q : Nat} {s x y nm : ByteArray} {cs : List Cl} {sc sw sr : Sl} {wh : List Cp} {row : List Vl}

/-- An element of a list in memory. -/
theorem cellAt {α : Type} {f : α → List Value} {c : Nat} (hc : ∀ x, (f x).length = c) {l : List α} {s : Sl} {e : α} {K : Nat → Nat → Prop} (o : OS w s (l.flatMap f) c) (h0 : 0 < c) (hi : l[i]? = some e)
    (hk : ∀ g us, Blk w g us → us[0 + Int.toNat (i : Int) * c]? = (f e)[0]? → (∀ k, k < c → us[0 + Int.toNat (i : Int) * c + k]? = (f e)[k]?) → owns s g → K g 0) : Ix s.a s.l (i : Int) K := by
  have hil := (List.getElem?_eq_some_iff.1 hi).1
  have hln := o.len
  rw [flat_length (f := f) (c := c) hc l] at hln
  have hsl : s.l = l.length := (Nat.eq_of_mul_eq_mul_right h0 hln).symm
  refine OS.get o (by rw [hsl]; exact hil) fun g us hb he ho => ?_
  have key : ∀ k, k < c → us[0 + Int.toNat (i : Int) * c + k]? = (f e)[k]? := fun k hk => by
    rw [Int.toNat_natCast, Nat.zero_add, he _ (by
      rw [flat_length (f := f) (c := c) hc l]
      have : i * c + c ≤ l.length * c := by rw [← Nat.succ_mul]; exact Nat.mul_le_mul_right c hil
      omega), flat_get (f := f) (c := c) hc l i k hk, hi]
    rfl
  exact hk g us hb (key 0 h0) key ho
theorem lenAt {α : Type} {f : α → List Value} {c : Nat} (hc : ∀ x, (f x).length = c) {l : List α} {s : Sl} (o : OS w s (l.flatMap f) c) (h0 : 0 < c) : s.l = l.length := by
  have hln := o.len
  rw [flat_length (f := f) (c := c) hc l] at hln
  exact (Nat.eq_of_mul_eq_mul_right h0 hln).symm
def coN (cs : List Cl) (nm : ByteArray) : Option Nat := cs.findIdx? fun c => decide (c.name = nm)
def coI (cs : List Cl) (nm : ByteArray) : Int := match coN cs nm with
  | some i => (i : Nat)
  | none => -1
theorem coI_some {cs : List Cl} (h : coN cs nm = some i) : coI cs nm = (i : Nat) := by unfold coI; rw [h]
theorem coI_none {cs : List Cl} (h : coN cs nm = none) : coI cs nm = -1 := by unfold coI; rw [h]
theorem coN_lt {cs : List Cl} (h : coN cs nm = some i) : i < cs.length := by
  unfold coN at h
  exact (List.findIdx?_eq_some_iff_getElem.1 h).1
set_option maxHeartbeats 1000000 in
theorem colOf_loop {K : Int → World → Prop} {pk ix : Int} {n0 : ByteArray} (o : OS w sc (colC cs) 2) (hl : cs.length < 1000000) (hK : ∀ w', Fr 0 0 w w' → K (coI cs nm) w') :
  New w (.cells #[.string n0, .slice sc.a sc.l sc.c, .int .i64 pk, .int .i64 ix] 73) fun p1 w =>
  LoopP (σ := Int × Unit) (fun st2 w next3 =>
    LdS w ⟨p1, 1, none⟩ fun Cols_4 =>
    if (decide (st2.1 < (Cols_4.l : Int))) = true then
      LdS w ⟨p1, 1, none⟩ fun Cols_5 =>
      Ix Cols_5.a Cols_5.l st2.1 fun b6 o7 =>
      LdStr w ⟨b6, o7 + Int.toNat st2.1 * 2, none⟩ fun Name_8 =>
      if (Name_8.toList == nm.toList) = true then
        K st2.1 w
      else
        Let (W (st2.1 + 1)) fun i_9 =>
        next3 (i_9, ()) w
    else
      K (-1) w) (0, ()) w := by
  refine newB fun w1 q1 f1 z1 => ?_
  have o1 := OS.fr0 o f1
  have hsl := lenAt (f := colC1) (fun _ => rfl) o1 (by omega)
  have e : (⟨sc.a, sc.l, sc.c⟩ : Sl).l = cs.length := hsl
  refine loopN (fun m sv u => ∃ (p : Nat), sv = ((p : Int), ()) ∧ p + m = cs.length ∧ (∀ j c, j < p → cs[j]? = some c → c.name ≠ nm) ∧ w1 = u) cs.length ⟨0, rfl, by omega, fun j c h => absurd h (by omega), rfl⟩ ?_
  rintro m _ u ⟨p, rfl, hm, hp, rfl⟩ Q hQ
  dsimp only
  refine ldS q1 rfl (ifd (fun hlt => ?_) fun hlt => ?_)
  · have hlt : p < cs.length := by omega
    obtain ⟨c, hc⟩ : ∃ c, cs[p]? = some c := ⟨_, List.getElem?_eq_getElem hlt⟩
    refine ldS q1 rfl (cellAt (f := colC1) (fun _ => rfl) o1 (by omega) hc fun g us hb e0 ek ho => ldStr hb e0 (str_eq (fun hn => ?_) fun hn => ?_))
    · have : coN cs nm = some p := by
        unfold coN
        rw [List.findIdx?_eq_some_iff_getElem]
        refine ⟨hlt, ?_, fun j hj => ?_⟩
        · rw [List.getElem?_eq_getElem hlt] at hc
          rw [Option.some.inj hc]
          exact decide_eq_true hn
        · have := hp j _ hj (List.getElem?_eq_getElem (by omega))
          simpa using this
      rw [← coI_some this]
      exact hK w1 f1
    · refine let_ ?_
      rw [W_succ (by omega)]
      refine hQ (m - 1) _ _ (by omega) ⟨p + 1, rfl, by omega, fun j c' hj hc' => ?_, rfl⟩
      rcases Nat.lt_or_ge j p with h | h
      · exact hp j c' h hc'
      · have : j = p := by omega
        subst this
        rw [hc] at hc'; cases hc'
        exact hn
  · have : coN cs nm = none := by
      unfold coN
      rw [List.findIdx?_eq_none_iff]
      intro c hc
      obtain ⟨j, hj, e⟩ := List.getElem_of_mem hc
      have := hp j c (by omega) (by rw [List.getElem?_eq_getElem hj, e])
      simpa using this
    rw [← coI_none this]
    exact hK w1 f1
theorem ColOf_spec {K : Int → World → Prop} {pk ix : Int} {n0 : ByteArray} (o : OS w sc (colC cs) 2) (hl : cs.length < 1000000) (hK : ∀ w', Fr 0 0 w w' → K (coI cs nm) w') : S.query_ColOf n0 sc pk ix nm w K := by
  unfold S.query_ColOf
  exact colOf_loop o hl hK
theorem mcolOf_spec {K : Int → World → Prop} {pk ix : Int} {n0 : ByteArray} (o : OS w sc (colC cs) 2) (hl : cs.length < 1000000) (hK : ∀ w', Fr 0 0 w w' → K (coI cs nm) w') : S.querym_colOf n0 sc pk ix nm w K := by
  unfold S.querym_colOf
  exact colOf_loop o hl hK
def hlP (c : Int) (op : Nat) : Bool := (decide (c < 0) && (op &&& 1 != 0)) || (c == 0 && (op &&& 2 != 0)) || (decide (c > 0) && (op &&& 4 != 0))
theorem andb {op m : Nat} (ho : op < 1000) (hm : m < 1000) : ((And .i64 (op : Int) (m : Int)) != 0) = (op &&& m != 0) := by
  rw [And_nat (by omega) (by omega)]
  cases h : (op &&& m != 0)
  · have : op &&& m = 0 := by simpa using h
    rw [this]; rfl
  · have : op &&& m ≠ 0 := by simpa using h
    rw [bne_iff_ne]
    omega
theorem holds_spec {K : Bool → World → Prop} {c : Int} {op : Nat} (ho : op < 1000) (hK : K (hlP c op) w) : S.query_holds c (op : Nat) w K := by
  unfold S.query_holds
  unfold hlP at hK
  have e1 : ((And .i64 (op : Int) 1) != 0) = (op &&& 1 != 0) := andb (m := 1) ho (by omega)
  have e2 : ((And .i64 (op : Int) 2) != 0) = (op &&& 2 != 0) := andb (m := 2) ho (by omega)
  have e4 : ((And .i64 (op : Int) 4) != 0) = (op &&& 4 != 0) := andb (m := 4) ho (by omega)
  rw [e1, e2, e4]
  generalize (op &&& 1 != 0) = b1 at *
  generalize (op &&& 2 != 0) = b2 at *
  generalize (op &&& 4 != 0) = b4 at *
  rcases Int.lt_trichotomy c 0 with h | h | h
  · have h2 : (c == 0) = false := by rw [beq_eq_false_iff_ne]; omega
    have h3 : decide (c > 0) = false := decide_eq_false (by omega)
    rw [decide_eq_true h, h2, h3] at hK ⊢
    cases b1 <;> exact hK
  · subst h
    cases b2 <;> exact hK
  · have h2 : (c == 0) = false := by rw [beq_eq_false_iff_ne]; omega
    have h3 : decide (c < 0) = false := decide_eq_false (by omega)
    rw [decide_eq_true h, h2, h3] at hK ⊢
    exact hK
theorem mholds_spec {K : Bool → World → Prop} {c : Int} {op : Nat} (h1 : 1 ≤ op) (h6 : op ≤ 6) (hK : K (hlP c op) w) : S.querym_holds c (opS op) w K := by
  unfold S.querym_holds
  have tri : (decide (c < 0) = true ∧ (c == 0) = false ∧ decide (c > 0) = false) ∨ (decide (c < 0) = false ∧ (c == 0) = true ∧ decide (c > 0) = false) ∨ (decide (c < 0) = false ∧ (c == 0) = false ∧ decide (c > 0) = true) := by
    rcases Int.lt_trichotomy c 0 with h | h | h
    · exact .inl ⟨decide_eq_true h, by rw [beq_eq_false_iff_ne]; omega, decide_eq_false (by omega)⟩
    · exact .inr (.inl ⟨decide_eq_false (by omega), by rw [beq_iff_eq]; exact h, decide_eq_false (by omega)⟩)
    · exact .inr (.inr ⟨decide_eq_false (by omega), by rw [beq_eq_false_iff_ne]; omega, decide_eq_true h⟩)
  have le : decide (c ≤ 0) = (decide (c < 0) || c == 0) := by
    rw [Bool.eq_iff_iff, Bool.or_eq_true, decide_eq_true_eq, decide_eq_true_eq, beq_iff_eq]; omega
  have ge : decide (c ≥ 0) = (decide (c > 0) || c == 0) := by
    rw [Bool.eq_iff_iff, Bool.or_eq_true, decide_eq_true_eq, decide_eq_true_eq, beq_iff_eq]; omega
  have ne : (c != 0) = !(c == 0) := rfl
  rw [le, ge, ne, dec_tl, dec_tl, dec_tl, dec_tl, dec_tl, dec_tl]
  unfold hlP at hK
  have hop : op = 1 ∨ op = 2 ∨ op = 3 ∨ op = 4 ∨ op = 5 ∨ op = 6 := by omega
  rcases tri with ⟨t1, t2, t3⟩ | ⟨t1, t2, t3⟩ | ⟨t1, t2, t3⟩ <;> rw [t1, t2, t3] at hK ⊢ <;> rcases hop with rfl | rfl | rfl | rfl | rfl | rfl <;> exact hK
/-- WHERE on a row. -/
def mtP (cs : List Cl) (wh : List Cp) (row : List Vl) : Bool := wh.all fun c => hlP (cmpV (row.getD (coI cs c.col).toNat v0) c.lit) c.op
set_option maxHeartbeats 2000000 in
theorem match_spec {K : Bool → World → Prop} {pk ix : Int} {n0 : ByteArray} (o : OS w sc (colC cs) 2) (hl : cs.length < 1000000) (ow : OS w sw (cpsC wh) 5) (hwl : wh.length < 1000000) (orow : OS w sr (rowC row) 3) (hrow : row.length = cs.length)
    (hco : ∀ c ∈ wh, coN cs c.col ≠ none) (hop : ∀ c ∈ wh, c.op < 1000) (hK : ∀ w', Fr 0 0 w w' → K (mtP cs wh row) w') : S.query_match n0 sc pk ix sw sr w K := by
  unfold S.query_match
  refine newB fun w1 q1 f1 z1 => ?_
  have hsl := lenAt (f := cpC) (fun _ => rfl) ow (by omega)
  refine loopN (fun m sv u => ∃ (p : Nat), sv = ((p : Int), ()) ∧ p + m = wh.length ∧ mtP cs wh row = mtP cs (wh.drop p) row ∧ Blk u w.heap.size [.string n0, .slice sc.a sc.l sc.c, .int .i64 pk, .int .i64 ix] ∧ Fr 0 0 w u) wh.length ⟨0, rfl, by omega, rfl, q1, f1⟩ ?_
  rintro m _ u ⟨p, rfl, hm, hp, qu, fu⟩ Q hQ
  dsimp only
  refine ifd (fun hlt => ?_) fun hlt => ?_
  · have hlt : p < wh.length := by omega
    obtain ⟨c, hc⟩ : ∃ c, wh[p]? = some c := ⟨_, List.getElem?_eq_getElem hlt⟩
    have hcm := List.mem_of_getElem? hc
    have hdr : wh.drop p = c :: wh.drop (p + 1) := by
      rw [List.drop_eq_getElem_cons hlt]
      congr 1
      rw [List.getElem?_eq_getElem hlt] at hc
      exact Option.some.inj hc
    have hall : mtP cs (wh.drop p) row = (hlP (cmpV (row.getD (coI cs c.col).toNat v0) c.lit) c.op && mtP cs (wh.drop (p + 1)) row) := by rw [hdr]; rfl
    obtain ⟨ci, hci⟩ := Option.ne_none_iff_exists'.1 (hco c hcm)
    have hcl := coN_lt hci
    have ud := qu.drew
    refine drew_ (ldStr ud rfl (ldS ud rfl (ldI ud rfl (ldI ud rfl (cellAt (f := cpC) (fun _ => rfl) (OS.dr (OS.fr0 ow fu)) (by omega) hc fun g us hb e0 ek ho => ldStr hb e0 (ColOf_spec (OS.dr (OS.fr0 o fu)) hl fun u1 g1 => ?_))))))
    have F1 : Fr 0 0 w u1.drew := (fu.drew.trans g1).drew
    rw [coI_some hci]
    rw [coI_some hci, Int.toNat_natCast] at hall
    obtain ⟨x, hx⟩ : ∃ x, row[ci]? = some x := ⟨_, List.getElem?_eq_getElem (by omega)⟩
    have hxe : row.getD ci v0 = x := by rw [List.getD_eq_getElem?_getD, hx]; rfl
    rw [hxe] at hall
    refine drew_ (cellAt (f := valC) (fun _ => rfl) (OS.fr0 orow F1) (by omega) hx fun g2 us2 hb2 e02 ek2 ho2 => ldB hb2 e02 (ldI hb2 (ek2 1 (by omega)) (ldStr hb2 (ek2 2 (by omega)) ?_)))
    refine cellAt (f := cpC) (fun _ => rfl) (OS.fr0 ow F1) (by omega) hc fun g3 us3 hb3 e03 ek3 ho3 => ldB hb3 (ek3 2 (by omega)) (ldI hb3 (ek3 3 (by omega)) (ldStr hb3 (ek3 4 (by omega)) (cmp_spec fun u2 g2' => ?_)))
    have F2 := F1.trans g2'
    refine cellAt (f := cpC) (fun _ => rfl) (OS.fr0 ow F2) (by omega) hc fun g4 us4 hb4 e04 ek4 ho4 => ldI hb4 (ek4 1 (by omega)) (holds_spec (hop c hcm) (ifn (fun hh => ?_) fun hh => ?_))
    · rw [hh, Bool.false_and] at hall
      have := hK u2 F2
      rw [hp, hall] at this
      exact this
    · rw [hh, Bool.true_and] at hall
      refine let_ ?_
      rw [W_succ (by omega)]
      exact hQ (m - 1) _ _ (by omega) ⟨p + 1, rfl, by omega, by rw [hp, hall], (qu.drew.fr g1 (by omega)).drew.fr g2' (by omega), F2⟩
  · have : wh.drop p = [] := List.drop_of_length_le (by omega)
    have := hK u fu
    rw [hp, ‹wh.drop p = []›] at this
    exact this
end Go.Proofs.Qxb6500564aGreat
