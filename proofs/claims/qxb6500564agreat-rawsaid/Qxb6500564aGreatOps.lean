/-
  'den' is sound at each operation.
-/
import Derived.Test.Qxb6500564aGreatDraw
import Derived.Laws.StructEq
import Derived.Laws.BytesString
import Derived.Laws.Cover3
import Derived.Laws.Pointers
import Derived.Laws.Small
import Derived.Laws.PanicsMore
import Derived.Laws.IdiomCopy
import Derived.Laws.Cells
namespace Go.Den

structure Sat (n : Nat) (ρ : Env) (a : Act) : Prop where
  defers : a.defers = []
  size : a.tmps.size = n
  agree : ∀ t v, ρ t = some v → a.tmps[t]? = some v

section
variable {P : Program} {n : Nat} {ρ : Env} {a : Act}
theorem Sat.ev (h : Sat n ρ a) {x : Operand} {v : Value} (hx : ev ρ x = some v) : a.eval x = v := by
  cases x with
  | tmp t =>
    have := h.agree t v hx
    simp [Act.eval, Array.getD_eq_getD_getElem?, this]
  | const u => simpa [Den.ev, Act.eval] using hx
  | global g => simpa [Den.ev, Act.eval] using hx
  | func f => simpa [Den.ev, Act.eval] using hx
theorem get_elim {x : Operand} {K : Value → Prop} (h : get ρ x K) : ∃ v, ev ρ x = some v ∧ K v := by
  unfold get at h
  split at h
  · exact ⟨_, by assumption, h⟩
  · exact h.elim
theorem Sat.get (s : Sat n ρ a) {x : Operand} {K : Value → Prop} (h : get ρ x K) : K (a.eval x) := by
  obtain ⟨v, hv, hk⟩ := get_elim h
  rw [s.ev hv]; exact hk
theorem Sat.getO (s : Sat n ρ a) {x : Option Operand} {K : Option Value → Prop} (h : getO ρ x K) : K (x.map a.eval) := by
  cases x with
  | none => exact h
  | some x => exact s.get (K := fun v => K (some v)) h
theorem Sat.getL (s : Sat n ρ a) : ∀ {xs : List Operand} {K : List Value → Prop}, getL ρ xs K → K (xs.map a.eval)
  | [], _, h => h
  | x :: xs, K, h => by
    have h1 := s.get h
    exact s.getL (xs := xs) (K := fun vs => K (a.eval x :: vs)) h1
theorem Sat.getP (s : Sat n ρ a) : ∀ {xs : List (Nat × Operand)} {K : List (Nat × Value) → Prop}, getP ρ xs K → K (xs.map fun p => (p.1, a.eval p.2))
  | [], _, h => h
  | (i, x) :: xs, K, h => by
    have h1 := s.get h
    exact s.getP (xs := xs) (K := fun vs => K ((i, a.eval x) :: vs)) h1
theorem Sat.put (s : Sat n ρ a) {d : Option Nat} {v : Value} {K : Env → Prop} (h : putK n d ρ v K) : ∃ ρ', K ρ' ∧ Sat n ρ' (a.put d v) := by
  cases d with
  | none => exact ⟨ρ, h, s⟩
  | some d =>
    simp only [putK] at h
    cases hb : Nat.blt d n with
    | false => simp [hb] at h
    | true =>
      simp only [hb, cond_true] at h
      have hd : d < n := by simpa [Nat.blt_eq] using hb
      refine ⟨_, h, s.defers, by simp [Act.put, s.size], fun t u ht => ?_⟩
      simp only [upd] at ht
      by_cases he : t = d
      · subst he
        simp only [Nat.beq_refl, cond_true, Option.some.injEq] at ht
        subst ht
        simp [Act.put, s.size, hd]
      · have : Nat.beq t d = false := by
          cases hq : Nat.beq t d with
          | false => rfl
          | true => exact absurd (Nat.eq_of_beq_eq_true hq) he
        simp only [this, cond_false] at ht
        simp only [Act.put]
        rw [Array.getElem?_setIfInBounds_ne (Ne.symm he)]
        exact s.agree t u ht

theorem kEq_eq {k k' : IntKind} (h : kEq k k' = true) : k = k' := by
  cases k <;> cases k' <;> first | rfl | (simp [kEq] at h)
theorem add_mk (b o n : Nat) : (⟨b, o, none⟩ : Addr).add n = ⟨b, o + n, none⟩ := by unfold Addr.add; split <;> simp_all
theorem cells_info {t : TypeId} {m : Nat} (h : P.cellsOf t = m) (hm : m ≠ 0) : ∃ i, P.info? t = some i ∧ i.size = m := by
  unfold Program.cellsOf at h
  cases hi : P.info? t with
  | none => simp [hi] at h; exact absurd h.symm hm
  | some i => exact ⟨i, rfl, by simpa [hi] using h⟩

/-- A literal fits the second storey of 'binOp'. -/
theorem run_eqGuard_int (w : World) (op : BinOp) (t : TypeId) (x y : Operand) (k k' : IntKind) (p q : Int) : (eqGuard op t x y (.int k p) (.int k' q)).run P w = .ok () w := by
  unfold eqGuard; cases op <;> simp
theorem run_binOp_int (w : World) (op : BinOp) (t : TypeId) (k : IntKind) (p q : Int) (c : Bool) {v : Value} (h : intB op k p q c = some v) :
    (binOp op t (.int k p) (.int k q)).run P w = .ok v w := by
  cases op <;> simp only [intB] at h <;> first
    | (cases h; simp [binOp, Op.intArith, Op.intBits, Op.intCmp, Den.And, Den.Or, Den.Xor, Den.AndNot]; done)
    | (cases hc : (c && !(q == 0)) with
       | false => simp [hc] at h
       | true =>
         simp only [hc, cond_true, Option.some.injEq] at h
         subst h
         have : q ≠ 0 := by simp at hc; exact hc.2
         simp [binOp, Op.intDiv, this])
    | cases h


/-- What a 'binOp' comes to. -/
theorem run_bin {dst : Option Tmp} {op : BinOp} {t ty type : TypeId} {x y : Operand} {pos : String} {after : Array Edge} {g : Option (Nat × Bool)} {w : World} {v : Value}
    (hg : (eqGuard op t x y (a.eval x) (a.eval y)).run P w = .ok () w) (hb : (binOp op t (a.eval x) (a.eval y)).run P w = .ok v w) :
    (execOp a.eval ⟨dst, .binOp op t x y ty, type, pos, after, g⟩).run P w = .ok (.value v) w := by
  simp only [execOp, Sem.run_bind, hg, hb, Result.andThen_ok, Sem.run_pure]

theorem run_eqFields (w : World) (d : Nat) : ∀ (fs : List Field) (i : Nat) (xs ys : List Value) (XS YS : Array Value), fsOk P fs i = true → fsEq P fs xs ys = true →
    (∀ m, xs[m]? = XS[i + m]?) → (∀ m, ys[m]? = YS[i + m]?) → (Op.eqFields (d + 1) XS YS fs).run P w = .ok (eqL xs ys) w
  | [], i, [], [], XS, YS, _, _, _, _ => by simp [Op.eqFields, eqL]
  | [], i, [], _ :: _, XS, YS, _, h, _, _ => by simp [fsEq] at h
  | [], i, _ :: _, _, XS, YS, _, h, _, _ => by simp [fsEq] at h
  | f :: fs, i, [], _, XS, YS, _, h, _, _ => by simp [fsEq] at h
  | f :: fs, i, _ :: _, [], XS, YS, _, h, _, _ => by simp [fsEq] at h
  | f :: fs, i, x :: xs, y :: ys, XS, YS, hok, he, hx, hy => by
    simp only [fsOk, Bool.and_eq_true] at hok
    simp only [fsEq, Bool.and_eq_true] at he
    obtain ⟨⟨h1, h2⟩, h3⟩ := hok
    obtain ⟨⟨e1, e2⟩, e3⟩ := he
    have hoff : f.offset = i := Nat.eq_of_beq_eq_true h2
    have hcell : P.cellsOf f.type = 1 := Nat.eq_of_beq_eq_true h1
    obtain ⟨inf, hinf, hsz⟩ := cells_info hcell (by omega)
    have hx0 : XS[i]? = some x := by have := hx 0; simpa using this.symm
    have hy0 : YS[i]? = some y := by have := hy 0; simpa using this.symm
    have ih := run_eqFields w d fs (i + 1) xs ys XS YS h3 e3 (fun m => by have := hx (m + 1); simpa [Nat.add_assoc, Nat.add_comm 1 m] using this) (fun m => by have := hy (m + 1); simpa [Nat.add_assoc, Nat.add_comm 1 m] using this)
    have hname : f.name ≠ "_" := by simpa using e2
    split at e1
    · rename_i p q hu
      simp only [Op.eqFields, hname, ne_eq, not_false_eq_true, if_true, Sem.run_bind, part, isAgg, run_underlying hu, hoff, hx0, hy0, Sem.run_pure, Result.andThen_ok, Bool.false_eq_true, if_false, run_equalIn_string w d f.type p q hu, eqL, eqV]
      cases hq : (p.toList == q.toList) <;> simp [ih]
    · rename_i k k1 p k2 q hu
      simp only [Bool.and_eq_true] at e1
      have hk1 := kEq_eq e1.1; have hk2 := kEq_eq e1.2
      subst hk1; subst hk2
      simp only [Op.eqFields, hname, ne_eq, not_false_eq_true, if_true, Sem.run_bind, part, isAgg, run_underlying hu, hoff, hx0, hy0, Sem.run_pure, Result.andThen_ok, Bool.false_eq_true, if_false, run_equalIn_int w d f.type k k p q hu, eqL, eqV]
      cases hq : (p == q) <;> simp [ih]
    · rename_i p q hu
      simp only [Op.eqFields, hname, ne_eq, not_false_eq_true, if_true, Sem.run_bind, part, isAgg, run_underlying hu, hoff, hx0, hy0, Sem.run_pure, Result.andThen_ok, Bool.false_eq_true, if_false, run_equalIn_bool' w d f.type p q hu, eqL, eqV]
      cases hq : (p == q) <;> simp [ih]
    · cases e1

theorem bin_sound {dst : Option Tmp} {op : BinOp} {t ty type : TypeId} {x y : Operand} {pos : String} {after : Array Edge} {g : Option (Nat × Bool)} {K : Value → Prop}
    (h : denPure P ⟨dst, .binOp op t x y ty, type, pos, after, g⟩ ρ K) (s : Sat n ρ a) :
    ∃ v, (∀ w, (execOp a.eval ⟨dst, .binOp op t x y ty, type, pos, after, g⟩).run P w = .ok (.value v) w) ∧ K v := by
  simp only [denPure] at h
  have h1 := s.get (s.get h)
  split at h1
  · rename_i k p k' q hx hy
    have hg : ∀ w, (eqGuard op t x y (a.eval x) (a.eval y)).run P w = .ok () w := fun w => by rw [hx, eqGuard_at_int]; rfl
    split at h1
    · have key : 0 ≤ q ∧ K (.int k (Shl k p q)) := by
        cases hb : (isC y && decide (0 ≤ q)) with
        | true => simp only [hb, cond_true] at h1; exact ⟨by simp at hb; omega, h1⟩
        | false => simp only [hb, cond_false, Pos] at h1; exact h1
      have : ¬ q < 0 := by omega
      exact ⟨_, fun w => run_bin (hg w) (by simp [hx, hy, binOp, Op.shift, this, Shl]), key.2⟩
    · have key : 0 ≤ q ∧ K (.int k (Shr k p q)) := by
        cases hb : (isC y && decide (0 ≤ q)) with
        | true => simp only [hb, cond_true] at h1; exact ⟨by simp at hb; omega, h1⟩
        | false => simp only [hb, cond_false, Pos] at h1; exact h1
      have : ¬ q < 0 := by omega
      exact ⟨_, fun w => run_bin (hg w) (by simp [hx, hy, binOp, Op.shift, this, Shr]), key.2⟩
    · cases hk : kEq k k' with
      | false => simp [hk] at h1
      | true =>
        have := kEq_eq hk
        subst this
        simp only [hk, cond_true] at h1
        split at h1
        · rename_i v hv
          exact ⟨v, fun w => run_bin (hg w) (by rw [hx, hy]; exact run_binOp_int w op t k p q _ hv), h1⟩
        · split at h1
          · obtain ⟨hz, h1⟩ := h1
            exact ⟨_, fun w => run_bin (hg w) (by simp [hx, hy, binOp, Op.intDiv, hz]), h1⟩
          · obtain ⟨hz, h1⟩ := h1
            exact ⟨_, fun w => run_bin (hg w) (by simp [hx, hy, binOp, Op.intDiv, hz]), h1⟩
          · exact h1.elim
  · rename_i p q hx hy
    have hg : ∀ w, (eqGuard op t x y (a.eval x) (a.eval y)).run P w = .ok () w := fun w => by rw [hx, eqGuard_at_string]; rfl
    split at h1
    · obtain ⟨hz, h1⟩ := h1
      have hz' : ¬ (((p.size + q.size : Nat) : Int) > IntKind.i64.max) := by simp [IntKind.max, IntKind.signed, IntKind.bits]; omega
      exact ⟨_, fun w => run_bin (hg w) (by simp only [hx, hy, binOp, Op.stringOp, hz', if_false, Sem.run_pure]), h1⟩
    all_goals first
      | exact ⟨_, fun w => run_bin (hg w) (by simp only [hx, hy, binOp, Op.stringOp, Sem.run_pure]), h1⟩
      | exact h1.elim
  · rename_i ad l c hx hy
    have hg : ∀ w, (eqGuard op t x y (a.eval x) (a.eval y)).run P w = .ok () w := fun w => by rw [hx, eqGuard_at_slice]; rfl
    split at h1
    · rename_i e hu
      exact ⟨_, fun w => run_bin (hg w) (by simp only [hx, hy, binOp, Sem.run_bind, run_equal_slice_nil w t e ad l c hu, Result.andThen_ok, Sem.run_pure]), h1⟩
    · rename_i e hu
      exact ⟨_, fun w => run_bin (hg w) (by simp only [hx, hy, binOp, Sem.run_bind, run_equal_slice_nil w t e ad l c hu, Result.andThen_ok, Sem.run_pure]), h1⟩
    · exact h1.elim
  · rename_i ad hx hy
    have hg : ∀ w, (eqGuard op t x y (a.eval x) (a.eval y)).run P w = .ok () w := fun w => by rw [hx, eqGuard_at_pointer]; rfl
    split at h1
    · rename_i e hu
      have hu' : P.underlying t = some (.pointer (P.pointee t)) := by simp [Program.pointee, hu]
      exact ⟨_, fun w => run_bin (hg w) (by simp only [hx, hy, binOp, Sem.run_bind, run_equal_pointer_nil w t ad hu', Result.andThen_ok, Sem.run_pure]), h1⟩
    · rename_i e hu
      have hu' : P.underlying t = some (.pointer (P.pointee t)) := by simp [Program.pointee, hu]
      exact ⟨_, fun w => run_bin (hg w) (by simp only [hx, hy, binOp, Sem.run_bind, run_equal_pointer_nil w t ad hu', Result.andThen_ok, Sem.run_pure]), h1⟩
    · exact h1.elim
  · rename_i xs ys hx hy
    split at h1
    · rename_i fs hu
      have hf : P.fieldsOf t = fs := by simp [Program.fieldsOf, hu]
      have hu' : P.underlying t = some (.struct (P.fieldsOf t)) := by rw [hf]; exact hu
      cases hc : (P.stoodInHeld t || Op.eqGuardTypeB P t || !(fsOk P fs.toList 0) || !(fsEq P fs.toList xs.toList ys.toList)) with
      | true => simp [hc] at h1
      | false =>
        simp only [hc, cond_false] at h1
        simp only [Bool.or_eq_false_iff, Bool.not_eq_false'] at hc
        obtain ⟨⟨⟨c1, c2⟩, c3⟩, c4⟩ := hc
        refine ⟨_, fun w => run_bin (by rw [hx, hy]; exact run_eqGuard_agg w _ t x y xs ys c2) ?_, h1⟩
        rw [hx, hy, run_eql_struct, run_equalIn_struct w 9999 t xs ys hu' c1, hf, run_eqFields w 9998 fs.toList 0 xs.toList ys.toList xs ys c3 c4 (by simp) (by simp)]
        rfl
    · rename_i fs hu
      have hf : P.fieldsOf t = fs := by simp [Program.fieldsOf, hu]
      have hu' : P.underlying t = some (.struct (P.fieldsOf t)) := by rw [hf]; exact hu
      cases hc : (P.stoodInHeld t || Op.eqGuardTypeB P t || !(fsOk P fs.toList 0) || !(fsEq P fs.toList xs.toList ys.toList)) with
      | true => simp [hc] at h1
      | false =>
        simp only [hc, cond_false] at h1
        simp only [Bool.or_eq_false_iff, Bool.not_eq_false'] at hc
        obtain ⟨⟨⟨c1, c2⟩, c3⟩, c4⟩ := hc
        refine ⟨_, fun w => run_bin (by rw [hx, hy]; exact run_eqGuard_agg w _ t x y xs ys c2) ?_, h1⟩
        rw [hx, hy, run_neq_struct, run_equalIn_struct w 9999 t xs ys hu' c1, hf, run_eqFields w 9998 fs.toList 0 xs.toList ys.toList xs ys c3 c4 (by simp) (by simp)]
        rfl
    · exact h1.elim
  · rename_i p q hx hy
    have hg : ∀ w, (eqGuard op t x y (a.eval x) (a.eval y)).run P w = .ok () w := fun w => by rw [hx, eqGuard_at_bool]; rfl
    split at h1
    · rename_i hu
      exact ⟨_, fun w => run_bin (hg w) (by simp only [hx, hy, binOp, Sem.run_bind, run_equal_bool w t p q hu, Result.andThen_ok, Sem.run_pure]), h1⟩
    · rename_i hu
      exact ⟨_, fun w => run_bin (hg w) (by simp only [hx, hy, binOp, Sem.run_bind, run_equal_bool w t p q hu, Result.andThen_ok, Sem.run_pure]), h1⟩
    · exact h1.elim
  · exact h1.elim

theorem run_loadCells_at (w : World) {ad : Option Addr} {m : Nat} {vs : List Value} (h : CellsAt w ad m vs) (b o : Nat) (hb : m = 0 ∨ ad = some ⟨b, o, none⟩) :
    (loadCells ⟨b, o, none⟩ m).run P w = .ok vs.toArray w := by
  obtain ⟨hl, hc⟩ := h
  have := run_loadCells_list (P := P) w ⟨b, o, none⟩ vs (fun j v hj => by
    have hj' : j < vs.length := by
      rcases Nat.lt_or_ge j vs.length with h | h
      · exact h
      · simp [h] at hj
    rcases hc with h0 | ⟨b', o', hab, hcell⟩
    · omega
    · rcases hb with h0 | hb
      · omega
      · rw [hb] at hab
        cases hab
        rw [add_mk, hcell j (by omega), hj])
  rwa [hl] at this

theorem toInt_cast (m : Nat) : ((m : Int)).toNat = m := by simp

theorem slice_sound {dst : Option Tmp} {t type : TypeId} {x : Operand} {lo hi mx : Option Operand} {pos : String} {after : Array Edge} {g : Option (Nat × Bool)} {K : Value → Prop}
    (h : denPure P ⟨dst, .slice t x lo hi mx, type, pos, after, g⟩ ρ K) (s : Sat n ρ a) :
    ∃ v, (∀ w, (execOp a.eval ⟨dst, .slice t x lo hi mx, type, pos, after, g⟩).run P w = .ok (.value v) w) ∧ K v := by
  simp only [denPure] at h
  have h1 := s.getO (s.getO (s.getO (s.get h)))
  have hex : ∀ w, (execOp a.eval ⟨dst, .slice t x lo hi mx, type, pos, after, g⟩).run P w = ((Instr.sliceAt t (a.eval x) (lo.map a.eval) (hi.map a.eval) (mx.map a.eval)).run P w).andThen fun v w => .ok (.value v) w := fun w => by
    simp only [execOp, Sem.run_bind, Sem.run_pure]
  simp only [hex]
  generalize lo.map a.eval = lo' at *
  generalize hi.map a.eval = hi' at *
  generalize mx.map a.eval = mx' at *
  have bd : ∀ (k : IntKind) (i : Int) (y : Nat) (c : BoundsCode) (w : World), 0 ≤ i → i ≤ y → (Instr.sliceBound (.int k i) y c).run P w = .ok i.toNat w := fun k i y c w h0 hy => by
    simp [Instr.sliceBound, asIntOf, h0, hy]
  split at h1
  · rename_i b hu hx
    split at h1
    · have key : ∃ l h : Int, 0 ≤ l ∧ l ≤ h ∧ h ≤ b.size ∧ K (.string (b.extract l.toNat h.toNat)) ∧ ∀ w, (Instr.sliceBounds false b.size b.size lo' hi' none).run P w = .ok (l.toNat, h.toNat, b.size) w := by
        cases lo' with
        | none =>
          cases hi' with
          | none =>
            simp only [intO] at h1
            obtain ⟨q1, q2, q3, q4⟩ := h1
            exact ⟨0, b.size, q1, q2, q3, q4, fun w => by simp [Instr.sliceBounds]⟩
          | some hv =>
            cases hv <;> simp only [intO] at h1
            case int k hh =>
              obtain ⟨q1, q2, q3, q4⟩ := h1
              exact ⟨0, hh, q1, q2, q3, q4, fun w => by simp [Instr.sliceBounds, bd k hh b.size _ w (by omega) q3]⟩
        | some lv =>
          cases lv <;> simp only [intO] at h1
          case int k ll =>
            cases hi' with
            | none =>
              obtain ⟨q1, q2, q3, q4⟩ := h1
              exact ⟨ll, b.size, q1, q2, q3, q4, fun w => by simp [Instr.sliceBounds, bd k ll b.size _ w q1 q2]⟩
            | some hv =>
              cases hv <;> simp only at h1
              case int k' hh =>
                obtain ⟨q1, q2, q3, q4⟩ := h1
                exact ⟨ll, hh, q1, q2, q3, q4, fun w => by
                  simp [Instr.sliceBounds, bd k' hh b.size _ w (by omega) q3, bd k ll hh.toNat _ w q1 (by omega)]⟩
      obtain ⟨l, h, _, _, _, hk, hr⟩ := key
      refine ⟨_, fun w => ?_, hk⟩
      simp [hx, Instr.sliceAt, Instr.slice, run_underlying hu, hr]
    · exact h1.elim
  · rename_i e ad len cap hu hx
    split at h1
    · exact h1.elim
    · rename_i hno
      cases hz : Nat.beq (P.cellsOf e) 0 with
      | true => simp [hz] at h1
      | false =>
      simp only [hz, cond_false] at h1
      obtain ⟨inf, hinf, hisz⟩ := cells_info (P := P) (t := e) rfl (fun he => by rw [he] at hz; simp at hz)
      have key : ∃ l h m : Int, 0 ≤ l ∧ l ≤ h ∧ h ≤ m ∧ m ≤ cap ∧
          K (.slice (if m.toNat = l.toNat then ad else ad.map (·.add (l.toNat * P.cellsOf e))) (h.toNat - l.toNat) (m.toNat - l.toNat)) ∧
          ∀ w, (Instr.sliceBounds true len cap lo' hi' mx').run P w = .ok (l.toNat, h.toNat, m.toNat) w := by
        cases mx' with
        | none =>
          cases hi' with
          | none =>
            cases lo' with
            | none =>
              simp only [intO, CutS] at h1
              obtain ⟨q1, q2, q3, q4, q5⟩ := h1
              exact ⟨0, len, cap, q1, q2, q3, q4, q5, fun w => by simp [Instr.sliceBounds]⟩
            | some lv =>
              cases lv <;> simp only [intO, CutS] at h1
              case int k ll =>
                obtain ⟨q1, q2, q3, q4, q5⟩ := h1
                exact ⟨ll, len, cap, q1, q2, q3, q4, q5, fun w => by simp [Instr.sliceBounds, bd k ll len _ w q1 q2]⟩
          | some hv =>
            cases lo' with
            | none =>
              cases hv <;> simp only [intO, CutS] at h1
              case int k' hh =>
                obtain ⟨q1, q2, q3, q4, q5⟩ := h1
                exact ⟨0, hh, cap, q1, q2, q3, q4, q5, fun w => by simp [Instr.sliceBounds, bd k' hh cap _ w (by omega) (by omega)]⟩
            | some lv =>
              cases lv <;> simp only [intO, CutS] at h1
              case int k ll =>
                cases hv <;> simp only at h1
                case int k' hh =>
                  obtain ⟨q1, q2, q3, q4, q5⟩ := h1
                  exact ⟨ll, hh, cap, q1, q2, q3, q4, q5, fun w => by
                    simp [Instr.sliceBounds, bd k' hh cap _ w (by omega) (by omega), bd k ll hh.toNat _ w q1 (by omega)]⟩
        | some mv =>
          cases hi' with
          | none => exact (hno _ rfl rfl).elim
          | some hv =>
            cases lo' with
            | none =>
              cases mv <;> simp only [intO, CutS] at h1
              case int km mm =>
                cases hv <;> simp only at h1
                case int k' hh =>
                  obtain ⟨q1, q2, q3, q4, q5⟩ := h1
                  exact ⟨0, hh, mm, q1, q2, q3, q4, q5, fun w => by
                    simp [Instr.sliceBounds, bd km mm cap _ w (by omega) q4, bd k' hh mm.toNat _ w (by omega) (by omega)]⟩
            | some lv =>
              cases lv <;> simp only [intO, CutS] at h1
              case int k ll =>
                cases mv <;> simp only at h1
                case int km mm =>
                  cases hv <;> simp only at h1
                  case int k' hh =>
                    obtain ⟨q1, q2, q3, q4, q5⟩ := h1
                    exact ⟨ll, hh, mm, q1, q2, q3, q4, q5, fun w => by
                      simp [Instr.sliceBounds, bd km mm cap _ w (by omega) q4, bd k' hh mm.toNat _ w (by omega) (by omega), bd k ll hh.toNat _ w q1 (by omega)]⟩
      obtain ⟨l, h, m, _, _, _, _, hk, hr⟩ := key
      refine ⟨_, fun w => ?_, hk⟩
      simp only [hx, Instr.sliceAt, Instr.slice, Sem.run_bind, run_underlying hu, hr, Result.andThen_ok]
      have hsz : ∀ w, (sizeOf e).run P w = .ok (P.cellsOf e) w := by
        intro w
        simp [sizeOf, typeInfo, hinf, hisz]
      simp only [hsz, Sem.run_pure, Result.andThen_ok]
  · exact h1.elim

theorem fill_setL (place : Nat → Option (Nat × Nat)) (m : Nat) (hp : ∀ i, i < m → place i = some (i, 1)) : ∀ (vs : List (Nat × Value)) (z : List Value), z.length = m → psOk vs m = true →
    Instr.fill place z.toArray vs = some (setL z vs).toArray
  | [], z, _, _ => by simp [Instr.fill, setL]
  | (i, v) :: r, z, hz, h => by
    simp only [psOk, List.all_cons, Bool.and_eq_true] at h
    obtain ⟨⟨h1, h2⟩, h3⟩ := h
    have hi : i < m := by simpa [Nat.blt_eq] using h2
    have hv : v.cells = #[v] := by cases v <;> first | rfl | (simp [okV] at h1)
    have ih := fill_setL place m hp r (z.set i v) (by simpa using hz) (by simpa [psOk] using h3)
    simp only [Instr.fill, hp i hi, hv, setL]
    have : ¬ (i + 1 > z.length) := by omega
    simp [this]
    simpa using ih

theorem foldl_setAt (off : Nat) (l : List Value) : ∀ (k : Nat) (acc : List Value), (l.zipIdx k).foldl (fun (c : Array Value) x => c.setIfInBounds (off + x.2) x.1) acc.toArray = (setAt acc (off + k) l).toArray := by
  induction l with
  | nil => intro k acc; simp [setAt]
  | cons v l ih =>
    intro k acc
    rw [List.zipIdx_cons, List.foldl_cons]
    have e : acc.toArray.setIfInBounds (off + k) v = (acc.set (off + k) v).toArray := by simp
    simp only [e, setAt]
    rw [ih (k + 1) (acc.set (off + k) v)]
    rfl
theorem setAt_len : ∀ (l : List Value) (o : Nat) (z : List Value), (setAt z o l).length = z.length
  | [], _, _ => rfl
  | c :: cs, o, z => by simp [setAt, setAt_len cs (o + 1)]
theorem fill_fillL (fs : List Field) (place : Nat → Option (Nat × Nat)) (hp : ∀ i f, fs[i]? = some f → place i = some (f.offset, P.cellsOf f.type)) : ∀ (vs : List (Nat × Value)) (z cs : List Value), fillL P fs z vs = some cs →
    Instr.fill place z.toArray vs = some cs.toArray
  | [], z, cs, h => by simp only [fillL, Option.some.injEq] at h; simp [Instr.fill, h]
  | (i, v) :: r, z, cs, h => by
    simp only [fillL] at h
    split at h
    · rename_i f hf
      cases hb : (Nat.beq v.cells.toList.length (P.cellsOf f.type) && Nat.ble (f.offset + v.cells.toList.length) z.length) with
      | false => rw [hb] at h; cases h
      | true =>
        rw [hb] at h
        simp only [Bool.and_eq_true] at hb
        have b1 := Nat.eq_of_beq_eq_true hb.1
        have b2 := Nat.le_of_ble_eq_true hb.2
        have ih := fill_fillL fs place hp r (setAt z f.offset v.cells.toList) cs h
        rw [Array.length_toList] at b1 b2
        simp only [Instr.fill, hp i f hf]
        rw [if_neg (by simp only [Bool.or_eq_true, decide_eq_true_eq, List.size_toArray]; omega)]
        have e : (v.cells.zipIdx.foldl (fun cs (x : Value × Nat) => cs.setIfInBounds (f.offset + x.2) x.1) z.toArray) = (setAt z f.offset v.cells.toList).toArray := by
          have := foldl_setAt f.offset v.cells.toList 0 z
          rw [← Array.foldl_toList]
          simpa using this
        rw [← ih, ← e]
    · cases h
theorem run_places (l : List Field) (hk : fsKnown P l = true) : ∀ w, (l.mapM (m := Sem) fun f => do pure (f.offset, ← sizeOf f.type)).run P w = .ok (l.map fun f => (f.offset, P.cellsOf f.type)) w := by
  induction l with
  | nil => intro w; simp
  | cons f l ih =>
    intro w
    simp only [fsKnown, List.all_cons, Bool.and_eq_true] at hk
    have h0 : 0 < P.cellsOf f.type := by simpa [Nat.blt_eq] using hk.1
    obtain ⟨inf, hinf, hsz⟩ := cells_info (P := P) (t := f.type) rfl (by omega)
    have hs : ∀ w, (sizeOf f.type).run P w = .ok (P.cellsOf f.type) w := fun w => by simp [sizeOf, typeInfo, hinf, hsz]
    simp only [List.mapM_cons, Sem.run_bind, hs, Sem.run_pure, Result.andThen_ok, ih hk.2 w, List.map_cons]
theorem run_build (w : World) {dst : Option Tmp} {t type : TypeId} {ps : Array (Nat × Operand)} {pos : String} {after : Array Edge} {g : Option (Nat × Bool)} {fs : Array Field} {z : Array Value} {cs : List Value}
    (hu : P.underlying t = some (.struct fs)) (hz : ((P.info? t).bind fun x => x.zero) = some (.agg z)) (b1 : fsKnown P fs.toList = true)
    (b3 : fillL P fs.toList z.toList (ps.toList.map fun p => (p.1, a.eval p.2)) = some cs) :
    (execOp a.eval ⟨dst, .build t ps, type, pos, after, g⟩).run P w = .ok (.value (.agg cs.toArray)) w := by
  have hzero : (zeroValue t).run P w = .ok (.agg z) w := by
    cases hi : P.info? t with
    | none => simp [hi] at hz
    | some inf =>
      simp only [hi, Option.bind_some] at hz
      simp [zeroValue, typeInfo, hi, hz]
  have hm : (fs.mapM (m := Sem) fun f => do pure (f.offset, ← sizeOf f.type)).run P w = .ok (fs.toList.map fun f => (f.offset, P.cellsOf f.type)).toArray w := by
    have h1 := run_places fs.toList b1 w
    have h2 : (fs.mapM (m := Sem) fun f => do pure (f.offset, ← sizeOf f.type)) = List.toArray <$> (fs.toList.mapM (m := Sem) fun f => do pure (f.offset, ← sizeOf f.type)) := by
      rw [Array.mapM_eq_mapM_toList]
    rw [h2, Sem.run_map, h1]
    rfl
  have hfill := fill_fillL (P := P) fs.toList (fun i => (fs.toList.map fun f => (f.offset, P.cellsOf f.type)).toArray[i]?) (fun i f hf => by
    simp only [List.getElem?_toArray, List.getElem?_map, hf]; rfl) (ps.toList.map fun p => (p.1, a.eval p.2)) z.toList cs b3
  have hps : (Array.map (fun x => (x.1, a.eval x.2)) ps).toList = ps.toList.map fun p => (p.1, a.eval p.2) := by simp
  simp only [execOp, Instr.build, Sem.run_bind, hzero, Result.andThen_ok, run_underlying hu, hm, Value.cells, hps]
  simp only [Array.toArray_toList] at hfill
  simp only [hfill, Sem.run_pure, Result.andThen_ok]

theorem run_buildA (w : World) {dst : Option Tmp} {t type e : TypeId} {n : Nat} {ps : Array (Nat × Operand)} {pos : String} {after : Array Edge} {g : Option (Nat × Bool)} {z : Array Value}
    (hu : P.underlying t = some (.array n e)) (hz : ((P.info? t).bind fun x => x.zero) = some (.agg z)) (b1 : 0 < P.cellsOf e) (b3 : ps.toList.map (fun p => (p.1, a.eval p.2)) = []) :
    (execOp a.eval ⟨dst, .build t ps, type, pos, after, g⟩).run P w = .ok (.value (.agg z)) w := by
  have hzero : (zeroValue t).run P w = .ok (.agg z) w := by
    cases hi : P.info? t with
    | none => simp [hi] at hz
    | some inf =>
      simp only [hi, Option.bind_some] at hz
      simp [zeroValue, typeInfo, hi, hz]
  obtain ⟨inf, hinf, hsz⟩ := cells_info (P := P) (t := e) rfl (by omega)
  have hs : (sizeOf e).run P w = .ok (P.cellsOf e) w := by simp [sizeOf, typeInfo, hinf, hsz]
  have hps : (Array.map (fun x => (x.1, a.eval x.2)) ps).toList = [] := by simpa using b3
  simp only [execOp, Instr.build, Sem.run_bind, hzero, Result.andThen_ok, run_underlying hu, hs, Value.cells, hps]
  simp only [Instr.fill, Sem.run_pure, Result.andThen_ok]

theorem denPure_sound {o : Oper} {K : Value → Prop} (h : denPure P o ρ K) (s : Sat n ρ a) : ∃ v, (∀ w, (execOp a.eval o).run P w = .ok (.value v) w) ∧ K v := by
  obtain ⟨dst, op, type, pos, after, guard⟩ := o
  cases op
  case binOp op t x y ty => exact bin_sound h s
  case slice t x lo hi mx => exact slice_sound h s
  all_goals simp only [denPure] at h
  case move x => exact ⟨_, fun w => by simp [execOp], s.get h⟩
  case assign x => exact ⟨_, fun w => by simp [execOp], s.get h⟩
  case pick c x y =>
    have h1 := s.get h
    split at h1
    · rename_i t ht
      split at h1
      · exact ⟨_, fun w => by simp [execOp, ht, asBool], s.get h1⟩
      · exact ⟨_, fun w => by simp [execOp, ht, asBool], s.get h1⟩
    · exact h1.elim
  case nilCheck x =>
    have h1 := s.get h
    split at h1
    · rename_i ad ht
      exact ⟨_, fun w => by simp [execOp, ht], h1⟩
    · exact h1.elim
  case extract x i =>
    have h1 := s.get h
    split at h1
    · rename_i vs ht
      unfold noneK at h1
      split at h1
      · rename_i v hv
        refine ⟨v, fun w => ?_, h1⟩
        have : vs[i]? = some v := by simpa using hv
        simp [execOp, ht, Instr.extract, this]
      · exact h1.elim
    · exact h1.elim
  case unOp op t x =>
    have h1 := s.get h
    split at h1
    · rename_i b hb; exact ⟨_, fun w => by simp [execOp, hb, Op.unary], h1⟩
    · rename_i k m hb; exact ⟨_, fun w => by simp only [execOp, hb, Op.unary, Op.intArith, Sem.run_bind, Sem.run_pure, Result.andThen_ok], h1⟩
    · exact h1.elim
  case fieldAddr st x f =>
    have h1 := s.get h
    split at h1
    · rename_i fs ad hu hv
      split at h1
      · rename_i fd hfd
        cases hb : Nat.beq (P.cellsOf fd.type) 0 with
        | true => simp [hb] at h1
        | false =>
          simp only [hb, cond_false] at h1
          have hne : P.cellsOf fd.type ≠ 0 := fun he => by rw [he] at hb; simp at hb
          obtain ⟨i, hi, hsz⟩ := cells_info (P := P) (t := fd.type) rfl hne
          have hfd' : fs[f]? = some fd := by simpa using hfd
          refine ⟨_, fun w => ?_, h1⟩
          simp [execOp, hv, Instr.fieldAt, run_underlying hu, hfd', Instr.sureAddr, fieldPlace, sizeOf, typeInfo, hi, hsz, hne]
      · exact h1.elim
    · exact h1.elim
  case convert sr ds x =>
    have h1 := s.get h
    split at h1
    · rename_i k' k j m hs hd hx
      exact ⟨_, fun w => by simp [execOp, hx, convert, run_underlying hs, run_underlying hd, Conv.intToInt], h1⟩
    · rename_i b hs hd hx
      exact ⟨_, fun w => by simp [execOp, hx, convert, run_underlying hs, run_underlying hd], h1⟩
    · exact h1.elim
  case indexAddr t x i =>
    have h1 := s.get (s.get h)
    split at h1
    · rename_i e ad len cp k m hu hx hi
      cases hz : Nat.beq (P.cellsOf e) 0 with
      | true => simp [hz] at h1
      | false =>
      simp only [hz, cond_false] at h1
      obtain ⟨inf, hinf, hisz⟩ := cells_info (P := P) (t := e) rfl (fun he => by rw [he] at hz; simp at hz)
      obtain ⟨b, o, rfl, h0, hl, h1⟩ := h1
      refine ⟨_, fun w => ?_, h1⟩
      simp [execOp, hx, hi, Instr.indexAt, asIntOf, run_underlying hu, h0, hl, sizeOf, typeInfo, hinf, hisz, add_mk]
    · rename_i len e b o k m hu hx hi
      cases hz : Nat.beq (P.cellsOf e) 0 with
      | true => simp [hz] at h1
      | false =>
      simp only [hz, cond_false] at h1
      obtain ⟨inf, hinf, hisz⟩ := cells_info (P := P) (t := e) rfl (fun he => by rw [he] at hz; simp at hz)
      obtain ⟨h0, hl, h1⟩ := h1
      refine ⟨_, fun w => ?_, h1⟩
      simp [execOp, hx, hi, Instr.indexAt, asIntOf, run_underlying hu, h0, hl, sizeOf, typeInfo, hinf, hisz, add_mk, Instr.sureAddr]
    · exact h1.elim
  case index t x i =>
    have h1 := s.get (s.get h)
    split at h1
    · rename_i b k m hu hx hi
      obtain ⟨c, h0, hc, h1⟩ := h1
      exact ⟨_, fun w => by simp [execOp, hx, hi, Instr.index, asIntOf, run_underlying hu, h0, hc], h1⟩
    · exact h1.elim
  case build t ps =>
    have h1 := s.getP h
    split at h1
    · rename_i fs z hu hz
      cases hb : fsKnown P fs.toList with
      | false => rw [hb] at h1; exact h1.elim
      | true =>
        rw [hb] at h1
        simp only [cond_true] at h1
        split at h1
        · rename_i cs hcs
          exact ⟨_, fun w => run_build w hu hz hb hcs, h1⟩
        · exact h1.elim
    · rename_i n e z hu hz
      cases hb : Nat.blt 0 (P.cellsOf e) with
      | false => rw [hb] at h1; exact h1.elim
      | true =>
        rw [hb] at h1
        simp only [cond_true] at h1
        have hp : 0 < P.cellsOf e := by simpa [Nat.blt_eq] using hb
        split at h1
        · rename_i hcs
          exact ⟨_, fun w => run_buildA w hu hz hp hcs, h1⟩
        · exact h1.elim
    · exact h1.elim
  case field t x f =>
    have h1 := s.get h
    split at h1
    · rename_i fs cs hu hx
      split at h1
      · rename_i fd hfd
        have hfd' : fs[f]? = some fd := by simpa using hfd
        split at h1
        · rename_i fs' hu'
          cases hb : Nat.blt 0 (P.cellsOf fd.type) with
          | false => rw [hb] at h1; exact h1.elim
          | true =>
            rw [hb] at h1
            have h0 : 0 < P.cellsOf fd.type := by simpa [Nat.blt_eq] using hb
            obtain ⟨inf, hinf, hsz⟩ := cells_info (P := P) (t := fd.type) rfl (by omega)
            refine ⟨_, fun w => ?_, h1⟩
            simp only [execOp, hx, Instr.field, Sem.run_bind, run_underlying hu, Result.andThen_ok, hfd', asAgg, Sem.run_pure, part, isAgg, run_underlying hu', sizeOf, typeInfo]
            simp [hinf, hsz]
            rw [← Array.toArray_toList (xs := cs.extract fd.offset (fd.offset + P.cellsOf fd.type))]
            simp
        · exact h1.elim
        · rename_i u n1 n2 hu'
          obtain ⟨v, hv, hk⟩ : ∃ v, cs.toList[fd.offset]? = some v ∧ K v := by
            unfold noneK at h1
            split at h1
            · rename_i v hv; exact ⟨v, hv, h1⟩
            · exact h1.elim
          refine ⟨v, fun w => ?_, hk⟩
          have hag : ∀ w', (isAgg fd.type).run P w' = .ok false w' := fun w' => by
            cases u <;> first | exact (n1 _ rfl).elim | exact (n2 _ _ rfl).elim | simp [isAgg, run_underlying hu']
          have hv' : cs[fd.offset]? = some v := by simpa using hv
          simp [execOp, hx, Instr.field, run_underlying hu, hfd', asAgg, part, hag, hv']
        · exact h1.elim
      · exact h1.elim
    · exact h1.elim
  case call c =>
    obtain ⟨callee, args, argTypes⟩ := c
    simp only at h
    split at h
    · have h1 := s.getL h
      split at h1
      · rename_i t b ht hv
        split at h1
        · rename_i hu
          refine ⟨_, fun w => ?_, h1⟩
          have e1 : argTypes = #[t] := by cases argTypes; simp at ht; simp [ht]
          have e2 : args.map a.eval = #[.string b] := by cases args; simp at hv; simp [hv]
          simp [execOp, resolve, invoke, builtin, Builtin.len_, e1, e2, run_underlying hu, goInt]
        · exact h1.elim
      · rename_i t ad l cp ht hv
        split at h1
        · rename_i e hu
          refine ⟨_, fun w => ?_, h1⟩
          have e1 : argTypes = #[t] := by cases argTypes; simp at ht; simp [ht]
          have e2 : args.map a.eval = #[.slice ad l cp] := by cases args; simp at hv; simp [hv]
          simp [execOp, resolve, invoke, builtin, Builtin.len_, e1, e2, run_underlying hu, goInt]
        · exact h1.elim
      · exact h1.elim
    · have h1 := s.getL h
      split at h1
      · rename_i t ad cp l ht hv
        split at h1
        · rename_i e hu
          refine ⟨_, fun w => ?_, h1⟩
          have e1 : argTypes = #[t] := by cases argTypes; simp at ht; simp [ht]
          have e2 : args.map a.eval = #[.slice ad cp l] := by cases args; simp at hv; simp [hv]
          simp [execOp, resolve, invoke, builtin, Builtin.cap_, e1, e2, run_underlying hu, goInt]
        · exact h1.elim
      · exact h1.elim
    · exact h.elim
end
end Go.Den
