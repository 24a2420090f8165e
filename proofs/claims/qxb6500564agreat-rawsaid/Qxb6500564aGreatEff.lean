/-
  'den' is sound at each operation that reads or acts.
-/
import Derived.Test.Qxb6500564aGreatOps
namespace Go.Den
section
variable {P : Program} {n : Nat} {ρ : Env} {a : Act} {w : World}

theorem LdT_elim {t : TypeId} {ad : Addr} {K : Value → Prop} (h : LdT P t w ad K) : ∃ v, w.cell? ad = some v ∧ (∀ w', (isAgg t).run P w' = .ok false w') ∧ K v := by
  unfold LdT at h
  split at h
  · rename_i k hu; obtain ⟨m, hm, hk⟩ := h; exact ⟨_, hm, fun w' => by simp [isAgg, run_underlying hu], hk⟩
  · rename_i hu; obtain ⟨m, hm, hk⟩ := h; exact ⟨_, hm, fun w' => by simp [isAgg, run_underlying hu], hk⟩
  · rename_i hu; obtain ⟨m, hm, hk⟩ := h; exact ⟨_, hm, fun w' => by simp [isAgg, run_underlying hu], hk⟩
  · rename_i e hu; obtain ⟨m, hm, hk⟩ := h; exact ⟨_, hm, fun w' => by simp [isAgg, run_underlying hu], hk⟩
  · rename_i e hu; obtain ⟨m, hm, hk⟩ := h; exact ⟨_, hm, fun w' => by simp [isAgg, run_underlying hu], hk⟩
  · exact h.elim
theorem LdFs_elim {ad : Addr} : ∀ {fs : List TypeId} {i : Nat} {K : List Value → Prop}, LdFs P w ad fs i K → ∃ vs, vs.length = fs.length ∧ (∀ j v, vs[j]? = some v → w.cell? (ad.add (i + j)) = some v) ∧ K vs
  | [], i, K, h => ⟨[], rfl, by simp, h⟩
  | f :: fs, i, K, h => by
    obtain ⟨v, hv, _, h1⟩ := LdT_elim h
    obtain ⟨vs, hl, hc, h2⟩ := LdFs_elim h1
    refine ⟨v :: vs, by simp [hl], fun j u hj => ?_, h2⟩
    cases j with
    | zero => simp at hj; subst hj; simpa using hv
    | succ j =>
      have := hc j u (by simpa using hj)
      rwa [Nat.add_assoc, Nat.add_comm 1 j] at this
theorem LdV_elim {t : TypeId} {ad : Addr} {K : Value → Prop} (h : LdV P t w ad K) : ∃ v, (loadVar t ad).run P w = .ok v w ∧ K v := by
  unfold LdV at h
  split at h
  · rename_i fs hu
    cases hb : (Nat.beq (flatT P 6 t).length (P.cellsOf t) && Nat.blt 0 (P.cellsOf t)) with
    | false => rw [hb] at h; exact h.elim
    | true =>
      rw [hb] at h
      simp only [Bool.and_eq_true] at hb
      have hl := Nat.eq_of_beq_eq_true hb.1
      have hpos : 0 < P.cellsOf t := by simpa [Nat.blt_eq] using hb.2
      obtain ⟨inf, hinf, hsz⟩ := cells_info (P := P) (t := t) rfl (by omega)
      obtain ⟨vs, hvl, hc, hk⟩ := LdFs_elim h
      have h1 := run_loadCells_list (P := P) w ad vs (fun j v hj => by simpa using hc j v hj)
      rw [hvl, hl] at h1
      refine ⟨_, ?_, hk⟩
      simp [loadVar, isAgg, run_underlying hu, sizeOf, typeInfo, hinf, hsz, h1]
  · rename_i l e hu
    cases hb : (Nat.beq (flatT P 6 t).length (P.cellsOf t) && Nat.blt 0 (P.cellsOf t)) with
    | false => rw [hb] at h; exact h.elim
    | true =>
      rw [hb] at h
      simp only [Bool.and_eq_true] at hb
      have hl := Nat.eq_of_beq_eq_true hb.1
      have hpos : 0 < P.cellsOf t := by simpa [Nat.blt_eq] using hb.2
      obtain ⟨inf, hinf, hsz⟩ := cells_info (P := P) (t := t) rfl (by omega)
      obtain ⟨vs, hvl, hc, hk⟩ := LdFs_elim h
      have h1 := run_loadCells_list (P := P) w ad vs (fun j v hj => by simpa using hc j v hj)
      rw [hvl, hl] at h1
      refine ⟨_, ?_, hk⟩
      simp [loadVar, isAgg, run_underlying hu, sizeOf, typeInfo, hinf, hsz, h1]
  · obtain ⟨v, hv, ha, hk⟩ := LdT_elim h
    exact ⟨v, by simp [loadVar, ha, hv], hk⟩

theorem BtS_elim {s : Sl} {K : ByteArray → Prop} (h : BtS w s K) : ∃ b, (Conv.bytesToString (.slice s.a s.l s.c)).run P w = .ok (.string b) w ∧ K b := by
  obtain ⟨bs, hc, hk⟩ := h
  refine ⟨_, ?_, hk⟩
  have hfold : ∀ (l : List UInt8) (s : ByteArray), (l.map fun b => (b.toNat : Int)).foldl (fun r n => r.push (UInt8.ofNat n.toNat)) s = ⟨s.data ++ l.toArray⟩ := by
    intro l
    induction l with
    | nil => intro s; cases s; simp
    | cons c l ih =>
      intro s
      simp only [List.map_cons, List.foldl_cons, ih]
      congr 1
      cases s
      simp [ByteArray.push]
  obtain ⟨hl, hcc⟩ := hc
  cases ha : s.a with
  | none =>
    have : s.l = 0 := by
      rcases hcc with h | ⟨b, o, hab, _⟩
      · exact h
      · rw [ha] at hab; cases hab
    have hb : bs = [] := by
      cases bs with
      | nil => rfl
      | cons c l => simp [this] at hl
    subst hb
    rfl
  | some ad =>
    rcases hcc with h0 | ⟨b, o, hab, hcell⟩
    · have hb : bs = [] := by
        cases bs with
        | nil => rfl
        | cons c l => simp [h0] at hl
      subst hb
      have hload : (loadCells ad s.l).run P w = .ok (([] : List Int).map (Value.int .u8)).toArray w := by
        rw [h0]; rfl
      rw [run_bytesToString w ad s.l s.c [] hload]
      rfl
    · rw [ha] at hab
      cases hab
      have hload := run_loadCells_at (P := P) w ⟨hl, .inr ⟨b, o, rfl, hcell⟩⟩ b o (.inr rfl)
      have hmap : (bs.map fun b => Value.int .u8 b.toNat) = ((bs.map fun b => (b.toNat : Int)).map (Value.int .u8)) := by simp
      rw [hmap] at hload
      rw [run_bytesToString w _ s.l s.c _ hload, hfold]
      simp

theorem denRead_sound {o : Oper} {K : Value → Prop} (h : denRead P o ρ w K) (s : Sat n ρ a) : ∃ v, (execOp a.eval o).run P w = .ok (.value v) w ∧ K v := by
  obtain ⟨dst, op, type, pos, after, guard⟩ := o
  cases op <;> simp only [denRead] at h
  case load t x =>
    have h1 := s.get h
    split at h1
    · rename_i ad hx
      obtain ⟨v, hv, hk⟩ := LdV_elim h1
      exact ⟨v, by simp [execOp, hx, Instr.loadAt, Instr.sureAddr, hv], hk⟩
    · exact h1.elim
  case convert sr ds x =>
    have h1 := s.get h
    split at h1
    · rename_i e ad l c hs hd hx
      split at h1
      · rename_i he
        obtain ⟨b, hb, hk⟩ := BtS_elim (P := P) h1
        exact ⟨_, by simp [execOp, hx, run_convert_bytes_string w sr ds e ad l c hs he hd, hb], hk⟩
      · exact h1.elim
    · exact h1.elim

theorem oneCell_of_okV {v : Value} (h : okV v = true) : v.oneCell' = true := by cases v <;> first | rfl | (simp [okV] at h)
theorem St1_run {ad : Addr} {v : Value} {K : World → Prop} (hv : okV v = true) (h : St1 w ad v K) : (store ad v).run P w = .ok () (w.setCell ad v) ∧ K (w.setCell ad v) := by
  obtain ⟨h1, h2, h3⟩ := h
  refine ⟨?_, h3⟩
  rw [run_store P w ad v _ (oneCell_of_okV hv)]
  cases hc : w.cell? ad with
  | none => simp [hc] at h1
  | some u => simp [h2]
theorem StL_elim {ad : Addr} : ∀ {vs : List Value} {i : Nat} {w : World} {K : World → Prop}, StL ad i vs w K → ∃ w', (storeCells ad vs i).run P w = .ok () w' ∧ K w'
  | [], i, w, K, h => ⟨w, rfl, h⟩
  | v :: vs, i, w, K, h => by
    simp only [StL] at h
    cases hv : okV v with
    | false => rw [hv] at h; exact h.elim
    | true =>
      rw [hv, cond_true] at h
      obtain ⟨h1, h2⟩ := St1_run (P := P) hv h
      obtain ⟨w', h3, h4⟩ := StL_elim h2
      exact ⟨w', by simp [storeCells, h1, h3], h4⟩

theorem reps_length (z : List Value) : ∀ c, (reps z c).length = c * z.length
  | 0 => by simp [reps]
  | c + 1 => by simp [reps, reps_length z c, Nat.succ_mul, Nat.add_comm]
theorem reps_get (z : List Value) : ∀ (c i : Nat), i < c * z.length → (reps z c)[i]? = z[i % z.length]?
  | 0, i, h => by simp at h
  | c + 1, i, h => by
    simp only [reps]
    rcases Nat.lt_or_ge i z.length with hi | hi
    · rw [List.getElem?_append_left hi, Nat.mod_eq_of_lt hi]
    · rw [List.getElem?_append_right hi, reps_get z c (i - z.length) (by rw [Nat.succ_mul] at h; omega)]
      congr 1
      rw [Nat.mod_eq_sub_mod hi]
theorem range_reps (z : Array Value) (c : Nat) : (Array.range (c * z.size)).map (fun i => z[i % z.size]!) = (reps z.toList c).toArray := by
  apply Array.ext_getElem?
  intro i
  simp only [Array.getElem?_map]
  rcases Nat.lt_or_ge i (c * z.size) with hi | hi
  · have hz : 0 < z.size := by
      rcases Nat.eq_zero_or_pos z.size with h | h
      · rw [h] at hi; simp at hi
      · exact h
    have hm : i % z.size < z.size := Nat.mod_lt _ hz
    have h1 := reps_get z.toList c i (by simpa using hi)
    simp only [Array.length_toList] at h1
    simp [hi, h1, hm]
  · have h1 : (reps z.toList c).length ≤ i := by rw [reps_length]; simpa using hi
    simp [Nat.not_lt.2 hi, h1]

theorem zeroOf_elim {t : TypeId} {K : List Value → Prop} (h : zeroOf P t K) : ∃ inf v, P.info? t = some inf ∧ inf.zero = some v ∧ v.cells.size = inf.size ∧ 0 < inf.size ∧ K v.cells.toList := by
  unfold zeroOf at h
  split at h
  · rename_i v hv
    cases hb : (Nat.beq v.cells.toList.length (P.cellsOf t) && Nat.blt 0 (P.cellsOf t)) with
    | false => rw [hb] at h; exact h.elim
    | true =>
      rw [hb] at h
      simp only [Bool.and_eq_true] at hb
      have h1 := Nat.eq_of_beq_eq_true hb.1
      have h2 : 0 < P.cellsOf t := by simpa [Nat.blt_eq] using hb.2
      obtain ⟨inf, hinf, hsz⟩ := cells_info (P := P) (t := t) rfl (by omega)
      rw [hinf] at hv
      exact ⟨inf, v, hinf, by simpa using hv, by rw [hsz, ← h1]; simp, by omega, h⟩
  · exact h.elim

theorem run_putC (b : Nat) : ∀ (vs : List Value) (o i : Nat) (w : World), (∀ j, j < vs.length → (w.cell? ⟨b, o + i + j, none⟩).isSome = true ∧ w.frozen? ⟨b, o + i + j, none⟩ = false) → vs.all okV = true →
    (storeCells ⟨b, o, none⟩ vs i).run P w = .ok () (putC b (o + i) vs w)
  | [], o, i, w, _, _ => rfl
  | v :: vs, o, i, w, h, hv => by
    simp only [List.all_cons, Bool.and_eq_true] at hv
    have h0 := h 0 (by simp)
    have h1 := (St1_run (P := P) (w := w) (ad := ⟨b, o + i, none⟩) (K := fun _ => True) hv.1 ⟨by simpa using h0.1, by simpa using h0.2, trivial⟩).1
    have hstep : ∀ j, j < vs.length → ((w.setCell ⟨b, o + i, none⟩ v).cell? ⟨b, o + (i + 1) + j, none⟩).isSome = true ∧ (w.setCell ⟨b, o + i, none⟩ v).frozen? ⟨b, o + (i + 1) + j, none⟩ = false := fun j hj => by
      have hh := h (j + 1) (by simpa using hj)
      have e : o + (i + 1) + j = o + i + (j + 1) := by omega
      rw [e]
      simp only [World.cell?, World.frozen?, World.setCell] at hh ⊢
      rw [Array.getElem?_modify]
      simp only [if_true]
      cases hb : w.heap[b]? with
      | none => rw [hb] at hh; simp at hh
      | some ob =>
        rw [hb] at hh
        cases ob <;> simp at hh ⊢
        case cells c el fr =>
          exact hh
    have ih := run_putC b vs o (i + 1) (w.setCell ⟨b, o + i, none⟩ v) hstep hv.2
    simp only [storeCells, Sem.run_bind, add_mk, h1, Result.andThen_ok, ih, putC]
    rfl

theorem PutS_elim {ad : Option Addr} {vs : List Value} {K : World → Prop} (hv : vs.all okV = true) (h : PutS w ad vs K) :
    ∃ w', K w' ∧ ((vs = [] ∧ w' = w) ∨ ∃ b o, ad = some ⟨b, o, none⟩ ∧ (storeCells ⟨b, o, none⟩ vs).run P w = .ok () w') := by
  rcases h with ⟨h0, hk⟩ | ⟨b, o, ha, hc, hk⟩
  · exact ⟨w, hk, .inl ⟨h0, rfl⟩⟩
  · exact ⟨_, hk, .inr ⟨b, o, ha, by have := run_putC (P := P) b vs o 0 w (by simpa using hc) hv; simpa using this⟩⟩

theorem run_firstCells {x : Sl} {m size : Nat} {vs : List Value} (h : CellsAt w x.a (m * size) vs) : (Builtin.firstCells size m (.slice x.a x.l x.c)).run P w = .ok vs.toArray w := by
  obtain ⟨hl, hc⟩ := h
  cases ha : x.a with
  | none =>
    have : vs = [] := by
      rcases hc with h | ⟨b, o, hab, _⟩
      · cases vs with
        | nil => rfl
        | cons u l => simp [h] at hl
      · rw [ha] at hab; cases hab
    subst this
    rfl
  | some ad =>
    rcases hc with h0 | ⟨b, o, hab, hcell⟩
    · have : vs = [] := by
        cases vs with
        | nil => rfl
        | cons u l => simp [h0] at hl
      subst this
      simp only [Builtin.firstCells, h0]
      rfl
    · rw [ha] at hab
      cases hab
      simp only [Builtin.firstCells]
      exact run_loadCells_at (P := P) w ⟨hl, .inr ⟨b, o, rfl, hcell⟩⟩ b o (.inr rfl)

theorem grow_le (m : Nat) : ∀ (r c : Nat), 256 ≤ c → c < 2 * m → Builtin.growBy m r c ≤ 2 * m
  | 0, c, _, h => by simp [Builtin.growBy]; omega
  | r + 1, c, h0, h => by
    simp only [Builtin.growBy]
    split
    · omega
    · exact grow_le m r _ (by omega) (by omega)
theorem nextcap_le (m c : Nat) (h : c < m) : Builtin.nextslicecap m c ≤ 2 * m := by
  unfold Builtin.nextslicecap
  split
  · omega
  · split
    · omega
    · exact grow_le m 4 c (by omega) (by omega)

theorem append_sound {t t' type e e' : TypeId} {z : List Value} {s x : Sl} {K : Sl → World → Prop} {inf : TypeInfo} {zv : Value}
    (hu : P.underlying t = some (.slice e)) (hu' : P.underlying t' = some (.slice e')) (hinf : P.info? e = some inf) (hz : inf.zero = some zv) (hz' : z = zv.cells.toList)
    (hb : inf.bytes ≠ 0)
    (h : AppS e z inf.bytes inf.size w s x K) :
    ∃ (r : Sl) (w' : World), (Builtin.append_ #[t, t'] type #[.slice s.a s.l s.c, .slice x.a x.l x.c]).run P w = .ok (.slice r.a r.l r.c) w' ∧ K r w' := by
  obtain ⟨new, hnew, hok, hor⟩ := h
  have hfc := run_firstCells (P := P) hnew
  have hsz : ∀ w, (sizeOf e).run P w = .ok inf.size w := fun w => by simp [sizeOf, typeInfo, hinf]
  have hti : ∀ w, (typeInfo e).run P w = .ok inf w := fun w => by simp [typeInfo, hinf]
  have hzv : ∀ w, (zeroValue e).run P w = .ok zv w := fun w => by simp [zeroValue, hti, hz]
  rcases hor with ⟨hfit, hput⟩ | ⟨hgt, hsmall, old, hold, hk⟩
  · obtain ⟨w', hk, hw⟩ := PutS_elim (P := P) hok hput
    refine ⟨⟨s.a, s.l + x.l, s.c⟩, w', ?_, hk⟩
    obtain ⟨sa, sl, sc⟩ := s
    cases sa with
    | none =>
      rcases hw with ⟨rfl, rfl⟩ | ⟨b, o, hab, _⟩
      · simp only at hfit
        simp [Builtin.append_, run_underlying hu, run_underlying hu', hsz, Builtin.lenOf, hfit, hfc]
      · cases hab
    | some ad =>
      simp only at hfit
      rcases hw with ⟨rfl, rfl⟩ | ⟨b, o, hab, hst⟩
      · simp [Builtin.append_, run_underlying hu, run_underlying hu', hsz, Builtin.lenOf, hfit, hfc, storeCells]
      · simp only [Option.map_some, Option.some.injEq] at hab
        simp [Builtin.append_, run_underlying hu, run_underlying hu', hsz, Builtin.lenOf, hfit, hfc, hab, hst]
  · obtain ⟨cap, hcapd⟩ : ∃ cap, cap = (Question.appendCap (s.l + x.l) s.c e).cut (w.tape w.drawn (.appendCap (s.l + x.l) s.c e)) := ⟨_, rfl⟩
    have hcap : s.l + x.l ≤ cap := by rw [hcapd]; simp only [Question.cut]; omega
    have hfo := run_firstCells (P := P) (w := w.drew) (x := s) (m := s.l) (size := inf.size) (vs := old) (by
      obtain ⟨q1, q2⟩ := hold
      exact ⟨q1, q2⟩)
    have hfn := run_firstCells (P := P) (w := w.drew) (x := x) (m := x.l) (size := inf.size) (vs := new) (by
      obtain ⟨q1, q2⟩ := hnew
      exact ⟨q1, q2⟩)
    refine ⟨⟨some ⟨w.heap.size, 0, none⟩, s.l + x.l, cap⟩, _, ?_, hk cap hcap⟩
    have hnf : ¬ (s.l + x.l ≤ s.c) := by omega
    have hnc := nextcap_le (s.l + x.l) s.c hgt
    have hbig : ¬ (Builtin.nextslicecap (s.l + x.l) s.c * inf.bytes > 2 ^ 48) := by
      have h1 : Builtin.nextslicecap (s.l + x.l) s.c * inf.bytes ≤ 2 * (s.l + x.l) * inf.bytes := Nat.mul_le_mul_right _ hnc
      have h2 : 2 * (s.l + x.l) * inf.bytes = 2 * ((s.l + x.l) * inf.bytes) := by rw [Nat.mul_assoc]
      omega
    have hzc : Builtin.zeroCells zv.cells (cap - (s.l + x.l)) = (reps z (cap - (s.l + x.l))).toArray := by
      unfold Builtin.zeroCells
      rw [range_reps, hz']
    simp [Builtin.append_, run_underlying hu, run_underlying hu', hsz, hnf, hb, hbig, hfo, hfn, hzv, hzc, newRow, Builtin.lenOf, hti, Question.forced, ← hcapd]

theorem foldl_set (l : List Value) : ∀ (k : Nat) (acc : List Value), acc.length = k + l.length → (l.zipIdx k).foldl (fun (c : Array Value) x => c.setIfInBounds x.2 x.1) acc.toArray = (acc.take k ++ l).toArray := by
  induction l with
  | nil => intro k acc h; simp at h; simp [← h]
  | cons v l ih =>
    intro k acc h
    simp only [List.length_cons] at h
    simp only [List.zipIdx_cons, List.foldl_cons]
    have : acc.toArray.setIfInBounds k v = (acc.set k v).toArray := by simp
    rw [this, ih (k + 1) (acc.set k v) (by simp; omega)]
    congr 1
    have hk : k < acc.length := by omega
    rw [List.take_succ_eq_append_getElem (by simpa using hk)]
    simp [List.take_set_of_le]
theorem fill_agg (m : Nat) (z cs : Array Value) (hz : z.size = m) (hc : cs.size = m) : Instr.fill (fun i => some (i * m, m)) z [(0, .agg cs)] = some cs := by
  have hf := foldl_set cs.toList 0 z.toList (by simp [hz, hc])
  simp only [Array.toArray_toList, List.take_zero, List.nil_append] at hf
  have h2 : ((.agg cs : Value).cells.size ≠ m || 0 * m + (.agg cs : Value).cells.size > z.size : Bool) = false := by simp [Value.cells, hz, hc]
  unfold Instr.fill
  simp only [h2, Bool.false_eq_true, if_false]
  unfold Instr.fill
  simp only [Value.cells, Nat.zero_mul, Nat.zero_add, Option.some.injEq]
  rw [← Array.foldl_toList, Array.toList_zipIdx]
  exact hf

theorem denEff_sound {C : CallT} (hC : ∀ f vs w K, C f vs w K → (callFunc f vs.toArray).run P w = .ok (.enter f vs.toArray) w ∧ Calls P f vs.toArray w fun e w' => ∃ v, e = .returned v ∧ K v w')
    {o : Oper} {K : Value → World → Prop} (h : denEff P C o ρ w K) (s : Sat n ρ a) :
    (∃ v w', ((execOp a.eval o).run P w = .ok (.value v) w' ∨ ((execOp a.eval o).run P w = .ok .skip w' ∧ v = undef)) ∧ K v w') ∨
    (∃ f args, (execOp a.eval o).run P w = .ok (.enter f args) w ∧ Calls P f args w fun e w' => ∃ v, e = .returned v ∧ K v w') := by
  obtain ⟨dst, op, type, pos, after, guard⟩ := o
  cases op <;> simp only [denEff] at h
  case store t p x =>
    have h1 := s.get (s.get h)
    split at h1
    · rename_i ad hp
      cases hb : (Nat.beq (a.eval x).cells.toList.length (P.cellsOf t) && Nat.blt 0 (P.cellsOf t)) with
      | false => rw [hb] at h1; exact h1.elim
      | true =>
        rw [hb, cond_true] at h1
        simp only [Bool.and_eq_true] at hb
        have hl := Nat.eq_of_beq_eq_true hb.1
        have hpos : 0 < P.cellsOf t := by simpa [Nat.blt_eq] using hb.2
        obtain ⟨inf, hinf, hsz⟩ := cells_info (P := P) (t := t) rfl (by omega)
        obtain ⟨w', hst, hk⟩ := StL_elim (P := P) h1
        have hl' : (a.eval x).cells.size = inf.size := by rw [hsz, ← hl]; simp
        exact .inl ⟨undef, w', .inr ⟨by simp [execOp, hp, Instr.storeAt, Instr.sureAddr, storeVar, sizeOf, typeInfo, hinf, hl', hst], rfl⟩, hk⟩
    · exact h1.elim
  case alloc t =>
    obtain ⟨inf, v, hinf, hz, hs, hpos, hk⟩ := zeroOf_elim h
    refine .inl ⟨_, _, .inl ?_, hk⟩
    simp [execOp, Instr.alloc, zeroValue, typeInfo, hinf, hz, newVar, newRow]
  case box t x =>
    refine .inl ⟨_, _, .inl ?_, s.get h⟩
    simp [execOp, Instr.box, newVar, newRow]
  case buildSlice t m ps =>
    have h1 := s.getP h
    split at h1
    · rename_i e hu
      have hps : (Array.map (fun x => (x.1, a.eval x.2)) ps).toList = ps.toList.map fun p => (p.1, a.eval p.2) := by simp
      cases hb : (Nat.beq (P.cellsOf e) 1 && Nat.ble m 1024 && Nat.blt 0 m && psOk (ps.toList.map fun p => (p.1, a.eval p.2)) m) with
      | true =>
        rw [hb, cond_true] at h1
        simp only [Bool.and_eq_true] at hb
        obtain ⟨⟨⟨b1, b2⟩, b4⟩, b3⟩ := hb
        have h0 : 0 < m := by simpa [Nat.blt_eq] using b4
        have b2' : m ≤ 1024 := Nat.le_of_ble_eq_true b2
        obtain ⟨inf, v, hinf, hz, hs, hpos, hk⟩ := zeroOf_elim h1
        have hsz : inf.size = 1 := by
          have := Nat.eq_of_beq_eq_true b1
          simpa [Program.cellsOf, hinf] using this
        have hfill := fill_setL (fun i => some (i * 1, 1)) m (fun i _ => by simp) (ps.toList.map fun p => (p.1, a.eval p.2)) (reps v.cells.toList m) (by rw [reps_length]; simp [hs, hsz]) b3
        refine .inl ⟨_, _, .inl ?_, hk⟩
        have hcells : 0 < m → (Array.range (m * 1)).map (fun x => v.cells[x % v.cells.size]!) = (reps v.cells.toList m).toArray := fun _ => by
          have := range_reps v.cells m
          rwa [hs, hsz] at this ⊢
        have hlim : ¬ (m * 1 > 2 ^ 24) := by omega
        have hzz : (zeroValue e).run P w = .ok v w := by simp [zeroValue, typeInfo, hinf, hz]
        have hn0 : ¬ (m * 1 = 0) := by omega
        simp only [execOp, Instr.buildSlice, Sem.run_bind, run_underlying hu, Result.andThen_ok, sizeOf, typeInfo, run_program, hinf, Sem.run_pure, hsz, hlim, hn0, if_false, hzz, hcells h0, hps, hfill, newRow, run_newObj]
        rfl
      | false =>
        rw [hb, cond_false] at h1
        split at h1
        · rename_i cs hvs
          cases hb2 : (Nat.beq m 1 && Nat.beq cs.toList.length (P.cellsOf e) && Nat.ble (P.cellsOf e) 1024) with
          | false => rw [hb2] at h1; exact h1.elim
          | true =>
            rw [hb2, cond_true] at h1
            simp only [Bool.and_eq_true] at hb2
            obtain ⟨⟨c1, c2⟩, c3⟩ := hb2
            have hm := Nat.eq_of_beq_eq_true c1
            subst hm
            obtain ⟨inf, v, hinf, hz, hs, hpos, hk⟩ := zeroOf_elim h1
            have hsz : cs.size = inf.size := by
              have := Nat.eq_of_beq_eq_true c2
              simpa [Program.cellsOf, hinf] using this
            have hle : inf.size ≤ 1024 := by
              have := Nat.le_of_ble_eq_true c3
              simpa [Program.cellsOf, hinf] using this
            refine .inl ⟨_, _, .inl ?_, hk⟩
            have hlim : ¬ (1 * inf.size > 2 ^ 24) := by omega
            have hn0 : ¬ (1 * inf.size = 0) := by omega
            have hcells : (Array.range (1 * inf.size)).map (fun x => v.cells[x % v.cells.size]!) = v.cells := by
              have := range_reps v.cells 1
              rw [hs] at this ⊢
              rw [this]
              simp [reps]
            have hzz : (zeroValue e).run P w = .ok v w := by simp [zeroValue, typeInfo, hinf, hz]
            have hfill := fill_agg inf.size v.cells cs hs hsz
            simp only [execOp, Instr.buildSlice, Sem.run_bind, run_underlying hu, Result.andThen_ok, sizeOf, typeInfo, run_program, hinf, Sem.run_pure, hlim, hn0, if_false, hzz, hcells, hps, hvs, hfill, newRow, run_newObj]
            rfl
        · exact h1.elim
    · exact h1.elim
  case makeSlice t l c =>
    have h1 := s.get (s.get h)
    split at h1
    · rename_i e l' c' hu hl hc
      obtain ⟨inf, v, hinf, hz, hs, hpos, h1⟩ := zeroOf_elim h1
      have hby : P.bytesOf e = inf.bytes := by simp [Program.bytesOf, hinf]
      rw [hby] at h1
      obtain ⟨q1, q2, q3, q4, hk⟩ := h1
      refine .inl ⟨_, _, .inl ?_, hk⟩
      have w1 : IntKind.i64.wrap l' = l' := by simp [IntKind.wrap, IntKind.bits, IntKind.signed]; omega
      have w2 : IntKind.i64.wrap c' = c' := by simp [IntKind.wrap, IntKind.bits, IntKind.signed]; omega
      have t1 : (decide (c' < 0) || decide ((inf.bytes : Int) * c' > 2 ^ 48)) = false := by
        simp only [Bool.or_eq_false_iff, decide_eq_false_iff_not]
        exact ⟨by omega, by omega⟩
      have t2 : (decide (c' < 0) || decide ((inf.bytes : Int) * c' > 2 ^ 48) || decide (l' < 0) || decide (l' > c')) = false := by
        simp only [t1, Bool.false_or, Bool.or_eq_false_iff, decide_eq_false_iff_not]
        exact ⟨by omega, by omega⟩
      have hcells : (Array.range (c'.toNat * inf.size)).map (fun x => v.cells[x % v.cells.size]!) = (reps v.cells.toList c'.toNat).toArray := by
        have := range_reps v.cells c'.toNat
        rwa [hs] at this ⊢
      have hzz : (zeroValue e).run P w = .ok v w := by simp [zeroValue, typeInfo, hinf, hz]
      rcases Nat.eq_zero_or_pos c'.toNat with h0 | h0
      · rw [h0]
        have hr0 : ∀ f : Nat → Value, (Array.range 0).map f = #[] := fun f => by apply Array.ext_getElem?; intro i; simp
        simp only [execOp, hl, hc, Instr.makeSlice, Sem.run_bind, run_underlying hu, Result.andThen_ok, asInt, asIntOf, sizeOf, typeInfo, run_program, hinf, Sem.run_pure, w1, w2, t2, Bool.false_eq_true, if_false, run_askRoom, newRow, h0]
        simp [reps, hr0]
      · have hn0 : ¬ (c'.toNat * inf.size = 0) := by
          intro hh
          rcases Nat.mul_eq_zero.1 hh with h | h <;> omega
        simp only [execOp, hl, hc, Instr.makeSlice, Sem.run_bind, run_underlying hu, Result.andThen_ok, asInt, asIntOf, sizeOf, typeInfo, run_program, hinf, Sem.run_pure, w1, w2, t2, Bool.false_eq_true, if_false, run_askRoom, hn0, hzz, hcells, newRow, run_newObj]
        rfl
    · exact h1.elim
  case call c =>
    obtain ⟨callee, args, argTypes⟩ := c
    simp only at h
    split at h
    · have h1 := s.getL h
      split at h1
      · rename_i t t' ad l cp ad' l' cp' ht hv
        split at h1
        · rename_i e e' hu hu'
          cases hb : Nat.beq (P.bytesOf e) 0 with
          | true => rw [hb] at h1; exact h1.elim
          | false =>
            rw [hb, cond_false] at h1
            obtain ⟨inf, v, hinf, hz, hs, hpos, h1⟩ := zeroOf_elim h1
            have hby : P.bytesOf e = inf.bytes := by simp [Program.bytesOf, hinf]
            have hce : P.cellsOf e = inf.size := by simp [Program.cellsOf, hinf]
            rw [hby, hce] at h1
            have hnz : inf.bytes ≠ 0 := fun h0 => by rw [hby, h0] at hb; simp at hb
            obtain ⟨r, w', hr, hk⟩ := append_sound (type := type) (s := ⟨ad, l, cp⟩) (x := ⟨ad', l', cp'⟩) hu hu' hinf hz rfl hnz h1
            refine .inl ⟨_, w', .inl ?_, hk⟩
            have e1 : argTypes = #[t, t'] := by cases argTypes; simp at ht; simp [ht]
            have e2 : args.map a.eval = #[.slice ad l cp, .slice ad' l' cp'] := by cases args; simp at hv; simp [hv]
            simp [execOp, resolve, invoke, builtin, e1, e2, hr]
        · exact h1.elim
      · exact h1.elim
    · have h1 := s.getL h
      split at h1
      · rename_i t t' ad l cp ad' l' cp' ht hv
        split at h1
        · rename_i e hu
          cases hb0 : Nat.beq (P.cellsOf e) 0 with
          | true => rw [hb0] at h1; exact h1.elim
          | false =>
          rw [hb0, cond_false] at h1
          obtain ⟨vs, hc, hok, hput⟩ := h1
          obtain ⟨inf, hinf, hsz⟩ := cells_info (P := P) (t := e) rfl (fun he => by rw [he] at hb0; simp at hb0)
          have hfc := run_firstCells (P := P) (x := ⟨ad', l', cp'⟩) (m := Nat.min l' l) (size := P.cellsOf e) hc
          obtain ⟨w', hk, hw⟩ := PutS_elim (P := P) hok hput
          have e1 : argTypes = #[t, t'] := by cases argTypes; simp at ht; simp [ht]
          have e2 : args.map a.eval = #[.slice ad l cp, .slice ad' l' cp'] := by cases args; simp at hv; simp [hv]
          have hs : ∀ w, (sizeOf e).run P w = .ok (P.cellsOf e) w := fun w => by simp [sizeOf, typeInfo, hinf, hsz]
          refine .inl ⟨_, w', .inl ?_, hk⟩
          have hcp : (Builtin.copy_ #[t, t'] type #[.slice ad l cp, .slice ad' l' cp']).run P w = .ok (.int .i64 (Nat.min l' l : Nat)) w' := by
            rcases hw with ⟨rfl, rfl⟩ | ⟨b, o, hab, hst⟩
            · cases ad <;> simp [Builtin.copy_, run_underlying hu, Builtin.lenOf, hs, hfc, storeCells, goInt]
            · subst hab
              simp [Builtin.copy_, run_underlying hu, Builtin.lenOf, hs, hfc, hst, goInt]
          simp [execOp, resolve, invoke, builtin, e1, e2, hcp]
        · exact h1.elim
      · rename_i t t' ad l cp b ht hv
        split at h1
        · rename_i e hu
          cases hb0 : Nat.beq (P.cellsOf e) 0 with
          | true => rw [hb0] at h1; exact h1.elim
          | false =>
          rw [hb0, cond_false] at h1
          have hok : ((b.data.toList.take (Nat.min b.size l)).map fun b => Value.int .u8 b.toNat).all okV = true :=
            List.all_eq_true.2 fun x hx => by obtain ⟨c, _, rfl⟩ := List.mem_map.1 hx; rfl
          have e1 : argTypes = #[t, t'] := by cases argTypes; simp at ht; simp [ht]
          have e2 : args.map a.eval = #[.slice ad l cp, .string b] := by cases args; simp at hv; simp [hv]
          obtain ⟨inf, hinf, hsz⟩ := cells_info (P := P) (t := e) rfl (fun he => by rw [he] at hb0; simp at hb0)
          have hs : ∀ w, (sizeOf e).run P w = .ok (P.cellsOf e) w := fun w => by simp [sizeOf, typeInfo, hinf, hsz]
          have hfc : ∀ w, (Builtin.firstCells (P.cellsOf e) (Nat.min b.size l) (.string b)).run P w = .ok ((b.data.toList.take (Nat.min b.size l)).map fun b => Value.int .u8 b.toNat).toArray w := fun w => by
            simp only [Builtin.firstCells, Sem.run_pure]
            congr 1
            apply Array.ext'
            simp [ByteArray.data_extract, List.map_take]
          unfold CopyStr at h1
          simp only at h1
          generalize ((b.data.toList.take (Nat.min b.size l)).map fun b => Value.int .u8 b.toNat) = vs at h1 hok hfc
          obtain ⟨w', hk, hw⟩ := PutS_elim (P := P) hok h1
          refine .inl ⟨_, w', .inl ?_, hk⟩
          have hcp : (Builtin.copy_ #[t, t'] type #[.slice ad l cp, .string b]).run P w = .ok (.int .i64 (Nat.min b.size l : Nat)) w' := by
            rcases hw with ⟨rfl, rfl⟩ | ⟨bb, o, hab, hst⟩
            · cases ad <;> simp [Builtin.copy_, run_underlying hu, Builtin.lenOf, hs, hfc, storeCells, goInt]
            · subst hab
              simp [Builtin.copy_, run_underlying hu, Builtin.lenOf, hs, hfc, hst, goInt]
          simp [execOp, resolve, invoke, builtin, e1, e2, hcp]
        · exact h1.elim
      · exact h1.elim
    · rename_i f
      have h1 := s.getL h
      obtain ⟨hc, hcalls⟩ := hC _ _ _ _ h1
      refine .inr ⟨f, _, ?_, hcalls⟩
      have e2 : Array.map a.eval args = (args.toList.map a.eval).toArray := by cases args; simp
      rw [← e2] at hc hcalls
      have hx : (execOp a.eval ⟨dst, .call ⟨.value (.func f), args, argTypes⟩, type, pos, after, guard⟩).run P w = (callFunc f (Array.map a.eval args)).run P w := by
        simp [execOp, resolve, Act.eval, Deferred.ofValue, invoke]
      rw [hx, ← e2]
      exact hc
    · exact h.elim
end
end Go.Den
