/-
  'den' is sound: what it asks makes 'Code.wp' and 'Calls' true.
-/
import Derived.Test.Qxb6500564aGreatEff
namespace Go.Den
abbrev CallOk (P : Program) (C : CallT) : Prop :=
  ∀ f vs w K, C f vs w K → (callFunc f vs.toArray).run P w = .ok (.enter f vs.toArray) w ∧ Calls P f vs.toArray w fun e w' => ∃ v, e = .returned v ∧ K v w'

section
variable {P : Program} {C : CallT} {n : Nat} {ρ : Env} {a : Act} {w : World}

theorem clsCases (o : Op) : cls P o = 0 ∨ cls P o = 1 ∨ cls P o = 2 := by
  cases o <;> simp only [cls] <;> (repeat' split) <;> simp

/-- One operation, wanted: an 'Oper.wp'. -/
theorem denOp_sound (hC : CallOk P C) {o : Oper} {K : Value → World → Prop} (h : denOp P C o ρ w K) (s : Sat n ρ a) {next : Act → World → Prop} {Q : Exit → Act → World → Prop}
    (hn : ∀ v w', K v w' → next (a.put o.dst v) w') : o.wp P a w next Q := by
  unfold denOp at h
  unfold Oper.wp
  rcases clsCases (P := P) o.op with hc | hc | hc <;> rw [hc] at h
  · obtain ⟨v, hv, hk⟩ := denPure_sound h s
    rw [hv w]; exact hn _ _ hk
  · obtain ⟨v, hv, hk⟩ := denRead_sound h s
    rw [hv]; exact hn _ _ hk
  · rcases denEff_sound hC h s with ⟨v, w', hv | ⟨hv, rfl⟩, hk⟩ | ⟨f, args, hv, hk⟩
    · rw [hv]; exact hn _ _ hk
    · rw [hv]; exact hn _ _ hk
    · rw [hv]
      refine hk.mono fun e w' ⟨v, he, hk⟩ => ?_
      subst he
      exact hn _ _ hk

/-- The temporaries that nobody in 'ops' writes are as they were. -/
def Same (a a' : Act) (S : Nat → Bool) : Prop := ∀ t, S t = false → a'.tmps[t]? = a.tmps[t]?
def wrL (ops : List Oper) (t : Nat) : Bool := ops.any fun o => match o.dst with | some d => Nat.beq d t | none => false
theorem same_put {o : Oper} {ops : List Oper} (ho : o ∈ ops) (v : Value) {a0 : Act} (h : Same a0 a (wrL ops)) : Same a0 (a.put o.dst v) (wrL ops) := by
  intro t ht
  rw [← h t ht]
  cases hd : o.dst with
  | none => rfl
  | some d =>
    have : d ≠ t := fun he => by
      have := List.any_eq_false.1 ht o ho
      simp [hd, he] at this
    simp only [Act.put]
    exact Array.getElem?_setIfInBounds_ne this

/-- What a step of 'denL' comes to: the operation is wanted and does its work, or it is passed over. -/
theorem denL_step {ops : Array Oper} {o : Oper} {rest : List Oper} {K : Env → World → Prop} (h : denL P C n ops.toList (o :: rest) ρ w K) (s : Sat n ρ a) :
    (Region.wanted o (yielded ops a.tmps) = true ∧ ∃ ρ1, Sat n ρ1 a ∧ denOp P C o ρ1 w fun v w' => putK n o.dst ρ1 v fun ρ' => denL P C n ops.toList rest ρ' w' K) ∨
    (Region.wanted o (yielded ops a.tmps) = false ∧ ∃ ρ1, Sat n ρ1 a ∧ putK n o.dst ρ1 undef fun ρ' => denL P C n ops.toList rest ρ' w K) := by
  unfold denL at h
  split at h
  · rename_i hg
    exact .inl ⟨by simp [Region.wanted, hg], ρ, s, h⟩
  · rename_i j want hg
    split at h
    · exact h.elim
    · rename_i d hd
      have hd' : (ops[j]?).bind (·.dst) = some d := by simpa using hd
      have rb : ∀ b, ρ d = some (.bool b) → Sat n (upd ρ d (.bool b)) a := fun b hb => ⟨s.defers, s.size, fun t v ht => by
        simp only [upd] at ht
        cases hq : Nat.beq t d with
        | true =>
          have := Nat.eq_of_beq_eq_true hq
          subst this
          rw [hq, cond_true] at ht
          cases ht
          exact s.agree _ _ hb
        | false => rw [hq, cond_false] at ht; exact s.agree _ _ ht⟩
      split at h
      · rename_i b hb
        have hy : yielded ops a.tmps j = some b := by
          have := s.agree d _ hb
          simp [yielded, hd', this]
        by_cases hbt : b = true
        · subst hbt
          rw [if_pos rfl] at h
          cases want
          · exact .inr ⟨by simp [Region.wanted, hg, hy], _, rb true hb, h⟩
          · exact .inl ⟨by simp [Region.wanted, hg, hy], _, rb true hb, h⟩
        · have hbf : b = false := by simpa using hbt
          subst hbf
          rw [if_neg hbt] at h
          cases want
          · exact .inl ⟨by simp [Region.wanted, hg, hy], _, rb false hb, h⟩
          · exact .inr ⟨by simp [Region.wanted, hg, hy], _, rb false hb, h⟩
      · rename_i v hnb hv
        have hy : yielded ops a.tmps j = none := by
          have := s.agree d _ hv
          simp only [yielded, hd', Option.bind_some, this]
          cases v <;> first | rfl | exact (hnb _ rfl).elim
        exact .inr ⟨by simp [Region.wanted, hg, hy], ρ, s, h⟩
      · exact h.elim

/-- A region that draws nothing. -/
theorem denL_sound (hC : CallOk P C) {ops : Array Oper} {K : Env → World → Prop} {Q : Exit → Act → World → Prop} {a0 : Act}
    (hQ : ∀ ρ' a' w', K ρ' w' → Sat n ρ' a' → Same a0 a' (wrL ops.toList) → Q .normal a' w') :
    ∀ (l : List Oper) (k : Nat) (ρ : Env) (a : Act) (w : World), (∀ m, l[m]? = ops[k + m]?) → denL P C n ops.toList l ρ w K → Sat n ρ a → Same a0 a (wrL ops.toList) →
      wpOps P ops Q (List.range' k l.length) a w
  | [], k, ρ, a, w, _, h, s, hs => by
    simp only [List.length_nil, List.range'_zero, wpOps]
    exact hQ ρ a w h s hs
  | o :: rest, k, ρ, a, w, hl, h, s, hs => by
    have h0 : ops[k]? = some o := by have := hl 0; simpa using this.symm
    have hrest : ∀ m, rest[m]? = ops[k + 1 + m]? := fun m => by have := hl (m + 1); simpa [Nat.add_assoc, Nat.add_comm 1 m] using this
    have hmem : o ∈ ops.toList := by simpa using Array.mem_of_getElem? h0
    simp only [List.length_cons, List.range'_succ, wpOps, h0]
    rcases denL_step h s with ⟨hw, ρ1, s1, h1⟩ | ⟨hw, ρ1, s1, h1⟩
    · rw [if_pos hw]
      refine .inl (denOp_sound hC h1 s1 fun v w' hk => ?_)
      obtain ⟨ρ', hk', s'⟩ := s1.put hk
      exact denL_sound hC hQ rest (k + 1) ρ' _ w' hrest hk' s' (same_put hmem v hs)
    · rw [if_neg (by rw [hw]; simp)]
      obtain ⟨ρ', hk', s'⟩ := s1.put h1
      exact denL_sound hC hQ rest (k + 1) ρ' _ w hrest hk' s' (same_put hmem undef hs)

theorem region_sound (hC : CallOk P C) {id : Nat} {ops : Array Oper} {K : Env → World → Prop} (h : denL P C n ops.toList ops.toList ρ w K) (s : Sat n ρ a) :
    (Code.region id ops false).wp P (fun e a' w' => e = .normal ∧ (∃ ρ', Sat n ρ' a' ∧ K ρ' w') ∧ Same a a' (wrL ops.toList)) a w := by
  refine wp_region ?_
  have := denL_sound hC (ops := ops) (K := K) (Q := fun e a' w' => e = .normal ∧ (∃ ρ', Sat n ρ' a' ∧ K ρ' w') ∧ Same a a' (wrL ops.toList)) (a0 := a) (fun ρ' a' w' hk s' hs => ⟨rfl, ⟨ρ', s', hk⟩, hs⟩) ops.toList 0 ρ a w (by simp) h s (fun _ _ => rfl)
  rwa [Array.length_toList, ← List.range_eq_range'] at this

/-- A region that draws its order, by the check. -/
theorem draw_sound (hC : CallOk P C) {ops : Array Oper} {K : Env → World → Prop} {Q : Exit → Act → World → Prop} {a0 : Act} (hp : ∀ c a w, ¬ Q (.panic c) a w) (hsel : Region.noSelect ops = true)
    (hQ : ∀ ρ' a' w', K ρ' w' → Sat n ρ' a' → Same a0 a' (wrL ops.toList) → Q .normal a' w') :
    ∀ (l : List Oper) (k : Nat) (listed : Array Bool) (ρ : Env) (a : Act) (w : World), (∀ m, l[m]? = ops[k + m]?) → listed.size = ops.size → (∀ j, j < ops.size → listed[j]? = some (decide (j < k))) →
      drawFrom P ops l k listed = true → denL P C n ops.toList l ρ w K → Sat n ρ a → Same a0 a (wrL ops.toList) → wpX P ops Q [] l.length listed a w
  | [], k, listed, ρ, a, w, hl, hsz, hli, hd, h, s, hs => by
    simp only [drawFrom] at hd
    exact ⟨by simpa using hd, hQ ρ a w h s hs⟩
  | o :: rest, k, listed, ρ, a, w, hl, hsz, hli, hd, h, s, hs => by
    have h0 : ops[k]? = some o := by have := hl 0; simpa using this.symm
    have hk : k < ops.size := (Array.getElem?_eq_some_iff.1 h0).1
    have hrest : ∀ m, rest[m]? = ops[k + 1 + m]? := fun m => by have := hl (m + 1); simpa [Nat.add_assoc, Nat.add_comm 1 m] using this
    have hmem : o ∈ ops.toList := by simpa using Array.mem_of_getElem? h0
    have hsz' : (listed.setIfInBounds k true).size = ops.size := by simpa using hsz
    have hli' : ∀ j, j < ops.size → (listed.setIfInBounds k true)[j]? = some (decide (j < k + 1)) := fun j hj => by
      by_cases hjk : k = j
      · subst hjk; simp [hsz, hk]
      · rw [Array.getElem?_setIfInBounds_ne hjk, hli j hj]
        congr 1
        rw [decide_eq_decide]
        omega
    simp only [drawFrom, Bool.and_eq_true] at hd
    obtain ⟨⟨d1, d2⟩, d3⟩ := hd
    have hnoP : ∀ (oi : Oper) (v : Value) c (a : Act) w, Q (.panic c) (a.put oi.dst v) w → Q (.panic c) a w := fun _ _ c a w hq => (hp _ _ _ hq).elim
    -- what is to be shown behind the operation
    have go : ∀ ρ' v w', denL P C n ops.toList rest ρ' w' K → Sat n ρ' (a.put o.dst v) → wpX P ops Q [] rest.length (listed.setIfInBounds k true) (a.put o.dst v) w' := fun ρ' v w' hk' s' =>
      draw_sound hC hp hsel hQ rest (k + 1) _ ρ' _ w' hrest hsz' hli' d3 hk' s' (same_put hmem v hs)
    have hgetT : ∀ j, j < k → listed.getD j true = true := fun j hj => by
      have := hli j (by omega)
      simp [Array.getD_eq_getD_getElem?, this, hj]
    have hgetF : ∀ j, k < j → listed.getD j false = false := fun j hj => by
      rcases Nat.lt_or_ge j ops.size with h' | h'
      · have := hli j h'
        simp [Array.getD_eq_getD_getElem?, this]
        omega
      · have : listed[j]? = none := Array.getElem?_eq_none (by omega)
        simp [Array.getD_eq_getD_getElem?, this]
    rcases clsCases (P := P) o.op with hc | hc | hc
    · -- it hangs on its operands alone
      rw [hc] at d1 d2
      have hq : effB P ops k = false := by simp [effB, h0, hc]; rfl
      have first : ∀ v, YieldsR P ops (fun _ => True) o v a → wpX P ops Q [] rest.length (listed.setIfInBounds k true) (a.put o.dst v) w → wpX P ops Q [] (rest.length + 1) listed a w := fun v hy hx =>
        wpX_first (R := fun _ => True) h0 hq (fun _ => False) (fun _ _ _ h => h.elim) _ (fun _ h => h) (fun _ => False) (.inl fun _ => trivial) (Region.noSelect_spec hsel) (hnoP o v) rest.length listed a w
          (Region.free_spec h0 d1) (fun _ h => h.elim) (fun _ h => h.elim) (by simpa using d2) hy trivial hx
      rcases denL_step h s with ⟨hw, ρ1, s1, h1⟩ | ⟨hw, ρ1, s1, h1⟩
      · unfold denOp at h1
        rw [hc] at h1
        obtain ⟨v, hv, hk1⟩ := denPure_sound h1 s1
        obtain ⟨ρ', hk', s'⟩ := s1.put hk1
        exact first v (.inl ⟨hw, fun w _ => hv w⟩) (go ρ' v w hk' s')
      · obtain ⟨ρ', hk', s'⟩ := s1.put h1
        exact first undef (.inr ⟨hw, rfl⟩) (go ρ' undef w hk' s')
    · -- it reads
      rw [hc] at d1 d2
      simp only [Bool.and_eq_true] at d1
      obtain ⟨f1, f2, f3⟩ := d1
      have hq : effB P ops k = false := by simp [effB, h0, hc]; rfl
      have hD : ∀ j oj, ops[j]? = some oj → j ∈ waitsOn k ops.toList 0 [] → ∃ e ∈ oj.after, Region.binds .any e = true ∧ (e.on = k ∨ e.on ∈ waitsOn k ops.toList 0 []) := fun j oj hj hm => by
        obtain ⟨o', ho', r⟩ := waitsOn_spec k ops ops.toList 0 [] (by simp) (by simp) j hm
        rw [hj] at ho'
        cases ho'
        exact r
      have hDl : ∀ j, j ∈ waitsOn k ops.toList 0 [] → listed.getD j false = false := fun j hm => by
        have := List.all_eq_true.1 f2 j hm
        exact hgetF j (by simpa [Nat.blt_eq] using this)
      have hE : ∀ j, effB P ops j = true → j ∈ waitsOn k ops.toList 0 [] ∨ j < k := fun j hj => by
        have hjs : j < ops.size := by
          rcases Nat.lt_or_ge j ops.size with h' | h'
          · exact h'
          · simp [effB, Array.getElem?_eq_none h'] at hj
        have := List.all_eq_true.1 f3 j (by simpa using hjs)
        simp only [Bool.or_eq_true] at this
        rcases this with (h' | h') | h'
        · exact .inr (by simpa [Nat.blt_eq] using h')
        · unfold effB at hj
          split at hj
          · rename_i p hpj
            simp only [hpj] at h'
            rw [hj] at h'
            cases h'
          · cases hj
        · obtain ⟨x, hx, hxe⟩ := List.any_eq_true.1 h'
          have := Nat.eq_of_beq_eq_true hxe
          subst this
          exact .inl hx
      have first : ∀ v, YieldsR P ops (fun u => u = w) o v a → wpX P ops Q [] rest.length (listed.setIfInBounds k true) (a.put o.dst v) w → wpX P ops Q [] (rest.length + 1) listed a w := fun v hy hx =>
        wpX_first (R := fun u => u = w) h0 hq (fun j => j ∈ waitsOn k ops.toList 0 []) hD _ (fun _ h => h) (fun j => j < k) (.inr fun j hj => (hE j hj).onto id .inl) (Region.noSelect_spec hsel) (hnoP o v) rest.length listed a w
          (Region.free_spec h0 f1) hDl hgetT (by simpa using d2) hy rfl hx
      rcases denL_step h s with ⟨hw, ρ1, s1, h1⟩ | ⟨hw, ρ1, s1, h1⟩
      · unfold denOp at h1
        rw [hc] at h1
        obtain ⟨v, hv, hk1⟩ := denRead_sound h1 s1
        obtain ⟨ρ', hk', s'⟩ := s1.put hk1
        exact first v (.inl ⟨hw, fun u hu => by subst hu; exact hv⟩) (go ρ' v w hk' s')
      · obtain ⟨ρ', hk', s'⟩ := s1.put h1
        exact first undef (.inr ⟨hw, rfl⟩) (go ρ' undef w hk' s')
    · -- it acts: it is the one that comes up
      rw [hc] at d2
      have hready : Region.ready .any ops listed = [k] := eq_of_beq d2
      have hq : effB P ops k = true := by simp [effB, h0, hc]
      show wpX P ops Q [] (rest.length + 1) listed a w
      refine ⟨fun hnil => (by rw [hready] at hnil; cases hnil), fun i hi => ?_⟩
      rw [hready] at hi
      have : i = k := by simpa using hi
      subst this
      rw [if_pos hq]
      unfold wpOp
      simp only [h0]
      rcases denL_step h s with ⟨hw, ρ1, s1, h1⟩ | ⟨hw, ρ1, s1, h1⟩
      · rw [if_pos hw]
        refine .inl (denOp_sound hC h1 s1 fun v w' hk1 => ?_)
        obtain ⟨ρ', hk', s'⟩ := s1.put hk1
        exact ⟨fun _ h => (by cases h), go ρ' v w' hk' s'⟩
      · rw [if_neg (by rw [hw]; simp)]
        obtain ⟨ρ', hk', s'⟩ := s1.put h1
        exact ⟨fun _ h => (by cases h), go ρ' undef w hk' s'⟩

theorem regionDraw_sound (hC : CallOk P C) (hm : P.follows .mixedOrders = true) {id : Nat} {ops : Array Oper} {K : Env → World → Prop} (hd : drawOk P ops = true) (h : denL P C n ops.toList ops.toList ρ w.drew K) (s : Sat n ρ a) :
    (Code.region id ops true).wp P (fun e a' w' => e = .normal ∧ (∃ ρ', Sat n ρ' a' ∧ K ρ' w') ∧ Same a a' (wrL ops.toList)) a w := by
  simp only [drawOk, Bool.and_eq_true] at hd
  refine wp_region_any hm (wpAny_of_wpX (G := []) _ _ _ _ ?_)
  have := draw_sound hC (ops := ops) (K := K) (Q := fun e a' w' => e = .normal ∧ (∃ ρ', Sat n ρ' a' ∧ K ρ' w') ∧ Same a a' (wrL ops.toList)) (a0 := a) (fun c a w hq => by cases hq.1) hd.1
    (fun ρ' a' w' hk s' hs => ⟨rfl, ⟨ρ', s', hk⟩, hs⟩) ops.toList 0 (Array.replicate ops.size false) ρ a w.drew (by simp) (by simp) (fun j hj => by simp [hj]) hd.2 h s (fun _ _ => rfl)
  rwa [Array.length_toList] at this

/-- The typed state is what the temporaries hold. -/
theorem projK_elim {k : Nat} {v : Value} {K : KT k → Prop} (h : projK k v K) : ∃ x, injK k x = v ∧ K x := by
  match k, K, h with
  | 0, K, h => simp only [projK] at h; split at h; exact ⟨_, rfl, h⟩; exact h.elim
  | 1, K, h => simp only [projK] at h; split at h; exact ⟨_, rfl, h⟩; exact h.elim
  | 2, K, h => simp only [projK] at h; split at h; exact ⟨_, rfl, h⟩; exact h.elim
  | 3, K, h => simp only [projK] at h; split at h; exact ⟨_, rfl, h⟩; exact h.elim
  | 4, K, h => simp only [projK] at h; split at h; exact ⟨_, rfl, h⟩; exact h.elim
  | 5, K, h => simp only [projK] at h; split at h; exact ⟨_, rfl, h⟩; exact h.elim
  | 6, K, h => simp only [projK] at h; split at h; exact ⟨_, rfl, h⟩; exact h.elim
  | k + 7, K, h => exact ⟨v, rfl, h⟩
def Holds (a : Act) : (vs : List (Nat × Nat)) → Tup vs → Prop
  | [], _ => True
  | (t, k) :: r, x => a.tmps[t]? = some (injK k x.1) ∧ Holds a r x.2
theorem injK_inj {k : Nat} {x y : KT k} (h : injK k x = injK k y) : x = y := by
  match k, x, y, h with
  | 0, x, y, h => exact (Value.int.inj h).2
  | 1, x, y, h => exact (Value.int.inj h).2
  | 2, x, y, h => exact (Value.int.inj h).2
  | 3, x, y, h => exact Value.bool.inj h
  | 4, x, y, h => exact Value.string.inj h
  | 5, x, y, h => exact (Addr.mk.inj (Option.some.inj (Value.pointer.inj h))).1
  | 6, ⟨a, l, c⟩, ⟨a', l', c'⟩, h => simp only [injK, Value.slice.injEq] at h; obtain ⟨rfl, rfl, rfl⟩ := h; rfl
  | k + 7, x, y, h => exact h
theorem Holds.inj {a : Act} : ∀ {vs : List (Nat × Nat)} {x y : Tup vs}, Holds a vs x → Holds a vs y → x = y
  | [], _, _, _, _ => rfl
  | (t, k) :: r, x, y, hx, hy => by
    have h1 : injK k x.1 = injK k y.1 := by
      have := hx.1.symm.trans hy.1
      simpa using this
    have h2 := Holds.inj hx.2 hy.2
    exact Prod.ext (injK_inj h1) h2
theorem projT_elim (s : Sat n ρ a) : ∀ {vs : List (Nat × Nat)} {K : Tup vs → Prop}, projT vs ρ K → ∃ x, Holds a vs x ∧ K x
  | [], K, h => ⟨(), trivial, h⟩
  | (t, k) :: r, K, h => by
    unfold projT at h
    split at h
    · rename_i v hv
      obtain ⟨x, hx, h1⟩ := projK_elim h
      obtain ⟨y, hy, h2⟩ := projT_elim s h1
      exact ⟨(x, y), ⟨by rw [hx]; exact s.agree t v hv, hy⟩, h2⟩
    · exact h.elim
theorem guardK_elim {ops : Array Oper} {o : Oper} {run skip : Env → Prop} (h : guardK n ops.toList o ρ run skip) (s : Sat n ρ a) :
    (Region.wanted o (yielded ops a.tmps) = true ∧ ∃ ρ1, Sat n ρ1 a ∧ run ρ1) ∨ (Region.wanted o (yielded ops a.tmps) = false ∧ ∃ ρ1, Sat n ρ1 a ∧ putK n o.dst ρ1 undef skip) := by
  unfold guardK at h
  split at h
  · rename_i hg
    exact .inl ⟨by simp [Region.wanted, hg], ρ, s, h⟩
  · rename_i j want hg
    split at h
    · exact h.elim
    · rename_i d hd
      have hd' : (ops[j]?).bind (·.dst) = some d := by simpa using hd
      have rb : ∀ b, ρ d = some (.bool b) → Sat n (upd ρ d (.bool b)) a := fun b hb => ⟨s.defers, s.size, fun t v ht => by
        simp only [upd] at ht
        cases hq : Nat.beq t d with
        | true =>
          have := Nat.eq_of_beq_eq_true hq
          subst this
          rw [hq, cond_true] at ht
          cases ht
          exact s.agree _ _ hb
        | false => rw [hq, cond_false] at ht; exact s.agree _ _ ht⟩
      split at h
      · rename_i b hb
        have hy : yielded ops a.tmps j = some b := by
          have := s.agree d _ hb
          simp [yielded, hd', this]
        by_cases hbt : b = true
        · subst hbt
          rw [if_pos rfl] at h
          cases want
          · exact .inr ⟨by simp [Region.wanted, hg, hy], _, rb true hb, h⟩
          · exact .inl ⟨by simp [Region.wanted, hg, hy], _, rb true hb, h⟩
        · have hbf : b = false := by simpa using hbt
          subst hbf
          rw [if_neg hbt] at h
          cases want
          · exact .inl ⟨by simp [Region.wanted, hg, hy], _, rb false hb, h⟩
          · exact .inr ⟨by simp [Region.wanted, hg, hy], _, rb false hb, h⟩
      · rename_i v hnb hv
        have hy : yielded ops a.tmps j = none := by
          have := s.agree d _ hv
          simp only [yielded, hd', Option.bind_some, this]
          cases v <;> first | rfl | exact (hnb _ rfl).elim
        exact .inr ⟨by simp [Region.wanted, hg, hy], ρ, s, h⟩
      · exact h.elim
theorem allC_elim {F : Nat → Prop} : ∀ {l : List Nat}, allC l F → ∀ i ∈ l, F i
  | [], _, _, hi => by cases hi
  | [j], h, i, hi => by rw [List.mem_singleton.1 hi]; exact h
  | j :: k :: r, h, i, hi => by
    rcases List.mem_cons.1 hi with rfl | hi
    · exact h.1
    · exact allC_elim h.2 i hi

theorem LdV_elim2 {t : TypeId} {ad : Addr} {K : Value → Prop} (hp : 0 < P.cellsOf t) (h : LdV P t w ad K) :
    ∃ v, (∀ w' : World, (∀ i, i < P.cellsOf t → w'.cell? (ad.add i) = w.cell? (ad.add i)) → (loadVar t ad).run P w' = .ok v w') ∧ K v := by
  unfold LdV at h
  split at h
  · rename_i fs hu
    cases hb : (Nat.beq (flatT P 6 t).length (P.cellsOf t) && Nat.blt 0 (P.cellsOf t)) with
    | false => rw [hb] at h; exact h.elim
    | true =>
      rw [hb, cond_true] at h
      simp only [Bool.and_eq_true] at hb
      have hl := Nat.eq_of_beq_eq_true hb.1
      obtain ⟨inf, hinf, hsz⟩ := cells_info (P := P) (t := t) rfl (by omega)
      obtain ⟨vs, hvl, hc, hk⟩ := LdFs_elim h
      refine ⟨_, fun w' hw' => ?_, hk⟩
      have h1 := run_loadCells_list (P := P) w' ad vs (fun j v hj => by
        have hj' : j < vs.length := by
          rcases Nat.lt_or_ge j vs.length with h | h
          · exact h
          · simp [h] at hj
        rw [hw' j (by omega)]
        simpa using hc j v hj)
      rw [hvl, hl] at h1
      simp [loadVar, isAgg, run_underlying hu, sizeOf, typeInfo, hinf, hsz, h1]
  · rename_i l e hu
    cases hb : (Nat.beq (flatT P 6 t).length (P.cellsOf t) && Nat.blt 0 (P.cellsOf t)) with
    | false => rw [hb] at h; exact h.elim
    | true =>
      rw [hb, cond_true] at h
      simp only [Bool.and_eq_true] at hb
      have hl := Nat.eq_of_beq_eq_true hb.1
      obtain ⟨inf, hinf, hsz⟩ := cells_info (P := P) (t := t) rfl (by omega)
      obtain ⟨vs, hvl, hc, hk⟩ := LdFs_elim h
      refine ⟨_, fun w' hw' => ?_, hk⟩
      have h1 := run_loadCells_list (P := P) w' ad vs (fun j v hj => by
        have hj' : j < vs.length := by
          rcases Nat.lt_or_ge j vs.length with h | h
          · exact h
          · simp [h] at hj
        rw [hw' j (by omega)]
        simpa using hc j v hj)
      rw [hvl, hl] at h1
      simp [loadVar, isAgg, run_underlying hu, sizeOf, typeInfo, hinf, hsz, h1]
  · obtain ⟨v, hv, ha, hk⟩ := LdT_elim h
    refine ⟨v, fun w' hw' => ?_, hk⟩
    have h0 : ad.add 0 = ad := by simp [Addr.add]
    have := hw' 0 hp
    rw [h0, hv] at this
    simp [loadVar, ha, this]

theorem heldRead_sound {o : Oper} {K : (World → Prop) → Value → Prop} (h : heldRead P o ρ w K) (s : Sat n ρ a) :
    ∃ (R : World → Prop) (v : Value), R w ∧ (∀ w', R w' → (execOp a.eval o).run P w' = .ok (.value v) w') ∧ K R v := by
  obtain ⟨dst, op, type, pos, after, guard⟩ := o
  cases op <;> simp only [heldRead] at h
  case load t x =>
    have h1 := s.get h
    split at h1
    · rename_i ad hx
      cases hb : Nat.blt 0 (P.cellsOf t) with
      | false => rw [hb] at h1; exact h1.elim
      | true =>
        rw [hb, cond_true] at h1
        have hp : 0 < P.cellsOf t := by simpa [Nat.blt_eq] using hb
        obtain ⟨v, hv, hkv⟩ := LdV_elim2 hp h1
        refine ⟨_, v, fun _ _ => rfl, fun w' hw' => ?_, hkv⟩
        have := hv w' hw'
        simp [execOp, hx, Instr.loadAt, Instr.sureAddr, this]
    · exact h1.elim
  case convert sr ds x =>
    have h1 := s.get h
    split at h1
    · rename_i e ad l c hs hd hx
      split at h1
      · rename_i he
        obtain ⟨bs, hc, hk⟩ := h1
        refine ⟨_, _, fun vs hv => hv, fun w' hw' => ?_, hk⟩
        obtain ⟨b, hb, rfl⟩ := BtS_elim (P := P) (w := w') (s := ⟨ad, l, c⟩) (K := fun b => b = ⟨bs.toArray⟩) ⟨bs, hw' _ hc, rfl⟩
        simp [execOp, hx, run_convert_bytes_string w' sr ds e ad l c hs he hd, hb]
      · exact h1.elim
    · exact h1.elim
theorem afters_elim {ops : Array Oper} {j : Nat} {K : Prop} : ∀ {G : List (Nat × (World → Prop))}, afters ops j w G K → (∀ p ∈ G, waitsB ops p.1 j = false → p.2 w) ∧ K
  | [], h => ⟨fun _ h => (by cases h), h⟩
  | (i, R) :: G, h => by
    unfold afters at h
    cases hb : waitsB ops i j with
    | true =>
      rw [hb, cond_true] at h
      obtain ⟨h1, h2⟩ := afters_elim h
      refine ⟨fun p hp hw => ?_, h2⟩
      rcases List.mem_cons.1 hp with rfl | hp
      · rw [hb] at hw; cases hw
      · exact h1 p hp hw
    | false =>
      rw [hb, cond_false] at h
      obtain ⟨h1, h2⟩ := afters_elim h.2
      refine ⟨fun p hp hw => ?_, h2⟩
      rcases List.mem_cons.1 hp with rfl | hp
      · exact h.1
      · exact h1 p hp hw

theorem effB_eq (ops : Array Oper) (i : Nat) : effB P ops i = isEff P ops i := rfl
theorem held_sound (hC : CallOk P C) {ops : Array Oper} {K : Env → World → Prop} {Q : Exit → Act → World → Prop} {a0 : Act} (hp : ∀ c a w, ¬ Q (.panic c) a w) (hsel : Region.noSelect ops = true)
    (hQ : ∀ ρ' a' w', K ρ' w' → Sat n ρ' a' → Same a0 a' (wrL ops.toList) → Q .normal a' w') :
    ∀ (fuel : Nat) (G : List (Nat × (World → Prop))) (listed : Array Bool) (ρ : Env) (a : Act) (w : World), denX P C n ops fuel G listed ρ w K → Sat n ρ a → Same a0 a (wrL ops.toList) → wpX P ops Q G fuel listed a w := by
  intro fuel
  induction fuel with
  | zero =>
    intro G listed ρ a w h s hs
    simp only [denX] at h
    cases hr : (Region.ready .any ops listed).isEmpty with
    | false => rw [hr] at h; exact h.elim
    | true =>
      rw [hr, cond_true] at h
      exact ⟨by simpa using hr, hQ ρ a w h s hs⟩
  | succ fuel ih =>
    intro G listed ρ a w h s hs
    unfold denX at h
    split at h
    · rename_i hr
      exact ⟨fun _ => hQ ρ a w h s hs, fun i hi => by rw [hr] at hi; cases hi⟩
    · rename_i r rs hr
      split at h
      · rename_i i hf
        have hir : i ∈ Region.ready .any ops listed := by rw [hr]; exact List.mem_of_find?_eq_some hf
        have hq : effB P ops i = false := by
          have := List.find?_some hf
          rw [effB_eq]; simpa using this
        cases hfree : Region.free .any ops listed i with
        | false => rw [hfree] at h; exact h.elim
        | true =>
          rw [hfree, cond_true] at h
          split at h
          · exact h.elim
          · rename_i o h0
            have hmem : o ∈ ops.toList := by simpa using Array.mem_of_getElem? h0
            have hnoP : ∀ (v : Value) c (a : Act) w, Q (.panic c) (a.put o.dst v) w → Q (.panic c) a w := fun v c a w hq => (hp _ _ _ hq).elim
            have pureFirst : ∀ v, YieldsR P ops (fun _ => True) o v a → wpX P ops Q G fuel (listed.setIfInBounds i true) (a.put o.dst v) w → wpX P ops Q G (fuel + 1) listed a w := fun v hy hx =>
              wpX_first (R := fun _ => True) h0 hq (fun _ => False) (fun _ _ _ h => h.elim) _ (fun _ h => h) (fun _ => False) (.inl fun _ => trivial) (Region.noSelect_spec hsel) (hnoP v) fuel listed a w
                (Region.free_spec h0 hfree) (fun _ h => h.elim) (fun _ h => h.elim) hir hy trivial hx
            have hD : ∀ j oj, ops[j]? = some oj → waitsB ops i j = true → ∃ e ∈ oj.after, Region.binds .any e = true ∧ (e.on = i ∨ waitsB ops i e.on = true) := fun j oj hj hm => by
              obtain ⟨x, hx, hxe⟩ := List.any_eq_true.1 hm
              have := Nat.eq_of_beq_eq_true hxe
              subst this
              obtain ⟨o', ho', e, he, hb, hor⟩ := waitsOn_spec i ops ops.toList 0 [] (by simp) (by simp) j hx
              rw [hj] at ho'
              cases ho'
              exact ⟨e, he, hb, hor.onto id fun h => List.any_eq_true.2 ⟨_, h, by simp⟩⟩
            rcases guardK_elim h s with ⟨hw, ρ1, s1, h1⟩ | ⟨hw, ρ1, s1, h1⟩
            · split at h1
              · obtain ⟨v, hv, hk1⟩ := denPure_sound h1 s1
                obtain ⟨ρ', hk', s'⟩ := s1.put hk1
                exact pureFirst v (.inl ⟨hw, fun w _ => hv w⟩) (ih G _ ρ' _ w hk' s' (same_put hmem v hs))
              · cases hho : heldOk ops listed i with
                | false => rw [hho] at h1; exact h1.elim
                | true =>
                rw [hho, cond_true] at h1
                have hDl : ∀ j, waitsB ops i j = true → listed.getD j false = false := fun j hj => by
                  obtain ⟨x, hx, hxe⟩ := List.any_eq_true.1 hj
                  have := Nat.eq_of_beq_eq_true hxe
                  subst this
                  simpa using List.all_eq_true.1 hho j hx
                cases ht : tied P ops listed i with
                | true =>
                  rw [ht, cond_true] at h1
                  obtain ⟨v, hv, hk1⟩ := denRead_sound h1 s1
                  obtain ⟨ρ', hk', s'⟩ := s1.put hk1
                  refine wpX_first (R := fun u => u = w) h0 hq (fun j => waitsB ops i j = true) hD G (fun _ h => h) (fun j => listed.getD j true = true) (.inr fun j hj => ?_) (Region.noSelect_spec hsel) (hnoP v) fuel listed a w
                    (Region.free_spec h0 hfree) hDl (fun _ h => h) hir (.inl ⟨hw, fun u hu => by subst hu; exact hv⟩) rfl (ih G _ ρ' _ w hk' s' (same_put hmem v hs))
                  have hjs : j < ops.size := by
                    rcases Nat.lt_or_ge j ops.size with h' | h'
                    · exact h'
                    · simp [effB, Array.getElem?_eq_none h'] at hj
                  have := List.all_eq_true.1 ht j (by simpa using hjs)
                  rw [effB_eq] at hj
                  simp only [hj, Bool.not_true, Bool.or_false, Bool.or_eq_true] at this
                  rcases this with h' | h'
                  · exact .inr (.inl h')
                  · exact .inl h'
                | false =>
                  rw [ht, cond_false] at h1
                  obtain ⟨R, v, hRw, hv, hk1⟩ := heldRead_sound h1 s1
                  obtain ⟨ρ', hk', s'⟩ := s1.put hk1
                  refine wpX_first (R := R) h0 hq (fun j => waitsB ops i j = true) hD ((i, R) :: G) (fun _ h => List.mem_cons_of_mem _ h) (fun j => listed.getD j true = true) (.inr fun j hj => ?_) (Region.noSelect_spec hsel) (hnoP v) fuel listed a w
                    (Region.free_spec h0 hfree) hDl (fun _ h => h) hir (.inl ⟨hw, hv⟩) hRw (ih _ _ ρ' _ w hk' s' (same_put hmem v hs))
                  cases hwj : waitsB ops i j with
                  | true => exact .inl rfl
                  | false => exact .inr (.inr ⟨rfl, List.mem_cons_self⟩)
            · obtain ⟨ρ', hk', s'⟩ := s1.put h1
              exact pureFirst undef (.inr ⟨hw, rfl⟩) (ih G _ ρ' _ w hk' s' (same_put hmem undef hs))
      · rename_i hf
        refine ⟨fun hnil => (by rw [hr] at hnil; cases hnil), fun i hi => ?_⟩
        have hir : i ∈ r :: rs := by rw [← hr]; exact hi
        have hq : effB P ops i = true := by
          have := List.find?_eq_none.1 hf i hir
          rw [effB_eq]; simpa using this
        rw [if_pos hq]
        have h1 := allC_elim h i hir
        split at h1
        · exact h1.elim
        · rename_i o h0
          have hmem : o ∈ ops.toList := by simpa using Array.mem_of_getElem? h0
          have hcls : cls P o.op = 2 := by
            simp only [effB, h0] at hq
            exact Nat.eq_of_beq_eq_true hq
          unfold wpOp
          simp only [h0]
          rcases guardK_elim h1 s with ⟨hw, ρ1, s1, h2⟩ | ⟨hw, ρ1, s1, h2⟩
          · rw [if_pos hw]
            have h3 : denOp P C o ρ1 w fun v w' => putK n o.dst ρ1 v fun ρ' => afters ops i w' G (denX P C n ops fuel G (listed.setIfInBounds i true) ρ' w' K) := by
              unfold denOp; rw [hcls]; exact h2
            refine .inl (denOp_sound hC h3 s1 fun v w' hk1 => ?_)
            obtain ⟨ρ', hk', s'⟩ := s1.put hk1
            obtain ⟨g1, g2⟩ := afters_elim hk'
            exact ⟨g1, ih G _ ρ' _ w' g2 s' (same_put hmem v hs)⟩
          · rw [if_neg (by rw [hw]; simp)]
            obtain ⟨ρ', hk', s'⟩ := s1.put h2
            obtain ⟨g1, g2⟩ := afters_elim hk'
            exact ⟨g1, ih G _ ρ' _ w g2 s' (same_put hmem undef hs)⟩

theorem updT_holds {a : Act} (hd : a.defers = []) (hs : a.tmps.size = n) {ρ0 : Env} (h0 : ∀ t v, ρ0 t = some v → a.tmps[t]? = some v) : ∀ {vs : List (Nat × Nat)} {x : Tup vs}, Holds a vs x → Sat n (updT vs x ρ0) a
  | [], _, _ => ⟨hd, hs, h0⟩
  | (t, k) :: r, x, h => by
    have ih := updT_holds hd hs h0 h.2
    refine ⟨hd, hs, fun t' v ht => ?_⟩
    simp only [updT, upd] at ht
    cases hq : Nat.beq t' t with
    | true =>
      have := Nat.eq_of_beq_eq_true hq
      subst this
      rw [hq, cond_true] at ht
      cases ht
      exact h.1
    | false => rw [hq, cond_false] at ht; exact ih.agree _ _ ht

theorem den_sound (hC : CallOk P C) (hm : P.follows .mixedOrders = true) (A : Ann) : ∀ (c : Code) (Q : Exit → Env → World → Prop) (ρ : Env) (a : Act) (w : World), den P C n A c Q ρ w → Sat n ρ a →
    c.wp P (fun e a' w' => (∃ ρ', Sat n ρ' a' ∧ Q e ρ' w') ∧ Same a a' (wr c)) a w := by
  intro c
  induction c with
  | skip => intro Q ρ a w h s; exact wp_skip ⟨⟨ρ, s, h⟩, fun _ _ => rfl⟩
  | region id ops draw =>
    intro Q ρ a w h s
    have hwr : wr (.region id ops draw) = wrL ops.toList := by funext t; rfl
    cases draw with
    | false =>
      refine wp_mono (region_sound hC (id := id) h s) fun e a' w' ⟨he, ⟨ρ', s', hk⟩, hs⟩ => ?_
      subst he
      exact ⟨⟨ρ', s', hk⟩, by rw [hwr]; exact hs⟩
    | true =>
      simp only [den] at h
      cases hd : drawOk P ops with
      | false =>
        rw [hd, cond_false] at h
        cases hns : Region.noSelect ops with
        | false => rw [hns] at h; exact h.elim
        | true =>
          rw [hns, cond_true] at h
          refine wp_mono (Q := fun e a' w' => e = .normal ∧ (∃ ρ', Sat n ρ' a' ∧ Q .normal ρ' w') ∧ Same a a' (wrL ops.toList)) (wp_region_any hm (wpAny_of_wpX (G := []) _ _ _ _ ?_)) fun e a' w' ⟨he, ⟨ρ', s', hk⟩, hs⟩ => ?_
          · exact held_sound hC (fun c a w hq => by cases hq.1) hns (fun ρ' a' w' hk s' hs => ⟨rfl, ⟨ρ', s', hk⟩, hs⟩) ops.size [] _ ρ a w.drew h s (fun _ _ => rfl)
          · subst he
            exact ⟨⟨ρ', s', hk⟩, by rw [hwr]; exact hs⟩
      | true =>
        rw [hd, cond_true] at h
        refine wp_mono (regionDraw_sound hC hm (id := id) hd h s) fun e a' w' ⟨he, ⟨ρ', s', hk⟩, hs⟩ => ?_
        subst he
        exact ⟨⟨ρ', s', hk⟩, by rw [hwr]; exact hs⟩
  | seq x y ihx ihy =>
    intro Q ρ a w h s
    simp only [den] at h
    refine wp_seq (wp_mono (ihx _ ρ a w h s) fun e a' w' ⟨⟨ρ', s', hk⟩, hs⟩ => ?_)
    have hx : Same a a' (wr (.seq x y)) := fun t ht => hs t (by simp only [wr, Bool.or_eq_false_iff] at ht; exact ht.1)
    cases e with
    | normal =>
      refine wp_mono (ihy Q ρ' a' w' hk s') fun e a'' w'' ⟨hk', hs'⟩ => ⟨hk', fun t ht => ?_⟩
      rw [← hx t ht]
      exact hs' t (by simp only [wr, Bool.or_eq_false_iff] at ht; exact ht.2)
    | exit i => exact ⟨⟨ρ', s', hk⟩, hx⟩
    | goto l => exact ⟨⟨ρ', s', hk⟩, hx⟩
    | ret => exact ⟨⟨ρ', s', hk⟩, hx⟩
    | panic ch => exact ⟨⟨ρ', s', hk⟩, hx⟩
    | outgrown => exact ⟨⟨ρ', s', hk⟩, hx⟩
  | cond c x y ihx ihy =>
    intro Q ρ a w h s
    simp only [den] at h
    have h1 := s.get h
    split at h1
    · rename_i b hb
      by_cases hbt : b = true
      · subst hbt
        rw [if_pos rfl] at h1
        exact wp_cond_true hb (wp_mono (ihx Q ρ a w h1 s) fun e a' w' ⟨hk, hs⟩ => ⟨hk, fun t ht => hs t (by simp only [wr, Bool.or_eq_false_iff] at ht; exact ht.1)⟩)
      · have hbf : b = false := by simpa using hbt
        subst hbf
        rw [if_neg hbt] at h1
        split at h1
        · obtain ⟨x0, hx0, h2⟩ := projT_elim s h1
          exact wp_cond_false hb (wp_mono (ihy Q _ a w h2 (updT_holds s.defers s.size (fun t v ht => by cases ht) hx0)) fun e a' w' ⟨hk, hs⟩ => ⟨hk, fun t ht => hs t (by simp only [wr, Bool.or_eq_false_iff] at ht; exact ht.2)⟩)
        · exact wp_cond_false hb (wp_mono (ihy Q ρ a w h1 s) fun e a' w' ⟨hk, hs⟩ => ⟨hk, fun t ht => hs t (by simp only [wr, Bool.or_eq_false_iff] at ht; exact ht.2)⟩)
    · exact h1.elim
  | block id c ih =>
    intro Q ρ a w h s
    simp only [den] at h
    refine wp_block (wp_mono (ih _ ρ a w h s) fun e a' w' ⟨⟨ρ', s', hk⟩, hs⟩ => ?_)
    cases e with
    | exit i =>
      simp only [Exit.inBlock]
      simp only at hk
      cases hq : Nat.beq i id with
      | true =>
        rw [hq, cond_true] at hk
        rw [if_pos (Nat.eq_of_beq_eq_true hq)]
        exact ⟨⟨ρ', s', hk⟩, hs⟩
      | false =>
        rw [hq, cond_false] at hk
        rw [if_neg (fun he => by rw [he] at hq; simp at hq)]
        exact ⟨⟨ρ', s', hk⟩, hs⟩
    | normal => exact ⟨⟨ρ', s', hk⟩, hs⟩
    | goto l => exact ⟨⟨ρ', s', hk⟩, hs⟩
    | ret => exact ⟨⟨ρ', s', hk⟩, hs⟩
    | panic ch => exact ⟨⟨ρ', s', hk⟩, hs⟩
    | outgrown => exact ⟨⟨ρ', s', hk⟩, hs⟩
  | loop c ih =>
    intro Q ρ a w h s
    simp only [den] at h
    split at h
    · rename_i keep vs hA
      cases hkp : keep.all (fun t => !(wr c t)) with
      | false => rw [hkp] at h; exact h.elim
      | true =>
        rw [hkp, cond_true] at h
        obtain ⟨x0, hx0, I, μ, hI, hstep⟩ := projT_elim s h
        have hrest : ∀ a' : Act, Same a a' (wr c) → ∀ t v, restr keep ρ t = some v → a'.tmps[t]? = some v := fun a' hs t v ht => by
          simp only [restr] at ht
          cases hq : keep.any (Nat.beq t) with
          | false => rw [hq] at ht; cases ht
          | true =>
            rw [hq, cond_true] at ht
            obtain ⟨u, hu, hue⟩ := List.any_eq_true.1 hq
            have := Nat.eq_of_beq_eq_true hue
            subst this
            have hw := List.all_eq_true.1 hkp t hu
            rw [hs t (by simpa using hw)]
            exact s.agree t v ht
        have hmu : ∀ (a' : Act) (w' : World) (x : Tup vs), Holds a' vs x → Classical.epsilon (fun m => ∃ x, Holds a' vs x ∧ μ x w' = m) = μ x w' := fun a' w' x hx => by
          obtain ⟨y, hy, he⟩ := Classical.epsilon_spec (p := fun m => ∃ x, Holds a' vs x ∧ μ x w' = m) ⟨_, x, hx, rfl⟩
          rw [← he, Holds.inj hy hx]
        refine wp_loop (fun a' w' => a'.defers = [] ∧ a'.tmps.size = n ∧ Same a a' (wr c) ∧ ∃ x, Holds a' vs x ∧ I x w')
          (fun a' w' => Classical.epsilon fun m => ∃ x, Holds a' vs x ∧ μ x w' = m) ⟨s.defers, s.size, fun _ _ => rfl, x0, hx0, hI⟩ ?_
        intro a1 w1 ⟨hd1, hs1, hsame, x, hx, hIx⟩
        have s1 : Sat n (updT vs x (restr keep ρ)) a1 := updT_holds hd1 hs1 (hrest a1 hsame) hx
        refine wp_mono (ih _ _ a1 w1 (hstep x w1 hIx) s1) fun e a2 w2 ⟨⟨ρ', s', hk⟩, hs2⟩ => ?_
        have hsame2 : Same a a2 (wr c) := fun t ht => by rw [hs2 t ht, hsame t ht]
        cases e with
        | normal =>
          obtain ⟨y, hy, hIy, hlt⟩ := projT_elim s' hk
          refine ⟨⟨s'.defers, s'.size, hsame2, y, hy, hIy⟩, ?_⟩
          rw [hmu a2 w2 y hy, hmu a1 w1 x hx]
          exact hlt
        | exit i => exact ⟨⟨ρ', s', hk⟩, hsame2⟩
        | goto l => exact ⟨⟨ρ', s', hk⟩, hsame2⟩
        | ret => exact ⟨⟨ρ', s', hk⟩, hsame2⟩
        | panic ch => exact ⟨⟨ρ', s', hk⟩, hsame2⟩
        | outgrown => exact ⟨⟨ρ', s', hk⟩, hsame2⟩
    · exact h.elim
  | rangeFunc f ps as body _ _ => intro Q ρ a w h s; exact h.elim
  | exit id => intro Q ρ a w h s; exact wp_exit ⟨⟨ρ, s, h⟩, fun _ _ => rfl⟩
  | scope c _ => intro Q ρ a w h s; exact h.elim
  | label l => intro Q ρ a w h s; exact h.elim
  | goto l => intro Q ρ a w h s; exact h.elim
  | ret => intro Q ρ a w h s; exact wp_ret ⟨⟨ρ, s, h⟩, fun _ _ => rfl⟩
  | refuse y => intro Q ρ a w h s; exact h.elim

theorem resD_elim (s : Sat n ρ a) : ∀ {rs : List ResultVar} {K : List Value → Prop}, resD P w rs ρ K →
    ∃ vs, (rs.mapM (m := Sem) fun | .tmp t => pure (a.tmps.getD t undef) | .cell x t => do loadVar t (← asAddr (a.tmps.getD x undef))).run P w = .ok vs w ∧ K vs
  | [], K, h => ⟨[], by simp, h⟩
  | .tmp t :: r, K, h => by
    unfold resD at h
    split at h
    · rename_i v hv
      obtain ⟨vs, hr, hk⟩ := resD_elim s h
      refine ⟨v :: vs, ?_, hk⟩
      have hg : a.tmps.getD t undef = v := by simp [Array.getD_eq_getD_getElem?, s.agree t v hv]
      simp only [List.mapM_cons, Sem.run_bind, Sem.run_pure, Result.andThen_ok, hr, hg]
    · exact h.elim
  | .cell x t :: r, K, h => by
    unfold resD at h
    split at h
    · rename_i ad hv
      obtain ⟨v, hl, h1⟩ := LdV_elim h
      obtain ⟨vs, hr, hk⟩ := resD_elim s h1
      refine ⟨v :: vs, ?_, hk⟩
      have hg : a.tmps.getD x undef = .pointer (some ad) := by simp [Array.getD_eq_getD_getElem?, s.agree x _ hv]
      have ha : (asAddr (.pointer (some ad))).run P w = .ok ad w := rfl
      simp only [List.mapM_cons, Sem.run_bind, Sem.run_pure, Result.andThen_ok, hr, hg, ha, hl]
    · exact h.elim
theorem results_run {fn : Func} {vs : List Value} (h : (fn.results.toList.mapM (m := Sem) fun | .tmp t => pure (a.tmps.getD t undef) | .cell x t => do loadVar t (← asAddr (a.tmps.getD x undef))).run P w = .ok vs w) :
    (results fn a.tmps).run P w = .ok (one vs) w := by
  have h2 : (fn.results.mapM (m := Sem) fun | .tmp t => pure (a.tmps.getD t undef) | .cell x t => do loadVar t (← asAddr (a.tmps.getD x undef))).run P w = .ok vs.toArray w := by
    rw [Array.mapM_eq_mapM_toList, Sem.run_map, h]
    rfl
  unfold results
  rw [Sem.run_bind]
  refine (congrArg (fun r => Result.andThen r _) h2).trans ?_
  simp only [Result.andThen_ok, Sem.run_pure]
  match vs with
  | [] => rfl
  | [v] => rfl
  | u :: v :: r => simp [one]

/-- **THE LAYER's THEOREM.** -/
theorem calls_of_den (hC : CallOk P C) (hm : P.follows .mixedOrders = true) {A : Ann} {f : FuncId} {fn : Func} (hf : P.funcs[f]? = some fn) {args : List Value} {K : Value → World → Prop}
    (h : denF P C A fn args w K) : Calls P f args.toArray w fun e w' => ∃ v, e = .returned v ∧ K v w' := by
  unfold denF at h
  split at h
  · rename_i c hb
    cases hl : Nat.ble args.length fn.ntmps with
    | false => rw [hl] at h; exact h.elim
    | true =>
      rw [hl, cond_true] at h
      have hle : args.length ≤ fn.ntmps := Nat.le_of_ble_eq_true hl
      refine calls_of_wp hf hb (wp_mono (den_sound hC hm A c _ _ _ w h ⟨rfl, by simp; omega, fun t v ht => ?_⟩) ?_)
      · simp only [envA] at ht
        have ht' : t < args.length := by
          rcases Nat.lt_or_ge t args.length with h' | h'
          · exact h'
          · simp [h'] at ht
        rw [Array.getElem?_append_left (by simpa using ht')]
        simpa using ht
      · intro e a' w' ⟨⟨ρ', s', hk⟩, _⟩
        cases e with
        | normal =>
          obtain ⟨vs, hr, hk'⟩ := resD_elim s' hk
          exact ⟨s'.defers, _, results_run hr, _, rfl, hk'⟩
        | ret =>
          obtain ⟨vs, hr, hk'⟩ := resD_elim s' hk
          exact ⟨s'.defers, _, results_run hr, _, rfl, hk'⟩
        | exit i => exact hk.elim
        | goto l => exact hk.elim
        | panic ch => exact hk.elim
        | outgrown => exact hk.elim
  · exact h.elim
end
end Go.Den
