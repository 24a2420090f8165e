/-
  The log: its calls.
-/
import Derived.Test.Qxb6500564aGreatDskA
namespace Go.Proofs.Qxb6500564aGreat
open Go.Den Go.Zip
set_option linter.unusedVariables false
set_option linter.unusedSimpArgs false
variable {w w' : World} {d l bn bd : Nat} {D B : List Bk} {R : List Wr} {O O' Od Od' : Nat → Prop} {ws : List Wr} {op : Bool}

/-- A block as the write set has it, else as it lies at home. -/
def lrd (D : List Bk) (ws : List Wr) (b : Nat) : Bk := ((ws.find? fun q => decide (q.1 = b)).map (·.2)).getD (D.getD (73 + b) blk0)
def wput : List Wr → Nat → Bk → List Wr
  | [], b, x => [(b, x)]
  | q :: r, b, x => if q.1 = b then (b, x) :: r else q :: wput r b x
theorem wput_in : ∀ {ws : List Wr} {i b : Nat} {x : Bk}, (ws.map (·.1)).Nodup → (h : i < ws.length) → (ws[i]).1 = b → wput ws b x = ws.set i (b, x)
  | [], i, b, x, _, h, _ => by simp at h
  | q :: r, 0, b, x, _, h, e => by
    have e : q.1 = b := e
    show (if q.1 = b then _ else _) = _
    rw [if_pos e]; rfl
  | q :: r, i + 1, b, x, nd, h, e => by
    have e : (r[i]'(by simpa using h)).1 = b := e
    have hi : i < r.length := by simpa using h
    show (if q.1 = b then _ else _) = _
    rw [List.map_cons, List.nodup_cons] at nd
    have : q.1 ≠ b := fun e' => nd.1 (by rw [e', ← e]; exact List.mem_map.2 ⟨_, List.getElem_mem hi, rfl⟩)
    rw [if_neg this, wput_in nd.2 hi e]; rfl
theorem wput_out : ∀ {ws : List Wr} {b : Nat} {x : Bk}, (∀ q ∈ ws, q.1 ≠ b) → wput ws b x = ws ++ [(b, x)]
  | [], b, x, _ => rfl
  | q :: r, b, x, h => by
    show (if q.1 = b then _ else _) = _
    rw [if_neg (h q (.head _)), wput_out fun q' hq => h q' (.tail _ hq)]; rfl
theorem lrd_wput (D : List Bk) (x : Bk) (b c : Nat) : ∀ ws : List Wr, lrd D (wput ws b x) c = if b = c then x else lrd D ws c
  | [] => by
    unfold lrd wput
    by_cases h : b = c
    · simp [h]
    · simp [h]
  | q :: r => by
    have ih := lrd_wput D x b c r
    unfold lrd at ih ⊢
    show ((List.find? _ (if q.1 = b then (b, x) :: r else q :: wput r b x)).map (·.2)).getD _ = _
    by_cases hq : q.1 = b
    · rw [if_pos hq]
      by_cases h : b = c
      · subst h; simp
      · rw [if_neg h]
        have : q.1 ≠ c := fun e => h (by rw [← hq, e])
        simp [h, this]
    · rw [if_neg hq]
      by_cases h2 : q.1 = c
      · rw [if_neg (fun e => hq (by rw [h2, e]))]
        simp [h2]
      · rw [List.find?_cons_of_neg (by simpa using h2), List.find?_cons_of_neg (by simpa using h2)]
        exact ih
theorem pigeon : ∀ (n : Nat) (l : List Nat), l.Nodup → (∀ x ∈ l, x < n) → l.length ≤ n
  | 0, l, _, h => by
    cases l with
    | nil => exact Nat.le_refl _
    | cons x l => exact absurd (h x (.head _)) (by omega)
  | n + 1, l, nd, h => by
    by_cases hn : n ∈ l
    · have h1 : (l.erase n).length = l.length - 1 := List.length_erase_of_mem hn
      have := pigeon n (l.erase n) (nd.erase n) fun x hx => by
        have h2 := (List.Nodup.mem_erase_iff nd).1 hx
        have := h x h2.2
        have := h2.1
        omega
      omega
    · have := pigeon n l nd fun x hx => by
        have := h x hx
        have : x ≠ n := fun e => hn (e ▸ hx)
        omega
      omega
structure WsF (ws : List Wr) : Prop where
  nd : (ws.map (·.1)).Nodup
  num : ∀ q ∈ ws, q.1 < 72
  siz : ∀ q ∈ ws, q.2.size = 128
theorem WsF.len (h : WsF ws) : ws.length ≤ 72 := by
  have := pigeon 72 (ws.map (·.1)) h.nd fun x hx => by obtain ⟨q, hq, rfl⟩ := List.mem_map.1 hx; exact h.num q hq
  simpa using this
theorem WsF.ok (h : WsF ws) : WsOk ws := ⟨h.len, fun q hq => by have := h.num q hq; omega, h.siz⟩
theorem WsF.nil : WsF [] := ⟨List.nodup_nil, fun q hq => by (cases hq), fun q hq => by (cases hq)⟩
theorem WsF.full (h : WsF ws) {b : Nat} (hb : b < 72) (hn : ∀ q ∈ ws, q.1 ≠ b) : ws.length < 72 := by
  have := pigeon 72 (b :: ws.map (·.1)) (List.nodup_cons.2 ⟨fun hm => by obtain ⟨q, hq, e⟩ := List.mem_map.1 hm; exact hn q hq e, h.nd⟩) fun x hx => by
    rcases List.mem_cons.1 hx with rfl | hx
    · exact hb
    · obtain ⟨q, hq, rfl⟩ := List.mem_map.1 hx; exact h.num q hq
  simp at this
  omega
theorem wput_fst : ∀ {ws : List Wr} {b : Nat} {x : Bk} (q : Wr), q ∈ wput ws b x → q ∈ ws ∨ q = (b, x)
  | [], b, x, q, h => .inr (List.mem_singleton.1 h)
  | p :: r, b, x, q, h => by
    have h : q ∈ (if p.1 = b then (b, x) :: r else p :: wput r b x) := h
    split at h
    · rcases List.mem_cons.1 h with rfl | h
      · exact .inr rfl
      · exact .inl (.tail _ h)
    · rcases List.mem_cons.1 h with rfl | h
      · exact .inl (.head _)
      · rcases wput_fst q h with h | h
        · exact .inl (.tail _ h)
        · exact .inr h
theorem WsF.put {b : Nat} {x : Bk} (h : WsF ws) (hb : b < 72) (hx : x.size = 128) : WsF (wput ws b x) := by
  refine ⟨?_, fun q hq => (wput_fst q hq).elim (h.num q) fun e => by rw [e]; exact hb, fun q hq => (wput_fst q hq).elim (h.siz q) fun e => by rw [e]; exact hx⟩
  by_cases hi : ∃ q ∈ ws, q.1 = b
  · obtain ⟨q, hq, e⟩ := hi
    obtain ⟨i, hi, rfl⟩ := List.getElem_of_mem hq
    rw [wput_in h.nd hi e, List.map_set]
    have : (ws.map (·.1)).set i b = ws.map (·.1) := by
      apply List.ext_getElem?
      intro j
      rw [List.getElem?_set]
      split
      · rename_i ej; subst ej; simp [hi, e]
      · rfl
    rw [this]; exact h.nd
  · have hn : ∀ q ∈ ws, q.1 ≠ b := fun q hq e => hi ⟨q, hq, e⟩
    rw [wput_out hn, List.map_append]
    refine List.nodup_append.2 ⟨h.nd, by simp, fun a ha c hc => ?_⟩
    obtain ⟨q, hq, rfl⟩ := List.mem_map.1 ha
    simp only [List.map_cons, List.map_nil, List.mem_singleton] at hc
    rw [hc]; exact hn q hq
/-- The log's own three blocks. -/
structure WK (w : World) (l d bn bd : Nat) (op : Bool) (ws : List Wr) : Prop where
  rc : Blk w l [ptrV d, .bool op, .int .i64 (ws.length : Nat), slV (fullS bn 72), slV (fullS bd 72)]
  kn : ∃ nums : List Int, Blk w bn (ints nums) ∧ nums.length = 72 ∧ nums.take ws.length = ws.map fun q => ((q.1 : Nat) : Int)
  kd : ∃ dat : List Bk, Blk w bd (strs dat) ∧ dat.length = 72 ∧ dat.take ws.length = ws.map (·.2)
  d1 : l ≠ bn
  d2 : l ≠ bd
  d3 : bn ≠ bd
  ok : WsF ws
  cl : op = false → ws = []
def wO (l bn bd : Nat) (b : Nat) : Prop := b = l ∨ b = bn ∨ b = bd
/-- The log at l: the disk's mark and writes; the write set. -/
def LI (d : Nat) (w : World) (l : Nat) (B : List Bk) (R : List Wr) (ws : List Wr) (op : Bool) (O : Nat → Prop) : Prop :=
  ∃ Od bn bd, WK w l d bn bd op ws ∧ DI w d B R Od ∧ (∀ b, Od b → ¬ wO l bn bd b) ∧ byteAt (hd0 (appl B R)) 0 = 0 ∧ O = U (wO l bn bd) Od
theorem WK.frp {Q : Nat → Prop} (k : WK w l d bn bd op ws) (F : FrP Q w w') (hn : ∀ b, wO l bn bd b → ¬ Q b) : WK w' l d bn bd op ws := by
  obtain ⟨nums, n1, n2⟩ := k.kn
  obtain ⟨dat, m1, m2⟩ := k.kd
  exact { k with rc := k.rc.frp F (hn _ (.inl rfl)), kn := ⟨nums, n1.frp F (hn _ (.inr (.inl rfl))), n2⟩, kd := ⟨dat, m1.frp F (hn _ (.inr (.inr rfl))), m2⟩ }
theorem WK.lt {b : Nat} (k : WK w l d bn bd op ws) (hb : wO l bn bd b) : b < w.heap.size := by
  obtain ⟨nums, n1, n2⟩ := k.kn
  obtain ⟨dat, m1, m2⟩ := k.kd
  rcases hb with rfl | rfl | rfl
  · exact k.rc.lt
  · exact n1.lt
  · exact m1.lt
theorem LI.lt {b : Nat} (k : LI d w l B R ws op O) (hb : O b) : b < w.heap.size := by
  obtain ⟨Od, bn, bd, k, q, dj, hz, rfl⟩ := k
  exact hb.elim k.lt q.lt
theorem LI.frp {Q : Nat → Prop} (k : LI d w l B R ws op O) (F : FrP Q w w') (hn : ∀ b, O b → ¬ Q b) : LI d w' l B R ws op O := by
  obtain ⟨Od, bn, bd, k, q, dj, hz, rfl⟩ := k
  exact ⟨Od, bn, bd, k.frp F fun b hb => hn _ (.inl hb), q.frp F fun b hb => hn _ (.inr hb), dj, hz, rfl⟩
theorem LI.fr0 (k : LI d w l B R ws op O) (F : Fr 0 0 w w') : LI d w' l B R ws op O := k.frp (FrP.of0 F) fun _ _ h => h
theorem LI.wf (k : LI d w l B R ws op O) : WsF ws ∧ (op = false → ws = []) ∧ (appl B R).length = 153 ∧ byteAt (hd0 (appl B R)) 0 = 0 ∧ B.length = 153 ∧ ∀ x ∈ appl B R, x.size = 128 := by
  obtain ⟨Od, bn, bd, k, q, dj, hz, rfl⟩ := k
  exact ⟨k.ok, k.cl, q.nD.1, hz, q.nD.2.1, q.nD.2.2⟩
theorem inData_spec {b : Nat} {K : Bool → World → Prop} (hb : b < 80) (hK : K true w) : S.wal_inData (b : Nat) w K := by
  unfold S.wal_inData
  rw [if_pos (by simp only [decide_eq_true_eq]; omega)]
  have : decide (((b : Nat) : Int) < 80) = true := by simp only [decide_eq_true_eq]; omega
  rw [this]; exact hK
theorem wfind_spec {b : Nat} {K : Int → World → Prop} (k : WK w l d bn bd op ws) (h1 : ∀ i, (hi : i < ws.length) → (ws[i]).1 = b → K (i : Nat) w) (h2 : (∀ q ∈ ws, q.1 ≠ b) → K (-1) w) : S.wal_Log_find l (b : Nat) w K := by
  unfold S.wal_Log_find
  obtain ⟨nums, n1, n2, n3⟩ := k.kn
  have hl := k.ok.len
  refine loopN (fun m st v => ∃ i : Nat, st = ((i : Int), ()) ∧ i + m = ws.length ∧ v = w ∧ ∀ j, (hj : j < i) → (h : j < ws.length) → (ws[j]).1 ≠ b) ws.length ⟨0, rfl, by omega, rfl, fun j hj => by omega⟩ ?_
  rintro m _ v ⟨i, rfl, hm, rfl, hne⟩ Q hQ
  dsimp only
  refine ldI k.rc rfl (ifd (fun h => ?_) fun h => h2 fun q hq => ?_)
  · have hi : i < ws.length := by omega
    refine ldS k.rc (a := some ⟨bn, 0, none⟩) (l := 72) (c := 72) rfl (ix rfl (by omega) (by show ((i : Nat) : Int) < 72; omega) ?_)
    rw [o1]
    have hg : nums[i]? = some ((ws[i].1 : Nat) : Int) := by
      have := congrArg (fun l : List Int => l[i]?) n3
      rw [List.getElem?_take, if_pos hi, List.getElem?_map, List.getElem?_eq_getElem hi] at this
      exact this
    refine ldI n1 (ints_get hg) (ifk (fun e => h1 i hi (by omega)) fun e => let_ ?_)
    rw [W_succ (by omega)]
    refine hQ (m - 1) _ v (by omega) ⟨i + 1, rfl, by omega, rfl, fun j hj hj' => ?_⟩
    rcases (by omega : j < i ∨ j = i) with h' | rfl
    · exact hne j h' hj'
    · intro e'; apply e; omega
  · obtain ⟨j, hj, rfl⟩ := List.getElem_of_mem hq
    exact hne j (by omega) hj
theorem find_none {b : Nat} (h : ∀ q ∈ ws, q.1 ≠ b) : lrd D ws b = D.getD (73 + b) blk0 := by
  unfold lrd
  have : (ws.find? fun q => decide (q.1 = b)) = none := List.find?_eq_none.2 fun q hq => by simpa using h q hq
  rw [this]; rfl
theorem find_some {D : List Bk} : ∀ {ws : List Wr} {i b : Nat} (hi : i < ws.length), (ws.map (·.1)).Nodup → (ws[i]).1 = b → lrd D ws b = (ws[i]).2
  | [], i, b, hi, _, _ => by simp at hi
  | q :: r, 0, b, hi, nd, e => by
    have e : q.1 = b := e
    unfold lrd; simp [e]
  | q :: r, i + 1, b, hi, nd, e => by
    have e : (r[i]'(by simpa using hi)).1 = b := e
    have hi' : i < r.length := by simpa using hi
    rw [List.map_cons, List.nodup_cons] at nd
    have hq : q.1 ≠ b := fun e' => nd.1 (by rw [e', ← e]; exact List.mem_map.2 ⟨_, List.getElem_mem hi', rfl⟩)
    have := find_some (D := D) hi' nd.2 e
    unfold lrd at *
    rw [List.find?_cons_of_neg (by simpa using hq)]
    exact this
theorem lread_spec {b : Nat} {K : Bk → Int → World → Prop} (k : LI d w l B R ws op O) (hb : b < 80) (hK : K (lrd (appl B R) ws b) 0 w) : S.wal_Log_Read l (b : Nat) w K := by
  unfold S.wal_Log_Read
  obtain ⟨Od, bn, bd, k, q, dj, hz, rfl⟩ := k
  refine inData_spec hb ?_
  rw [if_neg (by simp)]
  obtain ⟨dat, m1, m2, m3⟩ := k.kd
  have hl := k.ok.len
  refine wfind_spec k (fun i hi e => ?_) fun hne => ?_
  · rw [if_pos (by simp only [decide_eq_true_eq]; omega)]
    refine ldS k.rc (a := some ⟨bd, 0, none⟩) (l := 72) (c := 72) rfl (ix rfl (by omega) (by show ((i : Nat) : Int) < 72; omega) ?_)
    rw [o1]
    have hg : dat[i]? = some (ws[i]).2 := by
      have := congrArg (fun l : List Bk => l[i]?) m3
      rw [List.getElem?_take, if_pos hi, List.getElem?_map, List.getElem?_eq_getElem hi] at this
      exact this
    refine ldStr m1 (strs_get hg) ?_
    rw [find_some hi k.ok.nd e] at hK
    exact hK
  · rw [if_neg (by decide)]
    unfold S.wal_homeAt
    rw [show W (73 + ((b : Nat) : Int)) = ((73 + b : Nat) : Int) by rw [W_id (by omega) (by omega)]; omega]
    refine ldP k.rc rfl (dread_spec q (by omega) ?_)
    rw [if_neg (by simp)]
    rw [find_none hne] at hK
    exact hK
set_option maxHeartbeats 400000 in
theorem lwrite_spec {b : Nat} {x : Bk} {K : Int → World → Prop} (k : LI d w l B R ws true O) (hb : b < 72) (hK : ∀ w', LI d w' l B R (wput ws b (blockOf x)) true O → FrP O w w' → K 0 w') : S.wal_Log_Write l (b : Nat) x w K := by
  unfold S.wal_Log_Write
  obtain ⟨Od, bn, bd, k, q, dj, hz, rfl⟩ := k
  refine ldB k.rc rfl ?_
  rw [if_neg (by simp)]
  refine inData_spec (by omega) ?_
  rw [if_neg (by simp)]
  have hl := k.ok.len
  have hx := blockOf_size x
  obtain ⟨nums, n1, n2, n3⟩ := k.kn
  obtain ⟨dat, m1, m2, m3⟩ := k.kd
  have fr3 : ∀ {v v' : World} {p : Nat}, wO l bn bd p → Fr p 1 v v' → FrP (wO l bn bd) v v' := fun {v v' p} hp f => FrP.of f fun c h1 h2 => by rw [show c = p by omega]; exact hp
  refine wfind_spec k (fun i hi e => ?_) fun hne => ?_
  · rw [join_eq, if_neg (by simp only [decide_eq_true_eq]; omega)]
    refine drew_ ?_
    unfold Hold
    refine ldS k.rc.drew (a := some ⟨bd, 0, none⟩) (l := 72) (c := 72) rfl (blockOf_spec ⟨holdS k.rc.drew k.rc.drew, ix rfl (by omega) (by show ((i : Nat) : Int) < 72; omega) ?_⟩)
    rw [o1]
    refine st1 m1.drew (by simp; omega) fun w1 c1 f1 s1 => ?_
    rw [strs_set] at c1
    have F : FrP (wO l bn bd) w w1 := fr3 (.inr (.inr rfl)) f1
    have F' : FrP (fun c => c = bd) w w1 := FrP.of f1 fun c h1 h2 => by omega
    have hwl : (wput ws b (blockOf x)).length = ws.length := by rw [wput_in k.ok.nd hi e, List.length_set]
    refine hK w1 ⟨Od, bn, bd, ⟨?_, ⟨nums, n1.frp F' k.d3, n2, ?_⟩, ⟨_, c1, by simpa using m2, ?_⟩, k.d1, k.d2, k.d3, k.ok.put hb hx, fun h => by cases h⟩, q.frp F fun c hc => dj c hc, dj, hz, rfl⟩ (F.mono fun c hc => .inl hc)
    · rw [hwl]; exact k.rc.frp F' k.d2
    · rw [hwl, n3, wput_in k.ok.nd hi e]
      apply List.ext_getElem?
      intro j
      rw [List.getElem?_map, List.getElem?_map, List.getElem?_set]
      split
      · rename_i ej; subst ej; simp [hi, e]
      · rfl
    · rw [hwl, wput_in k.ok.nd hi e, List.take_set, m3, List.map_set]
  · have hf := k.ok.full hb hne
    have hwp := wput_out (x := blockOf x) hne
    rw [join_eq, if_pos (by decide)]
    refine ldI k.rc rfl ?_
    rw [if_neg (by simp only [decide_eq_true_eq]; omega)]
    refine ldI k.rc rfl (ldS k.rc (a := some ⟨bn, 0, none⟩) (l := 72) (c := 72) rfl (ix rfl (by omega) (by show ((ws.length : Nat) : Int) < 72; omega) ?_))
    rw [o1]
    refine st1 n1 (by simp [ints]; omega) fun w1 c1 f1 s1 => ?_
    rw [ints_set] at c1
    have F1' : FrP (fun c => c = bn) w w1 := FrP.of f1 fun c h1 h2 => by omega
    have r1 := k.rc.frp F1' k.d1
    have d1 := m1.frp F1' (fun e => k.d3 e.symm)
    refine ldI r1 rfl (st1 r1 (by simp) fun w2 c2 f2 s2 => ?_)
    have F2' : FrP (fun c => c = l) w1 w2 := FrP.of f2 fun c h1 h2 => by omega
    have c2 : Blk w2 l [ptrV d, .bool true, .int .i64 (W ((ws.length : Nat) + 1)), slV (fullS bn 72), slV (fullS bd 72)] := c2
    rw [W_succ (by omega)] at c2
    have nn2 := c1.frp F2' (fun e => k.d1 e.symm)
    have d2 := d1.frp F2' (fun e => k.d2 e.symm)
    refine drew_ ?_
    unfold Hold
    refine ldS c2.drew (a := some ⟨bd, 0, none⟩) (l := 72) (c := 72) rfl (blockOf_spec ⟨holdS c2.drew c2.drew, ix rfl (by omega) (by show ((ws.length : Nat) : Int) < 72; omega) ?_⟩)
    rw [o1]
    refine st1 d2.drew (by simp; omega) fun w3 c3 f3 s3 => ?_
    rw [strs_set] at c3
    have F3' : FrP (fun c => c = bd) w2 w3 := FrP.of f3 fun c h1 h2 => by omega
    have F : FrP (wO l bn bd) w w3 := ((F1'.mono fun c h => .inr (.inl h)).trans (F2'.mono fun c h => .inl h)).trans (F3'.mono fun c h => .inr (.inr h))
    have hwl : (wput ws b (blockOf x)).length = ws.length + 1 := by rw [hwp]; simp
    refine hK w3 ⟨Od, bn, bd, ⟨?_, ⟨_, nn2.frp F3' k.d3, by simpa using n2, ?_⟩, ⟨_, c3, by simpa using m2, ?_⟩, k.d1, k.d2, k.d3, k.ok.put hb hx, fun h => by cases h⟩, q.frp F fun c hc => dj c hc, dj, hz, rfl⟩ (F.mono fun c hc => .inl hc)
    · rw [hwl]; exact c2.frp F3' k.d2
    · rw [hwl, hwp, List.map_append, ← n3, take_succ_get (x := ((b : Nat) : Int)) (by rw [List.getElem?_set_self (by omega)]), List.take_set_of_le (Nat.le_refl _)]; rfl
    · rw [hwl, hwp, List.map_append, ← m3, take_succ_get (x := blockOf x) (by rw [List.getElem?_set_self (by omega)]), List.take_set_of_le (Nat.le_refl _)]; rfl
end Go.Proofs.Qxb6500564aGreat
