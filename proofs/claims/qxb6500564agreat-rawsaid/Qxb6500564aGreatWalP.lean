/-
  The disk and the log, plain: what a commit writes, what a cut leaves, what the recovery makes of it.
-/
import Derived.Test.Qxb6500564aGreatOwn
namespace Go.Proofs.Qxb6500564aGreat
open Go.Den Go.Zip
set_option linter.unusedVariables false
set_option linter.unusedSimpArgs false

abbrev Bk := ByteArray
theorem blk0_size : blk0.size = 128 := by unfold blk0; simp [ByteArray.size]
theorem bt_blk0 : bt blk0 = List.replicate 128 0 := by
  unfold bt blk0
  simp
/-- A block of any string. -/
def blockOf (s : Bk) : Bk := if 128 ≤ s.size then s.extract 0 128 else s ++ blk0.extract s.size 128
theorem blockOf_size (s : Bk) : (blockOf s).size = 128 := by
  unfold blockOf
  split
  · rw [ByteArray.size_extract]; omega
  · rw [ByteArray.size_append, ByteArray.size_extract, blk0_size]; omega
theorem blockOf_id {s : Bk} (h : s.size = 128) : blockOf s = s := by
  unfold blockOf
  rw [if_pos (by omega)]
  apply bt_inj
  rw [bt_extract, List.drop_zero]
  exact List.take_of_length_le (by simp [h])
/-- A write: the block's number, its content. -/
abbrev Wr := Nat × Bk
def appl (D : List Bk) : List Wr → List Bk
  | [] => D
  | q :: r => appl (D.set q.1 q.2) r
theorem appl_app : ∀ (a b : List Wr) (D : List Bk), appl D (a ++ b) = appl (appl D a) b
  | [], b, D => rfl
  | q :: a, b, D => appl_app a b _
theorem appl_len : ∀ (a : List Wr) (D : List Bk), (appl D a).length = D.length
  | [], D => rfl
  | q :: a, D => by show (appl (D.set q.1 q.2) a).length = _; rw [appl_len a]; simp
/-- The last write to a place. -/
def lastW : List Wr → Nat → Option Bk
  | [], _ => none
  | q :: r, p => match lastW r p with
    | some x => some x
    | none => if q.1 = p then some q.2 else none
theorem appl_get : ∀ (a : List Wr) (D : List Bk) (p : Nat), (appl D a)[p]? = if p < D.length then some ((lastW a p).getD (D.getD p blk0)) else none
  | [], D, p => by
    show D[p]? = _
    split
    · rename_i h
      rw [List.getElem?_eq_getElem h]
      simp [lastW, List.getD, h]
    · rename_i h
      exact List.getElem?_eq_none (by omega)
  | q :: a, D, p => by
    show (appl (D.set q.1 q.2) a)[p]? = _
    rw [appl_get a, List.length_set]
    split
    · rename_i h
      congr 1
      show _ = (match lastW a p with | some x => some x | none => if q.1 = p then some q.2 else none).getD _
      cases lastW a p with
      | some x => rfl
      | none =>
        show (D.set q.1 q.2).getD p blk0 = (if q.1 = p then some q.2 else none).getD _
        by_cases e : q.1 = p
        · subst e; simp [List.getD, h]
        · rw [if_neg e]
          show _ = D.getD p blk0
          simp only [List.getD]
          rw [List.getElem?_set_ne e]
    · rfl
theorem lastW_none {a : List Wr} {p : Nat} (h : ∀ q ∈ a, q.1 ≠ p) : lastW a p = none := by
  induction a with
  | nil => rfl
  | cons q a ih =>
    show (match lastW a p with | some x => some x | none => if q.1 = p then some q.2 else none) = none
    rw [ih fun q' hq => h q' (.tail _ hq)]
    exact if_neg (h q (.head _))
theorem lastW_app (a b : List Wr) (p : Nat) : lastW (a ++ b) p = (lastW b p).or (lastW a p) := by
  induction a with
  | nil => show lastW b p = _; cases lastW b p <;> rfl
  | cons q a ih =>
    show (match lastW (a ++ b) p with | some x => some x | none => if q.1 = p then some q.2 else none) = (lastW b p).or (match lastW a p with | some x => some x | none => if q.1 = p then some q.2 else none)
    rw [ih]
    cases lastW b p <;> cases lastW a p <;> rfl
/-- A part of the writes, and then all of them. -/
theorem lastW_again (a : List Wr) (t : Nat) (p : Nat) : lastW (a.take t ++ a) p = lastW a p := by
  rw [lastW_app]
  cases h : lastW a p with
  | some x => rfl
  | none =>
    show lastW (a.take t) p = none
    have h' := h
    rw [← List.take_append_drop t a, lastW_app] at h'
    cases h2 : lastW (a.drop t) p with
    | some x => rw [h2] at h'; cases h'
    | none => rw [h2] at h'; exact h'
def byteAt (x : Bk) (i : Nat) : Nat := (bt x).getD i 0
theorem byteAt_lt (x : Bk) (i : Nat) : byteAt x i < 256 := by
  unfold byteAt
  rcases Nat.lt_or_ge i (bt x).length with h | h
  · rw [List.getD_eq_getElem?_getD, List.getElem?_eq_getElem h]
    exact bt_lt (List.getElem_mem h)
  · rw [List.getD_eq_getElem?_getD, List.getElem?_eq_none h]; decide
theorem byteAt_get {x : Bk} {i : Nat} (h : i < x.size) : (bt x)[i]? = some (byteAt x i) := by
  unfold byteAt
  rw [List.getD_eq_getElem?_getD, List.getElem?_eq_getElem (by simpa using h)]; rfl
theorem byteAt_blk0 (i : Nat) : byteAt blk0 i = 0 := by
  unfold byteAt
  rw [bt_blk0, List.getD_eq_getElem?_getD, List.getElem?_replicate]
  split <;> rfl
/-- All numbers that a header names are numbers of blocks. -/
def namesOk (h : Bk) : Nat → Bool
  | 0 => true
  | n + 1 => namesOk h n && decide (byteAt h (1 + n) < 80)
theorem namesOk_iff (h : Bk) : ∀ n, namesOk h n = true ↔ ∀ i, i < n → byteAt h (1 + i) < 80
  | 0 => ⟨fun _ i hi => by omega, fun _ => rfl⟩
  | n + 1 => by
    show (namesOk h n && decide (byteAt h (1 + n) < 80)) = true ↔ _
    rw [Bool.and_eq_true, namesOk_iff h n, decide_eq_true_eq]
    exact ⟨fun ⟨a, b⟩ i hi => by rcases (by omega : i < n ∨ i = n) with h | rfl; exact a i h; exact b, fun a => ⟨fun i hi => a i (by omega), a n (by omega)⟩⟩
/-- How many slots a header names. -/
def lgd (h : Bk) : Nat := if h.size ≠ 128 then 0 else if 72 < byteAt h 0 then 0 else if namesOk h (byteAt h 0) then byteAt h 0 else 0
theorem lgd_ok {h : Bk} {i : Nat} (hi : i < lgd h) : byteAt h (1 + i) < 80 ∧ lgd h ≤ 72 ∧ h.size = 128 := by
  unfold lgd at *
  split at hi
  · omega
  · split at hi
    · omega
    · split at hi
      · rename_i h1 h2 h3
        rw [if_neg h1, if_neg h2, if_pos h3]
        exact ⟨(namesOk_iff h _).1 h3 i hi, by omega, by omega⟩
      · omega
theorem lgd_le (h : Bk) : lgd h ≤ 72 := by
  unfold lgd
  split
  · omega
  · split
    · omega
    · split <;> omega
/-- What the recovery writes. -/
def instH (D : List Bk) (h : Bk) : List Wr := (List.range (lgd h)).map fun i => (73 + byteAt h (1 + i), D.getD (1 + i) blk0)
def instW (D : List Bk) (h : Bk) : List Wr := instH D h ++ [(0, blk0)]
def hd0 (D : List Bk) : Bk := D.getD 0 blk0
/-- The recovery. -/
def rcv (D : List Bk) : List Bk := if byteAt (hd0 D) 0 ≠ 0 then appl D (instW D (hd0 D)) else D
/-- The homes. -/
def hm (D : List Bk) : List Bk := D.drop 73
theorem hm_ext {D D' : List Bk} (hl : D.length = D'.length) (h : ∀ p, 73 ≤ p → D[p]? = D'[p]?) : hm D = hm D' := by
  unfold hm
  apply List.ext_getElem?
  intro i
  rw [List.getElem?_drop, List.getElem?_drop]
  exact h _ (by omega)
theorem hm_appl {D : List Bk} {a b : List Wr} (h : ∀ p, 73 ≤ p → lastW a p = lastW b p) : hm (appl D a) = hm (appl D b) :=
  hm_ext (by rw [appl_len, appl_len]) fun p hp => by rw [appl_get, appl_get, h p hp]
theorem hm_low {D : List Bk} {a : List Wr} (h : ∀ q ∈ a, q.1 < 73) : hm (appl D a) = hm D :=
  hm_appl (b := []) fun p hp => lastW_none fun q hq e => by have := h q hq; omega
theorem instH_hi {D : List Bk} {h : Bk} : ∀ q ∈ instH D h, 73 ≤ q.1 ∧ q.1 < 153 := by
  intro q hq
  unfold instH at hq
  obtain ⟨i, hi, rfl⟩ := List.mem_map.1 hq
  have := (lgd_ok (List.mem_range.1 hi)).1
  exact ⟨by show 73 ≤ 73 + _; omega, by show 73 + _ < 153; omega⟩
theorem getD_appl {D : List Bk} {a : List Wr} {p : Nat} (h : p < D.length) : (appl D a).getD p blk0 = (lastW a p).getD (D.getD p blk0) := by
  rw [List.getD_eq_getElem?_getD, appl_get, if_pos h]; rfl
theorem instH_congr {D D' : List Bk} {h : Bk} (e : ∀ i, i < 72 → D.getD (1 + i) blk0 = D'.getD (1 + i) blk0) : instH D h = instH D' h := by
  unfold instH
  refine List.map_congr_left fun i hi => ?_
  rw [e i (by have := List.mem_range.1 hi; have := lgd_le h; omega)]
/-- The recovery, cut anywhere and run again, comes to the same. -/
theorem rcv_again {D : List Bk} (hl : D.length = 153) (hz : byteAt (hd0 D) 0 ≠ 0) (t : Nat) : hm (rcv (appl D ((instW D (hd0 D)).take t))) = hm (rcv D) := by
  have e0 : hm (rcv D) = hm (appl D (instH D (hd0 D))) := by
    unfold rcv instW
    rw [if_pos hz, appl_app]
    exact hm_low (a := [(0, blk0)]) fun q hq => by rw [List.mem_singleton.1 hq]; decide
  rw [e0]
  have hlen : (instH D (hd0 D)).length = lgd (hd0 D) := by unfold instH; simp
  rcases Nat.lt_or_ge (instH D (hd0 D)).length t with h | h
  · -- all of it
    have : (instW D (hd0 D)).take t = instW D (hd0 D) := List.take_of_length_le (by unfold instW; rw [List.length_append, List.length_singleton]; omega)
    rw [this]
    have hd : hd0 (appl D (instW D (hd0 D))) = blk0 := by
      unfold hd0
      rw [getD_appl (by omega)]
      unfold instW
      rw [lastW_app]
      rfl
    unfold rcv
    rw [hd, byteAt_blk0, if_neg (by decide)]
    unfold instW
    rw [appl_app]
    exact hm_low (a := [(0, blk0)]) fun q hq => by rw [List.mem_singleton.1 hq]; decide
  · have ht : (instW D (hd0 D)).take t = (instH D (hd0 D)).take t := by unfold instW; rw [List.take_append_of_le_length h]
    rw [ht]
    have lo : ∀ p, p < 73 → (appl D ((instH D (hd0 D)).take t)).getD p blk0 = D.getD p blk0 := fun p hp => by
      rw [getD_appl (by omega), lastW_none fun q hq e => by have := (instH_hi q (List.mem_of_mem_take hq)).1; omega]; rfl
    have hd : hd0 (appl D ((instH D (hd0 D)).take t)) = hd0 D := lo 0 (by omega)
    unfold rcv
    rw [hd, if_pos hz]
    unfold instW
    rw [instH_congr (D' := D) fun i hi => lo _ (by omega), appl_app, ← appl_app ((instH D (hd0 D)).take t)]
    rw [hm_low (a := [(0, blk0)]) fun q hq => by rw [List.mem_singleton.1 hq]; decide]
    exact hm_appl fun p _ => lastW_again _ _ _
/-! ### A commit -/
structure WsOk (ws : List Wr) : Prop where
  len : ws.length ≤ 72
  num : ∀ q ∈ ws, q.1 < 80
  siz : ∀ q ∈ ws, q.2.size = 128
def slotW (ws : List Wr) : List Wr := (List.range ws.length).map fun i => (1 + i, (ws.getD i (0, blk0)).2)
def hdL (ws : List Wr) : List Nat := (ws.length :: ws.map (·.1)) ++ List.replicate (127 - ws.length) 0
def hdr (ws : List Wr) : Bk := strOf (hdL ws)
def homeW (ws : List Wr) : List Wr := ws.map fun q => (73 + q.1, q.2)
def comW (ws : List Wr) : List Wr := slotW ws ++ [(0, hdr ws)] ++ homeW ws ++ [(0, blk0)]
theorem hdL_lt {ws : List Wr} (h : WsOk ws) : ∀ x ∈ hdL ws, x < 256 := by
  intro x hx
  unfold hdL at hx
  rcases List.mem_append.1 hx with hx | hx
  · rcases List.mem_cons.1 hx with rfl | hx
    · have := h.len; omega
    · obtain ⟨q, hq, rfl⟩ := List.mem_map.1 hx
      have := h.num q hq; omega
  · rw [(List.mem_replicate.1 hx).2]; omega
theorem hdL_len {ws : List Wr} (h : WsOk ws) : (hdL ws).length = 128 := by
  unfold hdL
  have := h.len
  simp
  omega
theorem hdr_size {ws : List Wr} (h : WsOk ws) : (hdr ws).size = 128 := by unfold hdr; rw [strOf_size, hdL_len h]
theorem hdr_byte {ws : List Wr} (h : WsOk ws) (i : Nat) : byteAt (hdr ws) i = (hdL ws).getD i 0 := by unfold byteAt hdr; rw [bt_strOf (hdL_lt h)]
theorem hdr_n {ws : List Wr} (h : WsOk ws) : byteAt (hdr ws) 0 = ws.length := by rw [hdr_byte h]; rfl
theorem hdr_i {ws : List Wr} (h : WsOk ws) {i : Nat} (hi : i < ws.length) : byteAt (hdr ws) (1 + i) = (ws.getD i (0, blk0)).1 := by
  rw [hdr_byte h]
  unfold hdL
  rw [List.getD_eq_getElem?_getD, List.getElem?_append_left (by simp; omega), Nat.add_comm 1 i, List.getElem?_cons_succ, List.getElem?_map, List.getD_eq_getElem?_getD]
  rw [List.getElem?_eq_getElem hi]; rfl
theorem hdr_lgd {ws : List Wr} (h : WsOk ws) : lgd (hdr ws) = ws.length := by
  unfold lgd
  rw [if_neg (by rw [hdr_size h]; simp), hdr_n h, if_neg (by have := h.len; omega), if_pos]
  rw [namesOk_iff]
  intro i hi
  rw [hdr_i h hi]
  refine h.num _ ?_
  rw [List.getD_eq_getElem?_getD, List.getElem?_eq_getElem hi]
  exact List.getElem_mem hi
theorem slotW_lo {ws : List Wr} (h : ws.length ≤ 72) : ∀ q ∈ slotW ws, 1 ≤ q.1 ∧ q.1 < 73 := by
  intro q hq
  unfold slotW at hq
  obtain ⟨i, hi, rfl⟩ := List.mem_map.1 hq
  have := List.mem_range.1 hi
  exact ⟨by show 1 ≤ 1 + i; omega, by show 1 + i < 73; omega⟩
theorem homeW_hi {ws : List Wr} : ∀ q ∈ homeW ws, 73 ≤ q.1 := by
  intro q hq
  unfold homeW at hq
  obtain ⟨i, hi, rfl⟩ := List.mem_map.1 hq
  show 73 ≤ 73 + _
  omega
theorem slotW_len (ws : List Wr) : (slotW ws).length = ws.length := by unfold slotW; simp
theorem homeW_len (ws : List Wr) : (homeW ws).length = ws.length := by unfold homeW; simp
theorem lastW_nodup : ∀ {a : List Wr} {q : Wr}, q ∈ a → (∀ x ∈ a, x.1 = q.1 → x = q) → lastW a q.1 = some q.2
  | x :: a, q, h, hd => by
    show (match lastW a q.1 with | some y => some y | none => if x.1 = q.1 then some x.2 else none) = _
    by_cases hq : q ∈ a
    · rw [lastW_nodup hq fun y hy => hd y (.tail _ hy)]
    · rcases List.mem_cons.1 h with rfl | h
      · rw [lastW_none fun y hy e => hq (by rw [← hd y (.tail _ hy) e]; exact hy)]
        exact if_pos rfl
      · exact absurd h hq
theorem slot_get {ws : List Wr} {i : Nat} (hi : i < ws.length) : lastW (slotW ws) (1 + i) = some (ws.getD i (0, blk0)).2 := by
  refine lastW_nodup (q := (1 + i, (ws.getD i (0, blk0)).2)) (List.mem_map.2 ⟨i, List.mem_range.2 hi, rfl⟩) fun x hx e => ?_
  obtain ⟨j, hj, rfl⟩ := List.mem_map.1 hx
  have e : 1 + j = 1 + i := e
  have : j = i := by omega
  subst this; rfl
/-- A cut in the midst of a commit: the homes as they were, or as they come to be. -/
theorem com_cut {D : List Bk} {ws : List Wr} (hl : D.length = 153) (hz : byteAt (hd0 D) 0 = 0) (h : WsOk ws) (hn : 0 < ws.length) (t : Nat) :
    (t ≤ ws.length → hm (rcv (appl D ((comW ws).take t))) = hm D) ∧ (ws.length < t → hm (rcv (appl D ((comW ws).take t))) = hm (appl D (homeW ws))) := by
  have hln := h.len
  refine ⟨fun ht => ?_, fun ht => ?_⟩
  · -- the slots alone
    have e1 : (comW ws).take t = (slotW ws).take t := by
      unfold comW
      rw [List.append_assoc, List.append_assoc, List.take_append_of_le_length (by rw [slotW_len]; exact ht)]
    rw [e1]
    have lo : ∀ q ∈ (slotW ws).take t, 1 ≤ q.1 ∧ q.1 < 73 := fun q hq => slotW_lo hln q (List.mem_of_mem_take hq)
    have hd : hd0 (appl D ((slotW ws).take t)) = hd0 D := by
      unfold hd0
      rw [getD_appl (by omega), lastW_none fun q hq e => by have := (lo q hq).1; omega]; rfl
    unfold rcv
    rw [hd, if_neg (by simp [hz])]
    exact hm_low fun q hq => (lo q hq).2
  · obtain ⟨s, rfl⟩ : ∃ s, t = ws.length + 1 + s := ⟨t - ws.length - 1, by omega⟩
    have e1 : (comW ws).take (ws.length + 1 + s) = slotW ws ++ [(0, hdr ws)] ++ (homeW ws ++ [(0, blk0)]).take s := by
      unfold comW
      rw [List.append_assoc (slotW ws ++ [(0, hdr ws)])]
      rw [List.take_append]
      rw [List.take_of_length_le (by rw [List.length_append, slotW_len, List.length_singleton]; omega), List.length_append, slotW_len, List.length_singleton, show ws.length + 1 + s - (ws.length + 1) = s by omega]
    rw [e1]
    rcases Nat.lt_or_ge (homeW ws).length s with hs | hs
    · -- all of it
      rw [List.take_of_length_le (by rw [List.length_append, List.length_singleton]; omega)]
      have hd : hd0 (appl D (slotW ws ++ [(0, hdr ws)] ++ (homeW ws ++ [(0, blk0)]))) = blk0 := by
        unfold hd0
        rw [getD_appl (by omega), lastW_app, lastW_app (homeW ws)]; rfl
      unfold rcv
      rw [hd, byteAt_blk0, if_neg (by decide)]
      refine hm_appl fun p hp => ?_
      rw [lastW_app, lastW_app (homeW ws), lastW_none (a := [(0, blk0)]) fun q hq e => by rw [List.mem_singleton.1 hq] at e; simp at e; omega]
      rw [lastW_app (slotW ws), lastW_none (a := [(0, hdr ws)]) fun q hq e => by rw [List.mem_singleton.1 hq] at e; simp at e; omega]
      rw [lastW_none (a := slotW ws) fun q hq e => by have := (slotW_lo hln q hq).2; omega]
      cases lastW (homeW ws) p <;> rfl
    · rw [List.take_append_of_le_length hs]
      have hlast : ∀ p, p < 73 → lastW (slotW ws ++ [(0, hdr ws)] ++ (homeW ws).take s) p = (lastW [(0, hdr ws)] p).or (lastW (slotW ws) p) := fun p hp => by
        rw [lastW_app, lastW_none (a := (homeW ws).take s) fun q hq e => by have := homeW_hi q (List.mem_of_mem_take hq); omega, lastW_app]; rfl
      have hd : hd0 (appl D (slotW ws ++ [(0, hdr ws)] ++ (homeW ws).take s)) = hdr ws := by
        unfold hd0
        rw [getD_appl (by omega), hlast 0 (by omega)]; rfl
      unfold rcv
      rw [hd, hdr_n h, if_pos (by omega)]
      have ei : instH (appl D (slotW ws ++ [(0, hdr ws)] ++ (homeW ws).take s)) (hdr ws) = homeW ws := by
        have hw : ∀ i, (homeW ws)[i]? = ws[i]?.map (fun q : Wr => ((73 + q.1, q.2) : Wr)) := fun i => List.getElem?_map ..
        unfold instH
        rw [hdr_lgd h]
        apply List.ext_getElem?
        intro i
        rw [List.getElem?_map, hw]
        rcases Nat.lt_or_ge i ws.length with hi | hi
        · rw [List.getElem?_range hi, List.getElem?_eq_getElem hi]
          show some (73 + byteAt (hdr ws) (1 + i), _) = some (73 + ws[i].1, ws[i].2)
          have e2 : ws.getD i (0, blk0) = ws[i] := by rw [List.getD_eq_getElem?_getD, List.getElem?_eq_getElem hi]; rfl
          rw [hdr_i h hi, e2, getD_appl (by omega), hlast _ (by omega), lastW_none (a := [(0, hdr ws)]) fun q hq e => by rw [List.mem_singleton.1 hq] at e; simp at e; omega]
          show some (73 + ws[i].1, ((lastW (slotW ws) (1 + i))).getD _) = _
          rw [slot_get hi, e2]; rfl
        · rw [List.getElem?_eq_none (by simpa using hi), List.getElem?_eq_none hi]; rfl
      unfold instW
      rw [ei, appl_app, hm_low (a := [(0, blk0)]) fun q hq => by rw [List.mem_singleton.1 hq]; decide]
      rw [appl_app (slotW ws ++ [(0, hdr ws)]), ← appl_app ((homeW ws).take s)]
      have e3 : hm (appl (appl D (slotW ws ++ [(0, hdr ws)])) (List.take s (homeW ws) ++ homeW ws)) = hm (appl (appl D (slotW ws ++ [(0, hdr ws)])) (homeW ws)) := hm_appl fun p _ => lastW_again _ _ _
      rw [e3, ← appl_app]
      refine hm_appl fun p hp => ?_
      rw [lastW_app, lastW_app, lastW_none (a := [(0, hdr ws)]) fun q hq e => by rw [List.mem_singleton.1 hq] at e; simp at e; omega, lastW_none (a := slotW ws) fun q hq e => by have := (slotW_lo hln q hq).2; omega]
      cases lastW (homeW ws) p <;> rfl
end Go.Proofs.Qxb6500564aGreat
