/-
  The store's scan answers ScanR.
-/
import Derived.Test.Qxb6500564aGreatTcF
namespace Go.Proofs.Qxb6500564aGreat
open Go.Den Go.Zip
set_option linter.unusedVariables false
set_option linter.unusedSimpArgs false
variable {T : Nat → Option Es} {xs : List Th} {tb : Tb} {k nm : ByteArray} {vs : List Vl} {lo hi : Bd} {es : Es}

theorem span_mem {fr up : ByteArray} {cap : Bool} {e : ByteArray × ByteArray} (hs : Srt es) (hf : ∀ a ∈ es, ∀ b ∈ es, sl a.1 b.1 = true → sl (frontP b.1) (frontP a.1) = false) :
    e ∈ spanP es fr cap up ↔ e ∈ es ∧ sl e.1 fr = false ∧ (!cap || !sl up (frontP e.1)) = true := by
  unfold spanP
  have h1 : es.Pairwise (fun a b => (fun e : ByteArray × ByteArray => sl e.1 fr) b = true → (fun e : ByteArray × ByteArray => sl e.1 fr) a = true) := List.Pairwise.imp_of_mem (fun {a b} _ _ h hb => sl_trans h hb) hs
  have h2 : es.Pairwise (fun a b => (fun e : ByteArray × ByteArray => !cap || !sl up (frontP e.1)) b = true → (fun e : ByteArray × ByteArray => !cap || !sl up (frontP e.1)) a = true) := List.Pairwise.imp_of_mem (fun {a b} ma mb h hb => by
    have := hf a ma b mb h
    cases cap with
    | false => rfl
    | true =>
      simp only [Bool.not_true, Bool.false_or, Bool.not_eq_true'] at hb ⊢
      cases hh : sl up (frontP a.1) with
      | false => rfl
      | true => rw [sl_lt_le hh this] at hb; cases hb) hs
  rw [mem_tw (h2.sublist (List.dropWhile_sublist _)), mem_dw h1]
  constructor
  · exact fun h => ⟨h.1.1, h.1.2, h.2⟩
  · exact fun h => ⟨⟨h.1, h.2.1⟩, h.2.2⟩
theorem front8 (h : k.size = 8) : frontP k = k := by unfold frontP; rw [if_neg (by omega)]
theorem front16 {a b : ByteArray} (ha : a.size = 8) (hb : b.size = 8) : frontP (a ++ b) = a := by
  have hs : (a ++ b).size = 16 := by rw [ByteArray.size_append]; omega
  unfold frontP
  rw [if_pos (by omega)]
  apply bt_inj
  rw [bt_extract, bt_append]
  have la : (bt a).length = 8 := by rw [bt_len, ha]
  rw [List.drop_zero, Nat.sub_zero, ← la, List.take_left']
  rfl
theorem sl_nil (a : ByteArray) : sl a ⟨#[]⟩ = false := by
  rw [sl_bt]
  show lexN (bt a) [] = false
  cases bt a <;> rfl
/-- A bound's code against a value's code. -/
theorem bd_lo {v : Vl} (hv : VOk v) (h : lo.has = true → VOk lo.v ∧ lo.v.st = v.st) : sl (codeV v) (bdC lo) = (lo.has && vl v lo.v) := by
  unfold bdC
  cases hh : lo.has with
  | true =>
    have := h hh
    rw [if_pos rfl, codeV_sl hv this.1 this.2.symm, vl_same this.2.symm]; rfl
  | false => rw [if_neg (by simp), sl_nil]; rfl
theorem bd_hi {v : Vl} (hv : VOk v) (h : hi.has = true → VOk hi.v ∧ hi.v.st = v.st) : (!hi.has || !sl (bdC hi) (codeV v)) = (!hi.has || !vl hi.v v) := by
  unfold bdC
  cases hh : hi.has with
  | true =>
    have := h hh
    rw [if_pos rfl, codeV_sl this.1 hv this.2, vl_same this.2]
  | false => rfl
theorem inB_of {v : Vl} : (sl (codeV v) (bdC lo) = false ∧ (!hi.has || !sl (bdC hi) (codeV v)) = true) ↔ ((!sl (codeV v) (bdC lo)) && (!hi.has || !sl (bdC hi) (codeV v))) = true := by
  rw [Bool.and_eq_true, Bool.not_eq_true']
theorem scan0 {col : Int} (h : scanE tb col lo hi = 0) : (0 ≤ col ∧ col < tb.cols.length) ∧ (col = tb.pk ∨ col = tb.ix) ∧ (lo.has = true → lo.v.st = (tb.cols.getD col.toNat c0).st ∧ lo.v.s.size ≤ 7) ∧ (hi.has = true → hi.v.st = (tb.cols.getD col.toNat c0).st ∧ hi.v.s.size ≤ 7) := by
  unfold scanE at h
  by_cases h1 : col < 0 ∨ col ≥ tb.cols.length
  · rw [if_pos h1] at h; cases h
  rw [if_neg h1] at h
  by_cases h2 : col ≠ tb.pk ∧ col ≠ tb.ix
  · rw [if_pos h2] at h; cases h
  rw [if_neg h2] at h
  by_cases h3 : (lo.has = true ∧ lo.v.st ≠ (tb.cols.getD col.toNat c0).st) ∨ (hi.has = true ∧ hi.v.st ≠ (tb.cols.getD col.toNat c0).st)
  · rw [if_pos h3] at h; cases h
  rw [if_neg h3] at h
  by_cases h4 : (lo.has = true ∧ lo.v.s.size > 7) ∨ (hi.has = true ∧ hi.v.s.size > 7)
  · rw [if_pos h4] at h; cases h
  refine ⟨by omega, ?_, fun hl => ⟨?_, ?_⟩, fun hl => ⟨?_, ?_⟩⟩
  · by_cases e : col = tb.pk
    · exact .inl e
    · exact .inr (Classical.byContradiction fun e' => h2 ⟨e, e'⟩)
  · exact Classical.byContradiction fun e => h3 (.inl ⟨hl, e⟩)
  · exact Classical.byContradiction fun e => h4 (.inl ⟨hl, by omega⟩)
  · exact Classical.byContradiction fun e => h3 (.inr ⟨hl, e⟩)
  · exact Classical.byContradiction fun e => h4 (.inr ⟨hl, by omega⟩)
theorem ty_get {cs : List Cl} {r : List Vl} {i : Nat} (h : RowTy cs r) (hi : i < cs.length) : (r.getD i v0).st = (cs.getD i c0).st := by
  have h1 : r[i]? = some (r.getD i v0) := getD_some (by rw [h.1]; exact hi)
  have h2 : cs[i]? = some (cs.getD i c0) := getC_some hi
  exact h.2 i _ _ h1 h2
theorem rk_lt {a b : List Vl} {i : Nat} {cs : List Cl} (hi : i < cs.length) (ha : RowTy cs a ∧ ∀ v ∈ a, VOk v) (hb : RowTy cs b ∧ ∀ v ∈ b, VOk v) : sl (codeV (a.getD i v0)) (codeV (b.getD i v0)) = vl (a.getD i v0) (b.getD i v0) := by
  have e : (a.getD i v0).st = (b.getD i v0).st := by rw [ty_get ha.1 hi, ty_get hb.1 hi]
  rw [codeV_sl (getD_ok ha.2 i) (getD_ok hb.2 i) e, vl_same e]
theorem hitR_rows {y : List Vl} (ok : TbOk tb) (hy : y ∈ tb.rows) : hitR tb (entR tb.pk y) = y := by
  have ok' := ok
  unfold TbOk at ok'
  have hs : (rk tb.pk y).size = 8 := rk_size (ok'.2.2.2.2.2.2.1 y hy).2
  unfold hitR
  show (rowBy tb (backP (rk tb.pk y))).getD _ = _
  rw [back8 hs, rowBy_self (pk := tb.pk) ok hy]; rfl
theorem hitR_idx {y : List Vl} {col : Nat} (ok : TbOk tb) (hy : y ∈ tb.rows) : hitR tb (idxP y col tb.pk, ⟨#[]⟩) = y := by
  have ok' := ok
  unfold TbOk at ok'
  have hv := (ok'.2.2.2.2.2.2.1 y hy).2
  unfold hitR
  show (rowBy tb (backP (codeV _ ++ codeV _))).getD _ = _
  rw [back16 (codeV_size (getD_ok hv col)) (codeV_size (getD_ok hv tb.pk))]
  have := rowBy_self (pk := tb.pk) ok hy
  unfold rk at this
  rw [this]; rfl
theorem scan_rows (ok : TbOk tb) (hml : VMade lo.v) (hmh : VMade hi.v) (h : scanE tb tb.pk lo hi = 0) : ScanR tb.rows tb.pk tb.pk lo hi ((spanP (rowsE tb) (bdC lo) hi.has (bdC hi)).map (hitR tb)) := by
  have ok' := ok
  unfold TbOk at ok'
  have hrow := ok'.2.2.2.2.2.2.1
  have hpk := ok'.2.2.2.1
  obtain ⟨-, -, hl, hh⟩ := scan0 h
  rw [Int.toNat_natCast] at hl hh
  have hsrt : Srt (rowsE tb) := by rw [rowsE_map]; exact RSrt_iff.1 (RSrt_tb ok)
  have h8 : ∀ e ∈ rowsE tb, e.1.size = 8 := fun e he => by
    obtain ⟨y, hy, rfl⟩ := List.mem_map.1 he
    exact codeV_size (getD_ok (hrow y hy).2 _)
  have hf : ∀ a ∈ rowsE tb, ∀ b ∈ rowsE tb, sl a.1 b.1 = true → sl (frontP b.1) (frontP a.1) = false := fun a ha b hb h => by
    rw [front8 (h8 a ha), front8 (h8 b hb)]
    exact sl_asym h
  refine ⟨?_, fun r => ?_⟩
  · rw [List.pairwise_map]
    refine List.Pairwise.imp_of_mem (fun {a b} ha hb hab => ?_) (hsrt.sublist (((List.takeWhile_sublist _)).trans (List.dropWhile_sublist _)))
    obtain ⟨y, hy, rfl⟩ := List.mem_map.1 (span_sub ha)
    obtain ⟨z, hz, rfl⟩ := List.mem_map.1 (span_sub hb)
    have e1 := hitR_rows ok hy
    have e2 := hitR_rows ok hz
    unfold entR rk at e1 e2
    rw [e1, e2]
    refine .inl ?_
    rw [← rk_lt hpk (hrow y hy) (hrow z hz)]
    exact hab
  · have key : ∀ y ∈ tb.rows, (entR tb.pk y ∈ spanP (rowsE tb) (bdC lo) hi.has (bdC hi) ↔ inB lo hi (y.getD tb.pk v0) = true) := fun y hy => by
      have hv := getD_ok (hrow y hy).2 tb.pk
      have hst := ty_get (hrow y hy).1 hpk
      rw [span_mem hsrt hf]
      show _ ∧ sl (codeV _) _ = false ∧ (!hi.has || !sl (bdC hi) (frontP (codeV _))) = true ↔ _
      rw [front8 (codeV_size hv), bd_lo hv fun e => ⟨made_vok hml (hl e).2, by rw [(hl e).1, hst]⟩, bd_hi hv fun e => ⟨made_vok hmh (hh e).2, by rw [(hh e).1, hst]⟩]
      unfold inB
      rw [Bool.and_eq_true]
      constructor
      · rintro ⟨_, h1, h2⟩
        refine ⟨?_, h2⟩
        cases hlh : lo.has <;> simp [hlh] at h1 ⊢
        exact h1
      · rintro ⟨h1, h2⟩
        refine ⟨List.mem_map.2 ⟨y, hy, rfl⟩, ?_, h2⟩
        cases hlh : lo.has <;> simp [hlh] at h1 ⊢
        exact h1
    rw [List.mem_map]
    constructor
    · rintro ⟨e, he, rfl⟩
      obtain ⟨y, hy, rfl⟩ := List.mem_map.1 (span_sub he)
      have e1 := hitR_rows ok hy
      unfold entR rk at e1
      rw [e1]
      exact ⟨hy, (key y hy).1 he⟩
    · rintro ⟨hy, h⟩
      exact ⟨_, (key r hy).2 h, hitR_rows ok hy⟩
theorem idx_sl {a b : List Vl} {col pk : Nat} (ha : ∀ v ∈ a, VOk v) (hb : ∀ v ∈ b, VOk v) : sl (idxP a col pk) (idxP b col pk) = (sl (codeV (a.getD col v0)) (codeV (b.getD col v0)) || (decide (codeV (a.getD col v0) = codeV (b.getD col v0)) && sl (codeV (a.getD pk v0)) (codeV (b.getD pk v0)))) := by
  have hl : (bt (codeV (a.getD col v0))).length = (bt (codeV (b.getD col v0))).length := by rw [bt_len, bt_len, codeV_size (getD_ok ha _), codeV_size (getD_ok hb _)]
  unfold idxP
  rw [sl_bt, bt_append, bt_append, lex_app _ _ hl, ← sl_bt, ← sl_bt]
  congr 2
  rw [decide_eq_decide]
  exact ⟨fun h => bt_inj h, fun h => by rw [h]⟩
theorem idx_lo {a : List Vl} {col pk : Nat} {x : ByteArray} (ha : ∀ v ∈ a, VOk v) (hx : x.size = 8 ∨ x = ⟨#[]⟩) : sl (idxP a col pk) x = sl (codeV (a.getD col v0)) x := by
  rcases hx with hx | rfl
  · have hl : (bt (codeV (a.getD col v0))).length = (bt x).length := by rw [bt_len, bt_len, codeV_size (getD_ok ha _), hx]
    unfold idxP
    have := lex_app (bt (codeV (a.getD pk v0))) [] hl
    rw [List.append_nil] at this
    rw [sl_bt, bt_append, this, ← sl_bt]
    have : lexN (bt (codeV (a.getD pk v0))) [] = false := by cases bt (codeV (a.getD pk v0)) <;> rfl
    rw [this, Bool.and_false, Bool.or_false]
  · rw [sl_nil, sl_nil]
theorem scan_idx (ok : TbOk tb) (hx : IdxOf tb es) (hml : VMade lo.v) (hmh : VMade hi.v) (h0 : 0 ≤ tb.ix) (h : scanE tb tb.ix lo hi = 0) : ScanR tb.rows tb.ix.toNat tb.pk lo hi ((spanP es (bdC lo) hi.has (bdC hi)).map (hitR tb)) := by
  have ok' := ok
  unfold TbOk at ok'
  have hrow := ok'.2.2.2.2.2.2.1
  have hpk := ok'.2.2.2.1
  obtain ⟨hc, -, hl, hh⟩ := scan0 h
  have hix : tb.ix.toNat < tb.cols.length := by omega
  have hsz : ∀ b : Bd, VMade b.v → (b.has = true → b.v.s.size ≤ 7) → (bdC b).size = 8 ∨ bdC b = ⟨#[]⟩ := fun b hm hb => by
    unfold bdC
    cases hh : b.has with
    | true => exact .inl (codeV_size (made_vok hm (hb hh)))
    | false => exact .inr rfl
  have hf : ∀ a ∈ es, ∀ b ∈ es, sl a.1 b.1 = true → sl (frontP b.1) (frontP a.1) = false := fun a ha b hb h => by
    obtain ⟨y, hy, rfl⟩ := (hx.2 a).1 ha
    obtain ⟨z, hz, rfl⟩ := (hx.2 b).1 hb
    have vy := (hrow y hy).2
    have vz := (hrow z hz).2
    have h : sl (idxP y tb.ix.toNat tb.pk) (idxP z tb.ix.toNat tb.pk) = true := h
    rw [idx_sl vy vz] at h
    show sl (frontP (codeV _ ++ codeV _)) (frontP (codeV _ ++ codeV _)) = false
    rw [front16 (codeV_size (getD_ok vy _)) (codeV_size (getD_ok vy _)), front16 (codeV_size (getD_ok vz _)) (codeV_size (getD_ok vz _))]
    rcases Bool.or_eq_true _ _ ▸ h with h | h
    · exact sl_asym h
    · rw [Bool.and_eq_true] at h
      rw [of_decide_eq_true h.1]
      exact sl_irrefl _
  refine ⟨?_, fun r => ?_⟩
  · rw [List.pairwise_map]
    refine List.Pairwise.imp_of_mem (fun {a b} ha hb hab => ?_) (hx.1.sublist (((List.takeWhile_sublist _)).trans (List.dropWhile_sublist _)))
    obtain ⟨y, hy, rfl⟩ := (hx.2 a).1 (span_sub ha)
    obtain ⟨z, hz, rfl⟩ := (hx.2 b).1 (span_sub hb)
    rw [hitR_idx ok hy, hitR_idx ok hz]
    have vy := (hrow y hy).2
    have vz := (hrow z hz).2
    have hab : sl (idxP y tb.ix.toNat tb.pk) (idxP z tb.ix.toNat tb.pk) = true := hab
    rw [idx_sl vy vz, rk_lt hix (hrow y hy) (hrow z hz), rk_lt hpk (hrow y hy) (hrow z hz)] at hab
    rcases Bool.or_eq_true _ _ ▸ hab with h | h
    · exact .inl h
    · rw [Bool.and_eq_true] at h
      refine .inr ⟨codeV_inj (getD_ok vy _) (getD_ok vz _) ?_ (of_decide_eq_true h.1), h.2⟩
      rw [ty_get (hrow y hy).1 hix, ty_get (hrow z hz).1 hix]
  · have key : ∀ y ∈ tb.rows, ((idxP y tb.ix.toNat tb.pk, (⟨#[]⟩ : ByteArray)) ∈ spanP es (bdC lo) hi.has (bdC hi) ↔ inB lo hi (y.getD tb.ix.toNat v0) = true) := fun y hy => by
      have hv := (hrow y hy).2
      have hst := ty_get (hrow y hy).1 hix
      rw [span_mem hx.1 hf]
      show _ ∧ sl (idxP _ _ _) _ = false ∧ (!hi.has || !sl (bdC hi) (frontP (codeV _ ++ codeV _))) = true ↔ _
      rw [front16 (codeV_size (getD_ok hv _)) (codeV_size (getD_ok hv _)), idx_lo hv (hsz lo hml fun e => (hl e).2), bd_lo (getD_ok hv _) fun e => ⟨made_vok hml (hl e).2, by rw [(hl e).1, hst]⟩, bd_hi (getD_ok hv _) fun e => ⟨made_vok hmh (hh e).2, by rw [(hh e).1, hst]⟩]
      unfold inB
      rw [Bool.and_eq_true]
      constructor
      · rintro ⟨_, h1, h2⟩
        refine ⟨?_, h2⟩
        cases hlh : lo.has <;> simp [hlh] at h1 ⊢
        exact h1
      · rintro ⟨h1, h2⟩
        refine ⟨(hx.2 _).2 ⟨y, hy, rfl⟩, ?_, h2⟩
        cases hlh : lo.has <;> simp [hlh] at h1 ⊢
        exact h1
    rw [List.mem_map]
    constructor
    · rintro ⟨e, he, rfl⟩
      obtain ⟨y, hy, rfl⟩ := (hx.2 e).1 (span_sub he)
      rw [hitR_idx ok hy]
      exact ⟨hy, (key y hy).1 he⟩
    · rintro ⟨hy, h⟩
      exact ⟨_, (key r hy).2 h, hitR_idx ok hy⟩
end Go.Proofs.Qxb6500564aGreat
