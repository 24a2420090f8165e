/-
  The manager: take, View.
-/
import Derived.Test.Qxb6500564aGreatTxH
namespace Go.Proofs.Qxb6500564aGreat
open Go.Den Go.Zip
set_option linter.unusedVariables false
set_option linter.unusedSimpArgs false
variable {dq : Nat}
variable {w w' u v : World} {i j k n t g b : Nat} {D : List Bk} {R : List Wr} {cur cur' : Nat → Bk} {op : Bool} {O Os P : Nat → Prop} {db : Db} {s x : Sl} {nm : ByteArray} {key : Vl} {U : Mu} {r : Rs} {sw : Nat → Sl} {cw : Nat → List CR} {mode : Nat}

theorem RelU.row (h : RelU U r) (ok : UOk U) (hk : k < 4) {c : Ch} (hc : c ∈ r.ws k) : ∃ (i : Nat) (t q : Tb), (U.db 0)[i]? = some t ∧ t.name = c.tab ∧ fnB c.tab (U.db 0) = some t ∧ ChAt t c ∧ (U.db (k + 1))[i]? = some q ∧ sch q = sch t ∧ (c.gone = false → c.row ∈ q.rows) := by
  obtain ⟨t, hf, hat⟩ := (h.wo k hk).ch c hc
  obtain ⟨htm, htn⟩ := fnB_mem hf
  obtain ⟨i, hi⟩ := List.mem_iff_getElem?.1 htm
  have hl2 := h.wl k hk c hc
  have hlk := h.lk k hk i t hi
  rw [htn, hl2] at hlk
  have ha := (ok.la k i hk (by omega)).1
  have hsh := ok.sh k hk ha
  have hil := (List.getElem?_eq_some_iff.1 hi).1
  obtain ⟨q, hq⟩ : ∃ q, (U.db (k + 1))[i]? = some q := ⟨_, List.getElem?_eq_getElem (by have := hsh.len; omega)⟩
  have hs : sch q = sch t := by
    have := congrArg (fun l => l[i]?) (show (U.db (k + 1)).map sch = (U.db 0).map sch from hsh)
    simp only [List.getElem?_map, hq, hi, Option.map_some] at this
    exact Option.some.inj this
  have hse : seenD k i U = k + 1 := by unfold seenD; rw [if_pos hlk]
  refine ⟨i, t, q, hi, htn, hf, hat, hq, hs, fun hg => ?_⟩
  exact (h.sees k hk i t q hi (by rw [hse]; exact hq) c.row).2 (.inr ⟨c, hc, htn.symm, hg, rfl⟩)
def keysOf (db : Db) : List (ByteArray × ByteArray) := db.flatMap fun t => t.rows.map fun y => (t.name, rk t.pk y)
theorem keysOf_len : ∀ {db : Db}, (∀ t ∈ db, t.rows.length ≤ 8) → (keysOf db).length ≤ 8 * db.length
  | [], _ => Nat.le_refl _
  | t :: r, h => by
    have ih := keysOf_len (db := r) fun x hx => h x (by simp [hx])
    have := h t (by simp)
    show ((t.rows.map _) ++ keysOf r).length ≤ _
    rw [List.length_append, List.length_map, List.length_cons]
    omega
theorem RelU.cnt (h : RelU U r) (ok : UOk U) (hk : k < 4) : (r.ws k).length ≤ 48 := by
  have hsm : ∀ l, l < 5 → (keysOf (U.db l)).length ≤ 24 := fun l hl => by
    have h1 := keysOf_len (db := U.db l) fun t ht => by
      have := (ok.d l hl).ok t ht
      unfold TbOk at this
      exact this.2.2.2.2.2.1
    have := (ok.d l hl).len
    omega
  have hnd : ((r.ws k).map fun c => (c.tab, codeV c.key)).Nodup := by
    rw [List.nodup_iff_pairwise_ne, List.pairwise_map]
    refine List.Pairwise.imp_of_mem (fun {a c} ha hc hac e => ?_) (h.wo k hk).srt
    have e1 : a.tab = c.tab := congrArg Prod.fst e
    have e2 : codeV a.key = codeV c.key := congrArg Prod.snd e
    obtain ⟨ta, fa, ca⟩ := (h.wo k hk).ch a ha
    obtain ⟨tc, fc, cc⟩ := (h.wo k hk).ch c hc
    rw [e1, fc] at fa
    cases fa
    exact side_lt_ne hac ⟨e1, codeV_inj ca.ko cc.ko (by rw [ca.kt, cc.kt]) e2⟩
  have := nodup_len (m := keysOf (U.db 0) ++ keysOf (U.db (k + 1))) hnd fun x hx => by
    obtain ⟨c, hc, rfl⟩ := List.mem_map.1 hx
    obtain ⟨i, t, q, hi, htn, hf, hat, hq, hs, hrow⟩ := h.row ok hk hc
    cases hg : c.gone with
    | true =>
      have h2 := (hat.gn hg).2
      unfold rowBy at h2
      rw [List.find?_isSome] at h2
      obtain ⟨y, hy, he⟩ := h2
      refine List.mem_append.2 (.inl (List.mem_flatMap.2 ⟨t, List.mem_of_getElem? hi, List.mem_map.2 ⟨y, hy, ?_⟩⟩))
      rw [htn]
      exact Prod.ext rfl (of_decide_eq_true he)
    | false =>
      have hr := hrow hg
      have h3 := (hat.rw hg).2.2
      refine List.mem_append.2 (.inr (List.mem_flatMap.2 ⟨q, List.mem_of_getElem? hq, List.mem_map.2 ⟨c.row, hr, ?_⟩⟩))
      have hqn : (sch q).name = (sch t).name := by rw [hs]
      have hqp : (sch q).pk = (sch t).pk := by rw [hs]
      have hqn : q.name = t.name := hqn
      have hqp : q.pk = t.pk := hqp
      unfold rk
      rw [hqn, hqp, htn, h3]
  rw [List.length_map, List.length_append] at this
  have h0 := hsm 0 (by omega)
  have h1 := hsm (k + 1) (by omega)
  omega
/-- The manager at g stands for the database with sessions U; no bracket is open. -/
def XV (dq : Nat) (w : World) (g : Nat) (D : List Bk) (R : List Wr) (cur : Nat → Bk) (U : Mu) (O : Nat → Prop) : Prop := ∃ r, GV dq w g D R cur false (U.db 0) r O ∧ RelU U r ∧ UOk U
theorem XV.frp (h : XV dq w g D R cur U O) (F : FrP P w w') (hn : ∀ b, O b → ¬ P b) : XV dq w' g D R cur U O := by
  obtain ⟨r, h1, h2, h3⟩ := h
  exact ⟨r, h1.frp F hn, h2, h3⟩
theorem XV.fr0 (h : XV dq w g D R cur U O) (F : Fr 0 0 w w') : XV dq w' g D R cur U O := h.frp (FrP.of0 (P := fun _ => False) F) fun _ _ h => h
theorem XV.dr (h : XV dq w g D R cur U O) : XV dq w.drew g D R cur U O := h.frp (FrP.refl (fun _ => False) w).drew fun _ _ h => h
theorem XV.lt (h : XV dq w g D R cur U O) {b : Nat} (hb : O b) : b < w.heap.size := by
  obtain ⟨r, h1, _⟩ := h
  exact h1.lt hb
theorem XV.ok (h : XV dq w g D R cur U O) : UOk U := by
  obtain ⟨r, _, _, h3⟩ := h
  exact h3
set_option maxHeartbeats 4000000 in
theorem xtake_spec {s : Int} {K : ByteArray → Sl → Int → Int → Int → World → Prop} (h : XV dq w g D R cur U O) (hmode : mode = 1 ∨ mode = 2)
    (h1 : tkE s nm mode U ≠ 0 → ∀ w', XV dq w' g D R cur U O → FrP O w w' → K ⟨#[]⟩ nilS 0 0 (tkE s nm mode U) w')
    (h2 : ∀ k i x, tkE s nm mode U = 0 → s = (k : Nat) → k < 4 → U.act k = true → fI nm (U.db 0) = some i → fnB nm (U.db 0) = some x → ∀ w' q, XV dq w' g D R cur (tkU k i mode U) O → FrP O w w' → w.heap.size ≤ q → Blk w' q (colC x.cols) → K nm (fullS q x.cols.length) x.pk x.ix 0 w') : S.txn_Mgr_take g s nm (mode : Int) w K := by
  unfold S.txn_Mgr_take
  obtain ⟨r, hg, hr, ok⟩ := h
  obtain ⟨t, Os, sw, cw, h, hO⟩ := hg
  have mk : ∀ {v : World}, GM dq v g t D R cur false Os (U.db 0) r sw cw → XV dq v g D R cur U O := fun {v} hv => ⟨r, ⟨t, Os, sw, cw, hv, hO⟩, hr, ok⟩
  refine newB fun w0 c0' f0 s0 => ?_
  have c0' : Blk w0 w.heap.size (schC ⟨#[]⟩ nilS 0 0) := c0'
  have h0 := h.fr0 f0
  have glt := h.bl.lt
  refine inTxn_spec h0 ?_
  -- what an error answers
  have err : ∀ {e : Int} {u : World} {K' : World → Prop}, tkE s nm mode U = e → e ≠ 0 → GM dq u g t D R cur false Os (U.db 0) r sw cw → FrP Os w u → Blk u w.heap.size (schC ⟨#[]⟩ nilS 0 0) →
      St1 u ⟨w.heap.size, 0, none⟩ (.string ⟨#[]⟩) fun w_1 => St1 w_1 ⟨w.heap.size, 1, none⟩ (.slice none 0 0) fun w_1 => St1 w_1 ⟨w.heap.size, 2, none⟩ (.int .i64 0) fun w_1 => St1 w_1 ⟨w.heap.size, 3, none⟩ (.int .i64 0) fun w_1 => LdStr w_1 ⟨w.heap.size, 0, none⟩ fun a => LdS w_1 ⟨w.heap.size, 1, none⟩ fun b => LdI .i64 w_1 ⟨w.heap.size, 2, none⟩ fun c => LdI .i64 w_1 ⟨w.heap.size, 3, none⟩ fun d => K a b c d e w_1 := fun {e u K'} he hne hu Fu bu => by
    refine st4 (s := nilS) bu rfl fun u2 b2 f2 => rd4 b2 ?_
    have G2 : FrP (fun b => b = w.heap.size) u u2 := FrP.of f2 fun b h1 h2 => by omega
    have hu2 := hu.frp G2 fun b hb (e : b = w.heap.size) => by have := h.lt hb; omega
    have := h1 (by rw [he]; exact hne) u2 (mk hu2) ((Fu.mono fun b hb => (hO b).2 (.inr (.inl hb))).trans' G2 fun b (hb : b = w.heap.size) => .inr (by omega))
    rw [he] at this
    exact this
  have einE : inE s r = (if gs s = false then 20 else if U.act s.toNat = false then 2 else 0) := by
    unfold inE
    cases hgs : gs s with
    | false => rfl
    | true =>
      obtain ⟨k, hk, rfl⟩ := gs_nat hgs
      rw [Int.toNat_natCast, hr.act k hk]
  by_cases hin : inE s r = 0
  · rw [hin, if_neg (by simp)]
    obtain ⟨k, hk, hsk, ha⟩ : ∃ k : Nat, k < 4 ∧ s = (k : Int) ∧ U.act k = true := by
      rw [einE] at hin
      cases hgs : gs s with
      | false => rw [hgs, if_pos rfl] at hin; cases hin
      | true =>
        obtain ⟨k, hk, rfl⟩ := gs_nat hgs
        rw [hgs, if_neg (by simp), Int.toNat_natCast] at hin
        cases ha : U.act k with
        | false => rw [ha, if_pos rfl] at hin; cases hin
        | true => exact ⟨k, hk, rfl, ha⟩
    have hgs : gs s = true := by rw [hsk]; exact decide_eq_true (by omega)
    subst hsk
    have etk : tkE (k : Int) nm mode U = (match fI nm (U.db 0) with | none => 10 | some i => if busyB k i mode U then 21 else 0) := by
      unfold tkE
      rw [hgs, if_neg (by simp), Int.toNat_natCast, ha, if_neg (by simp)]
      cases fI nm (U.db 0) with
      | none => rfl
      | some i => rfl
    refine h0.ld (sschema_spec h0.sv (fun hf w1 sv1 F1 => ?_) fun x hf w1 q sv1 F1 hq b1 => ?_)
    · have hg1 := (h0.sto sv1 ⟨F1, fun b hb => .inl hb⟩).1
      have nOs0 : ¬ Os w.heap.size := fun hb => by have := h.sv.lt hb; omega
      have c1 := c0'.frp F1 nOs0
      refine newB fun w2 a2 f2 s2 => st4 (s := ⟨none, 0, 0⟩) a2 rfl fun w3 b3 f3 => ?_
      rw [if_pos (by simp)]
      have l1 := F1.1.1
      have l0 := f0.1.1
      have f23 : Fr 0 0 w1 w3 := f2.thenNew f3 (Nat.le_refl _)
      exact err (K' := fun _ => True) (by rw [etk, fI_none hf]) (by simp) (hg1.fr0 f23) (((FrP.of0 f0).trans F1).trans (FrP.of0 f23)) (c1.fr f23 (by omega))
    · have hg1 := (h0.sto sv1 ⟨F1, fun b hb => .inl hb⟩).1
      have nOs0 : ¬ Os w.heap.size := fun hb => by have := h.sv.lt hb; omega
      have c1 := c0'.frp F1 nOs0
      refine newB fun w2 a2 f2 s2 => st4 (s := fullS q x.cols.length) a2 rfl fun w3 b3 f3 => ?_
      rw [if_neg (by simp)]
      have l1 := F1.1.1
      have l0 := f0.1.1
      have f23 : Fr 0 0 w1 w3 := f2.thenNew f3 (Nat.le_refl _)
      have g3 := hg1.fr0 f23
      have F3 : FrP Os w w3 := ((FrP.of0 f0).trans F1).trans (FrP.of0 f23)
      have c13 := c1.fr f23 (by omega)
      have bq3 := b1.fr f23 (by omega)
      obtain ⟨i, hfi⟩ : ∃ i, fI nm (U.db 0) = some i := by
        cases hfi : fI nm (U.db 0) with
        | some i => exact ⟨i, rfl⟩
        | none =>
          unfold fI at hfi
          rw [List.findIdx?_eq_none_iff] at hfi
          obtain ⟨a1, a2⟩ := fnB_mem hf
          have := hfi x a1
          simp [a2] at this
      rw [hfi] at etk
      dsimp only at etk
      have ebz := ok.busy (mode := mode) hr hfi hk
      refine slotOf_spec g3 ?_
      -- behind the checks
      refine join_W (fun u => w3 = u ∧ tkE (k : Int) nm mode U = 0) ?_ ?_
      · rintro _ ⟨rfl, etk0⟩
        refine join_P (fun jj u => w3 = u ∧ ∃ j : Nat, jj = j ∧ j < 3 ∧ (sOf nm r.lks = some j ∨ (sOf nm r.lks = none ∧ (r.lks j).used = false))) ?_ ?_
        · rintro _ _ ⟨rfl, j, rfl, hj, hsj⟩
          rw [if_neg (by simp)]
          refine ⟨by omega, by omega, ?_⟩
          rw [Int.toNat_natCast]
          refine st1 g3.bl (by rw [mgC_len]; omega) fun w4 b4 f4 _ => ⟨by omega, by omega, ?_⟩
          rw [mgC_setU hj] at b4
          refine st1 b4 (by rw [mgC_len]; omega) fun w5 b5 f5 _ => ⟨by omega, by omega, ⟨by omega, by omega, ?_⟩⟩
          rw [mgC_setN hj] at b5
          have G5 : FrP (fun b => b = g) w3 w5 := FrP.of (f4.trans f5) fun b h1 h2 => by omega
          have g5 := g3.cel b5 G5
          rw [← Int.toNat_natCast j]
          have fsu : fset (fset r.lks j { r.lks j with used := true }) j { fset r.lks j { r.lks j with used := true } j with name := nm } = fset r.lks j { r.lks j with used := true, name := nm } := by
            rw [fset_eq, fset_fset]
          have emode : (fset (fset r.lks j { r.lks j with used := true }) j { fset r.lks j { r.lks j with used := true } j with name := nm } j).mode k = (r.lks j).mode k := by rw [fsu, fset_eq]
          refine g5.md hj hk ?_
          show Join _ _
          have wg : w.heap.size ≠ g := by omega
          refine join_W (fun u => GM dq u g t D R cur false Os (U.db 0) { r with lks := tkL k j mode nm r.lks } sw cw ∧ FrP (fun b => b = g) w3 u) ?_ ?_
          · rintro u ⟨gu, Gu⟩
            have b3u := b3.frp Gu fun (e : w1.heap.size = g) => by omega
            have c13u := c13.frp Gu fun (e : w.heap.size = g) => by omega
            have bqu := bq3.frp Gu fun (e : q = g) => by omega
            refine rd4 b3u (st4 (s := fullS q x.cols.length) c13u rfl fun u2 b2 t2 => rd4 b2 ?_)
            have G2 : FrP (fun b => b = w.heap.size) u u2 := FrP.of t2 fun b h1 h2 => by omega
            have gu2 := gu.frp G2 fun b hb (e : b = w.heap.size) => by have := h.lt hb; omega
            have e0 := tkU_db0 k i mode U
            refine h2 k i x etk0 rfl hk ha hfi hf u2 q ⟨_, ⟨t, Os, sw, cw, by rw [e0]; exact gu2, hO⟩, hr.take ok hk ha hfi hmode hj hsj (by
              cases hbb : busyB k i mode U with
              | false => rfl
              | true => rw [etk, hbb] at etk0; cases etk0), ok.tk hk ha hfi (by omega)⟩ ?_ (by omega) (bqu.fr t2 (by omega))
            exact ((F3.mono fun b hb => (hO b).2 (.inr (.inl hb))).trans (Gu.mono fun b hb => (hO b).2 (.inl hb))).trans' G2 fun b (hb : b = w.heap.size) => .inr (by omega)
          · intro J hJ
            show if (decide ((mode : Int) > ((fset (fset r.lks j { r.lks j with used := true }) j { fset r.lks j { r.lks j with used := true } j with name := nm } j).mode k : Nat))) = true then _ else _
            rw [emode]
            refine ifd (fun hgt => ?_) fun hgt => hJ _ ⟨?_, G5⟩
            · refine ⟨by omega, by omega, ⟨by omega, by omega, st1 g5.bl (by rw [mgC_len, Int.toNat_natCast, Int.toNat_natCast]; omega) fun w6 b6 f6 _ => ?_⟩⟩
              rw [Int.toNat_natCast, Int.toNat_natCast, Nat.mul_one] at b6
              have b6 := (mgC_setM (t := t) (act := r.act) (lks := fset (fset r.lks j { r.lks j with used := true }) j { fset r.lks j { r.lks j with used := true } j with name := nm }) (sw := sw) (a := mode) hj hk) ▸ b6
              have G6 : FrP (fun b => b = g) w5 w6 := FrP.of f6 fun b h1 h2 => by omega
              have g6 := g5.cel b6 G6
              refine hJ _ ⟨?_, G5.trans G6⟩
              have el : fset (fset (fset r.lks j { r.lks j with used := true }) j { fset r.lks j { r.lks j with used := true } j with name := nm }) j { fset (fset r.lks j { r.lks j with used := true }) j { fset r.lks j { r.lks j with used := true } j with name := nm } j with mode := fset (fset (fset r.lks j { r.lks j with used := true }) j { fset r.lks j { r.lks j with used := true } j with name := nm } j).mode k mode } = tkL k j mode nm r.lks := by
                rw [fsu, fset_eq, fset_fset]
                unfold tkL
                rw [if_pos (by omega)]
              rw [← el]
              exact g6
            · have el : fset (fset r.lks j { r.lks j with used := true }) j { fset r.lks j { r.lks j with used := true } j with name := nm } = tkL k j mode nm r.lks := by
                rw [fsu]
                unfold tkL
                rw [if_neg (by omega)]
              rw [← el]
              exact g5
        · intro J hJ
          cases hs : sOf nm r.lks with
          | some j =>
            have hj := (range_some hs).1
            rw [if_neg (by rw [decide_eq_true_eq]; show ¬ ((j : Nat) : Int) < 0; omega)]
            exact hJ _ _ ⟨rfl, j, rfl, hj, .inl hs⟩
          | none =>
            rw [if_pos (by simp [oI])]
            obtain ⟨j, hfr, hj, hu⟩ := hr.free ok hfi hs
            refine freeSlot_spec g3 ?_
            rw [hfr]
            exact hJ _ _ ⟨rfl, j, rfl, hj, .inr ⟨hs, hu⟩⟩
      · intro J hJ
        cases hs : sOf nm r.lks with
        | some j =>
          have hj := (range_some hs).1
          rw [hs] at ebz
          dsimp only at ebz
          rw [if_pos (by rw [decide_eq_true_eq]; show ((j : Nat) : Int) ≥ 0; omega)]
          refine barred_spec (i := j) g3 hj (ifb (fun hb => ?_) fun hb => hJ _ ⟨rfl, ?_⟩)
          · exact err (K' := fun _ => True) (by rw [etk, ebz, hb]; rfl) (by simp) g3 F3 c13
          · rw [etk, ebz, hb]; rfl
        | none =>
          rw [hs] at ebz
          dsimp only at ebz
          rw [if_neg (by simp [oI])]
          exact hJ _ ⟨rfl, by rw [etk, ebz]; rfl⟩
  · rw [if_pos (by simp only [bne_iff_ne, ne_eq]; exact hin)]
    refine err (K' := fun _ => True) ?_ hin h0 (FrP.of0 f0) c0'
    rw [einE] at hin ⊢
    unfold tkE
    cases hgs : gs s with
    | false => rfl
    | true =>
      cases ha : U.act s.toNat with
      | false => rfl
      | true => rw [hgs, ha] at hin; exact absurd rfl hin
end Go.Proofs.Qxb6500564aGreat
