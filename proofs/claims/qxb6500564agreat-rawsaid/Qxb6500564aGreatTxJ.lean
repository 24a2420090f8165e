/-
  The manager: View, Scan, Lookup.
-/
import Derived.Test.Qxb6500564aGreatTxI
namespace Go.Proofs.Qxb6500564aGreat
open Go.Den Go.Zip
set_option linter.unusedVariables false
set_option linter.unusedSimpArgs false
variable {dq : Nat}
variable {w w' u v : World} {i j k n t g b : Nat} {D : List Bk} {R : List Wr} {cur cur' : Nat → Bk} {op : Bool} {O Os P : Nat → Prop} {db : Db} {s x : Sl} {nm : ByteArray} {key : Vl} {U : Mu} {r : Rs} {sw : Nat → Sl} {cw : Nat → List CR} {mode : Nat} {lo hi : Bd}

theorem v0_made : VMade v0 := ⟨fun h => (by cases h), fun _ => ⟨rfl, (by unfold I64; decide)⟩⟩
/-- The table that a session sees, against the committed one. -/
theorem RelU.seen (h : RelU U r) (ok : UOk U) (hk : k < 4) (hf : fI nm (U.db 0) = some i) : ∃ t q, fnB nm (U.db 0) = some t ∧ (U.db 0)[i]? = some t ∧ t.name = nm ∧ fnB nm (U.db (seenD k i U)) = some q ∧ (U.db (seenD k i U))[i]? = some q ∧ TbOk t ∧ TbOk q ∧ sch q = sch t ∧ Sees nm t.pk t.rows (r.ws k) q.rows := by
  obtain ⟨t, hi, hn, hfb⟩ := fI_get hf
  have hfs : fI nm (U.db (seenD k i U)) = some i := by rw [fI_shape (ok.seen hk)]; exact hf
  obtain ⟨q, hqi, hqn, hqf⟩ := fI_get hfs
  have hs : sch q = sch t := by
    have := congrArg (fun l => l[i]?) (show (U.db (seenD k i U)).map sch = (U.db 0).map sch from ok.seen hk)
    simp only [List.getElem?_map, hqi, hi, Option.map_some] at this
    exact Option.some.inj this
  have hse := h.sees k hk i t q hi hqi
  rw [hn] at hse
  exact ⟨t, q, hfb, hi, hn, hqf, hqi, (ok.d 0 (by omega)).ok t (List.mem_of_getElem? hi), (ok.d _ (seenD_lt hk)).ok q (List.mem_of_getElem? hqi), hs, hse⟩
theorem sch_pk {a b : Tb} (h : sch a = sch b) : a.pk = b.pk := by
  have : (sch a).pk = (sch b).pk := by rw [h]
  exact this
theorem sch_cols {a b : Tb} (h : sch a = sch b) : a.cols = b.cols := by
  have : (sch a).cols = (sch b).cols := by rw [h]
  exact this
theorem sch_ix {a b : Tb} (h : sch a = sch b) : a.ix = b.ix := by
  have : (sch a).ix = (sch b).ix := by rw [h]
  exact this
theorem sch_name {a b : Tb} (h : sch a = sch b) : a.name = b.name := by
  have : (sch a).name = (sch b).name := by rw [h]
  exact this
theorem RelU.chl (h : RelU U r) (hk : k < 4) {t : Tb} (hf : fnB nm (U.db 0) = some t) (okt : TbOk t) {col : Nat} (hc : col < t.cols.length) : ∀ c ∈ r.ws k, c.tab = nm → c.gone = false → (col < c.row.length ∧ t.pk < c.row.length) ∧ c.row.length < 1000000 := fun c hc' ht hg => by
  obtain ⟨t', hf', hat⟩ := (h.wo k hk).ch c hc'
  rw [ht, hf] at hf'
  cases hf'
  obtain ⟨h1, _, _⟩ := hat.rw hg
  have hl := h1.1
  have := okt.hpk
  unfold TbOk at okt
  have := okt.2.1.2
  omega
theorem TbOk.cl {tb : Tb} (ok : TbOk tb) {r : List Vl} (hr : r ∈ tb.rows) : r.length = tb.cols.length := by
  unfold TbOk at ok
  exact (ok.2.2.2.2.2.2.1 r hr).1.1
set_option maxHeartbeats 2000000 in
theorem xview_spec {s : Int} {K : Sl → Int → World → Prop} (h : XV dq w g D R cur U O) (h1 : vwE s nm U ≠ 0 → ∀ w', XV dq w' g D R cur U O → FrP O w w' → K nilS (vwE s nm U) w')
    (h2 : ∀ k i q, s = (k : Nat) → k < 4 → fI nm (U.db 0) = some i → fnB nm (U.db (seenD k i U)) = some q → ∀ w' r ss, FR w.heap.size w' r ss q.rows → XV dq w' g D R cur U O → FrP O w w' → K r 0 w') : S.txn_Mgr_View g s nm w K := by
  unfold S.txn_Mgr_View
  unfold vwE at h1
  have hx := h
  obtain ⟨r, hg, hr, ok⟩ := h
  obtain ⟨t, Os, sw, cw, h, hO⟩ := hg
  have mk : ∀ {v : World}, GM dq v g t D R cur false Os (U.db 0) r sw cw → XV dq v g D R cur U O := fun {v} hv => ⟨r, ⟨t, Os, sw, cw, hv, hO⟩, hr, ok⟩
  have wO : ∀ {a b : World}, FrP Os a b → FrP O a b := fun {a b} F => F.mono fun b hb => (hO b).2 (.inr (.inl hb))
  refine goodSess_spec ?_
  cases hg : gs s with
  | false =>
    rw [hg, if_pos rfl] at h1
    rw [if_pos (by rfl)]
    exact h1 (by simp) w hx (FrP.refl _ _)
  | true =>
    rw [hg, if_neg (by simp)] at h1
    rw [if_neg (by simp)]
    obtain ⟨k, hk, rfl⟩ := gs_nat hg
    refine h.ld (sschema_spec h.sv (fun hf w1 sv1 F1 => ?_) fun x hf w1 q sv1 F1 hq b1 => ?_)
    · have hg1 := (h.sto sv1 ⟨F1, fun b hb => .inl hb⟩).1
      rw [fI_none hf] at h1
      refine newB fun w2 a2 f2 s2 => st4 (s := ⟨none, 0, 0⟩) a2 rfl fun w3 b3 f3 => ?_
      rw [if_pos (by simp)]
      have f23 : Fr 0 0 w1 w3 := f2.thenNew f3 (Nat.le_refl _)
      exact h1 (by simp) w3 (mk (hg1.fr0 f23)) (wO (F1.trans (FrP.of0 f23)))
    · have hg1 := (h.sto sv1 ⟨F1, fun b hb => .inl hb⟩).1
      obtain ⟨i, hfi⟩ : ∃ i, fI nm (U.db 0) = some i := by
        cases hfi : fI nm (U.db 0) with
        | some i => exact ⟨i, rfl⟩
        | none =>
          unfold fI at hfi
          rw [List.findIdx?_eq_none_iff] at hfi
          obtain ⟨a1, a2⟩ := fnB_mem hf
          have := hfi x a1
          simp [a2] at this
      obtain ⟨tc, qs, htc, hti, htn, hqf, hqi, okt, okq, hsch, hsee⟩ := hr.seen ok hk hfi
      rw [hf] at htc
      cases htc
      refine newB fun w2 a2 f2 s2 => st4 (s := fullS q x.cols.length) a2 rfl fun w3 b3 f3 => ?_
      rw [if_neg (by simp)]
      have l1 := F1.1.1
      have f23 : Fr 0 0 w1 w3 := f2.thenNew f3 (Nat.le_refl _)
      have g3 := (hg1.fr0 f23).dr
      have b3d := b3.drew
      have w1n : ¬ Os w1.heap.size := fun hb => by have := h.sv.lt hb; omega
      have hsc0 : scanE x (x.pk : Int) nob nob = 0 := by
        unfold scanE
        have := okt.hpk
        rw [if_neg (by omega), if_neg (fun h => h.1 rfl), if_neg (by rintro (h | h) <;> cases h.1), if_neg (by rintro (h | h) <;> cases h.1)]
      refine drew_ (g3.ld (ldI b3d rfl (sscan_spec (lo := nob) (hi := nob) g3.sv v0_made v0_made (fun hn => ?_) (fun x' hx' hne => ?_) fun x' hx' he w4 rr ss4 out hsc fr4 sv4 F4 => ?_)))
      · rw [hf] at hn; cases hn
      · rw [hf] at hx'
        cases hx'
        exact absurd hsc0 hne
      · rw [hf] at hx'
        cases hx'
        have g4 := (g3.sto sv4 ⟨F4, fun b hb => .inl hb⟩).1
        have b34 := b3d.frp F4 w1n
        have hout : out = x.rows := by
          rw [Int.toNat_natCast] at hsc
          exact hsc.uniq (scan_all okt)
        subst hout
        refine ldStr b34 rfl (ldS b34 rfl (ldI b34 rfl (ldI b34 rfl (ldI b34 rfl ?_))))
        have hcnt := hr.cnt ok hk
        have hr8 : x.rows.length ≤ 8 := by have := okt; unfold TbOk at this; exact this.2.2.2.2.2.1
        have e3 : w3.drew.heap.size = w3.heap.size := rfl
        have l13 := f23.1.1
        have l4 := F4.1.1
        refine merge_spec (lo := nob) (hi := nob) g4 hk (by omega) fr4 (by omega) (by omega) (fun y hy => ⟨okt.pkr y hy, okt.pkr y hy⟩) (hr.chl hk hf okt okt.hpk) fun w5 out5 ss5 fr5 f5 => ?_
        have hm := mrg_scan (lo := nob) (hi := nob) okt hf (hr.wo k hk) okt.hpk hsee (scan_all okt)
        have hq2 := scan_all okq
        rw [sch_pk hsch] at hq2
        rw [hm.uniq hq2] at fr5
        exact h2 k i qs rfl hk hfi hqf w5 out5 ss5 (fr5.mono (by omega)) (mk (g4.fr0 f5)) (wO ((((F1.trans (FrP.of0 f23)).drew).trans F4).trans (FrP.of0 f5)))
set_option maxHeartbeats 2000000 in
theorem xscan_spec {s col : Int} {K : Sl → Int → World → Prop} (h : XV dq w g D R cur U O) (hml : VMade lo.v) (hmh : VMade hi.v)
    (h1 : tkE s nm 1 U ≠ 0 → ∀ w', XV dq w' g D R cur U O → FrP O w w' → K nilS (tkE s nm 1 U) w')
    (h2 : ∀ k i t, tkE s nm 1 U = 0 → s = (k : Nat) → k < 4 → U.act k = true → fI nm (U.db 0) = some i → fnB nm (U.db 0) = some t → scanE t col lo hi ≠ 0 → ∀ w', XV dq w' g D R cur (tkU k i 1 U) O → FrP O w w' → K nilS (scanE t col lo hi) w')
    (h3 : ∀ k i t q, tkE s nm 1 U = 0 → s = (k : Nat) → k < 4 → U.act k = true → fI nm (U.db 0) = some i → fnB nm (U.db 0) = some t → scanE t col lo hi = 0 → fnB nm (U.db (seenD k i (tkU k i 1 U))) = some q → sch q = sch t → TbOk q → ∀ w' r ss out, ScanR q.rows col.toNat q.pk lo hi out → FR w.heap.size w' r ss out → XV dq w' g D R cur (tkU k i 1 U) O → FrP O w w' → K r 0 w') :
    S.txn_Mgr_Scan g s nm col lo.has lo.v.st lo.v.i lo.v.s hi.has hi.v.st hi.v.i hi.v.s w K := by
  unfold S.txn_Mgr_Scan
  refine newB fun wa la fa sa => newB fun wb hb fb sb => ?_
  have la : Blk wa w.heap.size lo.cells := la
  have hb : Blk wb wa.heap.size hi.cells := hb
  have lab := la.fr fb (by omega)
  have F0 := fa.then0 fb
  have lwa := fa.1.1
  have nO1 : ¬ O w.heap.size := fun hb => by have := h.lt hb; omega
  have nO2 : ¬ O wa.heap.size := fun hb => by have := h.lt hb; omega
  refine xtake_spec (mode := 1) (h.fr0 F0) (.inl rfl) (fun hne w1 x1 F1 => ?_) fun k i x he hs hk ha hf hfb w1 q x1 F1 hq b1 => ?_
  · refine newB fun w2 a2 f2 s2 => st4 (s := nilS) a2 rfl fun w3 b3 f3 => ?_
    rw [if_pos (by simp only [bne_iff_ne, ne_eq]; exact hne)]
    have f23 : Fr 0 0 w1 w3 := f2.thenNew f3 (Nat.le_refl _)
    exact h1 hne w3 (x1.fr0 f23) (((FrP.of0 F0).trans F1).trans (FrP.of0 f23))
  · refine newB fun w2 a2 f2 s2 => st4 (s := fullS q x.cols.length) a2 rfl fun w3 b3 f3 => ?_
    rw [if_neg (by simp)]
    have f23 : Fr 0 0 w1 w3 := f2.thenNew f3 (Nat.le_refl _)
    have la3 := (lab.frp F1 nO1).fr f23 (by have := lab.lt; have := F1.1.1; omega)
    have hb3 := (hb.frp F1 nO2).fr f23 (by have := hb.lt; have := F1.1.1; omega)
    have x3 := (x1.fr0 f23).dr
    have FF3 : FrP O w w3.drew := (((FrP.of0 F0).trans F1).trans (FrP.of0 f23)).drew
    obtain ⟨r, hg, hr, ok⟩ := x3
    obtain ⟨t, Os, sw, cw, hgm, hO⟩ := hg
    rw [tkU_db0] at hgm
    have e0 := tkU_db0 k i 1 U
    have mk : ∀ {v : World}, GM dq v g t D R cur false Os (U.db 0) r sw cw → XV dq v g D R cur (tkU k i 1 U) O := fun {v} hv => ⟨r, ⟨t, Os, sw, cw, by rw [e0]; exact hv, hO⟩, hr, ok⟩
    have wO : ∀ {a b : World}, FrP Os a b → FrP O a b := fun {a b} F => F.mono fun b hb => (hO b).2 (.inr (.inl hb))
    have l1 := F1.1.1
    have l0 := F0.1.1
    have l23 := f23.1.1
    have nOs : ∀ {b : Nat}, ¬ O b → ¬ Os b := fun hb h' => hb ((hO _).2 (.inr (.inl h')))
    refine drew_ (hgm.ld ?_)
    have la3 := la3.drew
    have hb3 := hb3.drew
    have b3 := b3.drew
    refine ldB la3 rfl (ldB la3 rfl (ldI la3 rfl (ldStr la3 rfl (ldB hb3 rfl (ldB hb3 rfl (ldI hb3 rfl (ldStr hb3 rfl (sscan_spec hgm.sv hml hmh (fun hn => ?_) (fun x' hx' hne w4 sv4 F4 => ?_) fun x' hx' hz w4 rr ss4 out hsc fr4 sv4 F4 => ?_))))))))
    · rw [hfb] at hn; cases hn
    · rw [hfb] at hx'
      cases hx'
      rw [if_pos (by simp only [bne_iff_ne, ne_eq]; exact hne)]
      exact h2 k i x he hs hk ha hf hfb hne w4 (mk (hgm.sto sv4 ⟨F4, fun b hb => .inl hb⟩).1) (FF3.trans (wO F4))
    · rw [hfb] at hx'
      cases hx'
      rw [if_neg (by simp)]
      subst hs
      have g4 := (hgm.sto sv4 ⟨F4, fun b hb => .inl hb⟩).1
      have hf' : fI nm ((tkU k i 1 U).db 0) = some i := by rw [e0]; exact hf
      obtain ⟨tc, qs, htc, hti, htn, hqf, hqi, okt, okq, hsch, hsee⟩ := hr.seen ok hk hf'
      rw [e0, hfb] at htc
      cases htc
      obtain ⟨hcl, _, _, _⟩ := scan0 hz
      obtain ⟨cn, rfl⟩ : ∃ cn : Nat, col = (cn : Int) := ⟨col.toNat, by omega⟩
      rw [Int.toNat_natCast] at hsc
      have hcn : cn < x.cols.length := by omega
      have la4 := la3.frp F4 (nOs nO1)
      have hb4 := hb3.frp F4 (nOs nO2)
      have b34 := b3.frp F4 (nOs fun hb => by have := h.lt hb; omega)
      refine ldStr b34 rfl (ldS b34 rfl (ldI b34 rfl (ldI b34 rfl (ldB la4 rfl (ldB la4 rfl (ldI la4 rfl (ldStr la4 rfl (ldB hb4 rfl (ldB hb4 rfl (ldI hb4 rfl (ldStr hb4 rfl ?_)))))))))))
      have hcnt := hr.cnt ok hk
      have hr8 : x.rows.length ≤ 8 := by have := okt; unfold TbOk at this; exact this.2.2.2.2.2.1
      have hol : out.length ≤ 8 := by
        have hnd : out.Pairwise (· ≠ ·) := List.Pairwise.imp_of_mem (fun {a b} _ _ h e => rl_irrefl (e ▸ h)) hsc.1
        have hkd : (out.map fun y => rk x.pk y).Nodup := by
          rw [List.nodup_iff_pairwise_ne, List.pairwise_map]
          refine List.Pairwise.imp_of_mem (fun {a b} ha hb hab e => hab ?_) hnd
          exact rk_inj (RSrt_tb okt) ((hsc.2 a).1 ha).1 ((hsc.2 b).1 hb).1 e
        have := nodup_len (m := x.rows.map fun y => rk x.pk y) hkd fun z hz => by
          obtain ⟨y, hy, rfl⟩ := List.mem_map.1 hz
          exact List.mem_map.2 ⟨y, ((hsc.2 y).1 hy).1, rfl⟩
        rw [List.length_map, List.length_map] at this
        omega
      have e3 : w3.drew.heap.size = w3.heap.size := rfl
      have l4 := F4.1.1
      have hwo := hr.wo k hk
      rw [e0] at hwo
      refine merge_spec (lo := lo) (hi := hi) g4 hk (by omega) fr4 (by omega) (by omega) (fun y hy => ?_) (hr.chl hk (by rw [e0]; exact hfb) okt hcn) fun w5 out5 ss5 fr5 f5 => ?_
      · have hym := ((hsc.2 y).1 hy).1
        exact ⟨by rw [TbOk.cl okt hym]; exact hcn, okt.pkr y hym⟩
      · have hm := mrg_scan (lo := lo) (hi := hi) okt hfb hwo hcn hsee hsc
        rw [← sch_pk hsch] at hm
        have hdb : (tkU k i 1 U).db = U.db := tkU1_db k i U
        refine h3 k i x qs he rfl hk ha hf hfb hz (by rw [← hdb]; exact hqf) hsch okq w5 out5 ss5 _ (by rw [Int.toNat_natCast]; exact hm) ?_ (mk (g4.fr0 f5)) ((FF3.trans (wO F4)).trans (FrP.of0 f5))
        rw [sch_pk hsch]
        exact fr5.mono (by omega)
end Go.Proofs.Qxb6500564aGreat
