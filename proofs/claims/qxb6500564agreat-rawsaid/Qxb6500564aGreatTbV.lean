/-
  The store: Scan, whole.
-/
import Derived.Test.Qxb6500564aGreatTbU
namespace Go.Proofs.Qxb6500564aGreat
open Go.Den Go.Zip
set_option linter.unusedVariables false
set_option linter.unusedSimpArgs false
variable {dq : Nat}
variable {w w' u v : World} {i j n t f p : Nat} {D : List Bk} {R : List Wr} {cur cur' : Nat → Bk} {op : Bool} {O : Nat → Prop} {T : Nat → Option Es} {pg : Nat → List Nat} {xs : List Th} {s r : Sl} {tb : Tb} {k nm : ByteArray} {vs : List Vl} {key : Vl}

theorem made_vok {v : Vl} (hm : VMade v) (h : v.s.size ≤ 7) : VOk v := ⟨fun h' => ⟨hm.1 h', h⟩, hm.2⟩
set_option maxHeartbeats 4000000 in
theorem tscan_spec {col : Int} {lo hi : Bd} {K : Sl → Int → World → Prop} (s : TW dq w t f p D R cur op O) (c : FCp cur T pg) (d : DBT T xs) (hml : VMade lo.v) (hmh : VMade hi.v)
    (h0 : fnd nm xs = none → ∀ w', TW dq w' t f p D R cur op O → FrP O w w' → K ⟨none, 0, 0⟩ 10 w')
    (h1 : ∀ x, fnd nm xs = some x → scanE x.tb col lo hi ≠ 0 → ∀ w', TW dq w' t f p D R cur op O → FrP O w w' → K ⟨none, 0, 0⟩ (scanE x.tb col lo hi) w')
    (h2 : ∀ x, fnd nm xs = some x → scanE x.tb col lo hi = 0 → ∀ es, T (if col.toNat = x.tb.pk then x.hr else x.hi.toNat) = some es → ∀ u' q' qs, TW dq u' t f p D R cur op O → FrP O w u' → w.heap.size ≤ q' → RowsIn w.heap.size u' qs ((spanP es (bdC lo) hi.has (bdC hi)).map (hitR x.tb)) → Blk u' q' (rowsC qs ((spanP es (bdC lo) hi.has (bdC hi)).map (hitR x.tb))) → K (fullS q' (spanP es (bdC lo) hi.has (bdC hi)).length) 0 u') :
    S.table_Store_Scan t nm col lo.has lo.v.st lo.v.i lo.v.s hi.has hi.v.st hi.v.i hi.v.s w K := by
  unfold S.table_Store_Scan
  refine newB fun wa la fa sa => newB fun wb hb fb sb => ?_
  have la : Blk wa w.heap.size lo.cells := la
  have hb : Blk wb wa.heap.size hi.cells := hb
  have lab := la.fr fb (by omega)
  have S0 := (s.fr0 fa).fr0 fb
  have na : ¬ O w.heap.size := fun h => by have := s.2.1.2.1.lt h; omega
  have nb : ¬ O wa.heap.size := fun h => by have := s.2.1.2.1.lt h; omega
  refine load_store S0 c d (fun hf w1 S1 F1 => ?_) fun x hf w1 q S1 F1 hq b1 => ?_
  · refine newB fun w2 a2 f2 s2 => newB fun w3 b3 f3 s3 => st5 (a2.fr f3 (by omega)) rfl fun w4 a4 f4 => st4 (s := ⟨none, 0, 0⟩) (b3.fr f4 (by omega)) rfl fun w5 b5 f5 => ?_
    rw [if_pos (by simp)]
    have l1 := F1.1.1
    have G : FrP (fun b => b = w1.heap.size ∨ b = w2.heap.size) w3 w5 := (FrP.of f4 fun b h1 h2 => .inl (by omega)).trans (FrP.of f5 fun b h1 h2 => .inr (by omega))
    exact h0 hf w5 (((S1.fr0 f2).fr0 f3).new G s fun b hb => by omega) (((((FrP.of0 (fa.then0 fb)).trans F1).trans (FrP.of0 f2)).trans (FrP.of0 f3)).trans' G fun b hb => .inr (by omega))
  · obtain ⟨hx, hxn⟩ := fnd_mem hf
    have okx := d.ok x hx
    have okt := okx.1
    unfold TbOk at okt
    have l1 := F1.1.1
    have nq : ¬ O q := fun h => by have := s.2.1.2.1.lt h; omega
    refine newB fun w2 a2 f2 s2 => newB fun w3 b3 f3 s3 => st5 (a2.fr f3 (by omega)) rfl fun w4 a4 f4 => st4 (s := fullS q x.tb.cols.length) (b3.fr f4 (by omega)) rfl fun w5 b5 f5 => ?_
    rw [if_neg (by simp)]
    have G : FrP (fun b => b = w1.heap.size ∨ b = w2.heap.size) w3 w5 := (FrP.of f4 fun b h1 h2 => .inl (by omega)).trans (FrP.of f5 fun b h1 h2 => .inr (by omega))
    have F5 : FrP O w w5 := ((((FrP.of0 (fa.then0 fb)).trans F1).trans (FrP.of0 f2)).trans (FrP.of0 f3)).trans' G fun b hb => .inr (by omega)
    have n1 : ¬ O w1.heap.size := fun h => by have := s.2.1.2.1.lt h; omega
    have n2 : ¬ O w2.heap.size := fun h => by have := s.2.1.2.1.lt h; omega
    have qlt := b1.lt
    have B5 : SB dq w w5 t f p D R cur op O w.heap.size wa.heap.size w1.heap.size w2.heap.size lo hi x nm q :=
      ⟨((S1.fr0 f2).fr0 f3).new G s fun b hb => by omega, F5, (((lab.frp F1 na).fr f2 (by omega)).fr f3 (by omega)).frp G fun h => by omega, (((hb.frp F1 nb).fr f2 (by omega)).fr f3 (by omega)).frp G fun h => by omega, a4.fr f5 (by omega), b5, ((b1.fr f2 (by omega)).fr f3 (by omega)).frp G fun h => by omega⟩
    have h1 := h1 x hf
    have h2 := h2 x hf
    have bad : ∀ {e : Int}, scanE x.tb col lo hi = e → e ≠ 0 → ∀ u, SB dq w u t f p D R cur op O w.heap.size wa.heap.size w1.heap.size w2.heap.size lo hi x nm q → K ⟨none, 0, 0⟩ e u := fun {e} he hne u Bu => by
      have := h1 (by rw [he]; exact hne) u Bu.tw Bu.F
      rw [he] at this
      exact this
    refine ifd (fun hc => bad (by unfold scanE; rw [if_pos (.inl hc)]) (by omega) w5 B5) fun hc0 => ?_
    refine ldI B5.hd rfl (ifd (fun hc => bad (by unfold scanE; rw [if_pos (.inr hc)]) (by omega) w5 B5) fun hc1 => ?_)
    have hcn : ¬ (col < 0 ∨ col ≥ x.tb.cols.length) := fun h => h.elim hc0 hc1
    obtain ⟨cn, rfl⟩ : ∃ cn : Nat, col = (cn : Int) := ⟨col.toNat, by omega⟩
    have hc1 : cn < x.tb.cols.length := by
      have : ¬ ((cn : Int) ≥ ((x.tb.cols.length : Nat) : Int)) := hc1
      omega
    have gcl := getC_some (cs := x.tb.cols) hc1
    refine join_W (fun u => ((cn : Int) = x.tb.pk ∨ (cn : Int) = x.tb.ix) ∧ SB dq w u t f p D R cur op O w.heap.size wa.heap.size w1.heap.size w2.heap.size lo hi x nm q) ?_ ?_
    · rintro u ⟨hci, Bu⟩
      have hcn2 : ¬ ((cn : Int) ≠ x.tb.pk ∧ (cn : Int) ≠ x.tb.ix) := fun h => hci.elim h.1 h.2
      refine join_W (fun u => (lo.has = true → lo.v.st = (x.tb.cols.getD cn c0).st) ∧ (hi.has = true → hi.v.st = (x.tb.cols.getD cn c0).st) ∧ SB dq w u t f p D R cur op O w.heap.size wa.heap.size w1.heap.size w2.heap.size lo hi x nm q) ?_ ?_
      · rintro u ⟨tl, th, Bu⟩
        have hcn3 : ¬ ((lo.has = true ∧ lo.v.st ≠ (x.tb.cols.getD ((cn : Int)).toNat c0).st) ∨ (hi.has = true ∧ hi.v.st ≠ (x.tb.cols.getD ((cn : Int)).toNat c0).st)) := fun h => h.elim (fun h => h.2 (tl h.1)) fun h => h.2 (th h.1)
        refine join_W (fun u => (lo.has = true → lo.v.s.size ≤ 7) ∧ (hi.has = true → hi.v.s.size ≤ 7) ∧ SB dq w u t f p D R cur op O w.heap.size wa.heap.size w1.heap.size w2.heap.size lo hi x nm q) ?_ ?_
        · rintro u ⟨sl1, sh1, Bu⟩
          have hcn4 : ¬ ((lo.has = true ∧ lo.v.s.size > 7) ∨ (hi.has = true ∧ hi.v.s.size > 7)) := fun h => h.elim (fun h => by have := sl1 h.1; omega) fun h => by have := sh1 h.1; omega
          have hz : scanE x.tb (cn : Int) lo hi = 0 := by
            unfold scanE
            rw [if_neg hcn, if_neg hcn2, if_neg hcn3, if_neg hcn4]
          obtain ⟨es, hes⟩ : ∃ es, T (if cn = x.tb.pk then x.hr else x.hi.toNat) = some es := by
            by_cases e : cn = x.tb.pk
            · rw [if_pos e]; exact ⟨_, d.rws x hx⟩
            · rw [if_neg e]
              have hci' : (cn : Int) = x.tb.ix := hci.resolve_left (by omega)
              have okh := okx.2
              unfold HdOk at okh
              rcases okh.2.2.2.2.2.2.2.2 with ⟨g1, _⟩ | ⟨_, g2, _, _⟩
              · have g1 : x.tb.ix = -1 := g1
                omega
              · have g2 : 0 < x.hi := g2
                obtain ⟨es, a, _⟩ := d.idx x hx (by omega)
                exact ⟨es, a⟩
          refine let_ (let_ (scan_tail Bu c d hx na nb n1 n2 nq (fun h => made_vok hml (sl1 h)) (fun h => made_vok hmh (sh1 h)) hci hes Bu.F.1.1 (h2 hz es ?_)))
          rw [Int.toNat_natCast]
          exact hes
        · intro J hJ
          have b16 : (lo.has = true ∧ lo.v.s.size > 7) ∨ (hi.has = true ∧ hi.v.s.size > 7) → scanE x.tb (cn : Int) lo hi = 16 := fun h => by
            unfold scanE
            rw [if_neg hcn, if_neg hcn2, if_neg hcn3, if_pos h]
          refine ldB Bu.lo rfl ?_
          cases hlh : lo.has with
          | true =>
            rw [if_pos rfl]
            refine ldStr Bu.lo rfl (ifd (fun h => bad (b16 (.inl ⟨hlh, by omega⟩)) (by omega) u Bu) fun h => ldB Bu.hi rfl ?_)
            cases hhh : hi.has with
            | true =>
              rw [if_pos rfl]
              exact ldStr Bu.hi rfl (ifd (fun h' => bad (b16 (.inr ⟨hhh, by omega⟩)) (by omega) u Bu) fun h' => hJ _ ⟨fun _ => by omega, fun _ => by omega, Bu⟩)
            | false =>
              rw [if_neg (by simp)]
              exact hJ _ ⟨fun _ => by omega, fun e => (by rw [hhh] at e; cases e), Bu⟩
          | false =>
            rw [if_neg (by simp)]
            refine ldB Bu.hi rfl ?_
            cases hhh : hi.has with
            | true =>
              rw [if_pos rfl]
              exact ldStr Bu.hi rfl (ifd (fun h' => bad (b16 (.inr ⟨hhh, by omega⟩)) (by omega) u Bu) fun h' => hJ _ ⟨fun e => (by rw [hlh] at e; cases e), fun _ => by omega, Bu⟩)
            | false =>
              rw [if_neg (by simp)]
              exact hJ _ ⟨fun e => (by rw [hlh] at e; cases e), fun e => (by rw [hhh] at e; cases e), Bu⟩
      · intro J hJ
        have b15 : (lo.has = true ∧ lo.v.st ≠ (x.tb.cols.getD ((cn : Int)).toNat c0).st) ∨ (hi.has = true ∧ hi.v.st ≠ (x.tb.cols.getD ((cn : Int)).toNat c0).st) → scanE x.tb (cn : Int) lo hi = 15 := fun h => by
          unfold scanE
          rw [if_neg hcn, if_neg hcn2, if_pos h]
        have Bu := Bu.d
        refine drew_ (ldB Bu.lo rfl ?_)
        have hiC : (lo.has = true → lo.v.st = (x.tb.cols.getD cn c0).st) → LdB u.drew ⟨wa.heap.size, 0, none⟩ fun Has_75 => if Has_75 = true then LdB u.drew ⟨wa.heap.size, 1, none⟩ fun IsStr_76 => LdS u.drew ⟨w2.heap.size, 1, none⟩ fun Cols_77 => Ix Cols_77.a Cols_77.l (cn : Int) fun b78 o79 => LdB u.drew ⟨b78, o79 + Int.toNat (cn : Int) * 2 + 1, none⟩ fun IsStr_80 => if (!(IsStr_76 == IsStr_80)) = true then K ⟨none, 0, 0⟩ 15 u.drew else J u.drew else J u.drew := fun tl => by
          refine ldB Bu.hi rfl ?_
          cases hhh : hi.has with
          | true =>
            rw [if_pos rfl]
            refine ldB Bu.hi rfl (ldS Bu.sc rfl (colSt (fullOS Bu.cl) gcl (ifn (fun h' => bad (b15 (.inr ⟨hhh, fun e => ?_⟩)) (by omega) _ Bu) fun h' => hJ _ ⟨tl, fun _ => by simpa using h', Bu⟩)))
            have e : hi.v.st = (x.tb.cols.getD cn c0).st := e
            rw [e] at h'; simp at h'
          | false =>
            rw [if_neg (by simp)]
            exact hJ _ ⟨tl, fun e => (by rw [hhh] at e; cases e), Bu⟩
        cases hlh : lo.has with
        | true =>
          rw [if_pos rfl]
          refine ldB Bu.lo rfl (ldS Bu.sc rfl (colSt (fullOS Bu.cl) gcl (ifn (fun h' => bad (b15 (.inl ⟨hlh, fun e => ?_⟩)) (by omega) _ Bu) fun h' => hiC fun _ => by simpa using h')))
          have e : lo.v.st = (x.tb.cols.getD cn c0).st := e
          rw [e] at h'; simp at h'
        | false =>
          rw [if_neg (by simp)]
          exact hiC fun e => by rw [hlh] at e; cases e
    · intro J hJ
      refine ldI B5.hd rfl ?_
      by_cases e1 : (cn : Int) = x.tb.pk
      · rw [if_neg (by show ¬ (((cn : Int) != ((x.tb.pk : Nat) : Int)) = true); rw [e1]; simp)]
        exact hJ _ ⟨.inl e1, B5⟩
      · rw [if_pos (by show ((cn : Int) != ((x.tb.pk : Nat) : Int)) = true; simp only [bne_iff_ne, ne_eq]; exact e1)]
        refine ldI B5.hd rfl ?_
        by_cases e2 : (cn : Int) = x.tb.ix
        · rw [if_neg (by show ¬ (((cn : Int) != x.tb.ix) = true); rw [e2]; simp)]
          exact hJ _ ⟨.inr e2, B5⟩
        · rw [if_pos (by show ((cn : Int) != x.tb.ix) = true; simp only [bne_iff_ne, ne_eq]; exact e2)]
          exact bad (by unfold scanE; rw [if_neg hcn, if_pos ⟨e1, e2⟩]) (by omega) w5 B5
end Go.Proofs.Qxb6500564aGreat
