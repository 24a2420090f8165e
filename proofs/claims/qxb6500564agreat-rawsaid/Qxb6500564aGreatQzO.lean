/-
  SELECT's end: the model's project, whole.
-/
import Derived.Test.Qxb6500564aGreatQzN
namespace Go.Proofs.Qxb6500564aGreat
open Go.Den Go.Zip
set_option linter.unusedVariables false
set_option linter.unusedSimpArgs false
variable {w w' u v : World} {i j k n a b b0 h0 q g : Nat} {x nm : ByteArray} {cs : List Cl} {sc hit c r : Sl} {row : List Vl} {T : Smt} {z : Nat → Sl} {ss hs : List Sl} {rows hr : List (List Vl)} {val : Vl} {ns : List ByteArray}

set_option maxHeartbeats 16000000 in
theorem mproject_spec {K : Int → Int → Sl → Sl → World → Prop} {ixx : Int} {pk : Nat} {n0 : ByteArray} (fr : FR h0 w hit ss hr) (oc : OS w sc (colC cs) 2) (on : OS w (z 1) (strC T.list) 1) (lc : ∀ b, owns sc b → b < h0) (ly : ∀ b, owns (z 1) b → b < h0)
    (hcl : cs.length < 1000) (hnl : T.list.length < 1000) (hhl : hr.length ≤ 8) (hrow : ∀ row ∈ hr, row.length = cs.length) (hcn : ∀ n ∈ prC cs T, coN cs n ≠ none) (hor : T.order ≠ ⟨#[]⟩ → coN cs T.order ≠ none) (hst : T.star = true → T.list = [])
    (hK : ∀ w' c r ss', OS w' c (strC (prC cs T)) 1 → FR w.heap.size w' r ss' (prA cs T hr) → (∀ b, owns c b → owns (z 1) b ∨ w.heap.size ≤ b) → (∀ b, owns c b → ¬ owns r b ∧ ∀ s ∈ ss', ¬ owns s b) → FrP (owns hit) w w' → K 0 (prN T hr.length : Nat) c r w') :
    S.querym_project n0 sc (pk : Nat) ixx ((toM T).kind : Nat) (toM T).table (z 0) ((toM T).pk : Nat) (z 1) (z 2) (toM T).star (z 3) (toM T).order (toM T).desc (toM T).hasLim (toM T).lim hit w K := by
  unfold S.querym_project
  refine newB fun w1 q1 f1 z1 => newB fun w2 q2 f2 z2 => newB fun w3 q3 f3 z3 => ?_
  have q2 : Blk w2 w1.heap.size (mC (toM T) z) := q2
  have f03 := (f1.trans f2).trans f3
  have hh0 : ∀ b, owns hit b → b < w.heap.size := fun b hb => OS.lt fr.arr hb
  have hs0 : ∀ s ∈ ss, ∀ b, owns s b → b < w.heap.size := fun s hs b hb => fr.row.lt hs hb
  have hy0 : ∀ b, owns (z 1) b → b < w.heap.size := fun b hb => OS.lt on hb
  have hc0 : ∀ b, owns sc b → b < w.heap.size := fun b hb => OS.lt oc hb
  have p3 : PS1 w.heap.size w1.heap.size w2.heap.size (schC n0 sc (pk : Nat) ixx) (mC (toM T) z) sc cs hit ss hr w3 := ⟨(Blk.fr q1 f2 (by omega)).fr f3 (by omega), q2.fr f3 (by omega), q3, OS.fr0 oc f03, OS.fr0 fr.arr f03, fr.row.fr0 f03⟩
  have on3 := OS.fr0 on f03
  have nh : ∀ b, w.heap.size ≤ b → ¬ owns hit b := fun b h1 h2 => by have := hh0 b h2; omega
  refine ldStr p3.b2 rfl (join_W (fun u => ∃ ss1, ss1.Perm ss ∧ PS1 w.heap.size w1.heap.size w2.heap.size (schC n0 sc (pk : Nat) ixx) (mC (toM T) z) sc cs hit ss1 (prO cs T hr) u ∧ OS u (z 1) (strC T.list) 1 ∧ FrP (owns hit) w3 u) ?_ ?_)
  · rintro u ⟨ss1, pm, pu, onu, Fu⟩
    have F0u : FrP (owns hit) w u := (FrP.of0 f03).trans Fu
    have hsu : w3.heap.size ≤ u.heap.size := Fu.1.1
    have fru : FR h0 u hit ss1 (prO cs T hr) := ⟨pu.oh, pu.rw_, fr.ra, fun s hs b hb => fr.rb s (pm.mem_iff.1 hs) b hb, (pm.pairwise_iff (fun {a c} h b hb hb' => h b hb' hb)).2 fr.dis⟩
    have hln : hit.l = hr.length := by rw [fru.len, prO_len]
    have hOl : (prO cs T hr).length = hr.length := prO_len
    refine ldB pu.b2 rfl (join_P (fun hx v => (∃ ss2, FR h0 u hx ss2 ((prO cs T hr).take (prN T hr.length)) ∧ (∀ b, owns hx b → owns hit b) ∧ (∀ s ∈ ss2, s ∈ ss)) ∧ u = v) ?_ ?_)
    · rintro hx _ ⟨⟨ss2, frx, hxo, hxs⟩, rfl⟩
      have hlx := frx.len
      rw [List.length_take, hOl, Nat.min_eq_left (prN_le _ _)] at hlx
      have hNe : prA cs T hr = ((prO cs T hr).take (prN T hr.length)).map (prR cs (prC cs T)) := rfl
      have hrowX : ∀ row ∈ (prO cs T hr).take (prN T hr.length), row.length = cs.length := fun row h => hrow row (prO_mem.1 (List.mem_of_mem_take h))
      have hNl : ((prO cs T hr).take (prN T hr.length)).length = prN T hr.length := by rw [List.length_take, hOl, Nat.min_eq_left (prN_le _ _)]
      have hN8 := prN_le T hr.length
      rw [hNe] at hK
      generalize (prO cs T hr).take (prN T hr.length) = X at *
      generalize prN T hr.length = N at *
      refine ldS pu.b2 rfl (ldB pu.b2 rfl (join_P (fun c v => OS v c (strC (prC cs T)) 1 ∧ (∀ b, owns c b → owns (z 1) b ∨ w3.heap.size ≤ b) ∧ Fr 0 0 u v) ?_ ?_))
      · rintro c v ⟨onc, hcb, fv⟩
        refine newB fun w4 q4 f4 z4 => stR (c := c) (r := nilS) q4 rfl fun w5 q5 f5 => ?_
        have f45 : Fr 0 0 v w5 := f4.thenNew f5 (Nat.le_refl _)
        have fu5 := fv.trans f45
        have pu5 := pu.fr0 fu5
        have hsv := fv.le
        have hs5 : v.heap.size < w5.heap.size := q5.lt
        have hcv : ∀ b, owns c b → b < v.heap.size := fun b hb => OS.lt onc hb
        have hcl3 : c.l = (prC cs T).length := lenAt (c := 1) (f := fun x : ByteArray => [Value.string x]) (fun _ => rfl) onc (by omega)
        have hpl : (prC cs T).length < 10000 := by
          unfold prC
          rw [List.length_append]
          cases T.star
          · simp; omega
          · simp; omega
        have frx5 := frx.fr0 fu5
        refine loopN (fun m sv v2 => ∃ (p : Nat) (r : Sl) (ss3 : List Sl), sv = ((p : Int), ()) ∧ p + m = N ∧ Blk v2 v.heap.size (rsC 0 (hx.l : Int) c r) ∧ Blk v2 w.heap.size (schC n0 sc (pk : Nat) ixx) ∧ Blk v2 w2.heap.size (rsC 0 0 nilS nilS) ∧ OS v2 sc (colC cs) 2 ∧ OS v2 c (strC (prC cs T)) 1 ∧ OS v2 hx (ss2.map slV) 1 ∧ RowsAt v2 ss2 X ∧ FR w5.heap.size v2 r ss3 ((X.take p).map (prR cs (prC cs T))) ∧ FrP (owns hit) w v2 ∧ w5.heap.size ≤ v2.heap.size) N
          ⟨0, nilS, [], rfl, by omega, q5, pu5.b1, pu5.b3, pu5.oc, OS.fr0 onc f45, frx5.arr, frx5.row, FR.none _ _, F0u.trans (FrP.of0 fu5), Nat.le_refl _⟩ ?_
        rintro m _ v2 ⟨p, r, ss3, rfl, hm, b8, b1, b3, oc2, onv, ohx, rx, fr2, Fv2, hs2⟩ Q hQ
        dsimp only
        refine ifd (fun hlt => ?_) fun hlt => ?_
        · have hlt : p < N := by omega
          obtain ⟨row, hrw⟩ : ∃ row, X[p]? = some row := ⟨_, List.getElem?_eq_getElem (by omega)⟩
          obtain ⟨xs, hxs2⟩ : ∃ xs, ss2[p]? = some xs := ⟨_, List.getElem?_eq_getElem (by rw [rx.1]; omega)⟩
          refine join_P (fun rs v4 => OS v4 rs (rowC (prR cs (prC cs T) row)) 3 ∧ (∀ b, owns rs b → v2.heap.size ≤ b) ∧ Fr 0 0 v2 v4) ?_ ?_
          · rintro rs v4 ⟨ox, hrs, k24⟩
            have b84 := b8.fr k24 (by omega)
            have fr4 := fr2.fr0 k24
            have hle4 := k24.le
            have hr5 : ∀ b, owns r b → w5.heap.size ≤ b := fr2.ra
            refine ldS b84 rfl (frAdd (b0 := w5.heap.size) (r := r) fr4 (by rw [List.length_map, List.length_take]; omega) ox (fun b hb => ?_) (by omega) fun v5 r5 fr5 F5 gr5 => ?_)
            · have := hrs b hb
              refine ⟨by omega, fun h => ?_, fun s hs h => ?_⟩
              · have := OS.lt fr2.arr h; omega
              · have := fr2.row.lt hs h; omega
            · have b85 := b84.frp F5 fun h => by have := hr5 _ h; omega
              refine st1 b85 (by show _ < 4; omega) fun v6 b6 k6 t6 => let_ ?_
              rw [W_succ (by omega)]
              have F46 : FrP (fun b => owns r b ∨ b = v.heap.size) v4 v6 := (F5.mono fun b hb => .inl hb).trans (FrP.of k6 fun b h1 h2 => .inr (by omega))
              have hF5 := F5.1.1
              have old : ∀ b, b < v.heap.size → ¬ (owns r b ∨ b = v.heap.size) := fun b h1 h2 => h2.elim (fun h => by have := hr5 b h; omega) fun h => by omega
              refine hQ (m - 1) _ _ (by omega) ⟨p + 1, r5, ss3 ++ [rs], rfl, by omega, b6, (b1.fr k24 (by omega)).frp F46 (old _ (by omega)), (b3.fr k24 (by omega)).frp F46 (old _ (by omega)), (OS.fr0 oc2 k24).frp F46 (fun b hb => old b (by have := hc0 b hb; omega)), (OS.fr0 onv k24).frp F46 (fun b hb => old b (hcv b hb)), (OS.fr0 ohx k24).frp F46 (fun b hb => old b (by have := hh0 b (hxo b hb); omega)), (rx.fr0 k24).frp F46 (fun s hs b hb => old b (by have := hs0 s (hxs s hs) b hb; omega)), ?_, (Fv2.trans (FrP.of0 k24)).trans' F46 (fun b hb => .inr (hb.elim (fun h => by have := hr5 b h; omega) fun h => by omega)), by omega⟩
              have k6' : FrP (fun b => b = v.heap.size) v5 v6 := FrP.of k6 fun b h1 h2 => by omega
              have e : (X.take (p + 1)).map (prR cs (prC cs T)) = (X.take p).map (prR cs (prC cs T)) ++ [prR cs (prC cs T) row] := by
                rw [List.take_add_one, hrw, List.map_append]; rfl
              rw [e]
              exact ⟨fr5.arr.frp k6' fun b hb h => by have := fr5.ra b hb; omega, fr5.row.frp k6' fun s hs b hb h => by have := (fr5.rb s hs b hb).1; omega, fr5.ra, fr5.rb, fr5.dis⟩
          · intro J18 hJ18
            exact mpick_row (hs := ss2) (xs := xs) (row := row) (ns := prC cs T) (c := c) rfl b1 oc2 (by omega) onv (by omega) ohx hxs2 (rx.2 p xs row hxs2 hrw) (hrowX row (List.mem_of_getElem? hrw)) hcn fun w' rs o1 o2 f => hJ18 rs w' ⟨o1, o2, f⟩
        · have hpN : p = N := by omega
          subst hpN
          refine ldR b8 (stR (c := c) (r := r) b3 rfl fun v3 b3' k3 => ldR b3' ?_)
          have hk3 : FrP (fun b => b = w2.heap.size) v2 v3 := FrP.of k3 fun b h1 h2 => by omega
          rw [hlx]
          refine hK v3 c r ss3 (onv.frp hk3 fun b hb h => ?_) ?_ (fun b hb => (hcb b hb).imp_right fun h => by omega) (fun b hb => ⟨fun h => ?_, fun s hs h => ?_⟩) (Fv2.trans' hk3 fun b hb => .inr (by omega))
          · subst h
            rcases hcb _ hb with h | h
            · have := hy0 _ h; omega
            · omega
          · rw [List.take_of_length_le (by omega)] at fr2
            exact (⟨fr2.arr.frp hk3 fun b hb h => by have := fr2.ra b hb; omega, fr2.row.frp hk3 fun s hs b hb h => by have := (fr2.rb s hs b hb).1; omega, fr2.ra, fr2.rb, fr2.dis⟩ : FR w5.heap.size v3 r ss3 _).low (by omega)
          · have := fr2.ra b h; have := hcv b hb; omega
          · have := (fr2.rb s hs b h).1; have := hcv b hb; omega
      · intro J49 hJ49
        refine ifb (fun hs1 => ?_) fun hs1 => ?_
        · have hs1 : T.star = true := hs1
          have hl0 := hst hs1
          have hpc : prC cs T = cs.map (·.name) := by unfold prC; rw [hl0, hs1]; rfl
          rw [hpc] at hJ49
          have hscl : (⟨sc.a, sc.l, sc.c⟩ : Sl).l = cs.length := lenAt (c := 2) (f := colC1) (fun _ => rfl) pu.oc (by omega)
          refine loopN (fun m sv v => ∃ (p : Nat) (c : Sl), sv = (c, (p : Int), ()) ∧ p + m = cs.length ∧ OS v c (strC ((cs.take p).map (·.name))) 1 ∧ (∀ b, owns c b → u.heap.size ≤ b) ∧ Fr 0 0 u v) cs.length ⟨0, nilS, rfl, by omega, OS.nil _ _, fun b hb => (by cases hb), Fr.refl _ _ _⟩ ?_
          rintro m _ v ⟨p, c, rfl, hm, onc, hcb, fv⟩ Q hQ
          dsimp only
          have pv := pu.fr0 fv
          refine ldS pv.b1 rfl (ifd (fun hlt => ?_) fun hlt => ?_)
          · have hlt : p < cs.length := by omega
            obtain ⟨cl, hcl2⟩ : ∃ cl, cs[p]? = some cl := ⟨_, List.getElem?_eq_getElem hlt⟩
            refine ldS pv.b1 rfl (cellAt (c := 2) (f := colC1) (fun _ => rfl) pv.oc (by omega) hcl2 fun g us hb e0 ek ho => ldStr hb e0 (newB fun v1 r1 k1 t1 => ?_))
            have onv := OS.fr0 onc k1
            have hcl3 : c.l = ((cs.take p).map (·.name)).length := lenAt (c := 1) (f := fun x : ByteArray => [Value.string x]) (fun _ => rfl) onv (by omega)
            rw [List.length_map, List.length_take] at hcl3
            have hk1 := k1.le
            have hfv := fv.le
            refine app1 onv r1 rfl rfl rfl (by omega) fun c2 v2 o2 l2 gr2 F2 => let_ ?_
            rw [W_succ (by omega)]
            refine hQ (m - 1) _ _ (by omega) ⟨p + 1, c2, rfl, by omega, ?_, fun b hb => ?_, ?_⟩
            · rw [List.take_add_one, hcl2, List.map_append, show (Option.some cl).toList.map (·.name) = [cl.name] from rfl, strC_snoc]
              exact o2
            · rcases gr2 b hb with h | h
              · exact hcb b h
              · omega
            · have F : FrP (fun b => u.heap.size ≤ b) u v2 := (FrP.of0 (fv.trans k1)).trans (F2.mono fun b hb => hcb b hb)
              exact ⟨F.1, fun b hb _ => F.2 b hb (by omega)⟩
          · have : cs.take p = cs := List.take_of_length_le (by omega)
            rw [this] at onc
            exact hJ49 c v ⟨onc, fun b hb => .inr (by have := hcb b hb; omega), fv⟩
        · have hs1 : T.star = false := hs1
          have hpc : prC cs T = T.list := by unfold prC; rw [hs1]; simp
          rw [hpc] at hJ49
          exact hJ49 _ u ⟨onu, fun b hb => .inl hb, Fr.refl _ _ _⟩
    · intro J60 hJ60
      have all : prN T hr.length = hr.length → J60 hit u := fun e => hJ60 hit u ⟨⟨ss1, by rw [e, ← hOl, List.take_length]; exact fru, fun b hb => hb, fun s hs => pm.mem_iff.1 hs⟩, rfl⟩
      refine ifb (fun hl => ?_) fun hl => ?_
      · have hl : T.hasLim = true := hl
        refine ldI pu.b2 rfl (ifd (fun hlt => ?_) fun hlt => ?_)
        · have hlt : T.lim < 0 := hlt
          have e : prN T hr.length = 0 := by unfold prN; rw [if_pos ⟨hl, by omega⟩, if_pos hlt]
          exact hJ60 _ _ ⟨⟨[], by rw [e, List.take_zero]; exact FR.none _ _, fun b hb => (by cases hb), fun s hs => (by cases hs)⟩, rfl⟩
        · have hlt : ¬ T.lim < 0 := hlt
          refine ldI pu.b2 rfl (ifd (fun h0 => ?_) fun h0 => ?_)
          · have h0 : T.lim < (hit.l : Int) := h0
            have e : prN T hr.length = T.lim.toNat := by unfold prN; rw [if_pos ⟨hl, by omega⟩, if_neg hlt]
            have hlim : T.lim = ((T.lim.toNat : Nat) : Int) := by omega
            have hc := fru.cut (n := T.lim.toNat) (by omega)
            refine ldI pu.b2 rfl ?_
            show CutS 1 hit 0 T.lim (hit.c : Int) _
            rw [hlim]
            rcases pu.oh with ⟨e1, e2⟩ | ⟨g, ea, eb, ec, junk, ed, ee⟩
            · rw [e1] at h0
              exact absurd h0 (by show ¬ T.lim < 0; omega)
            · refine cutS (lo := 0) (bb := g) ea (Nat.zero_le _) (by omega) (Nat.le_refl _) (.inr rfl) ?_
              rw [ea] at hc
              refine hJ60 _ _ ⟨⟨ss1.take T.lim.toNat, by rw [e]; exact hc, fun b hb => ?_, fun s hs => pm.mem_iff.1 (List.mem_of_mem_take hs)⟩, rfl⟩
              unfold owns at hb ⊢
              rw [ea]
              exact hb
          · have h0 : ¬ T.lim < (hit.l : Int) := h0
            exact all (by unfold prN; rw [if_neg (fun h => h0 (by omega))])
      · have hl : T.hasLim = false := hl
        exact all (by unfold prN; rw [if_neg (fun h => by rw [hl] at h; cases h.1)])
  · intro J hJ
    refine str_ne (fun e => ?_) fun e => ?_
    · have e : ¬ T.order = ⟨#[]⟩ := e
      obtain ⟨ci, hci⟩ := Option.ne_none_iff_exists'.1 (hor e)
      have hcil := coN_lt hci
      refine ldStr p3.b1 rfl (ldS p3.b1 rfl (ldI p3.b1 rfl (ldI p3.b1 rfl (ldStr p3.b2 rfl (mcolOf_spec p3.oc (by omega) fun w4 f4 => ?_)))))
      have p4 := p3.fr0 f4
      rw [show (toM T).order = T.order from rfl, coI_some hci]
      refine ldB p4.b2 rfl (sortRows_spec (col := ci) p4.oh p4.rw_ (by omega) (fun row hrw => by rw [hrow row hrw]; exact hcil) (fun s hs b hb => (fr.rb s hs b hb).2) fun w5 ss5 o5 r5 pm F5 => ?_)
      refine hJ w5 ⟨ss5, pm, ⟨p4.b1.frp F5 (nh _ (by omega)), p4.b2.frp F5 (nh _ (by omega)), p4.b3.frp F5 (nh _ (by omega)), p4.oc.frp F5 (fun b hb h => by have := lc b hb; have := fr.ra b h; omega), o5, ?_⟩, (OS.fr0 on3 f4).frp F5 (fun b hb h => by have := ly b hb; have := fr.ra b h; omega), (FrP.of0 f4).trans F5⟩
      unfold prO
      rw [if_neg e, coI_some hci, Int.toNat_natCast]
      exact r5
    · have e : T.order = ⟨#[]⟩ := e
      refine hJ w3 ⟨ss, List.Perm.refl _, ?_, on3, FrP.refl _ _⟩
      unfold prO
      rw [if_pos e]
      exact p3
end Go.Proofs.Qxb6500564aGreat
