/-
  SELECT's end: the real engine's project, whole.
-/
import Derived.Test.Qxb6500564aGreatQzK
namespace Go.Proofs.Qxb6500564aGreat
open Go.Den Go.Zip
set_option linter.unusedVariables false
set_option linter.unusedSimpArgs false
variable {w w' u v : World} {i j k n a b b0 h0 q g : Nat} {x nm : ByteArray} {cs : List Cl} {sc hit c r : Sl} {row : List Vl} {T : Smt} {y : Nat → Sl} {ss hs : List Sl} {rows hr : List (List Vl)} {val : Vl} {ns : List ByteArray}

/-- The answer's columns' names, while they are gathered. -/
structure PN1 (b0 : Nat) (sy : Sl) (u : World) (p8 : Nat) (n : Nat) (c : Sl) (ns : List ByteArray) : Prop where
  b8 : Blk u p8 (rsC 0 (n : Nat) c nilS)
  on : OS u c (strC ns) 1
  ow : ∀ b, owns c b → owns sy b ∨ b0 ≤ b
  np : ¬ owns c p8
set_option maxHeartbeats 16000000 in
theorem project_spec {K : Int → Int → Sl → Sl → World → Prop} {ixx : Int} {pk : Nat} {n0 : ByteArray} (fr : FR h0 w hit ss hr) (oc : OS w sc (colC cs) 2) (on : OS w (y 2) (strC T.list) 1) (lc : ∀ b, owns sc b → b < h0) (ly : ∀ b, owns (y 2) b → b < h0) (dcy : ∀ b, owns sc b → ¬ owns (y 2) b)
    (hcl : cs.length < 1000) (hnl : T.list.length < 1000) (hhl : hr.length ≤ 8) (hrow : ∀ row ∈ hr, row.length = cs.length) (hcn : ∀ n ∈ prC cs T, coN cs n ≠ none) (hor : T.order ≠ ⟨#[]⟩ → coN cs T.order ≠ none)
    (hK : ∀ w' c r ss', OS w' c (strC (prC cs T)) 1 → FR w.heap.size w' r ss' (prA cs T hr) → (∀ b, owns c b → owns (y 2) b ∨ w.heap.size ≤ b) → (∀ b, owns c b → ¬ owns r b ∧ ∀ s ∈ ss', ¬ owns s b) → FrP (fun b => owns hit b ∨ owns (y 2) b) w w' → K 0 (prN T hr.length : Nat) c r w') :
    S.query_project n0 sc (pk : Nat) ixx (T.kind : Nat) T.table (y 0) (T.pk : Nat) (y 1) T.star (y 2) (y 3) (y 4) T.order T.desc T.hasLim T.lim hit w K := by
  unfold S.query_project
  refine newB fun w1 q1 f1 z1 => newB fun w2 q2 f2 z2 => newB fun w3 q3 f3 z3 => ?_
  have q2 : Blk w2 w1.heap.size (smC T y) := q2
  have f03 := (f1.trans f2).trans f3
  have hh0 : ∀ b, owns hit b → b < w.heap.size := fun b hb => OS.lt fr.arr hb
  have hs0 : ∀ s ∈ ss, ∀ b, owns s b → b < w.heap.size := fun s hs b hb => fr.row.lt hs hb
  have hy0 : ∀ b, owns (y 2) b → b < w.heap.size := fun b hb => OS.lt on hb
  have hc0 : ∀ b, owns sc b → b < w.heap.size := fun b hb => OS.lt oc hb
  have p3 : PS1 w.heap.size w1.heap.size w2.heap.size (schC n0 sc (pk : Nat) ixx) (smC T y) sc cs hit ss hr w3 := ⟨(Blk.fr q1 f2 (by omega)).fr f3 (by omega), q2.fr f3 (by omega), q3, OS.fr0 oc f03, OS.fr0 fr.arr f03, fr.row.fr0 f03⟩
  have on3 := OS.fr0 on f03
  have hok : ∀ {ss1 : List Sl} {hr1 : List (List Vl)} {u : World}, PS1 w.heap.size w1.heap.size w2.heap.size (schC n0 sc (pk : Nat) ixx) (smC T y) sc cs hit ss1 hr1 u → ∀ {Q : Nat → Prop} {v : World}, FrP Q u v → (∀ s ∈ ss1, ∀ b, owns s b → ∃ s' ∈ ss, owns s' b) → (∀ b, Q b → owns (y 2) b ∨ w3.heap.size ≤ b) → PS1 w.heap.size w1.heap.size w2.heap.size (schC n0 sc (pk : Nat) ixx) (smC T y) sc cs hit ss1 hr1 v := fun {ss1 hr1 u} h {Q v} F hsub hQ => by
    have no : ∀ b, w.heap.size ≤ b → b < w3.heap.size → ¬ Q b := fun b h1 h2 hq => (hQ b hq).elim (fun h => by have := hy0 b h; omega) fun h => by omega
    refine h.frp F ⟨no _ (by omega) (by omega), no _ (by omega) (by omega), no _ (by omega) (by omega)⟩ (fun b hb hq => ?_) (fun b hb hq => ?_) fun s hs b hb hq => ?_
    · rcases hQ b hq with h | h
      · exact dcy b hb h
      · have := hc0 b hb; omega
    · rcases hQ b hq with h | h
      · have := ly b h; have := fr.ra b hb; omega
      · have := hh0 b hb; omega
    · obtain ⟨s', hs', hb'⟩ := hsub s hs b hb
      rcases hQ b hq with h | h
      · have := ly b h; have := (fr.rb s' hs' b hb').1; omega
      · have := hs0 s' hs' b hb'; omega
  refine ldStr p3.b2 rfl (join_W (fun u => ∃ ss1, ss1.Perm ss ∧ PS1 w.heap.size w1.heap.size w2.heap.size (schC n0 sc (pk : Nat) ixx) (smC T y) sc cs hit ss1 (prO cs T hr) u ∧ OS u (y 2) (strC T.list) 1 ∧ FrP (owns hit) w3 u) ?_ ?_)
  · rintro u ⟨ss1, pm, pu, onu, Fu⟩
    have hln : hit.l = hr.length := by
      have := OS.len pu.oh
      rw [List.length_map, pu.rw_.1, prO_len] at this; omega
    have hsub : ∀ s ∈ ss1, ∀ b, owns s b → ∃ s' ∈ ss, owns s' b := fun s hs b hb => ⟨s, pm.mem_iff.1 hs, hb⟩
    have hN := prN_le T hr.length
    have F0u : FrP (fun b => owns hit b ∨ owns (y 2) b) w u := (FrP.of0 f03).trans (Fu.mono fun b hb => .inl hb)
    have hsu : w3.heap.size ≤ u.heap.size := Fu.1.1
    refine let_ (join_P (fun nx v => nx = ((prN T hr.length : Nat) : Int) ∧ u = v) ?_ ?_)
    · rintro _ _ ⟨rfl, rfl⟩
      have hNe : prA cs T hr = ((prO cs T hr).take (prN T hr.length)).map (prR cs (prC cs T)) := rfl
      generalize prN T hr.length = N at *
      refine ldS pu.b2 rfl (newB fun w4 q4 f4 z4 => stR (c := ⟨(y 2).a, (y 2).l, (y 2).c⟩) (r := nilS) q4 rfl fun w5 q5 f5 => ?_)
      have q5 : Blk w5 u.heap.size (rsC 0 (N : Nat) (y 2) nilS) := q5
      have f45 : Fr 0 0 u w5 := f4.thenNew f5 (Nat.le_refl _)
      have pu5 := pu.fr0 f45
      have hs5 : w5.heap.size > u.heap.size := q5.lt
      refine join_W (fun v => ∃ c, PN1 w.heap.size (y 2) v u.heap.size N c (prC cs T) ∧ PS1 w.heap.size w1.heap.size w2.heap.size (schC n0 sc (pk : Nat) ixx) (smC T y) sc cs hit ss1 (prO cs T hr) v ∧ FrP (fun b => owns hit b ∨ owns (y 2) b) w v ∧ (∀ b, owns c b → owns (y 2) b ∨ u.heap.size < b) ∧ u.heap.size < v.heap.size) ?_ ?_
      · rintro v ⟨c, pn, pv, Fv, hcb, hsv⟩
        have hcv : ∀ b, owns c b → b < v.heap.size := fun b hb => OS.lt pn.on hb
        have hcl3 : c.l = (prC cs T).length := lenAt (c := 1) (f := fun x : ByteArray => [Value.string x]) (fun _ => rfl) pn.on (by omega)
        have hpl : (prC cs T).length < 10000 := by
          unfold prC
          rw [List.length_append]
          cases T.star
          · simp; omega
          · simp; omega
        have hOl : (prO cs T hr).length = hr.length := prO_len
        refine loopN (fun m sv v2 => ∃ (p : Nat) (r : Sl) (ss2 : List Sl), sv = ((p : Int), ()) ∧ p + m = N ∧ Blk v2 u.heap.size (rsC 0 (N : Nat) c r) ∧ OS v2 c (strC (prC cs T)) 1 ∧ PS1 w.heap.size w1.heap.size w2.heap.size (schC n0 sc (pk : Nat) ixx) (smC T y) sc cs hit ss1 (prO cs T hr) v2 ∧ FR v.heap.size v2 r ss2 (((prO cs T hr).take p).map (prR cs (prC cs T))) ∧ FrP (fun b => owns hit b ∨ owns (y 2) b) w v2 ∧ v.heap.size ≤ v2.heap.size) N
          ⟨0, nilS, [], rfl, by omega, pn.b8, pn.on, pv, FR.none _ _, Fv, Nat.le_refl _⟩ ?_
        rintro m _ v2 ⟨p, r, ss2, rfl, hm, b8, onv, pv2, fr2, Fv2, hs2⟩ Q hQ
        dsimp only
        refine ifd (fun hlt => ?_) fun hlt => ?_
        · have hlt : p < N := by omega
          obtain ⟨row, hrw⟩ : ∃ row, (prO cs T hr)[p]? = some row := ⟨_, List.getElem?_eq_getElem (by omega)⟩
          obtain ⟨xs, hxs⟩ : ∃ xs, ss1[p]? = some xs := ⟨_, List.getElem?_eq_getElem (by rw [pv2.rw_.1]; omega)⟩
          have hxm := pm.mem_iff.1 (List.mem_of_getElem? hxs)
          refine ldS b8 rfl ?_
          show MkS 167 [.bool false, .int .i64 0, .string ⟨#[]⟩] 32 v2 (c.l : Int) (c.l : Int) _
          refine mkS (by omega) (by omega) (by omega) (by omega) fun v3 g3 k3 t3 => ?_
          rw [Int.toNat_natCast] at g3
          rw [show ([.bool false, .int .i64 0, .string ⟨#[]⟩] : List Value) = valC v0 from rfl, reps_row, hcl3] at g3
          have b83 := b8.fr k3 (by omega)
          have on3 := OS.fr0 onv k3
          have pv3 := pv2.fr0 k3
          have fr3 := fr2.fr0 k3
          refine join_W (fun v4 => Blk v4 v2.heap.size (rowC (prR cs (prC cs T) row)) ∧ Fr v2.heap.size 1 v3 v4) ?_ ?_
          · rintro v4 ⟨bg, k4⟩
            have k24 : Fr 0 0 v2 v4 := k3.thenNew k4 (Nat.le_refl _)
            have b84 := b8.fr k24 (by omega)
            have fr4 := fr2.fr0 k24
            have on4 := OS.fr0 onv k24
            have pv4 := pv2.fr0 k24
            have hprl : (prR cs (prC cs T) row).length = (prC cs T).length := by unfold prR; rw [List.length_map]
            have ox : OS v4 ⟨some ⟨v2.heap.size, 0, none⟩, (c.l : Int).toNat, (c.l : Int).toNat⟩ (rowC (prR cs (prC cs T) row)) 3 := by
              rw [Int.toNat_natCast]
              refine .inr ⟨v2.heap.size, rfl, by rw [rowC_len, hprl, hcl3], Nat.le_refl _, [], by rw [List.append_nil]; exact bg, by rw [List.append_nil, rowC_len, hprl, hcl3]⟩
            have hx1 : ∀ b, owns ⟨some ⟨v2.heap.size, 0, none⟩, (c.l : Int).toNat, (c.l : Int).toNat⟩ b → b = v2.heap.size := fun b hb => by
              unfold owns at hb
              simp only [Option.some.injEq, Addr.mk.injEq] at hb
              exact hb.1.symm
            have hle4 := k24.le
            have hg4 := bg.lt
            refine ldS b84 rfl (frAdd (b0 := v.heap.size) (r := r) fr4 (by rw [List.length_map, List.length_take]; omega) ox (fun b hb => ?_) (by omega) fun v5 r5 fr5 F5 gr5 => ?_)
            · have e := hx1 b hb
              subst e
              refine ⟨hs2, fun h => ?_, fun s hs h => ?_⟩
              · have := OS.lt fr2.arr h; omega
              · have := fr2.row.lt hs h; omega
            · have hr5 : ∀ b, owns r b → v.heap.size ≤ b := fr2.ra
              have b85 := b84.frp F5 fun h => by have := hr5 _ h; omega
              refine st1 b85 (by show _ < 4; omega) fun v6 b6 k6 t6 => let_ ?_
              rw [W_succ (by omega)]
              have F46 : FrP (fun b => owns r b ∨ b = u.heap.size) v4 v6 := (F5.mono fun b hb => .inl hb).trans (FrP.of k6 fun b h1 h2 => .inr (by omega))
              have hF5 := F5.1.1
              refine hQ (m - 1) _ _ (by omega) ⟨p + 1, r5, ss2 ++ [⟨some ⟨v2.heap.size, 0, none⟩, (c.l : Int).toNat, (c.l : Int).toNat⟩], rfl, by omega, b6, on4.frp F46 (fun b hb h => ?_), hok pv4 F46 hsub (fun b hb => .inr (hb.elim (fun h => by have := hr5 b h; omega) fun h => by omega)), ?_, (Fv2.trans (FrP.of0 k24)).trans' F46 (fun b hb => .inr (hb.elim (fun h => by have := hr5 b h; omega) fun h => by omega)), by omega⟩
              · rcases h with h | h
                · have := hr5 b h; have := hcv b hb; omega
                · subst h
                  rcases hcb _ hb with h | h
                  · have := hy0 _ h; omega
                  · omega
              · have k6' : FrP (fun b => b = u.heap.size) v5 v6 := FrP.of k6 fun b h1 h2 => by omega
                have e : ((prO cs T hr).take (p + 1)).map (prR cs (prC cs T)) = ((prO cs T hr).take p).map (prR cs (prC cs T)) ++ [prR cs (prC cs T) row] := by
                  rw [List.take_add_one, hrw, List.map_append]; rfl
                rw [e]
                exact ⟨fr5.arr.frp k6' fun b hb h => by have := fr5.ra b hb; omega, fr5.row.frp k6' fun s hs b hb h => by have := (fr5.rb s hs b hb).1; omega, fr5.ra, fr5.rb, fr5.dis⟩
          · intro J17 hJ17
            have hrm : row ∈ prO cs T hr := List.mem_of_getElem? hrw
            refine pick_row (hs := ss1) (xs := xs) (row := row) (ns := prC cs T) (c := c) (g := v2.heap.size) rfl pv3.b1 b83 rfl pv3.oc (by omega) on3 (by omega) pv3.oh hxs (pv3.rw_.2 p xs row hxs hrw) (hrow row (prO_mem.1 hrm)) hcn ?_ g3 ⟨by omega, by omega, fun h => ?_, fun h => ?_, fun h => ?_, fun h => ?_⟩ fun v4 b4 k4 => hJ17 v4 ⟨b4, k4⟩
            · rw [Int.toNat_natCast, hcl3]
            · have := hc0 _ h; omega
            · have := hcv _ h; omega
            · have := hh0 _ h; omega
            · have := hs0 xs hxm _ h; omega
        · have hpN : p = N := by omega
          subst hpN
          refine ldR b8 (stR (c := c) (r := r) pv2.b3 rfl fun v3 b3 k3 => ldR b3 ?_)
          have hk3 : FrP (fun b => b = w2.heap.size) v2 v3 := FrP.of k3 fun b h1 h2 => by omega
          refine hK v3 c r ss2 (onv.frp hk3 fun b hb h => ?_) ?_ (fun b hb => (hcb b hb).imp_right fun h => by omega) (fun b hb => ⟨fun h => ?_, fun s hs h => ?_⟩) (Fv2.trans' hk3 fun b hb => .inr (by omega))
          · subst h
            rcases hcb _ hb with h | h
            · have := hy0 _ h; omega
            · omega
          · have e : prA cs T hr = ((prO cs T hr).take p).map (prR cs (prC cs T)) := hNe
            rw [e]
            exact (⟨fr2.arr.frp hk3 fun b hb h => by have := fr2.ra b hb; omega, fr2.row.frp hk3 fun s hs b hb h => by have := (fr2.rb s hs b hb).1; omega, fr2.ra, fr2.rb, fr2.dis⟩ : FR v.heap.size v3 r ss2 _).low (by omega)
          · have := fr2.ra b h; have := hcv b hb; omega
          · have := (fr2.rb s hs b h).1; have := hcv b hb; omega
      · intro J50 hJ50
        have go : ∀ v c (p : Nat), PN1 w.heap.size (y 2) v u.heap.size N c (T.list ++ (if T.star then (cs.take p).map (·.name) else [])) → PS1 w.heap.size w1.heap.size w2.heap.size (schC n0 sc (pk : Nat) ixx) (smC T y) sc cs hit ss1 (prO cs T hr) v → FrP (fun b => owns hit b ∨ owns (y 2) b) w v → (∀ b, owns c b → owns (y 2) b ∨ u.heap.size < b) → u.heap.size < v.heap.size → (T.star = false ∨ cs.length ≤ p) → J50 v := fun v c p h1 h2 h3 h4 h5 h6 => by
          refine hJ50 v ⟨c, ?_, h2, h3, h4, h5⟩
          have : prC cs T = T.list ++ (if T.star then (cs.take p).map (·.name) else []) := by
            unfold prC
            rcases h6 with h6 | h6
            · rw [h6]; rfl
            · rw [List.take_of_length_le h6]
          rw [this]
          exact h1
        refine loopN (fun m sv v => ∃ (p : Nat) (c : Sl), sv = ((p : Int), ()) ∧ p + m = cs.length ∧ PN1 w.heap.size (y 2) v u.heap.size N c (T.list ++ (if T.star then (cs.take p).map (·.name) else [])) ∧ PS1 w.heap.size w1.heap.size w2.heap.size (schC n0 sc (pk : Nat) ixx) (smC T y) sc cs hit ss1 (prO cs T hr) v ∧ FrP (fun b => owns hit b ∨ owns (y 2) b) w v ∧ (∀ b, owns c b → owns (y 2) b ∨ u.heap.size < b) ∧ u.heap.size < v.heap.size) cs.length
          ⟨0, y 2, rfl, by omega, ⟨q5, by
            have : (T.list ++ (if T.star then (cs.take 0).map (·.name) else [])) = T.list := by cases T.star <;> simp
            rw [this]
            exact OS.fr0 onu f45, fun b hb => .inl hb, fun h => by have := hy0 _ h; omega⟩, pu5, F0u.trans (FrP.of0 f45), fun b hb => .inl hb, hs5⟩ ?_
        rintro m _ v ⟨p, c, rfl, hm, pn, pv, Fv, hcb, hsv⟩ Q hQ
        dsimp only
        refine ldB pv.b2 rfl (ifb (fun hst => ?_) fun hst => ?_)
        · have hst : T.star = true := hst
          have hscl : (⟨sc.a, sc.l, sc.c⟩ : Sl).l = cs.length := lenAt (c := 2) (f := colC1) (fun _ => rfl) pv.oc (by omega)
          refine ldS pv.b1 rfl (ifd (fun hlt => ?_) fun hlt => ?_)
          · have hlt : p < cs.length := by omega
            obtain ⟨cl, hcl2⟩ : ∃ cl, cs[p]? = some cl := ⟨_, List.getElem?_eq_getElem hlt⟩
            have pd := pv.dr
            have b8d := pn.b8.drew
            refine drew_ (hold_ (ldS b8d rfl (ldS pd.b1 rfl (cellAt (c := 2) (f := colC1) (fun _ => rfl) pd.oc (by omega) hcl2 fun g us hb e0 ek ho => ldStr hb e0 (newB fun v1 r1 k1 t1 => ?_)))))
            refine ⟨holdS b8d (b8d.fr k1 (by omega)), ?_⟩
            have onv := OS.fr0 (OS.dr pn.on) k1
            rw [hst, if_pos rfl] at onv
            have hcl3 : c.l = (T.list ++ (cs.take p).map (·.name)).length := lenAt (c := 1) (f := fun x : ByteArray => [Value.string x]) (fun _ => rfl) onv (by omega)
            rw [List.length_append, List.length_map, List.length_take] at hcl3
            have hk1 := k1.le
            have hvd : v.drew.heap.size = v.heap.size := rfl
            refine app1 onv r1 rfl rfl rfl (by show (c.l + 1) * 16 ≤ 2 ^ 46; omega) fun c2 v2 o2 l2 gr2 F2 => ?_
            have ncp : ¬ owns c u.heap.size := pn.np
            have b82 := (b8d.fr k1 (by omega)).frp F2 ncp
            refine st1 b82 (by show _ < 4; omega) fun v3 b3 k3 t3 => ?_
            refine let_ ?_
            rw [W_succ (by omega)]
            have hQ2 : ∀ b, (owns c b ∨ b = u.heap.size) → owns (y 2) b ∨ w3.heap.size ≤ b := fun b hb => hb.elim (fun h => (hcb b h).imp_right fun h => by omega) fun h => .inr (by omega)
            have F23 : FrP (fun b => owns c b ∨ b = u.heap.size) v1 v3 := (F2.mono fun b hb => .inl hb).trans (FrP.of k3 fun b h1 h2 => .inr (by omega))
            have hF2 := F2.1.1
            refine hQ (m - 1) _ _ (by omega) ⟨p + 1, c2, rfl, by omega, ⟨b3, ?_, fun b hb => ?_, fun h => ?_⟩, hok (pd.fr0 k1) F23 hsub hQ2, (Fv.drew.trans (FrP.of0 k1)).trans' F23 (fun b hb => hb.elim (fun h => (hcb b h).elim (fun h => .inl (.inr h)) fun h => .inr (by omega)) fun h => .inr (by omega)), fun b hb => ?_, by omega⟩
            · rw [hst, if_pos rfl, List.take_add_one, hcl2, List.map_append, ← List.append_assoc]
              have o3 := o2.frp (FrP.of (P := fun b => b = u.heap.size) k3 fun b h1 h2 => by omega) fun b hb e => by
                subst e
                rcases gr2 _ hb with h | h
                · exact ncp h
                · omega
              have := strC_snoc (T.list ++ (cs.take p).map (·.name)) cl.name
              rw [show (Option.some cl).toList.map (·.name) = [cl.name] from rfl, this]
              exact o3
            · rcases gr2 b hb with h | h
              · exact pn.ow b h
              · exact .inr (by omega)
            · rcases gr2 _ h with h | h
              · exact ncp h
              · omega
            · rcases gr2 b hb with h | h
              · exact hcb b h
              · exact .inr (by omega)
          · exact go v c p pn pv Fv hcb hsv (.inr (by omega))
        · exact go v c p pn pv Fv hcb hsv (.inl hst)
    · intro J64 hJ64
      refine ldB pu.b2 rfl (ifb (fun hl => ?_) fun hl => ?_)
      · have hl : T.hasLim = true := hl
        refine ldI pu.b2 rfl (ifd (fun hlt => ?_) fun hlt => ?_)
        · refine ldI pu.b2 rfl (ifd (fun h0 => ?_) fun h0 => ?_)
          · exact hJ64 _ _ ⟨by unfold prN; rw [if_pos ⟨hl, by omega⟩, if_pos h0]; rfl, rfl⟩
          · exact hJ64 _ _ ⟨by unfold prN; rw [if_pos ⟨hl, by omega⟩, if_neg h0]; omega, rfl⟩
        · exact hJ64 _ _ ⟨by unfold prN; rw [if_neg (fun h => hlt (by omega)), hln], rfl⟩
      · exact hJ64 _ _ ⟨by unfold prN; rw [if_neg (fun h => by rw [hl] at h; cases h.1), hln], rfl⟩
  · intro J hJ
    refine str_ne (fun e => ?_) fun e => ?_
    · have e : ¬ T.order = ⟨#[]⟩ := e
      obtain ⟨ci, hci⟩ := Option.ne_none_iff_exists'.1 (hor e)
      have hcil := coN_lt hci
      refine ldStr p3.b1 rfl (ldS p3.b1 rfl (ldI p3.b1 rfl (ldI p3.b1 rfl (ldStr p3.b2 rfl (ColOf_spec p3.oc (by omega) fun w4 f4 => ?_)))))
      have p4 := p3.fr0 f4
      rw [coI_some hci]
      refine ldB p4.b2 rfl (sortRows_spec (col := ci) p4.oh p4.rw_ (by omega) (fun row hrw => by rw [hrow row hrw]; exact hcil) (fun s hs b hb => (fr.rb s hs b hb).2) fun w5 ss5 o5 r5 pm F5 => ?_)
      have nh : ∀ b, w.heap.size ≤ b → ¬ owns hit b := fun b h1 h2 => by have := hh0 b h2; omega
      refine hJ w5 ⟨ss5, pm, ⟨p4.b1.frp F5 (nh _ (by omega)), p4.b2.frp F5 (nh _ (by omega)), p4.b3.frp F5 (nh _ (by omega)), p4.oc.frp F5 (fun b hb h => by have := lc b hb; have := fr.ra b h; omega), o5, ?_⟩, (OS.fr0 on3 f4).frp F5 (fun b hb h => by have := ly b hb; have := fr.ra b h; omega), (FrP.of0 f4).trans F5⟩
      unfold prO
      rw [if_neg e, coI_some hci, Int.toNat_natCast]
      exact r5
    · have e : T.order = ⟨#[]⟩ := e
      refine hJ w3 ⟨ss, List.Perm.refl _, ?_, on3, FrP.refl _ _⟩
      unfold prO
      rw [if_pos e]
      exact p3
end Go.Proofs.Qxb6500564aGreat
