/-
  The real encoder: its tables, the counts, the plan, the costs, the list machine.
-/
import Derived.Test.Qxb6500563aGreatEncO
namespace Go.Proofs.Qxb6500563aGreat
open Go.Den Go.Zip
set_option linter.unusedVariables false
set_option linter.unusedSimpArgs false
variable {w w' : World} {B : Nat}

/-- All that the encoder's leg holds. -/
structure PS where
  count : Nat → Nat
  plan : Nat → Nat
  code : Nat → Nat
  wide : Nat → Nat
  bits : List Bool
  sa : CS
  sb : CS
def recP (B : Nat) : List Value := [.pointer (some ⟨B + 1, 0, none⟩), .pointer (some ⟨B + 2, 0, none⟩), .pointer (some ⟨B + 13, 0, none⟩), .pointer (some ⟨B + 24, 0, none⟩),
  .slice (some ⟨B + 29, 0, none⟩) 273 273, .slice (some ⟨B + 30, 0, none⟩) 273 273, .slice (some ⟨B + 31, 0, none⟩) 273 273, .slice (some ⟨B + 32, 0, none⟩) 273 273]
structure PK (w : World) (B : Nat) (s : PS) : Prop where
  tape : RTape w B s.bits 0
  ca : RC w (B + 2) s.sa
  cb : RC w (B + 13) s.sb
  z : RLz w (B + 24)
  rc : Blk w (B + 28) (recP B)
  count : Blk w (B + 29) (nats 273 s.count)
  plan : Blk w (B + 30) (nats 273 s.plan)
  code : Blk w (B + 31) (nats 273 s.code)
  wide : Blk w (B + 32) (nats 273 s.wide)
variable {s : PS}
theorem RLz.heq {C : Nat} (h : RLz w C) (e : w'.heap = w.heap) : RLz w' C := h.fr (Fr.heq (Fr.refl 0 0 w) e) (by omega)
theorem PK.fr {p n : Nat} (h : PK w B s) (f : Fr p n w w') (hb : B + 33 ≤ p ∨ p + n ≤ B) : PK w' B s :=
  ⟨h.tape.fr f (by omega), h.ca.fr f (by omega), h.cb.fr f (by omega), h.z.fr f (by omega), h.rc.fr f (by omega), h.count.fr f (by omega), h.plan.fr f (by omega), h.code.fr f (by omega), h.wide.fr f (by omega)⟩
theorem PK.heq (h : PK w B s) (e : w'.heap = w.heap) : PK w' B s := h.fr (Fr.heq (Fr.refl 0 0 w) e) (by omega)
theorem PK.drew (h : PK w B s) : PK w.drew B s := h.heq rfl
theorem PK.lt (h : PK w B s) : B + 32 < w.heap.size := h.wide.lt
theorem PK.setTape (h : PK w B s) {bits : List Bool} (ht : RTape w' B bits 0) (f : Fr B 2 w w') : PK w' B { s with bits := bits } :=
  ⟨ht, h.ca.fr f (by omega), h.cb.fr f (by omega), h.z.fr f (by omega), h.rc.fr f (by omega), h.count.fr f (by omega), h.plan.fr f (by omega), h.code.fr f (by omega), h.wide.fr f (by omega)⟩
theorem PK.setCa (h : PK w B s) {c : CS} (hc : RC w' (B + 2) c) (f : Fr (B + 2) 11 w w') : PK w' B { s with sa := c } :=
  ⟨h.tape.fr f (by omega), hc, h.cb.fr f (by omega), h.z.fr f (by omega), h.rc.fr f (by omega), h.count.fr f (by omega), h.plan.fr f (by omega), h.code.fr f (by omega), h.wide.fr f (by omega)⟩
theorem PK.setCb (h : PK w B s) {c : CS} (hc : RC w' (B + 13) c) (f : Fr (B + 13) 11 w w') : PK w' B { s with sb := c } :=
  ⟨h.tape.fr f (by omega), h.ca.fr f (by omega), hc, h.z.fr f (by omega), h.rc.fr f (by omega), h.count.fr f (by omega), h.plan.fr f (by omega), h.code.fr f (by omega), h.wide.fr f (by omega)⟩
theorem PK.setZ (h : PK w B s) (hz : RLz w' (B + 24)) (f : Fr (B + 24) 4 w w') : PK w' B s :=
  ⟨h.tape.fr f (by omega), h.ca.fr f (by omega), h.cb.fr f (by omega), hz, h.rc.fr f (by omega), h.count.fr f (by omega), h.plan.fr f (by omega), h.code.fr f (by omega), h.wide.fr f (by omega)⟩
theorem PK.setCount (h : PK w B s) {v : Nat → Nat} (hb : Blk w' (B + 29) (nats 273 v)) (f : Fr (B + 29) 1 w w') : PK w' B { s with count := v } :=
  ⟨h.tape.fr f (by omega), h.ca.fr f (by omega), h.cb.fr f (by omega), h.z.fr f (by omega), h.rc.fr f (by omega), hb, h.plan.fr f (by omega), h.code.fr f (by omega), h.wide.fr f (by omega)⟩
theorem PK.setPlan (h : PK w B s) {v : Nat → Nat} (hb : Blk w' (B + 30) (nats 273 v)) (f : Fr (B + 30) 1 w w') : PK w' B { s with plan := v } :=
  ⟨h.tape.fr f (by omega), h.ca.fr f (by omega), h.cb.fr f (by omega), h.z.fr f (by omega), h.rc.fr f (by omega), h.count.fr f (by omega), hb, h.code.fr f (by omega), h.wide.fr f (by omega)⟩
theorem PK.setCode (h : PK w B s) {v : Nat → Nat} (hb : Blk w' (B + 31) (nats 273 v)) (f : Fr (B + 31) 1 w w') : PK w' B { s with code := v } :=
  ⟨h.tape.fr f (by omega), h.ca.fr f (by omega), h.cb.fr f (by omega), h.z.fr f (by omega), h.rc.fr f (by omega), h.count.fr f (by omega), h.plan.fr f (by omega), hb, h.wide.fr f (by omega)⟩
theorem PK.setWide (h : PK w B s) {v : Nat → Nat} (hb : Blk w' (B + 32) (nats 273 v)) (f : Fr (B + 32) 1 w w') : PK w' B { s with wide := v } :=
  ⟨h.tape.fr f (by omega), h.ca.fr f (by omega), h.cb.fr f (by omega), h.z.fr f (by omega), h.rc.fr f (by omega), h.count.fr f (by omega), h.plan.fr f (by omega), h.code.fr f (by omega), hb⟩

theorem block_lenSym_spec {n : Nat} {K : Int → World → Prop} (h1 : 3 ≤ n) (h2 : n ≤ 10) (hK : K ((254 + n : Nat) : Int) w) : S.block_lenSym (n : Int) w K := by
  unfold S.block_lenSym
  rw [show W (W (257 + (n : Int)) - 3) = ((254 + n : Nat) : Int) from by rw [W_id (x := 257 + (n : Int)) (by omega) (by omega), W_id (by omega) (by omega)]; omega]
  exact hK

set_option maxRecDepth 10000 in
theorem block_tally_spec {tb : Nat} {toks : List Tok} {K : World → Prop} (h : PK w B s) (ht : Blk w tb (toks.flatMap tokv)) (htb : tb < B ∨ B + 33 ≤ tb) (hok : ∀ t ∈ toks, TokOK t) (hl : toks.length ≤ 256)
    (hK : ∀ w', PK w' B { s with count := cntT toks } → Fr (B + 29) 1 w w' → K w') : S.block_Packer_tally (B + 28) ⟨some ⟨tb, 0, none⟩, toks.length, toks.length⟩ w K := by
  unfold S.block_Packer_tally
  refine join_ ?_
  refine loopN (fun m st v => ∃ i : Nat, st = ((i : Int), ()) ∧ m + i = 273 ∧ PK v B { s with count := mix i (fun _ => 0) s.count } ∧ Fr (B + 29) 1 w v) 273 ⟨0, rfl, rfl, by rw [mix_zero]; exact h, Fr.refl _ _ _⟩ ?_
  rintro m _ v ⟨i, rfl, hm, hv, fv⟩ Q hQ
  dsimp only
  by_cases hi : i < 273
  · rw [if_pos (by simp only [decide_eq_true_eq]; omega)]
    refine ldS hv.rc rfl (wrN (v := 0) hv.count hi rfl fun v2 d2 f2 _ => ?_)
    have d2 : Blk v2 (B + 29) (nats 273 (fset (mix i (fun _ => 0) s.count) i ((fun _ => 0) i))) := d2
    rw [mix_set] at d2
    rw [W_succ (by omega)]
    exact let_ (hQ (m - 1) _ _ (by omega) ⟨i + 1, rfl, by omega, hv.setCount d2 f2, fv.trans f2⟩)
  rw [if_neg (by simp only [decide_eq_true_eq]; omega)]
  have e : i = 273 := by omega
  subst e
  have hv0 : PK v B { s with count := fun _ => 0 } := by
    have := hv.count
    rw [nats_congr (g := fun _ => 0) (mix_all (fun _ => 0) s.count)] at this
    exact ⟨hv.tape, hv.ca, hv.cb, hv.z, hv.rc, this, hv.plan, hv.code, hv.wide⟩
  have tv := ht.fr fv (by omega)
  refine ldS hv0.rc rfl (wrN (i := 256) (v := 1) hv0.count (by omega) rfl fun v1 d1 f1 _ => ?_)
  have h1 := hv0.setCount d1 f1
  refine loopN (fun m st v => ∃ k : Nat, st = ((k : Int), ()) ∧ m + k = toks.length ∧ PK v B { s with count := cntT (toks.take k) } ∧ Blk v tb (toks.flatMap tokv) ∧ Fr (B + 29) 1 w v) toks.length
    ⟨0, rfl, rfl, h1, tv.fr f1 (by omega), fv.trans f1⟩ ?_
  rintro m _ v ⟨k, rfl, hm, hv, tv, fv⟩ Q hQ
  dsimp only
  by_cases hk : k < toks.length
  · rw [if_pos (by simp only [decide_eq_true_eq]; omega)]
    have ht : toks[k]? = some toks[k] := List.getElem?_eq_getElem hk
    have hto := hok _ (List.getElem_mem hk)
    have hcs := cnt_succ ht
    generalize toks[k] = t at *
    have hcl : ∀ s, cntT (toks.take k) s ≤ 513 := fun s => by
      have := cnt_le (toks.take k) s
      have : (toks.take k).length ≤ 256 := by simp; omega
      omega
    refine join_ (rdTok0 tv ht ?_)
    rcases hto with ⟨t1, t2⟩ | ⟨t1, t2, t3, t4⟩
    · rw [if_pos (by simp only [beq_iff_eq]; omega)]
      refine drew_ (ldS hv.drew.rc rfl (rdTok2 tv.drew ht ?_))
      have := hcl t.2.2
      refine rdN hv.drew.count (by omega) (wrN (v := cntT (toks.take k) t.2.2 + 1) hv.drew.count (by omega) (by rw [W_succ (by show cntT (toks.take k) t.2.2 < _; omega)]) fun v2 d2 f2 _ => ?_)
      have f2 : Fr (B + 29) 1 v v2 := f2
      rw [W_succ (by omega)]
      refine let_ (hQ (m - 1) _ _ (by omega) ⟨k + 1, rfl, by omega, ?_, tv.fr f2 (by omega), fv.trans f2⟩)
      rw [hcs]
      unfold addTok symsOf
      rw [if_pos t1]
      exact hv.setCount d2 f2
    · rw [if_neg (by simp only [beq_iff_eq]; omega)]
      refine block_lenSym_spec t1 t2 ?_
      have := hcl (254 + t.1)
      refine ldS hv.rc rfl (rdN hv.count (by omega) (wrN (v := cntT (toks.take k) (254 + t.1) + 1) hv.count (by omega) (by rw [W_succ (by show cntT (toks.take k) (254 + t.1) < _; omega)]) fun v2 d2 f2 _ => ?_))
      have hv2 := hv.setCount d2 f2
      have tv2 := tv.fr f2 (by omega)
      refine rdTok1 tv2 ht ?_
      refine api_DistCode_spec t3 t4 ?_
      have hdc := (dCode_facts t3 t4).1
      rw [show W (265 + (dCode t.2.1 : Int)) = ((265 + dCode t.2.1 : Nat) : Int) from by rw [W_id (by omega) (by omega)]; omega]
      have := hcl (265 + dCode t.2.1)
      have he : fset (cntT (toks.take k)) (254 + t.1) (cntT (toks.take k) (254 + t.1) + 1) (265 + dCode t.2.1) = cntT (toks.take k) (265 + dCode t.2.1) := fset_ne (by omega)
      refine ldS hv2.rc rfl (rdN hv2.count (by omega) (wrN (v := fset (cntT (toks.take k)) (254 + t.1) (cntT (toks.take k) (254 + t.1) + 1) (265 + dCode t.2.1) + 1) hv2.count (by omega) (by rw [W_succ (by show fset (cntT (toks.take k)) (254 + t.1) (cntT (toks.take k) (254 + t.1) + 1) (265 + dCode t.2.1) < _; rw [he]; omega)]) fun v3 d3 f3 _ => ?_))
      rw [W_succ (by omega)]
      refine let_ (hQ (m - 1) _ _ (by omega) ⟨k + 1, rfl, by omega, ?_, tv2.fr f3 (by omega), (fv.trans f2).trans f3⟩)
      rw [hcs]
      unfold addTok symsOf
      rw [if_neg (by omega)]
      exact hv2.setCount d3 f3
  · rw [if_neg (by simp only [decide_eq_true_eq]; omega)]
    have : k = toks.length := by omega
    subst this
    rw [List.take_length] at hv
    exact hK v hv fv

theorem nats_take {n m : Nat} {f : Nat → Nat} (h : n ≤ m) : (nats m f).take n = nats n f := by
  unfold nats ints
  rw [← List.map_take]
  congr 1
  refine tab_ext (by simp; omega) fun i hi => ?_
  rw [List.getElem?_take, if_pos hi, tab_get (by omega)]
theorem nats_drop {n m k : Nat} {f : Nat → Nat} (h : n + k = m) : (nats m f).drop n = nats k (fun i => f (n + i)) := by
  unfold nats ints
  rw [← List.map_drop]
  congr 1
  refine tab_ext (by simp; omega) fun i hi => ?_
  rw [List.getElem?_drop, tab_get (by omega)]
theorem nats_join {n m k : Nat} {f g : Nat → Nat} (h : n + k = m) : nats n f ++ nats k g = nats m (fun i => if i < n then f i else g (i - n)) := by
  unfold nats ints
  rw [← List.map_append]
  refine congrArg (List.map (Value.int .i64)) (tab_ext (by simp; omega) fun i hi => ?_)
  by_cases hi2 : i < n
  · rw [List.getElem?_append_left (by simpa using hi2), tab_get hi2]; simp only [if_pos hi2]
  · rw [List.getElem?_append_right (by simp; omega), tab_length, tab_get (by omega)]; simp only [if_neg hi2]

set_option maxRecDepth 10000 in
theorem block_lengths_spec {K : World → Prop} (h : PK w B s) (hc : ∀ i, s.count i ≤ 1048576) (hK : ∀ w', PK w' B { s with plan := planT s.count } → Fr B 33 w w' → K w') : S.block_Packer_lengths (B + 28) w K := by
  unfold S.block_Packer_lengths
  have hlt := h.lt
  refine drew_ (ldP h.drew.rc rfl (ldS h.drew.rc rfl ?_))
  refine cutS (lo := 0) (hi := 265) (mx := 273) (bb := B + 29) rfl (by omega) (by omega) (by show 273 ≤ 273; omega) (by omega) ?_
  have i1 : IS w.drew ⟨some ⟨B + 29, 0 * 1, none⟩, 265 - 0, 273 - 0⟩ (B + 29) 265 s.count := by
    have := IS.win (c := 273) (o := 0) (n := 265) h.drew.count (by omega)
    simpa using this
  refine huff_Plan_spec h.drew.ca i1 (by omega) (by omega) (fun i _ => hc i) fun la w1 N1 c1 f1 => ?_
  have f1 : Fr (B + 2) 11 w w1 := f1
  have h1 := h.setCa c1 f1
  obtain ⟨x1, n1, rfl, hx1⟩ := N1.ex
  have hx1 : w.heap.size ≤ x1 := hx1
  have hx1l := n1.lt
  refine drew_ (ldP h1.drew.rc rfl (ldS h1.drew.rc rfl ?_))
  refine cutS (lo := 265) (hi := 273) (mx := 273) (bb := B + 29) rfl (by omega) (by omega) (by show 273 ≤ 273; omega) (by omega) ?_
  have i2 : IS w1.drew ⟨some ⟨B + 29, 265 * 1, none⟩, 273 - 265, 273 - 265⟩ (B + 29) 8 (hiL s.count) := IS.win (c := 8) (o := 265) (n := 8) h1.drew.count (by omega)
  refine huff_Plan_spec h1.drew.cb i2 (by omega) (by omega) (fun i _ => hc (265 + i)) fun lb w2 N2 c2 f2 => ?_
  have f2 : Fr (B + 13) 11 w1 w2 := f2
  have h2 := h1.setCb c2 f2
  obtain ⟨x2, n2, rfl, hx2⟩ := N2.ex
  have hx2 : w1.heap.size ≤ x2 := hx2
  have n1' := n1.fr f2 (by omega)
  refine ldS h2.rc rfl ?_
  refine cutS (lo := 0) (hi := 265) (mx := 273) (bb := B + 30) rfl (by omega) (by omega) (by show 273 ≤ 273; omega) (by omega) ?_
  refine copyS (us := nats 265 (planL 265 s.count)) (n := 265) (ox := 0) (od := 0) n1' rfl h2.plan (by simp) rfl (by rw [List.drop_zero, List.take_of_length_le (by simp)]) (by simp) (nats_ok _ _) (by simp) fun w3 d3 f3 s3 => ?_
  have d3 : Blk w3 (B + 30) ((nats 273 s.plan).take 0 ++ nats 265 (planL 265 s.count) ++ (nats 273 s.plan).drop (0 + (nats 265 (planL 265 s.count)).length)) := d3
  rw [List.take_zero, List.nil_append, nats_length, Nat.zero_add, nats_drop (k := 8) (by omega), nats_join (m := 273) (by omega)] at d3
  have h3 := h2.setPlan d3 f3
  refine ldS h3.rc rfl ?_
  refine cutS (lo := 265) (hi := 273) (mx := 273) (bb := B + 30) rfl (by omega) (by omega) (by show 273 ≤ 273; omega) (by omega) ?_
  have n2' := n2.fr f3 (by omega)
  refine copyS (us := nats 8 (planL 8 (hiL s.count))) (n := 8) (ox := 0) (od := 265) n2' rfl h3.plan (by simp) rfl (by rw [List.drop_zero, List.take_of_length_le (by simp)]) (by simp) (nats_ok _ _) (by simp) fun w4 d4 f4 s4 => ?_
  have d4 : Blk w4 (B + 30) ((nats 273 (fun i => if i < 265 then planL 265 s.count i else s.plan (265 + (i - 265)))).take 265 ++ nats 8 (planL 8 (hiL s.count)) ++ (nats 273 (fun i => if i < 265 then planL 265 s.count i else s.plan (265 + (i - 265)))).drop (265 + (nats 8 (planL 8 (hiL s.count))).length)) := d4
  rw [nats_take (by omega), nats_length, List.drop_of_length_le (by simp), List.append_nil, nats_join (m := 273) (by omega)] at d4
  have d5 : Blk w4 (B + 30) (nats 273 (planT s.count)) := by
    rw [nats_congr (g := fun i => if i < 265 then (fun i => if i < 265 then planL 265 s.count i else s.plan (265 + (i - 265))) i else planL 8 (hiL s.count) (i - 265)) fun i hi => ?_]
    · exact d4
    · unfold planT
      by_cases h5 : i < 265
      · rw [if_pos h5]; simp only [if_pos h5]
      · rw [if_neg h5, if_neg h5]
  have h4 := h3.setPlan d5 f4
  refine hK w4 ⟨h4.tape, ?_, ?_, h4.z, h4.rc, h4.count, h4.plan, h4.code, h4.wide⟩ ?_
  · exact h4.ca
  · exact h4.cb
  · exact (((f1.mono (by omega) (by omega)).trans (f2.mono (by omega) (by omega))).trans (f3.mono (by omega) (by omega))).trans (f4.mono (by omega) (by omega))
end Go.Proofs.Qxb6500563aGreat
