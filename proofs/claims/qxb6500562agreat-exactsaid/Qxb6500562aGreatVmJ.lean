/-
  The machine: Run, New.
-/
import Derived.Test.Qxb6500562aGreatVmI
namespace Go.Proofs.Qxb6500562aGreat
open Go.Den Go.Zip
set_option linter.unusedVariables false
set_option linter.unusedSimpArgs false
variable {w w' : World} {m h : Nat} {c : List Nat} {inp : List Int} {s : MS} {g g' : Nat → Value} {sc si so : Sl} {O O' : Nat → Prop} {H : SH} {out : List Int} {f : Fm} {r : List Fm} {x : Sl}

/-- Six cells laid. -/
theorem lay6 {p : Nat} {vs : List Value} {a0 a1 a2 a3 a5 : Int} {a4 : Sl} {K : World → Prop} (h : Blk w p vs) (hl : vs.length = 6)
    (hK : ∀ w', Blk w' p [.int .i64 a0, .int .i64 a1, .int .i64 a2, .int .i64 a3, .slice a4.a a4.l a4.c, .int .i64 a5] → Fr p 1 w w' → w'.heap.size = w.heap.size → K w') :
    St1 w ⟨p, 0, none⟩ (.int .i64 a0) fun w => St1 w ⟨p, 1, none⟩ (.int .i64 a1) fun w => St1 w ⟨p, 2, none⟩ (.int .i64 a2) fun w => St1 w ⟨p, 3, none⟩ (.int .i64 a3) fun w => St1 w ⟨p, 4, none⟩ (.slice a4.a a4.l a4.c) fun w => St1 w ⟨p, 5, none⟩ (.int .i64 a5) K := by
  obtain ⟨c0, c1, c2, c3, c4, c5, rfl⟩ : ∃ c0 c1 c2 c3 c4 c5, vs = [c0, c1, c2, c3, c4, c5] := by
    match vs, hl with
    | [c0, c1, c2, c3, c4, c5], _ => exact ⟨c0, c1, c2, c3, c4, c5, rfl⟩
  refine st1 h (by simp) fun w1 b1 f1 s1 => ?_
  refine st1 b1 (by simp) fun w2 b2 f2 s2 => ?_
  refine st1 b2 (by simp) fun w3 b3 f3 s3 => ?_
  refine st1 b3 (by simp) fun w4 b4 f4 s4 => ?_
  refine st1 b4 (by simp) fun w5 b5 f5 s5 => ?_
  refine st1 b5 (by simp) fun w6 b6 f6 s6 => ?_
  exact hK w6 b6 (((((f1.trans f2).trans f3).trans f4).trans f5).trans f6) (by omega)
theorem read6 {p : Nat} {a0 a1 a2 a3 a5 : Int} {a4 : Sl} {K : Int → Int → Int → Int → Sl → Int → Prop} (h : Blk w p [.int .i64 a0, .int .i64 a1, .int .i64 a2, .int .i64 a3, .slice a4.a a4.l a4.c, .int .i64 a5]) (hK : K a0 a1 a2 a3 a4 a5) :
    LdI .i64 w ⟨p, 0, none⟩ fun x0 => LdI .i64 w ⟨p, 1, none⟩ fun x1 => LdI .i64 w ⟨p, 2, none⟩ fun x2 => LdI .i64 w ⟨p, 3, none⟩ fun x3 => LdS w ⟨p, 4, none⟩ fun x4 => LdI .i64 w ⟨p, 5, none⟩ fun x5 => K x0 x1 x2 x3 x4 x5 :=
  ldI h rfl (ldI h rfl (ldI h rfl (ldI h rfl (ldS h rfl (ldI h rfl hK)))))
/-- A list of numbers, handed out: nil, or of its own, with no room to spare. -/
def OutS (n0 : Nat) (O : Nat → Prop) (w : World) (x : Sl) (zs : List Int) : Prop := (zs = [] ∧ x = nilS) ∨ (zs ≠ [] ∧ ∃ b, n0 ≤ b ∧ ¬ O b ∧ x = ⟨some ⟨b, 0, none⟩, zs.length, zs.length⟩ ∧ Blk w b (ints zs))
theorem VI.lt (v : VI w m h O) {b : Nat} (hb : O b) : b < w.heap.size := by
  obtain ⟨c, inp, H, g, sc, si, X, _, _, _, _, rfl⟩ := v
  exact X.lt hb
theorem VI.frp {P : Nat → Prop} (v : VI w m h O) (f : FrP P w w') (hn : ∀ b, O b → ¬ P b) : VI w' m h O := by
  obtain ⟨c, inp, H, g, sc, si, X, a, b, c', d, rfl⟩ := v
  exact ⟨c, inp, H, g, sc, si, X.frp f hn, a, b, c', d, rfl⟩
theorem VQ.mu48 (q : VQ w m h c inp s sc si so) : s.fs.length ≤ 48 := by
  obtain ⟨g, X, v⟩ := q
  have := len_wsz s.fs
  have := v.le
  omega
theorem VQ.ldEn {K : Int → Prop} (q : VQ w m h c inp s sc si so) (hK : K s.en) : LdI .i64 w ⟨m, 61, none⟩ K := by
  obtain ⟨g, X, v⟩ := q
  exact X.ld (by omega) v.en hK
set_option maxHeartbeats 1000000 in
theorem vrun_spec {code input : Sl} {fuel : Int} {K : Int → Int → Int → Int → Sl → Int → World → Prop} (v : VI w m h O) (hc : Src w O code (byts c)) (hi : Src w O input (ints inp)) (cb : ∀ x ∈ c, x < 256) (cl : c.length ≤ 4096) (il : inp.length ≤ 128) (fb : -9223372036854775808 ≤ fuel ∧ fuel < 9223372036854775808)
    (hK : ∀ w' O' res x, VI w' m h O' → Gw O w O' w' → MRun c inp fuel res → OutS w.heap.size O' w' x res.out → K 0 0 res.en res.rv x res.fuel w') : S.vm_VM_Run m code input fuel w K := by
  unfold S.vm_VM_Run
  refine newB fun w1 b1 f1 s1 => ?_
  generalize hp1 : w.heap.size = p1 at *
  have hcl : code.l = c.length := by have := hc.1; simpa using this.symm
  have hil : input.l = inp.length := by have := hi.1; simpa [ints] using this.symm
  rw [if_neg (by simp only [decide_eq_true_eq]; omega), if_neg (by simp only [decide_eq_true_eq]; omega)]
  have F1 : FrP (fun _ => False) w w1 := FrP.of0 f1
  have v1 := v.frp F1 fun _ _ h => h
  have hnO : ¬ O p1 := fun h => by have := v.lt h; omega
  refine reset_spec v1 (hc.frp (F1.mono fun _ h => h.elim)) (hi.frp (F1.mono fun _ h => h.elim)) cb cl il fb fun w2 sc si q2 G2 => ?_
  refine venter_spec (a := 0) (ret := 0) q2 (by omega) (by omega) fun w3 q3 F3 => ?_
  have G3 : Gw O w1 (vmo m h sc si nilS) w3 := G2.trans ⟨F3, fun b hb => .inl hb⟩
  refine join_W (fun u => ∃ s so, VQ u m h c inp s sc si so ∧ Gw O w1 (vmo m h sc si so) u ∧ MRun c inp fuel s) ?_ ?_
  · rintro u ⟨s, so, ⟨g, X, vg⟩, G, hm⟩
    have osl := X.osl
    refine X.ldS (by omega) vg.ou ?_
    refine join_P (fun x u' => VX u' m h c inp s.H s.out g sc si so ∧ Gw O w1 (vmo m h sc si so) u' ∧ OutS w1.heap.size (vmo m h sc si so) u' x s.out) ?_ ?_
    · rintro x u' ⟨X, G, ho⟩
      refine drew_ ?_
      have X := X.drew
      refine X.ld (by omega) vg.en (X.ld (by omega) vg.rv (X.ld (by omega) vg.fu ?_))
      refine newB fun w4 b4 f4 s4 => ?_
      have F4 : FrP (fun _ => False) u'.drew w4 := FrP.of0 f4
      have X4 := X.frp F4 fun _ _ h => h
      refine ⟨held X.rc X4.rc, held X.rc X4.rc, held X.rc X4.rc, ?_⟩
      generalize hp4 : u'.drew.heap.size = p4 at *
      refine lay6 b4 rfl fun w5 b5 f5 s5 => ?_
      have F5 : FrP (fun b => b = p4) w4 w5 := FrP.of f5 fun b h1 h2 => by omega
      have np4 : ∀ b, vmo m h sc si so b → b ≠ p4 := fun b hb e => by have := X.lt hb; omega
      have X5 := X4.frp F5 np4
      refine X5.st (by omega) fun w6 X6 F6 _ => ?_
      have nb4 : ¬ vmo m h sc si so p4 := fun hb => np4 _ hb rfl
      refine read6 (b5.frp F6 nb4) ?_
      have up : w1.heap.size ≤ u'.heap.size := G.1.1.1
      have hu4 : u'.heap.size = p4 := hp4
      have np1 : ¬ vmo m h sc si so p1 := fun hb => (G.2 _ hb).elim hnO fun h => by omega
      have ne14 : p1 ≠ p4 := by omega
      have c1 : Blk w6 p1 [.int .i64 0, .int .i64 0, .int .i64 0, .int .i64 0, .slice none 0 0, .int .i64 0] := (((b1.frp G.1 hnO).frp F4 (fun h => h)).frp F5 ne14).frp F6 np1
      refine lay6 c1 rfl fun w7 b7 f7 s7 => read6 b7 ?_
      have F7 : FrP (fun b => b = p1) w6 w7 := FrP.of f7 fun b h1 h2 => by omega
      have X7 := X6.frp F7 fun b hb e => np1 (e ▸ hb)
      refine hK w7 (vmo m h sc si nilS) s x ?_ ?_ hm ?_
      · refine ⟨c, inp, s.H, _, sc, si, { X7 with oo := OS.nil _ _, om := fun b hb => by simp [owns] at hb, ol := by simp }, ?_, fun i hi => ?_, ?_, ?_, rfl⟩
        · rw [fset_ne (by omega)]; exact vg.hp
        · rw [fset_ne (by omega)]; exact vg.sk i hi
        · rw [fset_ne (by omega)]; exact vg.co
        · rw [fset_ne (by omega)]; exact vg.ii
      · have a1 : FrP O w u' := (F1.mono fun _ h => h.elim).trans G.1
        have a2 : FrP O w w6 := by
          refine ((a1.trans (w' := u') (F4.mono fun _ h => h.elim)).trans' F5 fun b e => .inr (by subst e; have := a1.1.1; omega)).trans' F6 fun b hb => (G.2 b hb).elim .inl fun h => .inr (by have := F1.1.1; omega)
        refine ⟨a2.trans' F7 fun b e => .inr (by omega), ?_⟩
        intro b hb
        have : vmo m h sc si so b := by
          rcases hb with h' | h' | h' | h' | h'
          · exact .inl h'
          · exact .inr (.inl h')
          · exact .inr (.inr (.inl h'))
          · exact .inr (.inr (.inr (.inl h')))
          · simp [owns] at h'
        exact (G.2 b this).elim .inl fun h => .inr (by have := F1.1.1; omega)
      · rcases ho with ⟨h1, h2⟩ | ⟨h1, b, h2, h3, h4, h5⟩
        · exact .inl ⟨h1, h2⟩
        · have hb5 := h5.lt
          refine .inr ⟨h1, b, by omega, ?_, h4, ?_⟩
          · intro hb
            apply h3
            rcases hb with h' | h' | h' | h' | h'
            · exact .inl h'
            · exact .inr (.inl h')
            · exact .inr (.inr (.inl h'))
            · exact .inr (.inr (.inr (.inl h')))
            · simp [owns] at h'
          · refine ((((h5.drew).frp F4 (fun h => h)).frp F5 (fun e => ?_)).frp F6 h3).frp F7 (fun e => ?_)
            · omega
            · omega
    · intro J hJ
      by_cases hl : 0 < s.out.length
      · rw [if_pos (by simp only [decide_eq_true_eq, osl]; omega)]
        have hol := X.ol
        refine X.ldS (by omega) vg.ou ?_
        rw [osl]
        refine mkS (by omega) (by omega) (by omega) (by omega) fun w4 b4 f4 s4 => ?_
        have F4 : FrP (fun _ => False) u w4 := FrP.of0 f4
        have X4 := X.frp F4 fun _ _ h => h
        refine X4.ldS (by omega) vg.ou ?_
        generalize hp4 : u.heap.size = p4 at *
        rw [Int.toNat_natCast, reps_ints] at *
        rcases X4.oo with ⟨_, e⟩ | ⟨gb, a, b, cc, junk, d, l⟩
        · have : s.out = [] := by simpa [ints] using e
          rw [this] at hl; simp at hl
        · have hlz : (ints s.out).length = s.out.length := by simp [ints]
          refine copyS (n := s.out.length) (us := ints s.out) d a b4 rfl (by dsimp only; rw [osl]; simp) (by rw [Nat.mul_one, List.drop_zero, ← hlz]; simp) (by rw [hlz, Nat.mul_one]) (ints_ok _) (by simp [ints]) fun w5 b5 f5 s5 => ?_
          have F5 : FrP (fun b => b = p4) w4 w5 := FrP.of f5 fun b h1 h2 => by omega
          have np4 : ∀ b, vmo m h sc si so b → b ≠ p4 := fun b hb e => by have := X.lt hb; omega
          refine hJ _ w5 ⟨X4.frp F5 np4, ⟨(G.1.trans (F4.mono fun _ h => h.elim)).trans' F5 fun b e => .inr (by have := G.1.1.1; omega), G.2⟩, .inr ⟨by intro e; rw [e] at hl; simp at hl, p4, by have := G.1.1.1; omega, fun hb => np4 _ hb rfl, rfl, ?_⟩⟩
          have e5 : (ints (List.replicate s.out.length 0)).take 0 ++ ints s.out ++ (ints (List.replicate s.out.length 0)).drop (0 + (ints s.out).length) = ints s.out := by simp [ints]
          rw [e5] at b5
          exact b5
      · rw [if_neg (by simp only [decide_eq_true_eq, osl]; omega)]
        have : s.out = [] := List.length_eq_zero_iff.1 (by omega)
        exact hJ _ u ⟨X, G, .inl ⟨this, rfl⟩⟩
  · intro J hJ
    refine loopN (fun n v u => ∃ s so, VQ u m h c inp s sc si so ∧ Gw O w1 (vmo m h sc si so) u ∧ (s.en = 0 → s.fs ≠ []) ∧ n = mu c s ∧ ∃ k, runN c inp k (menter c 0 0 (ms0 fuel)) = s) (mu c (menter c 0 0 (ms0 fuel))) ⟨_, nilS, q3, G3, ?_, rfl, 0, rfl⟩ ?_
    · intro he
      rcases enter_dec (c := c) (p := 0) (a := 0) (ret := 0) (s := ms0 fuel) rfl with h | ⟨_, h, _⟩
      · exact absurd he h
      · exact h
    · rintro n _ u ⟨s, so, q, G, hne, rfl, k, hk⟩ Q hQ
      refine q.ldEn ?_
      by_cases he : s.en = 0
      · rw [if_pos (by simpa using he)]
        obtain ⟨f, r, hs⟩ : ∃ f r, s.fs = f :: r := by
          cases e : s.fs with
          | nil => exact absurd e (hne he)
          | cons f r => exact ⟨f, r, rfl⟩
        refine vstep_spec q hs fun u' so' q' F' S' => ?_
        obtain ⟨d1, d2⟩ := mstep_dec (c := c) (inp := inp) cl hs he q'.mu48
        refine hQ _ _ u' d1 ⟨_, so', q', G.trans ⟨F', fun b hb => ?_⟩, d2, rfl, k + 1, ?_⟩
        · rcases hb with h' | h' | h' | h' | h'
          · exact .inl (.inl h')
          · exact .inl (.inr (.inl h'))
          · exact .inl (.inr (.inr (.inl h')))
          · exact .inl (.inr (.inr (.inr (.inl h'))))
          · exact (S' b h').elim (fun h => .inl (.inr (.inr (.inr (.inr h))))) .inr
        · rw [runN_add, hk]
          show (if s.en ≠ 0 then s else runN c inp 0 (mstep c inp s)) = _
          rw [if_neg (by simp [he])]; rfl
      · rw [if_neg (by simpa using he)]
        exact hJ u ⟨s, so, q, G, k, hk, he⟩
theorem vmo_nil (b : Nat) : vmo m h nilS nilS nilS b ↔ b = m ∨ b = h := by
  unfold vmo
  simp [owns]
theorem vnew_spec {K : Nat → World → Prop} (hr : RS w h H) (hK : ∀ w' m, VI w' m h (vmo m h nilS nilS nilS) → Fr 0 0 w w' → w.heap.size ≤ m → K m w') : S.vm_New h w K := by
  unfold S.vm_New
  refine newB fun w1 b1 f1 s1 => ?_
  refine hK w1 w.heap.size ?_ f1 (Nat.le_refl _)
  have hl := hr.lt
  generalize hv : Array.toList _ = vs at b1
  have hlv : vs.length = 65 := by rw [← hv]; rfl
  have e : vs = tab 65 (fun i => vs.getD i (.bool false)) := tab_ext hlv fun i hi => by simp [List.getD, hlv, hi]
  rw [e] at b1
  refine ⟨[], [], H, _, nilS, nilS, ⟨b1, OS.nil _ _, OS.nil _ _, OS.nil _ _, hr.fr f1 (by omega), by omega, ?_, ?_, ?_, ?_, by simp, by simp, by simp⟩, ?_, ?_, ?_, ?_, rfl⟩
  · intro b hb; simp [owns] at hb
  · intro b hb; simp [owns] at hb
  · intro b hb; simp [owns] at hb
  · intro x hx; simp at hx
  · rw [← hv]; rfl
  · intro i hi
    refine ⟨0, ?_⟩
    rw [← hv]
    have : i = 0 ∨ i = 1 ∨ i = 2 ∨ i = 3 ∨ i = 4 ∨ i = 5 ∨ i = 6 ∨ i = 7 ∨ i = 8 ∨ i = 9 ∨ i = 10 ∨ i = 11 ∨ i = 12 ∨ i = 13 ∨ i = 14 ∨ i = 15 ∨ i = 16 ∨ i = 17 ∨ i = 18 ∨ i = 19 ∨ i = 20 ∨ i = 21 ∨ i = 22 ∨ i = 23 ∨ i = 24 ∨ i = 25 ∨ i = 26 ∨ i = 27 ∨ i = 28 ∨ i = 29 ∨ i = 30 ∨ i = 31 ∨ i = 32 ∨ i = 33 ∨ i = 34 ∨ i = 35 ∨ i = 36 ∨ i = 37 ∨ i = 38 ∨ i = 39 ∨ i = 40 ∨ i = 41 ∨ i = 42 ∨ i = 43 ∨ i = 44 ∨ i = 45 ∨ i = 46 ∨ i = 47 := by omega
    rcases this with rfl | rfl | rfl | rfl | rfl | rfl | rfl | rfl | rfl | rfl | rfl | rfl | rfl | rfl | rfl | rfl | rfl | rfl | rfl | rfl | rfl | rfl | rfl | rfl | rfl | rfl | rfl | rfl | rfl | rfl | rfl | rfl | rfl | rfl | rfl | rfl | rfl | rfl | rfl | rfl | rfl | rfl | rfl | rfl | rfl | rfl | rfl | rfl <;> rfl
  · rw [← hv]; rfl
  · rw [← hv]; rfl
end Go.Proofs.Qxb6500562aGreat
