/-
  The interpreter's record.
-/
import Derived.Test.Qxb6500562aGreatSmA
import Derived.Test.Qxb6500562aGreatHmH
import Derived.Test.Qxb6500562aGreatGnC
import Derived.Test.Qxb6500562aGreatS6
namespace Go.Proofs.Qxb6500562aGreat
open Go.Den Go.Zip
set_option linter.unusedVariables false
set_option linter.unusedSimpArgs false

/-- A checked program, and the heap that the run uses. -/
structure PrgH extends Prg where
  hp : Nat

variable {w w' : World} {r : Nat} {P : PrgH} {inp : List Int} {g : Nat → Value} {hp : Nat} {H : SH} {out : List Int} {si so : Sl} {Oh O O' : Nat → Prop} {b1 b2 b3 b4 u ip : Nat} {fuel e x : Int}

def mO (r : Nat) (so : Sl) (Oh : Nat → Prop) (b : Nat) : Prop := b = r ∨ owns so b ∨ Oh b
structure MX (w : World) (r : Nat) (P : PrgH) (inp : List Int) (g : Nat → Value) (hp : Nat) (H : SH) (out : List Int) (si so : Sl) (Oh : Nat → Prop) (b1 b2 b3 b4 : Nat) : Prop where
  rc : Blk w r (tab 18 g)
  t4 : g 4 = .slice (some ⟨b2, 0, none⟩) P.ns.length P.ns.length
  t5 : g 5 = .slice (some ⟨b3, 0, none⟩) P.ns.length P.ns.length
  t6 : g 6 = .slice (some ⟨b4, 0, none⟩) P.st.fs.length P.st.fs.length
  tt : g 10 = .slice (some ⟨b1, 0, none⟩) P.ns.length P.ns.length
  n1 : Blk w b1 (P.ns.flatMap ndV)
  n2 : Blk w b2 (ints P.st.ty)
  n3 : Blk w b3 (ints P.st.ref)
  n4 : Blk w b4 (P.st.fs.flatMap fnV)
  l2 : P.st.ty.length = P.ns.length
  l3 : P.st.ref.length = P.ns.length
  ii : g 11 = .slice si.a si.l si.c
  oi : OS w si (ints inp) 1
  ou : g 14 = .slice so.a so.l so.c
  oo : OS w so (ints out) 1
  ph : g 16 = .pointer (some ⟨hp, 0, none⟩)
  hs : HS w hp H Oh
  rh : ¬ Oh r
  sh : ∀ b, owns so b → b ≠ r ∧ ¬ Oh b
  nn : nO (mO r so Oh) b1 b2 b3 b4
  ni : ∀ b, owns si b → ¬ mO r so Oh b
  ol : out.length ≤ 1024
  il : inp.length ≤ 128
  lo : b1 < r ∧ b2 < r ∧ b3 < r ∧ b4 < r
  li : ∀ b, owns si b → b < r
  hE : hp = P.hp
theorem MX.lt (m : MX w r P inp g hp H out si so Oh b1 b2 b3 b4) {b : Nat} (hb : mO r so Oh b) : b < w.heap.size := by
  rcases hb with rfl | hb | hb
  · exact m.rc.lt
  · exact m.oo.lt hb
  · exact m.hs.lt b hb
theorem MX.frp {Q : Nat → Prop} (m : MX w r P inp g hp H out si so Oh b1 b2 b3 b4) (F : FrP Q w w') (hn : ∀ b, mO r so Oh b → ¬ Q b) (h4 : nO Q b1 b2 b3 b4) (hi : ∀ b, owns si b → ¬ Q b) : MX w' r P inp g hp H out si so Oh b1 b2 b3 b4 :=
  { m with rc := m.rc.frp F (hn _ (.inl rfl)), n1 := m.n1.frp F h4.1, n2 := m.n2.frp F h4.2.1, n3 := m.n3.frp F h4.2.2.1, n4 := m.n4.frp F h4.2.2.2, oi := m.oi.frp F hi, oo := m.oo.frp F fun b hb => hn _ (.inr (.inl hb)), hs := m.hs.frp F fun b hb => hn _ (.inr (.inr hb)) }
theorem MX.fr0 (m : MX w r P inp g hp H out si so Oh b1 b2 b3 b4) {Q : Nat → Prop} (F : FrP Q w w') (hq : ∀ b, b < w.heap.size → ¬ Q b) : MX w' r P inp g hp H out si so Oh b1 b2 b3 b4 :=
  m.frp F (fun b hb => hq b (m.lt hb)) ⟨hq _ m.n1.lt, hq _ m.n2.lt, hq _ m.n3.lt, hq _ m.n4.lt⟩ fun b hb => hq b (m.oi.lt hb)
/-- A cell of the record but the slices and the pointer. -/
theorem MX.st {j : Nat} {v : Int} {K : World → Prop} (m : MX w r P inp g hp H out si so Oh b1 b2 b3 b4) (hj : j = 12 ∨ j = 13 ∨ j = 15 ∨ j = 17) (hK : ∀ w', MX w' r P inp (fset g j (.int .i64 v)) hp H out si so Oh b1 b2 b3 b4 → Gw (mO r so Oh) w (mO r so Oh) w' → K w') : St1 w ⟨r, j, none⟩ (.int .i64 v) K := by
  refine st1 m.rc (by simp; omega) fun w' b' f' _ => ?_
  rw [tab_set] at b'
  have F : FrP (fun b => b = r) w w' := FrP.of f' fun b h1 h2 => by omega
  have nr : ∀ b, ¬ mO r so Oh b → b ≠ r := fun b hb e => hb (.inl e)
  refine hK w' { m with rc := b', t4 := by rw [fset_ne (by omega)]; exact m.t4, t5 := by rw [fset_ne (by omega)]; exact m.t5, t6 := by rw [fset_ne (by omega)]; exact m.t6, tt := by rw [fset_ne (by omega)]; exact m.tt, ii := by rw [fset_ne (by omega)]; exact m.ii, ou := by rw [fset_ne (by omega)]; exact m.ou, ph := by rw [fset_ne (by omega)]; exact m.ph, n1 := m.n1.frp F (nr _ m.nn.1), n2 := m.n2.frp F (nr _ m.nn.2.1), n3 := m.n3.frp F (nr _ m.nn.2.2.1), n4 := m.n4.frp F (nr _ m.nn.2.2.2), oi := m.oi.frp F fun b hb => nr _ (m.ni b hb), oo := m.oo.frp F fun b hb => (m.sh b hb).1, hs := m.hs.frp F fun b hb e => m.rh (e ▸ hb) } ⟨F.mono fun b hb => .inl hb, fun b hb => .inl hb⟩
/-- The heap turns. -/
theorem MX.heap {H' : SH} {Oh' : Nat → Prop} (m : MX w r P inp g hp H out si so Oh b1 b2 b3 b4) (h : HS w' hp H' Oh') (G : Gw Oh w Oh' w') : MX w' r P inp g hp H' out si so Oh' b1 b2 b3 b4 ∧ Gw (mO r so Oh) w (mO r so Oh') w' := by
  have nw : ∀ b, b < w.heap.size → ¬ Oh b → ¬ Oh' b := fun b hb hn h => (G.2 b h).elim hn fun h' => by omega
  have nO4 : ∀ b, b < w.heap.size → ¬ mO r so Oh b → ¬ mO r so Oh' b := fun b hb hn h => by
    rcases h with h | h | h
    · exact hn (.inl h)
    · exact hn (.inr (.inl h))
    · exact nw b hb (fun h' => hn (.inr (.inr h'))) h
  refine ⟨{ m with rc := m.rc.frp G.1 m.rh, n1 := m.n1.frp G.1 fun h => m.nn.1 (.inr (.inr h)), n2 := m.n2.frp G.1 fun h => m.nn.2.1 (.inr (.inr h)), n3 := m.n3.frp G.1 fun h => m.nn.2.2.1 (.inr (.inr h)), n4 := m.n4.frp G.1 fun h => m.nn.2.2.2 (.inr (.inr h)), oi := m.oi.frp G.1 fun b hb h => m.ni b hb (.inr (.inr h)), oo := m.oo.frp G.1 fun b hb => (m.sh b hb).2, hs := h, rh := nw _ m.rc.lt m.rh, sh := fun b hb => ⟨(m.sh b hb).1, nw b (m.oo.lt hb) (m.sh b hb).2⟩, nn := ⟨nO4 _ m.n1.lt m.nn.1, nO4 _ m.n2.lt m.nn.2.1, nO4 _ m.n3.lt m.nn.2.2.1, nO4 _ m.n4.lt m.nn.2.2.2⟩, ni := fun b hb => nO4 b (m.oi.lt hb) (m.ni b hb) }, G.1.mono fun b hb => .inr (.inr hb), ?_⟩
  rintro b (h | h | h)
  · exact .inl (.inl h)
  · exact .inl (.inr (.inl h))
  · exact (G.2 b h).elim (fun h => .inl (.inr (.inr h))) .inr
/-- What holds of the record, live or ended. -/
def RAny (w : World) (r : Nat) (P : PrgH) (inp : List Int) (O : Nat → Prop) : Prop := ∃ g hp H out si so Oh b1 b2 b3 b4, MX w r P inp g hp H out si so Oh b1 b2 b3 b4 ∧ O = mO r so Oh
/-- The run goes on. -/
def RGo (w : World) (r : Nat) (P : PrgH) (inp : List Int) (u ip : Nat) (fuel : Int) (out : List Int) (H : SH) (O : Nat → Prop) : Prop :=
  ∃ g hp si so Oh b1 b2 b3 b4, MX w r P inp g hp H out si so Oh b1 b2 b3 b4 ∧ g 12 = .int .i64 (ip : Nat) ∧ g 13 = .int .i64 fuel ∧ g 15 = .int .i64 (u : Nat) ∧ g 17 = .int .i64 0 ∧ u ≤ 48 ∧ ip ≤ inp.length ∧ (-9223372036854775808 ≤ fuel ∧ fuel < 9223372036854775808) ∧ O = mO r so Oh
/-- The run has ended. -/
def REi (w : World) (r : Nat) (P : PrgH) (inp : List Int) (ip : Nat) (fuel : Int) (out : List Int) (e : Int) (O : Nat → Prop) : Prop :=
  ∃ g hp H si so Oh b1 b2 b3 b4, MX w r P inp g hp H out si so Oh b1 b2 b3 b4 ∧ g 12 = .int .i64 (ip : Nat) ∧ g 13 = .int .i64 fuel ∧ g 17 = .int .i64 e ∧ (e ≠ 0 ∧ e ≠ 21) ∧ O = mO r so Oh
def REnd (w : World) (r : Nat) (P : PrgH) (inp : List Int) (fuel : Int) (out : List Int) (e : Int) (O : Nat → Prop) : Prop := ∃ ip, REi w r P inp ip fuel out e O
theorem RGo.rb (m : RGo w r P inp u ip fuel out H O) : RAny w r P inp O := by
  obtain ⟨g, hp, si, so, Oh, b1, b2, b3, b4, m, _, _, _, _, _, _, _, rfl⟩ := m
  exact ⟨g, hp, H, out, si, so, Oh, b1, b2, b3, b4, m, rfl⟩
theorem REnd.rb (m : REnd w r P inp fuel out e O) : RAny w r P inp O := by
  obtain ⟨ip, g, hp, H, si, so, Oh, b1, b2, b3, b4, m, _, _, _, _, rfl⟩ := m
  exact ⟨g, hp, H, out, si, so, Oh, b1, b2, b3, b4, m, rfl⟩
theorem RAny.lt (m : RAny w r P inp O) {b : Nat} (hb : O b) : b < w.heap.size := by
  obtain ⟨g, hp, H, out, si, so, Oh, b1, b2, b3, b4, m, rfl⟩ := m
  exact m.lt hb
theorem RGo.frp {Q : Nat → Prop} (m : RGo w r P inp u ip fuel out H O) (F : FrP Q w w') (hq : ∀ b, b < w.heap.size → ¬ Q b) : RGo w' r P inp u ip fuel out H O := by
  obtain ⟨g, hp, si, so, Oh, b1, b2, b3, b4, m, h⟩ := m
  exact ⟨g, hp, si, so, Oh, b1, b2, b3, b4, m.fr0 F hq, h⟩
theorem REnd.frp {Q : Nat → Prop} (m : REnd w r P inp fuel out e O) (F : FrP Q w w') (hq : ∀ b, b < w.heap.size → ¬ Q b) : REnd w' r P inp fuel out e O := by
  obtain ⟨ip, g, hp, H, si, so, Oh, b1, b2, b3, b4, m, h⟩ := m
  exact ⟨ip, g, hp, H, si, so, Oh, b1, b2, b3, b4, m.fr0 F hq, h⟩
theorem MX.frpN {Q : Nat → Prop} (m : MX w r P inp g hp H out si so Oh b1 b2 b3 b4) (F : FrP Q w w') (hO : ∀ b, mO r so Oh b → ¬ Q b) (hr : ∀ b, Q b → r < b) : MX w' r P inp g hp H out si so Oh b1 b2 b3 b4 :=
  m.frp F hO ⟨fun h => by have := hr _ h; have := m.lo.1; omega, fun h => by have := hr _ h; have := m.lo.2.1; omega, fun h => by have := hr _ h; have := m.lo.2.2.1; omega, fun h => by have := hr _ h; have := m.lo.2.2.2; omega⟩ fun b hb h => by have := hr _ h; have := m.li b hb; omega
theorem RGo.frpN {Q : Nat → Prop} (m : RGo w r P inp u ip fuel out H O) (F : FrP Q w w') (hO : ∀ b, O b → ¬ Q b) (hr : ∀ b, Q b → r < b) : RGo w' r P inp u ip fuel out H O := by
  obtain ⟨g, hp, si, so, Oh, b1, b2, b3, b4, m, h1, h2, h3, h4, h5, h6, h7, rfl⟩ := m
  exact ⟨g, hp, si, so, Oh, b1, b2, b3, b4, m.frpN F hO hr, h1, h2, h3, h4, h5, h6, h7, rfl⟩
theorem REnd.frpN {Q : Nat → Prop} (m : REnd w r P inp fuel out e O) (F : FrP Q w w') (hO : ∀ b, O b → ¬ Q b) (hr : ∀ b, Q b → r < b) : REnd w' r P inp fuel out e O := by
  obtain ⟨ip, g, hp, H, si, so, Oh, b1, b2, b3, b4, m, h0, h1, h2, h3, rfl⟩ := m
  exact ⟨ip, g, hp, H, si, so, Oh, b1, b2, b3, b4, m.frpN F hO hr, h0, h1, h2, h3, rfl⟩
theorem RAny.own (m : RAny w r P inp O) : O r := by
  obtain ⟨g, hp, H, out, si, so, Oh, b1, b2, b3, b4, m, rfl⟩ := m
  exact .inl rfl
theorem RGo.fr0 (m : RGo w r P inp u ip fuel out H O) (F : Fr 0 0 w w') : RGo w' r P inp u ip fuel out H O := m.frp (Q := fun _ => False) (FrP.of0 F) fun _ _ h => h
theorem REnd.fr0 (m : REnd w r P inp fuel out e O) (F : Fr 0 0 w w') : REnd w' r P inp fuel out e O := m.frp (Q := fun _ => False) (FrP.of0 F) fun _ _ h => h
theorem RGo.drew (m : RGo w r P inp u ip fuel out H O) : RGo w.drew r P inp u ip fuel out H O := m.fr0 (Fr.refl 0 0 w).drew
theorem REnd.drew (m : REnd w r P inp fuel out e O) : REnd w.drew r P inp fuel out e O := m.fr0 (Fr.refl 0 0 w).drew
theorem RGo.end_ {K : Int → Prop} (m : RGo w r P inp u ip fuel out H O) (hK : K 0) : LdI .i64 w ⟨r, 17, none⟩ K := by
  obtain ⟨g, hp, si, so, Oh, b1, b2, b3, b4, m, h1, h2, h3, h4, h5⟩ := m
  exact ldI m.rc (by rw [tab_get (by omega), h4]) hK
theorem REnd.end_ {K : Int → Prop} (m : REnd w r P inp fuel out e O) (hK : e ≠ 0 → K e) : LdI .i64 w ⟨r, 17, none⟩ K := by
  obtain ⟨ip, g, hp, H, si, so, Oh, b1, b2, b3, b4, m, h0, h1, h2, h3, h4⟩ := m
  exact ldI m.rc (by rw [tab_get (by omega), h2]) (hK h3.1)
theorem RGo.ldU {K : Int → Prop} (m : RGo w r P inp u ip fuel out H O) (hK : u ≤ 48 → K (u : Nat)) : LdI .i64 w ⟨r, 15, none⟩ K := by
  obtain ⟨g, hp, si, so, Oh, b1, b2, b3, b4, m, h1, h2, h3, h4, h5, h6⟩ := m
  exact ldI m.rc (by rw [tab_get (by omega), h3]) (hK h5)
theorem RGo.setU {u' : Nat} {K : World → Prop} (m : RGo w r P inp u ip fuel out H O) (hu : u' ≤ 48) (hK : ∀ w', RGo w' r P inp u' ip fuel out H O → Gw O w O w' → K w') : St1 w ⟨r, 15, none⟩ (.int .i64 (u' : Nat)) K := by
  obtain ⟨g, hp, si, so, Oh, b1, b2, b3, b4, m, h1, h2, h3, h4, h5, h6, h7, rfl⟩ := m
  exact m.st (by omega) fun w' m' G => hK w' ⟨_, _, _, _, _, _, _, _, _, m', by rw [fset_ne (by omega)]; exact h1, by rw [fset_ne (by omega)]; exact h2, fset_eq _ _ _, by rw [fset_ne (by omega)]; exact h4, hu, h6, h7, rfl⟩ G
theorem RGo.stop {e : Int} {K : World → Prop} (m : RGo w r P inp u ip fuel out H O) (he : e ≠ 0 ∧ e ≠ 21) (hK : ∀ w', REi w' r P inp ip fuel out e O → Gw O w O w' → K w') : St1 w ⟨r, 17, none⟩ (.int .i64 e) K := by
  obtain ⟨g, hp, si, so, Oh, b1, b2, b3, b4, m, h1, h2, h3, h4, h5, h6, h7, rfl⟩ := m
  exact m.st (by omega) fun w' m' G => hK w' ⟨_, _, _, _, _, _, _, _, _, _, m', by rw [fset_ne (by omega)]; exact h1, by rw [fset_ne (by omega)]; exact h2, fset_eq _ _ _, he, rfl⟩ G
theorem mpush_spec {K : World → Prop} (m : RGo w r P inp u ip fuel out H O) (h1 : 48 ≤ u → ∀ w', REi w' r P inp ip fuel out 29 O → Gw O w O w' → K w') (h2 : u < 48 → ∀ w', RGo w' r P inp (u + 1) ip fuel out H O → Gw O w O w' → K w') : S.genm_run_push r w K := by
  unfold S.genm_run_push
  refine m.ldU fun hu => ?_
  by_cases hh : 48 ≤ u
  · rw [if_pos (by simp only [decide_eq_true_eq]; omega)]
    exact m.stop (by decide) (h1 hh)
  · rw [if_neg (by simp only [decide_eq_true_eq]; omega)]
    refine m.ldU fun _ => ?_
    rw [W_succ (by omega)]
    exact m.setU (by omega) (h2 (by omega))
theorem mspend_spec {K : World → Prop} (m : RGo w r P inp u ip fuel out H O) (h1 : fuel ≤ 0 → ∀ w', REnd w' r P inp fuel out 22 O → Gw O w O w' → K w') (h2 : 0 < fuel → ∀ w', RGo w' r P inp u ip (fuel - 1) out H O → Gw O w O w' → K w') : S.genm_run_spend r w K := by
  unfold S.genm_run_spend
  have m' := m
  obtain ⟨g, hp, si, so, Oh, b1, b2, b3, b4, m, q1, q2, q3, q4, q5, q6, q7, rfl⟩ := m
  refine ldI m.rc (by rw [tab_get (by omega), q2]) ?_
  by_cases hh : fuel ≤ 0
  · rw [if_pos (by simp only [decide_eq_true_eq]; omega)]
    exact m'.stop (by decide) fun w' a b => h1 hh w' ⟨_, a⟩ b
  · rw [if_neg (by simp only [decide_eq_true_eq]; omega)]
    refine ldI m.rc (by rw [tab_get (by omega), q2]) ?_
    rw [W_id (by omega) (by omega)]
    exact m.st (by omega) fun w' m' G => h2 (by omega) w' ⟨_, _, _, _, _, _, _, _, _, m', by rw [fset_ne (by omega)]; exact q1, fset_eq _ _ _, by rw [fset_ne (by omega)]; exact q3, by rw [fset_ne (by omega)]; exact q4, q5, q6, by omega, rfl⟩ G
theorem endOf_ne' (e : Int) : endOf e ≠ 0 := by unfold endOf; repeat' split
                                                all_goals omega
theorem endOf_21 (e : Int) : endOf e ≠ 21 := by unfold endOf; repeat' split
                                                all_goals omega
theorem mheapEnd_spec {e : Int} {K : World → Prop} (m : RGo w r P inp u ip fuel out H O) (h1 : e ≠ 0 → ∀ w', REnd w' r P inp fuel out (endOf e) O → Gw O w O w' → K w') (h2 : e = 0 → K w) : S.genm_run_heapEnd r e w K := by
  unfold S.genm_run_heapEnd
  by_cases he : e = 0
  · rw [if_pos (by simp [he])]; exact h2 he
  rw [if_neg (by simpa using he)]
  have h1 := h1 he
  have key : ∀ k, endOf e = k → St1 w ⟨r, 17, none⟩ (.int .i64 k) fun w => K w := fun k hk => by
    rw [hk] at h1
    exact m.stop (by rw [← hk]; exact ⟨endOf_ne' e, endOf_21 e⟩) fun w' a b => h1 w' ⟨_, a⟩ b
  unfold endOf at key
  simp only [beq_iff_eq]
  split <;> rename_i q1
  · exact key _ (if_pos q1)
  · rw [if_neg q1] at key
    split <;> rename_i q2
    · exact key _ (if_pos q2)
    · rw [if_neg q2] at key
      split <;> rename_i q3
      · exact key _ (if_pos q3)
      · rw [if_neg q3] at key
        split <;> rename_i q4
        · exact key _ (if_pos q4)
        · rw [if_neg q4] at key
          split <;> rename_i q5
          · exact key _ (if_pos q5)
          · rw [if_neg q5] at key
            exact key _ rfl
/-- The heap below. -/
theorem RGo.open_ (m : RGo w r P inp u ip fuel out H O) : ∃ hp Oh, HS w hp H Oh ∧ (∀ K : Nat → Prop, K hp → LdP w ⟨r, 16, none⟩ K) ∧ ∀ w' H' Oh', HS w' hp H' Oh' → Gw Oh w Oh' w' → ∃ O', RGo w' r P inp u ip fuel out H' O' ∧ Gw O w O' w' := by
  obtain ⟨g, hp, si, so, Oh, b1, b2, b3, b4, m, h1, h2, h3, h4, h5, h6, h7, rfl⟩ := m
  refine ⟨hp, Oh, m.hs, fun K hK => ldP m.rc (by rw [tab_get (by omega), m.ph]) hK, fun w' H' Oh' h G => ?_⟩
  obtain ⟨m', G'⟩ := m.heap h G
  exact ⟨_, ⟨g, hp, si, so, Oh', b1, b2, b3, b4, m', h1, h2, h3, h4, h5, h6, h7, rfl⟩, G'⟩
theorem RGo.le (m : RGo w r P inp u ip fuel out H O) : H.roots.length ≤ 24 := by obtain ⟨hp, Oh, h, _⟩ := m.open_; exact h.le
theorem RAny.tree {K : Nat → Nat → Prop} (m : RAny w r P inp O) (h0 : 0 ≤ x) (h1 : x < P.ns.length) (hK : ∀ b1, Blk w b1 (P.ns.flatMap ndV) → ¬ O b1 → K b1 0) : LdS w ⟨r, 10, none⟩ fun t => Ix t.a t.l x K := by
  obtain ⟨g, hp, H, out, si, so, Oh, b1, b2, b3, b4, m, rfl⟩ := m
  exact ldS m.rc (by rw [tab_get (by omega), m.tt]) (ix rfl h0 h1 (hK b1 m.n1 m.nn.1))
theorem RAny.ty {K : Int → Prop} (m : RAny w r P inp O) (h0 : 0 ≤ x) (h1 : x < P.ns.length) (hK : K (gI P.st.ty x)) : LdS w ⟨r, 4, none⟩ fun Ty => Ix Ty.a Ty.l x fun b o => LdI .i64 w ⟨b, o + Int.toNat x * 1, none⟩ K := by
  obtain ⟨g, hp, H, out, si, so, Oh, b1, b2, b3, b4, m, rfl⟩ := m
  exact ldS m.rc (by rw [tab_get (by omega), m.t4]) (rdI m.n2 m.l2 h0 h1 hK)
theorem RAny.ref {K : Int → Prop} (m : RAny w r P inp O) (h0 : 0 ≤ x) (h1 : x < P.ns.length) (hK : K (gI P.st.ref x)) : LdS w ⟨r, 5, none⟩ fun Ty => Ix Ty.a Ty.l x fun b o => LdI .i64 w ⟨b, o + Int.toNat x * 1, none⟩ K := by
  obtain ⟨g, hp, H, out, si, so, Oh, b1, b2, b3, b4, m, rfl⟩ := m
  exact ldS m.rc (by rw [tab_get (by omega), m.t5]) (rdI m.n3 m.l3 h0 h1 hK)
/-- A node's chain. -/
theorem RAny.next {K : Int → Prop} (m : RAny w r P inp O) (h0 : 0 ≤ x) (h1 : x < P.ns.length) (hK : K (ndAt P.ns x).next) : LdS w ⟨r, 10, none⟩ fun t => Ix t.a t.l x fun b o => LdI .i64 w ⟨b, o + Int.toNat x * 8 + 4, none⟩ K := by
  refine m.tree h0 h1 fun b1 n1 _ => ?_
  obtain ⟨i, rfl⟩ : ∃ i : Nat, x = i := ⟨x.toNat, by omega⟩
  rw [Nat.zero_add, Int.toNat_natCast]
  exact ldI n1 ((nd_cells P.ns (by omega) (by omega : 4 < 8)).trans rfl) hK
/-- A node, read off and laid into a record of one's own. -/
theorem RAny.node {K : Nat → World → Prop} (m : RAny w r P inp O) (h0 : 0 ≤ x) (h1 : x < P.ns.length) (hK : ∀ w' p, Blk w' p (ndV (ndAt P.ns x)) → ¬ O p → Fr 0 0 w w' → K p w') :
    LdS w ⟨r, 10, none⟩ fun t_2 => Ix t_2.a t_2.l x fun b3 o4 => LdI .i64 w ⟨b3, o4 + Int.toNat x * 8, none⟩ fun Kind_5 => LdI .i64 w ⟨b3, o4 + Int.toNat x * 8 + 1, none⟩ fun A_6 => LdI .i64 w ⟨b3, o4 + Int.toNat x * 8 + 2, none⟩ fun B_7 => LdI .i64 w ⟨b3, o4 + Int.toNat x * 8 + 3, none⟩ fun C_8 =>
    LdI .i64 w ⟨b3, o4 + Int.toNat x * 8 + 4, none⟩ fun Next_9 => LdI .i64 w ⟨b3, o4 + Int.toNat x * 8 + 5, none⟩ fun Val_10 => LdI .i64 w ⟨b3, o4 + Int.toNat x * 8 + 6, none⟩ fun Pos_11 => LdStr w ⟨b3, o4 + Int.toNat x * 8 + 7, none⟩ fun Name_12 =>
    New w (.cells #[.int .i64 0, .int .i64 0, .int .i64 0, .int .i64 0, .int .i64 0, .int .i64 0, .int .i64 0, .string ⟨#[]⟩] 150) fun p9 w => St1 w ⟨p9, 0, none⟩ (.int .i64 Kind_5) fun w => St1 w ⟨p9, 1, none⟩ (.int .i64 A_6) fun w => St1 w ⟨p9, 2, none⟩ (.int .i64 B_7) fun w => St1 w ⟨p9, 3, none⟩ (.int .i64 C_8) fun w =>
      St1 w ⟨p9, 4, none⟩ (.int .i64 Next_9) fun w => St1 w ⟨p9, 5, none⟩ (.int .i64 Val_10) fun w => St1 w ⟨p9, 6, none⟩ (.int .i64 Pos_11) fun w => St1 w ⟨p9, 7, none⟩ (.string Name_12) fun w => K p9 w := by
  refine m.tree h0 h1 fun b1 n1 _ => ?_
  obtain ⟨i, rfl⟩ : ∃ i : Nat, x = i := ⟨x.toNat, by omega⟩
  rw [Nat.zero_add, Int.toNat_natCast]
  have cell : ∀ k, k < 8 → (P.ns.flatMap ndV)[i * 8 + k]? = (ndV (ndAt P.ns (i : Int)))[k]? := fun k hk => nd_cells P.ns (by omega) hk
  generalize hn : ndAt P.ns (i : Int) = n at *
  refine ldI n1 (m := n.kind) ((cell 0 (by omega)).trans rfl) ?_
  refine ldI n1 (m := n.a) ((cell 1 (by omega)).trans rfl) ?_
  refine ldI n1 (m := n.b) ((cell 2 (by omega)).trans rfl) ?_
  refine ldI n1 (m := n.c) ((cell 3 (by omega)).trans rfl) ?_
  refine ldI n1 (m := n.next) ((cell 4 (by omega)).trans rfl) ?_
  refine ldI n1 (m := n.val) ((cell 5 (by omega)).trans rfl) ?_
  refine ldI n1 (m := n.pos) ((cell 6 (by omega)).trans rfl) ?_
  refine ldStr n1 (m := n.name) ((cell 7 (by omega)).trans rfl) ?_
  refine lay8 (n := n) fun w' p b hp F => hK w' p b (fun h => by have := m.lt h; omega) F
end Go.Proofs.Qxb6500562aGreat
