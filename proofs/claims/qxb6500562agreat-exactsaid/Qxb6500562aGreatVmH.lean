/-
  The machine ends: each step spends fuel, drops a frame or goes on in the code.
-/
import Derived.Test.Qxb6500562aGreatVmQ
namespace Go.Proofs.Qxb6500562aGreat
open Go.Den Go.Zip
set_option linter.unusedVariables false
set_option linter.unusedSimpArgs false
variable {c : List Nat} {inp : List Int} {p : Nat} {s s' : MS} {f : Fm} {r : List Fm}

theorem trap_ne {e : Int} {s : MS} (h : e ≠ 0) : (trap e s).en ≠ 0 := h
/-- It goes on as it was, or it has ended. -/
def Stl (s s' : MS) : Prop := s'.en ≠ 0 ∨ (s'.en = 0 ∧ s'.fs.length = s.fs.length ∧ s'.pc = s.pc ∧ s'.fuel = s.fuel)
def Dec (c : List Nat) (p : Nat) (s s' : MS) : Prop :=
  s'.en ≠ 0 ∨ (s'.en = 0 ∧ s'.fs ≠ [] ∧ ((s'.fuel = s.fuel ∧ s'.fs.length = s.fs.length ∧ (s'.pc = s.pc ∨ (p < s'.pc ∧ s'.pc < c.length))) ∨ (s'.fuel = s.fuel - 1 ∧ 0 < s.fuel ∧ s'.fs.length ≤ s.fs.length + 1) ∨ (s'.fuel = s.fuel ∧ s'.fs.length + 1 = s.fs.length)))
theorem Stl.dec (h : Stl s s') (hs : s.fs ≠ []) : Dec c p s s' := by
  rcases h with h | ⟨h1, h2, h3, h4⟩
  · exact .inl h
  · refine .inr ⟨h1, fun e => ?_, .inl ⟨h4, h2, .inl h3⟩⟩
    rw [e] at h2
    exact hs (List.length_eq_zero_iff.1 h2.symm)
theorem Stl.refl (h : s.en = 0) : Stl s s := .inr ⟨h, rfl, rfl, rfl⟩
theorem Stl.trap {e : Int} (h : e ≠ 0) : Stl s (trap e s') := .inl h
theorem endOf_ne (e : Int) : endOf e ≠ 0 := by unfold endOf; repeat' split
                                               all_goals omega
theorem Stl.setOps {o : List Int} (hs : s.fs ≠ []) (h : Stl s s') : Stl s (setOps o s') := by
  rcases h with h | ⟨h1, h2, h3, h4⟩
  · exact .inl h
  · refine .inr ⟨h1, ?_, h3, h4⟩
    show s'.fs.tail.length + 1 = s.fs.length
    cases e : s'.fs with
    | nil => rw [e] at h2; exact absurd (List.length_eq_zero_iff.1 h2.symm) hs
    | cons a l => rw [e] at h2; exact h2
theorem Stl.setTop {o : Fm} (hs : s.fs ≠ []) (h : Stl s s') : Stl s (setTop o s') := by
  rcases h with h | ⟨h1, h2, h3, h4⟩
  · exact .inl h
  · refine .inr ⟨h1, ?_, h3, h4⟩
    show s'.fs.tail.length + 1 = s.fs.length
    cases e : s'.fs with
    | nil => rw [e] at h2; exact absurd (List.length_eq_zero_iff.1 h2.symm) hs
    | cons a l => rw [e] at h2; exact h2
theorem Stl.cut {n : Nat} (hs : s.fs ≠ []) (h : Stl s s') : Stl s (cutO1 n s') := Stl.setOps hs h
theorem Stl.heap {H : SH} (h : Stl s s') : Stl s { s' with H := H } := h
theorem Stl.out {o : List Int} (h : Stl s s') : Stl s { s' with out := o } := h
theorem Stl.ip {o : Nat} (h : Stl s s') : Stl s { s' with ip := o } := h
theorem Stl.push {v : Int} (hs : s.fs ≠ []) (h : Stl s s') : Stl s (mpush v s') := by
  unfold mpush
  split
  · exact Stl.trap (by decide)
  · exact h.setOps hs
theorem Stl.did {e : Int} (h : Stl s s') : Stl s (did e s') := by
  unfold Go.Proofs.Qxb6500562aGreat.did
  split
  · exact Stl.trap (endOf_ne e)
  · exact h
theorem jump_dec {a : Nat} (hs : s.fs ≠ []) (h : Stl s s') : Dec c p s (mjump c p a s') := by
  have ne : s'.en = 0 → s'.fs.length = s.fs.length → s'.fs ≠ [] := fun _ h2 e => by rw [e] at h2; exact hs (List.length_eq_zero_iff.1 h2.symm)
  unfold mjump mspend
  split
  · exact .inl (trap_ne (by decide))
  · rename_i hl
    split
    · split
      · exact .inl (trap_ne (by decide))
      · rename_i hf
        rcases h with h | ⟨h1, h2, h3, h4⟩
        · exact .inl h
        · exact .inr ⟨h1, ne h1 h2, .inr (.inl ⟨by dsimp only; omega, by omega, by dsimp only; omega⟩)⟩
    · rename_i ha
      rcases h with h | ⟨h1, h2, h3, h4⟩
      · exact .inl h
      · exact .inr ⟨h1, ne h1 h2, .inl ⟨h4, h2, .inr ⟨by dsimp only; omega, by dsimp only; omega⟩⟩⟩
theorem rest_len (n : Nat) (l : List Fm) : (rest n l).length = l.length := by cases l <;> rfl
theorem enter_dec {a ret : Nat} (he : s.en = 0) : Dec c p s (menter c a ret s) := by
  unfold menter mspend
  split
  · exact .inl (trap_ne (by decide))
  · split
    · exact .inl (trap_ne (by decide))
    · split
      · exact .inl (trap_ne (by decide))
      · split
        · exact .inl (trap_ne (by decide))
        · rename_i hf
          dsimp only
          split
          · exact .inl (trap_ne (by decide))
          · refine .inr ⟨he, by simp, .inr (.inl ⟨rfl, by omega, ?_⟩)⟩
            show (rest _ _).length + 1 ≤ _
            rw [rest_len]; exact Nat.le_refl _
theorem push_fs {v : Int} {s : MS} : (mpush v s).en ≠ 0 ∨ ((mpush v s).en = s.en ∧ (mpush v s).fs.length = s.fs.tail.length + 1 ∧ (mpush v s).fuel = s.fuel) := by
  unfold mpush
  split
  · exact .inl (trap_ne (by decide))
  · exact .inr ⟨rfl, rfl, rfl⟩
theorem retI_dec (hs : s.fs = f :: r) (he : s.en = 0) : Dec c p s (mretI s) := by
  unfold mretI
  dsimp only
  have hr : (mleave { s with H := (hPop s.H ((s.H.roots.length : Int) - (top s).rb)).2 }).fs = r := by show s.fs.tail = r; rw [hs]; rfl
  split
  · exact .inl (fun e => by cases e)
  · rename_i hn
    rw [hr] at hn
    rcases push_fs (v := lastO s) (s := mleave { s with H := (hPop s.H ((s.H.roots.length : Int) - (top s).rb)).2 }) with h | ⟨h1, h2, h3⟩
    · exact .inl h
    · rw [hr] at h2
      have hl : r.tail.length + 1 = r.length := by
        cases r with
        | nil => exact absurd rfl hn
        | cons a l => rfl
      refine .inr ⟨h1.trans he, fun e => ?_, .inr (.inr ⟨h3, by rw [h2, hs, hl]; rfl⟩)⟩
      rw [e] at h2; simp at h2
theorem retR_dec (hs : s.fs = f :: r) (he : s.en = 0) : Dec c p s (mretR s) := by
  unfold mretR
  split
  · exact .inl (trap_ne (by decide))
  · rename_i hn
    rw [hs] at hn
    refine .inr ⟨he, fun e => ?_, .inr (.inr ⟨rfl, ?_⟩)⟩
    · have : s.fs.tail = [] := e
      rw [hs] at this
      have : r = [] := this
      rw [this] at hn
      exact hn rfl
    · show s.fs.tail.length + 1 = s.fs.length
      rw [hs]; rfl
theorem marith_stl {op : Nat} (hs : s.fs ≠ []) (he : s.en = 0) : Stl s (marith op s) := by
  unfold marith
  split
  · exact Stl.trap (by decide)
  · exact (Stl.refl he).setOps hs
theorem mop_dec {op : Nat} (ho : op < 37) (hs : s.fs = f :: r) (he : s.en = 0) : Dec c p s (mop c inp p op s) := by
  have hn : s.fs ≠ [] := by rw [hs]; simp
  have h0 := Stl.refl he
  have a37 : op = 0 ∨ op = 1 ∨ op = 2 ∨ op = 3 ∨ op = 4 ∨ op = 5 ∨ op = 6 ∨ op = 7 ∨ op = 8 ∨ op = 9 ∨ op = 10 ∨ op = 11 ∨ op = 12 ∨ op = 13 ∨ op = 14 ∨ op = 15 ∨ op = 16 ∨ op = 17 ∨ op = 18 ∨ op = 19 ∨ op = 20 ∨ op = 21 ∨ op = 22 ∨ op = 23 ∨ op = 24 ∨ op = 25 ∨ op = 26 ∨ op = 27 ∨ op = 28 ∨ op = 29 ∨ op = 30 ∨ op = 31 ∨ op = 32 ∨ op = 33 ∨ op = 34 ∨ op = 35 ∨ op = 36 := by omega
  rcases a37 with rfl | rfl | rfl | rfl | rfl | rfl | rfl | rfl | rfl | rfl | rfl | rfl | rfl | rfl | rfl | rfl | rfl | rfl | rfl | rfl | rfl | rfl | rfl | rfl | rfl | rfl | rfl | rfl | rfl | rfl | rfl | rfl | rfl | rfl | rfl | rfl | rfl
  · rw [mop_0]; exact (h0.push hn).dec hn
  · rw [mop_1]; exact (h0.cut hn).dec hn
  · rw [mop_2]; split
    · exact (Stl.trap (by decide)).dec hn
    · exact (h0.push hn).dec hn
  · rw [mop_3]; split
    · exact (Stl.trap (by decide)).dec hn
    · exact (h0.setTop hn).dec hn
  · rw [mop_4]; split
    · exact (Stl.trap (by decide)).dec hn
    · exact (Stl.did (Stl.heap h0)).dec hn
  · rw [mop_5]; split
    · exact (Stl.trap (by decide)).dec hn
    · exact (Stl.heap h0).dec hn
  · rw [mop_6]; exact (Stl.heap h0).dec hn
  · rw [mop_7]; exact (Stl.did (Stl.heap h0)).dec hn
  · rw [mop_8]; exact (marith_stl hn he).dec hn
  · rw [mop_9]; exact (marith_stl hn he).dec hn
  · rw [mop_10]; exact (marith_stl hn he).dec hn
  · rw [mop_11]; exact (marith_stl hn he).dec hn
  · rw [mop_12]; exact (marith_stl hn he).dec hn
  · rw [mop_13]; exact (h0.setOps hn).dec hn
  · rw [mop_14]; exact (h0.setOps hn).dec hn
  · rw [mop_15]; exact (marith_stl hn he).dec hn
  · rw [mop_16]; exact (marith_stl hn he).dec hn
  · rw [mop_17]; exact (marith_stl hn he).dec hn
  · rw [mop_18]; exact (marith_stl hn he).dec hn
  · rw [mop_19]; exact (marith_stl hn he).dec hn
  · rw [mop_20]; exact (marith_stl hn he).dec hn
  · rw [mop_21]; exact jump_dec hn h0
  · rw [mop_22]; split
    · exact jump_dec hn (h0.cut hn)
    · exact (h0.cut hn).dec hn
  · rw [mop_23]; split
    · exact jump_dec hn (h0.cut hn)
    · exact (h0.cut hn).dec hn
  · rw [mop_24]; exact enter_dec he
  · rw [mop_25]; exact .inl (trap_ne (by decide))
  · rw [mop_26]; exact retI_dec hs he
  · rw [mop_27]; exact retR_dec hs he
  · rw [mop_28]; exact (Stl.did (Stl.cut hn (Stl.heap h0))).dec hn
  · rw [mop_29]; exact (Stl.did (Stl.cut hn (Stl.heap h0))).dec hn
  · rw [mop_30]; split
    · exact (Stl.trap (endOf_ne _)).dec hn
    · exact (Stl.setOps hn (Stl.heap h0)).dec hn
  · rw [mop_31]; exact (Stl.did (Stl.cut hn (Stl.heap h0))).dec hn
  · rw [mop_32]; split
    · exact (Stl.trap (endOf_ne _)).dec hn
    · exact (Stl.cut hn (Stl.heap h0)).dec hn
  · rw [mop_33]; split
    · exact (Stl.trap (endOf_ne _)).dec hn
    · exact (Stl.cut hn (Stl.heap h0)).dec hn
  · rw [mop_34]; split
    · exact (Stl.trap (endOf_ne _)).dec hn
    · exact (Stl.push hn (Stl.heap h0)).dec hn
  · rw [mop_35]; split
    · exact (Stl.trap (by decide)).dec hn
    · exact (Stl.cut hn (Stl.out h0)).dec hn
  · rw [mop_36]; split
    · exact (Stl.trap (by decide)).dec hn
    · exact (Stl.ip (h0.push hn)).dec hn
def mu (c : List Nat) (s : MS) : Nat := if s.en ≠ 0 then 0 else 1 + s.fuel.toNat * 300000 + s.fs.length * 5000 + (c.length - s.pc)
theorem mstep_dec (hc : c.length ≤ 4096) (hs : s.fs = f :: r) (he : s.en = 0) (hl : (mstep c inp s).fs.length ≤ 48) : mu c (mstep c inp s) < mu c s ∧ ((mstep c inp s).en = 0 → (mstep c inp s).fs ≠ []) := by
  have hm : mu c s = 1 + s.fuel.toNat * 300000 + s.fs.length * 5000 + (c.length - s.pc) := by unfold mu; rw [if_neg (by simp [he])]
  have key : Dec c s.pc { s with pc := s.pc + 1 + nargs (c.getD s.pc 0) } (mstep c inp s) ∧ ((mstep c inp s).en ≠ 0 ∨ (s.pc < c.length ∧ s.pc + 1 + nargs (c.getD s.pc 0) ≤ c.length)) := by
    unfold mstep
    by_cases h1 : c.length ≤ s.pc
    · rw [if_pos h1]; exact ⟨.inl (trap_ne (by decide)), .inl (trap_ne (by decide))⟩
    · rw [if_neg h1]
      by_cases h2 : 37 ≤ c.getD s.pc 0 ∨ c.length < s.pc + 1 + nargs (c.getD s.pc 0)
      · rw [if_pos h2]; exact ⟨.inl (trap_ne (by decide)), .inl (trap_ne (by decide))⟩
      · rw [if_neg h2]
        by_cases h3 : (top s).ops.length < wI (c.getD s.pc 0) ∨ rops s < wR (c.getD s.pc 0)
        · rw [if_pos h3]; exact ⟨.inl (trap_ne (by decide)), .inl (trap_ne (by decide))⟩
        · rw [if_neg h3]
          exact ⟨mop_dec (by omega) hs he, .inr ⟨by omega, by omega⟩⟩
  obtain ⟨k1, k2⟩ := key
  generalize mstep c inp s = s' at *
  rcases k1 with k | ⟨e, ne, k⟩
  · refine ⟨?_, fun e => absurd e k⟩
    rw [hm]; unfold mu; rw [if_pos k]; omega
  · refine ⟨?_, fun _ => ne⟩
    have k2 := k2.resolve_left (fun h => h e)
    rw [hm]; unfold mu; rw [if_neg (by simp [e])]
    dsimp only at k
    rcases k with ⟨a1, a2, a3 | a3⟩ | ⟨a1, a2, a3⟩ | ⟨a1, a2⟩
    · rw [a1, a2, a3]; omega
    · rw [a1, a2]; omega
    · rw [a1]; omega
    · rw [a1]; omega
end Go.Proofs.Qxb6500562aGreat
