/-
  The model's heap: Live, tidy.
-/
import Derived.Test.Qxb6500562aGreatHmD
namespace Go.Proofs.Qxb6500562aGreat
open Go.Den Go.Zip
set_option linter.unusedVariables false
set_option linter.unusedSimpArgs false
variable {w w' w0 u : World} {h : Nat} {es : List OE} {roots : List Int} {so sr s : Sl} {M : SH} {O O' P : Nat → Prop}

theorem order_in (hw : WM M) : ∀ x ∈ order M, 0 ≤ x ∧ x < M.objs.length := by
  refine tr_all (S := fun x => 0 ≤ x ∧ x < M.objs.length) (fun x hx y hy h0 => ⟨h0, ?_⟩) _ _ _ fun x hx => ?_
  · unfold obAt at hy
    rw [List.getD_eq_getElem?_getD, List.getElem?_eq_getElem (by omega)] at hy
    exact (hw.fr _ (List.getElem_mem _) y hy).2
  · rcases addA_mem hx with hx | ⟨hx, h0⟩
    · cases hx
    · exact ⟨h0, (hw.rr x hx).2⟩
theorem order_len (hw : WM M) : (order M).length ≤ M.objs.length := nodup_bound (order_nodup M) (order_in hw)
theorem ob_le (hw : WM M) {x : Int} (h0 : 0 ≤ x) (h1 : x < M.objs.length) : (obAt M x).refs.length ≤ 48 ∧ (obAt M x).ints.length ≤ 48 := by
  unfold obAt
  rw [List.getD_eq_getElem?_getD, List.getElem?_eq_getElem (by omega)]
  exact hw.fl _ (List.getElem_mem _)
theorem fnd_lt : ∀ {l : List Int} {x : Int} {i : Nat}, fnd l x i < (i + l.length : Nat) ∧ -1 ≤ fnd l x i
  | [], x, i => by
    have : fnd [] x i = -1 := rfl
    rw [this]
    omega
  | y :: l, x, i => by
    unfold fnd
    split
    · simp only [List.length_cons]; omega
    · have := fnd_lt (l := l) (x := x) (i := i + 1)
      simp only [List.length_cons]; omega
theorem ixOf_lt (l : List Int) (x : Int) : -1 ≤ ixOf l x ∧ ixOf l x < l.length := by
  have := fnd_lt (l := l) (x := x) (i := 0)
  unfold ixOf
  omega
theorem WM.tidy (hw : WM M) : WM (tidy M) := by
  have hl := order_len hw
  have hol := hw.ol
  refine ⟨by simpa [Go.Proofs.Qxb6500562aGreat.tidy] using hw.rl, by simp [Go.Proofs.Qxb6500562aGreat.tidy]; omega, fun o ho => ?_, fun x hx => ?_, fun o ho y hy => ?_⟩
  · obtain ⟨x, hx, rfl⟩ := List.mem_map.1 ho
    have := order_in hw x hx
    simpa using ob_le hw this.1 this.2
  · obtain ⟨y, hy, rfl⟩ := List.mem_map.1 hx
    have := ixOf_lt (order M) y
    simpa [Go.Proofs.Qxb6500562aGreat.tidy] using this
  · obtain ⟨x, hx, rfl⟩ := List.mem_map.1 ho
    obtain ⟨z, hz, rfl⟩ := List.mem_map.1 hy
    have := ixOf_lt (order M) z
    simpa [Go.Proofs.Qxb6500562aGreat.tidy] using this
theorem sum_take (f : Int → Nat) (l : List Int) (i : Nat) (h : i < l.length) : ((l.take (i + 1)).map f).sum = ((l.take i).map f).sum + f (l.getD i (-1)) := by
  rw [List.take_add_one, List.getElem?_eq_getElem h, List.map_append, List.sum_append]
  have : l.getD i (-1) = l[i] := by rw [List.getD_eq_getElem?_getD, List.getElem?_eq_getElem h]; rfl
  rw [this]
  simp
theorem sum_le (f : Int → Nat) (N : Nat) : ∀ l : List Int, (∀ x ∈ l, f x ≤ N) → (l.map f).sum ≤ l.length * N
  | [], _ => by simp
  | x :: l, h => by
    have h1 := h x (.head _)
    have h2 := sum_le f N l fun y hy => h y (.tail _ hy)
    simp only [List.map_cons, List.sum_cons, List.length_cons, Nat.succ_mul]
    omega
theorem mlive_spec {K : Int → World → Prop} (m : HM w h M O) (hK : ∀ u, FrP (fun _ => False) w u → K (live M) u) : S.heapm_Heap_Live h w K := by
  unfold S.heapm_Heap_Live
  refine morder_spec m fun s u hL => ?_
  have hwm := m.wm
  have hlen := order_len hwm
  have hol := hwm.ol
  have hin := order_in hwm
  have hsl : s.l = (order M).length := by have := hL.2.1.len; simpa [ints] using this.symm
  have hsz : ∀ x ∈ order M, osz (obAt M x) ≤ 97 := fun x hx => by
    have h1 := hin x hx
    have h2 := ob_le hwm h1.1 h1.2
    unfold osz; omega
  refine loopN (fun n v u => ∃ i : Nat, v = ((((((order M).take i).map fun x => osz (obAt M x)).sum : Nat) : Int), (i : Int), ()) ∧ i + n = (order M).length ∧ Lw w u s (order M)) (order M).length ⟨0, by simp, by omega, hL⟩ ?_
  rintro n _ u ⟨i, rfl, hin', hL⟩ Q hQ
  dsimp only
  cases n with
  | zero =>
    rw [if_neg (by simp only [decide_eq_true_eq]; omega)]
    rw [List.take_of_length_le (by omega)]
    exact hK u hL.1
  | succ n =>
    rw [if_pos (by simp only [decide_eq_true_eq]; omega)]
    refine osRd hL.2.1 (by omega) (by omega) ?_
    rw [Int.toNat_natCast]
    refine drew_ ?_
    have hL := hL.drew
    generalize u.drew = u at *
    have hxm : (order M).getD i (-1) ∈ order M := getD_in (by omega)
    have hx := hin _ hxm
    have hs := sum_take (fun x => osz (obAt M x)) (order M) i (by omega)
    have hb := hsz _ hxm
    have hsum := sum_le (fun x => osz (obAt M x)) 97 ((order M).take i) fun y hy => hsz y (List.mem_of_mem_take hy)
    have htl : ((order M).take i).length ≤ 49 := by rw [List.length_take]; omega
    generalize (order M).getD i (-1) = x at *
    have mu := m.frp (P := fun _ => False) hL.1 fun _ _ h => h
    obtain ⟨es, so, sr, mu, e, _⟩ := mu
    obtain ⟨q, he1, he2, hqm⟩ := es_at e hx.1 hx.2
    refine mu.refs hx.1 he1 (mu.intsS hx.1 he1 (let_ ?_))
    dsimp only
    have hfl := ob_le hwm hx.1 hx.2
    rw [he2] at hfl hb hs
    have ho : osz q.ob = 1 + q.ob.refs.length + q.ob.ints.length := rfl
    generalize hS : (((order M).take i).map fun x => osz (obAt M x)).sum = Sm at *
    have hSm : Sm ≤ 49 * 97 := Nat.le_trans hsum (Nat.mul_le_mul_right _ htl)
    rw [W_id (x := 1 + (q.ob.refs.length : Int)) (by omega) (by omega), W_id (x := 1 + (q.ob.refs.length : Int) + (q.ob.ints.length : Int)) (by omega) (by omega), W_id (x := (Sm : Int) + _) (by omega) (by omega), W_succ (by omega)]
    refine hQ n _ u (by omega) ⟨i + 1, ?_, by omega, hL⟩
    rw [hs, ho]
    simp only [Prod.mk.injEq, and_true]
    omega
end Go.Proofs.Qxb6500562aGreat
