/-
  A node of a tree in memory: fifteen cells.
-/
import Derived.Test.Qxb6500564aGreatPgD
import Derived.Test.Qxb6500564aGreatBtP
namespace Go.Proofs.Qxb6500564aGreat
open Go.Den Go.Zip
set_option linter.unusedVariables false
set_option linter.unusedSimpArgs false
variable {w w' : World} {p p' i j : Nat}

structure Nd where
  kd : Nat
  n : Nat
  ky : Nat → ByteArray
  vl : Nat → ByteArray
  kid : Nat → Nat
def Nd.cells (d : Nd) : List Value := [.int .i64 (d.kd : Int), .int .i64 (d.n : Int), .string (d.ky 0), .string (d.ky 1), .string (d.ky 2), .string (d.ky 3), .string (d.vl 0), .string (d.vl 1), .string (d.vl 2), .string (d.vl 3), .int .i64 (d.kid 0 : Int), .int .i64 (d.kid 1 : Int), .int .i64 (d.kid 2 : Int), .int .i64 (d.kid 3 : Int), .int .i64 (d.kid 4 : Int)]
def NB (w : World) (p : Nat) (d : Nd) : Prop := Blk w p d.cells
def nd0 : Nd := ⟨0, 0, fun _ => ⟨#[]⟩, fun _ => ⟨#[]⟩, fun _ => 0⟩
variable {d : Nd}
theorem NB.kd {K : Int → Prop} (h : NB w p d) (hk : K (d.kd : Int)) : LdI .i64 w ⟨p, 0, none⟩ K := ldI h rfl hk
theorem NB.cn {K : Int → Prop} (h : NB w p d) (hk : K (d.n : Int)) : LdI .i64 w ⟨p, 1, none⟩ K := ldI h rfl hk
theorem c2 : (2 : Nat) + Int.toNat (i : Int) * 1 = 2 + i := by rw [Int.toNat_natCast]; omega
theorem c6 : (6 : Nat) + Int.toNat (i : Int) * 1 = 6 + i := by rw [Int.toNat_natCast]; omega
theorem c10 : (10 : Nat) + Int.toNat (i : Int) * 1 = 10 + i := by rw [Int.toNat_natCast]; omega
theorem lt4 (h : i < 4) : i = 0 ∨ i = 1 ∨ i = 2 ∨ i = 3 := by omega
theorem lt5 (h : i < 5) : i = 0 ∨ i = 1 ∨ i = 2 ∨ i = 3 ∨ i = 4 := by omega
theorem NB.gk {K : ByteArray → Prop} (h : NB w p d) (hi : i < 4) (hk : K (d.ky i)) : LdStr w ⟨p, 2 + Int.toNat (i : Int) * 1, none⟩ K := by
  rw [c2]
  rcases lt4 hi with rfl | rfl | rfl | rfl <;> exact ldStr h rfl hk
theorem NB.gv {K : ByteArray → Prop} (h : NB w p d) (hi : i < 4) (hk : K (d.vl i)) : LdStr w ⟨p, 6 + Int.toNat (i : Int) * 1, none⟩ K := by
  rw [c6]
  rcases lt4 hi with rfl | rfl | rfl | rfl <;> exact ldStr h rfl hk
theorem NB.gc {K : Int → Prop} (h : NB w p d) (hi : i < 5) (hk : K (d.kid i : Int)) : LdI .i64 w ⟨p, 10 + Int.toNat (i : Int) * 1, none⟩ K := by
  rw [c10]
  rcases lt5 hi with rfl | rfl | rfl | rfl | rfl <;> exact ldI h rfl hk
theorem NB.sk {s : ByteArray} {K : World → Prop} (h : NB w p d) (hi : i < 4) (hk : ∀ w', NB w' p { d with ky := fset d.ky i s } → Fr p 1 w w' → K w') : St1 w ⟨p, 2 + Int.toNat (i : Int) * 1, none⟩ (.string s) K := by
  rw [c2]
  refine st1 h (by show _ < 15; omega) fun w' c f _ => hk w' ?_ f
  rcases lt4 hi with rfl | rfl | rfl | rfl <;> exact c
theorem NB.sv {s : ByteArray} {K : World → Prop} (h : NB w p d) (hi : i < 4) (hk : ∀ w', NB w' p { d with vl := fset d.vl i s } → Fr p 1 w w' → K w') : St1 w ⟨p, 6 + Int.toNat (i : Int) * 1, none⟩ (.string s) K := by
  rw [c6]
  refine st1 h (by show _ < 15; omega) fun w' c f _ => hk w' ?_ f
  rcases lt4 hi with rfl | rfl | rfl | rfl <;> exact c
theorem NB.sc {x : Int} {s : Nat} {K : World → Prop} (h : NB w p d) (hi : i < 5) (hx : x = (s : Int)) (hk : ∀ w', NB w' p { d with kid := fset d.kid i s } → Fr p 1 w w' → K w') : St1 w ⟨p, 10 + Int.toNat (i : Int) * 1, none⟩ (.int .i64 x) K := by
  subst hx
  rw [c10]
  refine st1 h (by show _ < 15; omega) fun w' c f _ => hk w' ?_ f
  rcases lt5 hi with rfl | rfl | rfl | rfl | rfl <;> exact c
theorem NB.sn {x : Int} {m : Nat} {K : World → Prop} (h : NB w p d) (hx : x = (m : Int)) (hk : ∀ w', NB w' p { d with n := m } → Fr p 1 w w' → K w') : St1 w ⟨p, 1, none⟩ (.int .i64 x) K := by
  subst hx
  exact st1 h (by show _ < 15; omega) fun w' c f _ => hk w' c f
theorem NB.skd {x : Nat} {K : World → Prop} (h : NB w p d) (hk : ∀ w', NB w' p { d with kd := x } → Fr p 1 w w' → K w') : St1 w ⟨p, 0, none⟩ (.int .i64 (x : Int)) K :=
  st1 h (by show _ < 15; omega) fun w' c f _ => hk w' c f
theorem NB.fr {n q : Nat} (h : NB w p d) (f : Fr q n w w') (hb : p < q ∨ q + n ≤ p) : NB w' p d := Blk.fr h f hb
theorem NB.drew (h : NB w p d) : NB w.drew p d := h
theorem NB.lt (h : NB w p d) : p < w.heap.size := Blk.lt h
theorem newN {d : Nd} {K : Nat → World → Prop} (hk : ∀ w', NB w' w.heap.size d → Fr 0 0 w w' → w'.heap.size = w.heap.size + 1 → K w.heap.size w') :
    New w (.cells #[.int .i64 (d.kd : Int), .int .i64 (d.n : Int), .string (d.ky 0), .string (d.ky 1), .string (d.ky 2), .string (d.ky 3), .string (d.vl 0), .string (d.vl 1), .string (d.vl 2), .string (d.vl 3), .int .i64 (d.kid 0 : Int), .int .i64 (d.kid 1 : Int), .int .i64 (d.kid 2 : Int), .int .i64 (d.kid 3 : Int), .int .i64 (d.kid 4 : Int)] 289) K :=
  newB fun w' c f s => hk w' c f s
theorem newZ {K : Nat → World → Prop} (hk : ∀ w', NB w' w.heap.size nd0 → Fr 0 0 w w' → w'.heap.size = w.heap.size + 1 → K w.heap.size w') :
    New w (.cells #[.int .i64 0, .int .i64 0, .string ⟨#[]⟩, .string ⟨#[]⟩, .string ⟨#[]⟩, .string ⟨#[]⟩, .string ⟨#[]⟩, .string ⟨#[]⟩, .string ⟨#[]⟩, .string ⟨#[]⟩, .int .i64 0, .int .i64 0, .int .i64 0, .int .i64 0, .int .i64 0] 289) K :=
  newB fun w' c f s => hk w' c f s
theorem rd15 {K : Int → Int → ByteArray → ByteArray → ByteArray → ByteArray → ByteArray → ByteArray → ByteArray → ByteArray → Int → Int → Int → Int → Int → Prop} (h : NB w p d) (hk : K (d.kd : Int) (d.n : Int) (d.ky 0) (d.ky 1) (d.ky 2) (d.ky 3) (d.vl 0) (d.vl 1) (d.vl 2) (d.vl 3) (d.kid 0 : Int) (d.kid 1 : Int) (d.kid 2 : Int) (d.kid 3 : Int) (d.kid 4 : Int)) : LdI .i64 w ⟨p, 0, none⟩ fun a0 => LdI .i64 w ⟨p, 1, none⟩ fun a1 => LdStr w ⟨p, 2, none⟩ fun a2 => LdStr w ⟨p, 3, none⟩ fun a3 => LdStr w ⟨p, 4, none⟩ fun a4 => LdStr w ⟨p, 5, none⟩ fun a5 => LdStr w ⟨p, 6, none⟩ fun a6 => LdStr w ⟨p, 7, none⟩ fun a7 => LdStr w ⟨p, 8, none⟩ fun a8 => LdStr w ⟨p, 9, none⟩ fun a9 => LdI .i64 w ⟨p, 10, none⟩ fun a10 => LdI .i64 w ⟨p, 11, none⟩ fun a11 => LdI .i64 w ⟨p, 12, none⟩ fun a12 => LdI .i64 w ⟨p, 13, none⟩ fun a13 => LdI .i64 w ⟨p, 14, none⟩ fun a14 => K a0 a1 a2 a3 a4 a5 a6 a7 a8 a9 a10 a11 a12 a13 a14 := by
  refine ldI h rfl (ldI h rfl (ldStr h rfl (ldStr h rfl (ldStr h rfl (ldStr h rfl (ldStr h rfl (ldStr h rfl (ldStr h rfl (ldStr h rfl (ldI h rfl (ldI h rfl (ldI h rfl (ldI h rfl (ldI h rfl hk))))))))))))))
theorem st15 {vs : List Value} {a0 a1 a10 a11 a12 a13 a14 : Int} {a2 a3 a4 a5 a6 a7 a8 a9 : ByteArray} {K : World → Prop} (h : Blk w p vs) (hl : vs.length = 15)
    (hk : ∀ w', Blk w' p [.int .i64 a0, .int .i64 a1, .string a2, .string a3, .string a4, .string a5, .string a6, .string a7, .string a8, .string a9, .int .i64 a10, .int .i64 a11, .int .i64 a12, .int .i64 a13, .int .i64 a14] → Fr p 1 w w' → K w') :
    St1 w ⟨p, 0, none⟩ (.int .i64 a0) fun w => St1 w ⟨p, 1, none⟩ (.int .i64 a1) fun w => St1 w ⟨p, 2, none⟩ (.string a2) fun w => St1 w ⟨p, 3, none⟩ (.string a3) fun w => St1 w ⟨p, 4, none⟩ (.string a4) fun w => St1 w ⟨p, 5, none⟩ (.string a5) fun w => St1 w ⟨p, 6, none⟩ (.string a6) fun w => St1 w ⟨p, 7, none⟩ (.string a7) fun w => St1 w ⟨p, 8, none⟩ (.string a8) fun w => St1 w ⟨p, 9, none⟩ (.string a9) fun w => St1 w ⟨p, 10, none⟩ (.int .i64 a10) fun w => St1 w ⟨p, 11, none⟩ (.int .i64 a11) fun w => St1 w ⟨p, 12, none⟩ (.int .i64 a12) fun w => St1 w ⟨p, 13, none⟩ (.int .i64 a13) fun w => St1 w ⟨p, 14, none⟩ (.int .i64 a14) fun w => K w := by
  match vs, hl with
  | [_, _, _, _, _, _, _, _, _, _, _, _, _, _, _], _ =>
    refine st1 h (by show _ < 15; omega) fun w1 h f1 _ => ?_
    refine st1 h (by show _ < 15; omega) fun w2 h f2 _ => ?_
    refine st1 h (by show _ < 15; omega) fun w3 h f3 _ => ?_
    refine st1 h (by show _ < 15; omega) fun w4 h f4 _ => ?_
    refine st1 h (by show _ < 15; omega) fun w5 h f5 _ => ?_
    refine st1 h (by show _ < 15; omega) fun w6 h f6 _ => ?_
    refine st1 h (by show _ < 15; omega) fun w7 h f7 _ => ?_
    refine st1 h (by show _ < 15; omega) fun w8 h f8 _ => ?_
    refine st1 h (by show _ < 15; omega) fun w9 h f9 _ => ?_
    refine st1 h (by show _ < 15; omega) fun w10 h f10 _ => ?_
    refine st1 h (by show _ < 15; omega) fun w11 h f11 _ => ?_
    refine st1 h (by show _ < 15; omega) fun w12 h f12 _ => ?_
    refine st1 h (by show _ < 15; omega) fun w13 h f13 _ => ?_
    refine st1 h (by show _ < 15; omega) fun w14 h f14 _ => ?_
    refine st1 h (by show _ < 15; omega) fun w15 h f15 _ => ?_
    exact hk w15 h (((((((((((((((f1.trans f2).trans f3).trans f4).trans f5).trans f6).trans f7).trans f8).trans f9).trans f10).trans f11).trans f12).trans f13).trans f14).trans f15))
theorem ly15 {e : Nd} {K : World → Prop} (h : NB w p d) (hk : ∀ w', NB w' p e → Fr p 1 w w' → K w') :
    (fun a0 a1 a2 a3 a4 a5 a6 a7 a8 a9 a10 a11 a12 a13 a14 => St1 w ⟨p, 0, none⟩ (.int .i64 a0) fun w => St1 w ⟨p, 1, none⟩ (.int .i64 a1) fun w => St1 w ⟨p, 2, none⟩ (.string a2) fun w => St1 w ⟨p, 3, none⟩ (.string a3) fun w => St1 w ⟨p, 4, none⟩ (.string a4) fun w => St1 w ⟨p, 5, none⟩ (.string a5) fun w => St1 w ⟨p, 6, none⟩ (.string a6) fun w => St1 w ⟨p, 7, none⟩ (.string a7) fun w => St1 w ⟨p, 8, none⟩ (.string a8) fun w => St1 w ⟨p, 9, none⟩ (.string a9) fun w => St1 w ⟨p, 10, none⟩ (.int .i64 a10) fun w => St1 w ⟨p, 11, none⟩ (.int .i64 a11) fun w => St1 w ⟨p, 12, none⟩ (.int .i64 a12) fun w => St1 w ⟨p, 13, none⟩ (.int .i64 a13) fun w => St1 w ⟨p, 14, none⟩ (.int .i64 a14) fun w => K w) (e.kd : Int) (e.n : Int) (e.ky 0) (e.ky 1) (e.ky 2) (e.ky 3) (e.vl 0) (e.vl 1) (e.vl 2) (e.vl 3) (e.kid 0 : Int) (e.kid 1 : Int) (e.kid 2 : Int) (e.kid 3 : Int) (e.kid 4 : Int) := st15 h rfl hk


/-- A node is copied out of one block into another, and read there. -/
theorem out15 {q : Nat} {e : Nd} {K : Int → Int → ByteArray → ByteArray → ByteArray → ByteArray → ByteArray → ByteArray → ByteArray → ByteArray → Int → Int → Int → Int → Int → World → Prop} (h : NB w p d) (h' : NB w q e) (hk : ∀ w', Fr q 1 w w' → K (d.kd : Int) (d.n : Int) (d.ky 0) (d.ky 1) (d.ky 2) (d.ky 3) (d.vl 0) (d.vl 1) (d.vl 2) (d.vl 3) (d.kid 0 : Int) (d.kid 1 : Int) (d.kid 2 : Int) (d.kid 3 : Int) (d.kid 4 : Int) w') : LdI .i64 w ⟨p, 0, none⟩ fun a0 => LdI .i64 w ⟨p, 1, none⟩ fun a1 => LdStr w ⟨p, 2, none⟩ fun a2 => LdStr w ⟨p, 3, none⟩ fun a3 => LdStr w ⟨p, 4, none⟩ fun a4 => LdStr w ⟨p, 5, none⟩ fun a5 => LdStr w ⟨p, 6, none⟩ fun a6 => LdStr w ⟨p, 7, none⟩ fun a7 => LdStr w ⟨p, 8, none⟩ fun a8 => LdStr w ⟨p, 9, none⟩ fun a9 => LdI .i64 w ⟨p, 10, none⟩ fun a10 => LdI .i64 w ⟨p, 11, none⟩ fun a11 => LdI .i64 w ⟨p, 12, none⟩ fun a12 => LdI .i64 w ⟨p, 13, none⟩ fun a13 => LdI .i64 w ⟨p, 14, none⟩ fun a14 => St1 w ⟨q, 0, none⟩ (.int .i64 a0) fun w => St1 w ⟨q, 1, none⟩ (.int .i64 a1) fun w => St1 w ⟨q, 2, none⟩ (.string a2) fun w => St1 w ⟨q, 3, none⟩ (.string a3) fun w => St1 w ⟨q, 4, none⟩ (.string a4) fun w => St1 w ⟨q, 5, none⟩ (.string a5) fun w => St1 w ⟨q, 6, none⟩ (.string a6) fun w => St1 w ⟨q, 7, none⟩ (.string a7) fun w => St1 w ⟨q, 8, none⟩ (.string a8) fun w => St1 w ⟨q, 9, none⟩ (.string a9) fun w => St1 w ⟨q, 10, none⟩ (.int .i64 a10) fun w => St1 w ⟨q, 11, none⟩ (.int .i64 a11) fun w => St1 w ⟨q, 12, none⟩ (.int .i64 a12) fun w => St1 w ⟨q, 13, none⟩ (.int .i64 a13) fun w => St1 w ⟨q, 14, none⟩ (.int .i64 a14) fun w => LdI .i64 w ⟨q, 0, none⟩ fun b0 => LdI .i64 w ⟨q, 1, none⟩ fun b1 => LdStr w ⟨q, 2, none⟩ fun b2 => LdStr w ⟨q, 3, none⟩ fun b3 => LdStr w ⟨q, 4, none⟩ fun b4 => LdStr w ⟨q, 5, none⟩ fun b5 => LdStr w ⟨q, 6, none⟩ fun b6 => LdStr w ⟨q, 7, none⟩ fun b7 => LdStr w ⟨q, 8, none⟩ fun b8 => LdStr w ⟨q, 9, none⟩ fun b9 => LdI .i64 w ⟨q, 10, none⟩ fun b10 => LdI .i64 w ⟨q, 11, none⟩ fun b11 => LdI .i64 w ⟨q, 12, none⟩ fun b12 => LdI .i64 w ⟨q, 13, none⟩ fun b13 => LdI .i64 w ⟨q, 14, none⟩ fun b14 => K b0 b1 b2 b3 b4 b5 b6 b7 b8 b9 b10 b11 b12 b13 b14 w :=
  rd15 h (st15 h' rfl fun w' c f => rd15 (d := d) c (hk w' f))
end Go.Proofs.Qxb6500564aGreat
