/-
  A typed WP semantics 'den' over the model's 'Code' that the kernel can compute: the definitions (my own layer; nothing here is trusted).
-/
import Derived.WalkKit
import Derived.Still
import Derived.KernelRfl
/-- Each side goes over. -/
theorem Or.onto {a b c d : Prop} (f : a → c) (g : b → d) (h : a ∨ b) : c ∨ d := by
  rcases h with h | h
  · exact .inl (f h)
  · exact .inr (g h)
namespace Go.Den

abbrev Env := Nat → Option Value
def upd (ρ : Env) (d : Nat) (v : Value) : Env := fun t => bif Nat.beq t d then some v else ρ t
def ev (ρ : Env) : Operand → Option Value
  | .tmp t => ρ t
  | .const v => some v
  | .global g => some (.pointer (some ⟨g, 0, none⟩))
  | .func f => some (.func (.func f) #[] #[])
def get (ρ : Env) (x : Operand) (K : Value → Prop) : Prop := match ev ρ x with | some v => K v | none => False
def getO (ρ : Env) (x : Option Operand) (K : Option Value → Prop) : Prop := match x with | some x => get ρ x fun v => K (some v) | none => K none
def getL (ρ : Env) : List Operand → (List Value → Prop) → Prop
  | [], K => K []
  | x :: xs, K => get ρ x fun v => getL ρ xs fun vs => K (v :: vs)
def getP (ρ : Env) : List (Nat × Operand) → (List (Nat × Value) → Prop) → Prop
  | [], K => K []
  | (i, x) :: xs, K => get ρ x fun v => getP ρ xs fun vs => K ((i, v) :: vs)
def isC : Operand → Bool
  | .const _ => true
  | _ => false

/-- A slice value. -/
structure Sl where
  a : Option Addr
  l : Nat
  c : Nat

/-! ### Numbers -/
def W (x : Int) : Int := IntKind.i64.wrap x
def U8 (x : Int) : Int := IntKind.u8.wrap x
def U64 (x : Int) : Int := IntKind.u64.wrap x
def And (k : IntKind) (a b : Int) : Int := k.wrap ((BitVec.ofInt k.bits a &&& BitVec.ofInt k.bits b).toNat : Int)
def Or (k : IntKind) (a b : Int) : Int := k.wrap ((BitVec.ofInt k.bits a ||| BitVec.ofInt k.bits b).toNat : Int)
def Xor (k : IntKind) (a b : Int) : Int := k.wrap ((BitVec.ofInt k.bits a ^^^ BitVec.ofInt k.bits b).toNat : Int)
def AndNot (k : IntKind) (a b : Int) : Int := k.wrap ((BitVec.ofInt k.bits a &&& ~~~ (BitVec.ofInt k.bits b)).toNat : Int)
def Shl (k : IntKind) (x y : Int) : Int := k.wrap (x * 2 ^ (min y.toNat k.bits))
def Shr (k : IntKind) (x y : Int) : Int := x.fdiv (2 ^ (min y.toNat k.bits))

/-- Integers: what needs no condition. 'c': the right operand is a constant. -/
def intB (op : BinOp) (k : IntKind) (a : Int) (b : Int) (c : Bool) : Option Value :=
  match op with
  | .add => some (.int k (k.wrap (a + b)))
  | .sub => some (.int k (k.wrap (a - b)))
  | .mul => some (.int k (k.wrap (a * b)))
  | .and => some (.int k (And k a b))
  | .or => some (.int k (Or k a b))
  | .xor => some (.int k (Xor k a b))
  | .andNot => some (.int k (AndNot k a b))
  | .eql => some (.bool (a == b))
  | .neq => some (.bool (a != b))
  | .lss => some (.bool (decide (a < b)))
  | .leq => some (.bool (decide (a ≤ b)))
  | .gtr => some (.bool (decide (a > b)))
  | .geq => some (.bool (decide (a ≥ b)))
  | .quo => bif c && !(b == 0) then some (.int k (k.wrap (a.tdiv b))) else none
  | .rem => bif c && !(b == 0) then some (.int k (a.tmod b)) else none
  | _ => none
def kEq : IntKind → IntKind → Bool
  | .i8, .i8 => true | .i16, .i16 => true | .i32, .i32 => true | .i64, .i64 => true
  | .u8, .u8 => true | .u16, .u16 => true | .u32, .u32 => true | .u64, .u64 => true
  | _, _ => false
/-- Two equal lists of plain values (the fields of a struct). -/
def eqV : Value → Value → Bool
  | .string a, .string b => a.toList == b.toList
  | .int _ a, .int _ b => a == b
  | .bool a, .bool b => a == b
  | _, _ => false
def eqL : List Value → List Value → Bool
  | [], [] => true
  | a :: as, b :: bs => eqV a b && eqL as bs
  | _, _ => false
/-- 'fill' of a struct whose fields have one cell each: the fields named, the others zero. -/
def setL : List Value → List (Nat × Value) → List Value
  | z, [] => z
  | z, (i, v) :: r => setL (z.set i v) r

def okV : Value → Bool
  | .agg _ => false
  | .tuple _ => false
  | _ => true
def psOk (vs : List (Nat × Value)) (n : Nat) : Bool := vs.all fun p => okV p.2 && Nat.blt p.1 n
/-- Cells laid over a row from a place on. -/
def setAt : List Value → Nat → List Value → List Value
  | z, _, [] => z
  | z, o, c :: cs => setAt (z.set o c) (o + 1) cs
/-- 'fill' of a struct: the fields named, the others zero. -/
def fillL (P : Program) (fs : List Field) : List Value → List (Nat × Value) → Option (List Value)
  | z, [] => some z
  | z, (i, v) :: r => match fs[i]? with
    | some f => bif Nat.beq v.cells.toList.length (P.cellsOf f.type) && Nat.ble (f.offset + v.cells.toList.length) z.length then fillL P fs (setAt z f.offset v.cells.toList) r else none
    | none => none
/-- The fields' types are known. -/
def fsKnown (P : Program) (fs : List Field) : Bool := fs.all fun f => Nat.blt 0 (P.cellsOf f.type)
/-- The fields have one cell each, one behind the other. -/
def fsOk (P : Program) : List Field → Nat → Bool
  | [], _ => true
  | f :: fs, i => Nat.beq (P.cellsOf f.type) 1 && Nat.beq f.offset i && fsOk P fs (i + 1)

def _root_.Go.Op.eqGuardTypeB (P : Program) (t : TypeId) : Bool := P.eqGuardType P.depth t
/-- The fields' types are string or int, the values fit. -/
def fsEq (P : Program) : List Field → List Value → List Value → Bool
  | [], [], [] => true
  | f :: fs, x :: xs, y :: ys => (match P.underlying f.type, x, y with
    | some .string, .string _, .string _ => true
    | some (.int k), .int k1 _, .int k2 _ => kEq k k1 && kEq k k2
    | some .bool, .bool _, .bool _ => true
    | _, _, _ => false) && !(f.name == "_") && fsEq P fs xs ys
  | _, _, _ => false

/-! ### Operations that hang on their operands alone -/
/-- The place of element 'i' of a slice. -/
def Ix (a : Option Addr) (len : Nat) (i : Int) (K : Nat → Nat → Prop) : Prop := ∃ b o, a = some ⟨b, o, none⟩ ∧ 0 ≤ i ∧ i < len ∧ K b o
def IxA (len : Nat) (i : Int) (K : Prop) : Prop := 0 ≤ i ∧ i < len ∧ K
def IxStr (s : ByteArray) (i : Int) (K : Int → Prop) : Prop := ∃ c : UInt8, 0 ≤ i ∧ s[i.toNat]? = some c ∧ K (c.toNat : Int)
/-- 's[lo:hi]' of a string. -/
def CutStr (s : ByteArray) (lo hi : Int) (K : ByteArray → Prop) : Prop := 0 ≤ lo ∧ lo ≤ hi ∧ hi ≤ s.size ∧ K (s.extract lo.toNat hi.toNat)
/-- 'x[lo:hi:mx]' of a slice ('size': cells of an element). -/
def CutS (size : Nat) (s : Sl) (lo hi mx : Int) (K : Sl → Prop) : Prop :=
  0 ≤ lo ∧ lo ≤ hi ∧ hi ≤ mx ∧ mx ≤ s.c ∧
    K ⟨if mx.toNat = lo.toNat then s.a else s.a.map (·.add (lo.toNat * size)), hi.toNat - lo.toNat, mx.toNat - lo.toNat⟩
def intO : Option Value → Int → (Int → Prop) → Prop
  | none, d, K => K d
  | some (.int _ n), _, K => K n
  | some _, _, _ => False
def Pos (y : Int) (K : Prop) : Prop := 0 ≤ y ∧ K
def NonZ (y : Int) (K : Prop) : Prop := y ≠ 0 ∧ K
def CatOk (a b : ByteArray) (K : Prop) : Prop := a.size + b.size ≤ 2 ^ 62 ∧ K
def noneK (o : Option Value) (K : Value → Prop) : Prop := match o with | some v => K v | none => False

def denPure (P : Program) (o : Oper) (ρ : Env) (K : Value → Prop) : Prop :=
  match o.op with
  | .move x => get ρ x K
  | .assign x => get ρ x K
  | .pick c a b => get ρ c fun v => match v with | .bool t => (match t with | true => get ρ a K | false => get ρ b K) | _ => False
  | .nilCheck x => get ρ x fun v => match v with | .pointer (some a) => K (.pointer (some a)) | _ => False
  | .extract x i => get ρ x fun v => match v with | .tuple vs => noneK vs.toList[i]? K | _ => False
  | .unOp op _ x => get ρ x fun v => match op, v with
    | .not, .bool b => K (.bool (!b))
    | .neg, .int k n => K (.int k (k.wrap (0 - n)))
    | _, _ => False
  | .fieldAddr s x f => get ρ x fun v => match P.underlying s, v with
    | some (.struct fs), .pointer (some ad) => (match fs.toList[f]? with
      | some fd => bif Nat.beq (P.cellsOf fd.type) 0 then False else K (.pointer (some (ad.add fd.offset)))
      | none => False)
    | _, _ => False
  | .binOp op t x y _ => get ρ x fun vx => get ρ y fun vy => match vx, vy with
    | .int k a, .int k' b => (match op with
      | .shl => bif isC y && decide (0 ≤ b) then K (.int k (Shl k a b)) else Pos b (K (.int k (Shl k a b)))
      | .shr => bif isC y && decide (0 ≤ b) then K (.int k (Shr k a b)) else Pos b (K (.int k (Shr k a b)))
      | _ => bif kEq k k' then (match intB op k a b (isC y) with
          | some v => K v
          | none => (match op with
            | .quo => NonZ b (K (.int k (k.wrap (a.tdiv b))))
            | .rem => NonZ b (K (.int k (a.tmod b)))
            | _ => False)) else False)
    | .string a, .string b => (match op with
      | .add => CatOk a b (K (.string (a ++ b)))
      | .eql => K (.bool (a.toList == b.toList))
      | .neq => K (.bool (!(a.toList == b.toList)))
      | .lss => K (.bool (Op.bytesLess a.toList b.toList))
      | .gtr => K (.bool (!(Op.bytesLess a.toList b.toList || a.toList == b.toList)))
      | .leq => K (.bool (Op.bytesLess a.toList b.toList || a.toList == b.toList))
      | .geq => K (.bool (!(Op.bytesLess a.toList b.toList)))
      | _ => False)
    | .slice a _ _, .slice none 0 0 => (match P.underlying t, op with
      | some (.slice _), .eql => K (.bool a.isNone)
      | some (.slice _), .neq => K (.bool (!a.isNone))
      | _, _ => False)
    | .pointer a, .pointer none => (match P.underlying t, op with
      | some (.pointer _), .eql => K (.bool a.isNone)
      | some (.pointer _), .neq => K (.bool (!a.isNone))
      | _, _ => False)
    | .agg xs, .agg ys => (match P.underlying t, op with
      | some (.struct fs), .eql => bif P.stoodInHeld t || Op.eqGuardTypeB P t || !(fsOk P fs.toList 0) || !(fsEq P fs.toList xs.toList ys.toList) then False else K (.bool (eqL xs.toList ys.toList))
      | some (.struct fs), .neq => bif P.stoodInHeld t || Op.eqGuardTypeB P t || !(fsOk P fs.toList 0) || !(fsEq P fs.toList xs.toList ys.toList) then False else K (.bool (!(eqL xs.toList ys.toList)))
      | _, _ => False)
    | .bool a, .bool b => (match P.underlying t, op with
      | some .bool, .eql => K (.bool (a == b))
      | some .bool, .neq => K (.bool (!(a == b)))
      | _, _ => False)
    | _, _ => False
  | .convert s d x => get ρ x fun v => match P.underlying s, P.underlying d, v with
    | some (.int _), some (.int k), .int _ n => K (.int k (k.wrap n))
    | some .string, some .string, .string b => K (.string b)
    | _, _, _ => False
  | .indexAddr t x i => get ρ x fun vx => get ρ i fun vi => match P.underlying t, vx, vi with
    | some (.slice e), .slice a len _, .int _ n => bif Nat.beq (P.cellsOf e) 0 then False else Ix a len n fun b o => K (.pointer (some ⟨b, o + n.toNat * P.cellsOf e, none⟩))
    | some (.array len e), .pointer (some ⟨b, o, none⟩), .int _ n => bif Nat.beq (P.cellsOf e) 0 then False else IxA len n (K (.pointer (some ⟨b, o + n.toNat * P.cellsOf e, none⟩)))
    | _, _, _ => False
  | .index t x i => get ρ x fun vx => get ρ i fun vi => match P.underlying t, vx, vi with
    | some .string, .string s, .int _ n => IxStr s n fun c => K (.int .u8 c)
    | _, _, _ => False
  | .slice t x lo hi mx => get ρ x fun vx => getO ρ lo fun l => getO ρ hi fun h => getO ρ mx fun m => match P.underlying t, vx with
    | some .string, .string s => (match m with
      | none => intO l 0 fun l => intO h s.size fun h => CutStr s l h fun r => K (.string r)
      | some _ => False)
    | some (.slice e), .slice a len cap => (match h, m with
      | none, some _ => False
      | _, _ => bif Nat.beq (P.cellsOf e) 0 then False else intO l 0 fun l => intO m cap fun m' => intO h len fun h => CutS (P.cellsOf e) ⟨a, len, cap⟩ l h m' fun r => K (.slice r.a r.l r.c))
    | _, _ => False
  | .build t ps => getP ρ ps.toList fun vs => match P.underlying t, (P.info? t).bind (·.zero) with
    | some (.struct fs), some (.agg z) => bif fsKnown P fs.toList then (match fillL P fs.toList z.toList vs with | some cs => K (.agg cs.toArray) | none => False) else False
    | some (.array _ e), some (.agg z) => bif Nat.blt 0 (P.cellsOf e) then (match vs with | [] => K (.agg z) | _ => False) else False
    | _, _ => False
  | .field t x f => get ρ x fun v => match P.underlying t, v with
    | some (.struct fs), .agg cs => (match fs.toList[f]? with
      | some fd => (match P.underlying fd.type with
        | some (.struct _) => bif Nat.blt 0 (P.cellsOf fd.type) then K (.agg ((cs.toList.drop fd.offset).take (P.cellsOf fd.type)).toArray) else False
        | some (.array _ _) => False
        | some _ => noneK cs.toList[fd.offset]? K
        | none => False)
      | none => False)
    | _, _ => False
  | .call c => (match c.callee with
    | .builtin .len => getL ρ c.args.toList fun vs => match c.argTypes.toList, vs with
      | [t], [.string s] => (match P.underlying t with | some .string => K (.int .i64 s.size) | _ => False)
      | [t], [.slice _ l _] => (match P.underlying t with | some (.slice _) => K (.int .i64 l) | _ => False)
      | _, _ => False
    | .builtin .cap => getL ρ c.args.toList fun vs => match c.argTypes.toList, vs with
      | [t], [.slice _ _ l] => (match P.underlying t with | some (.slice _) => K (.int .i64 l) | _ => False)
      | _, _ => False
    | _ => False)
  | _ => False

/-! ### Reading -/
def LdI (k : IntKind) (w : World) (ad : Addr) (K : Int → Prop) : Prop := ∃ n, w.cell? ad = some (.int k n) ∧ K n
def LdB (w : World) (ad : Addr) (K : Bool → Prop) : Prop := ∃ n, w.cell? ad = some (.bool n) ∧ K n
def LdStr (w : World) (ad : Addr) (K : ByteArray → Prop) : Prop := ∃ n, w.cell? ad = some (.string n) ∧ K n
def LdP (w : World) (ad : Addr) (K : Nat → Prop) : Prop := ∃ n, w.cell? ad = some (.pointer (some ⟨n, 0, none⟩)) ∧ K n
def LdS (w : World) (ad : Addr) (K : Sl → Prop) : Prop := ∃ s : Sl, w.cell? ad = some (.slice s.a s.l s.c) ∧ K s
/-- A cell of one of the plain types. -/
def LdT (P : Program) (t : TypeId) (w : World) (ad : Addr) (K : Value → Prop) : Prop :=
  match P.underlying t with
  | some (.int k) => LdI k w ad fun n => K (.int k n)
  | some .bool => LdB w ad fun n => K (.bool n)
  | some .string => LdStr w ad fun n => K (.string n)
  | some (.pointer _) => LdP w ad fun n => K (.pointer (some ⟨n, 0, none⟩))
  | some (.slice _) => LdS w ad fun s => K (.slice s.a s.l s.c)
  | _ => False
/-- The plain types of a type's cells. -/
def flatT (P : Program) : Nat → TypeId → List TypeId
  | 0, t => [t]
  | n + 1, t => match P.underlying t with
    | some (.struct fs) => (fs.toList.map fun f => flatT P n f.type).flatten
    | some (.array len e) => (List.replicate len (flatT P n e)).flatten
    | _ => [t]
/-- The cells of a struct, one behind the other. -/
def LdFs (P : Program) (w : World) (ad : Addr) : List TypeId → Nat → (List Value → Prop) → Prop
  | [], _, K => K []
  | f :: fs, i, K => LdT P f w (ad.add i) fun v => LdFs P w ad fs (i + 1) fun vs => K (v :: vs)
def LdV (P : Program) (t : TypeId) (w : World) (ad : Addr) (K : Value → Prop) : Prop :=
  match P.underlying t with
  | some (.struct _) => bif Nat.beq (flatT P 6 t).length (P.cellsOf t) && Nat.blt 0 (P.cellsOf t) then LdFs P w ad (flatT P 6 t) 0 fun vs => K (.agg vs.toArray) else False
  | some (.array _ _) => bif Nat.beq (flatT P 6 t).length (P.cellsOf t) && Nat.blt 0 (P.cellsOf t) then LdFs P w ad (flatT P 6 t) 0 fun vs => K (.agg vs.toArray) else False
  | _ => LdT P t w ad K
/-- The cells vs lie at the place a. -/
def CellsAt (w : World) (a : Option Addr) (n : Nat) (vs : List Value) : Prop :=
  vs.length = n ∧ (n = 0 ∨ ∃ b o, a = some ⟨b, o, none⟩ ∧ ∀ i, i < n → w.cell? ⟨b, o + i, none⟩ = vs[i]?)
/-- 'string(x)', x a slice of bytes. -/
def BtS (w : World) (s : Sl) (K : ByteArray → Prop) : Prop := ∃ bs : List UInt8, CellsAt w s.a s.l (bs.map fun b => .int .u8 b.toNat) ∧ K ⟨bs.toArray⟩

def isRead : Op → Bool
  | .load _ _ => true
  | .convert _ _ _ => true
  | .binOp _ _ _ _ _ => true
  | _ => false
/-- Loads, strings made of bytes, '==' on structs. -/
def denRead (P : Program) (o : Oper) (ρ : Env) (w : World) (K : Value → Prop) : Prop :=
  match o.op with
  | .load t a => get ρ a fun x => match x with | .pointer (some ad) => LdV P t w ad K | _ => False
  | .convert s d x => get ρ x fun v => match P.underlying s, P.underlying d, v with
    | some (.slice e), some .string, .slice a l c => (match P.underlying e with | some (.int .u8) => BtS w ⟨a, l, c⟩ fun b => K (.string b) | _ => False)
    | _, _, _ => False
  | _ => False

/-! ### Acting -/
def St1 (w : World) (ad : Addr) (v : Value) (K : World → Prop) : Prop := (w.cell? ad).isSome = true ∧ w.frozen? ad = false ∧ K (w.setCell ad v)
def StL (ad : Addr) : Nat → List Value → World → (World → Prop) → Prop
  | _, [], w, K => K w
  | i, v :: vs, w, K => bif okV v then St1 w (ad.add i) v fun w' => StL ad (i + 1) vs w' K else False
/-- c times the zero element. -/
def reps (z : List Value) : Nat → List Value
  | 0 => []
  | n + 1 => z ++ reps z n
def MkS (e : TypeId) (z : List Value) (bytes : Nat) (w : World) (l c : Int) (K : Sl → World → Prop) : Prop :=
  0 ≤ l ∧ l ≤ c ∧ bytes * c ≤ 2 ^ 48 ∧ c < 2 ^ 63 ∧ K ⟨some ⟨w.heap.size, 0, none⟩, l.toNat, c.toNat⟩ (w.alloc (.cells (reps z c.toNat).toArray e))
def putC (b : Nat) : Nat → List Value → World → World
  | _, [], w => w
  | o, v :: vs, w => putC b (o + 1) vs (w.setCell ⟨b, o, none⟩ v)
/-- 'copy(d, x)' of n elements whose cells are 'vs'. -/
def PutS (w : World) (a : Option Addr) (vs : List Value) (K : World → Prop) : Prop :=
  (vs = [] ∧ K w) ∨ ∃ b o, a = some ⟨b, o, none⟩ ∧ (∀ i, i < vs.length → (w.cell? ⟨b, o + i, none⟩).isSome = true ∧ w.frozen? ⟨b, o + i, none⟩ = false) ∧ K (putC b o vs w)
def CopyS (size : Nat) (w : World) (d x : Sl) (K : Int → World → Prop) : Prop :=
  ∃ vs : List Value, CellsAt w x.a (Nat.min x.l d.l * size) vs ∧ vs.all okV = true ∧ PutS w d.a vs fun w' => K (Nat.min x.l d.l : Nat) w'
def CopyStr (w : World) (d : Sl) (s : ByteArray) (K : Int → World → Prop) : Prop :=
  PutS w d.a ((s.data.toList.take (Nat.min s.size d.l)).map fun b => .int .u8 b.toNat) fun w' => K (Nat.min s.size d.l : Nat) w'
def AppS (e : TypeId) (z : List Value) (bytes size : Nat) (w : World) (s x : Sl) (K : Sl → World → Prop) : Prop :=
  ∃ new : List Value, CellsAt w x.a (x.l * size) new ∧ new.all okV = true ∧
    ((s.l + x.l ≤ s.c ∧ PutS w (s.a.map (·.add (s.l * size))) new fun w' => K ⟨s.a, s.l + x.l, s.c⟩ w') ∨
     (s.c < s.l + x.l ∧ (s.l + x.l) * bytes ≤ 2 ^ 46 ∧ ∃ old, CellsAt w s.a (s.l * size) old ∧
       ∀ cap, s.l + x.l ≤ cap → K ⟨some ⟨w.heap.size, 0, none⟩, s.l + x.l, cap⟩ (w.drew.alloc (.cells (old ++ new ++ reps z (cap - (s.l + x.l))).toArray e))))

abbrev CallT := Nat → List Value → World → (Value → World → Prop) → Prop

def zeroOf (P : Program) (t : TypeId) (K : List Value → Prop) : Prop :=
  match (P.info? t).bind (·.zero) with | some v => bif Nat.beq v.cells.toList.length (P.cellsOf t) && Nat.blt 0 (P.cellsOf t) then K v.cells.toList else False | none => False
def denEff (P : Program) (C : CallT) (o : Oper) (ρ : Env) (w : World) (K : Value → World → Prop) : Prop :=
  match o.op with
  | .store t a x => get ρ a fun p => get ρ x fun v => match p with
    | .pointer (some ad) => bif Nat.beq v.cells.toList.length (P.cellsOf t) && Nat.blt 0 (P.cellsOf t) then StL ad 0 v.cells.toList w fun w' => K undef w' else False
    | _ => False
  | .alloc t => zeroOf P t fun z => K (.pointer (some ⟨w.heap.size, 0, none⟩)) (w.alloc (.cells z.toArray t))
  | .box t x => get ρ x fun v => K (.pointer (some ⟨w.heap.size, 0, none⟩)) (w.alloc (.cells v.cells.toList.toArray t))
  | .buildSlice t n ps => getP ρ ps.toList fun vs => match P.underlying t with
    | some (.slice e) => bif Nat.beq (P.cellsOf e) 1 && Nat.ble n 1024 && Nat.blt 0 n && psOk vs n then
        zeroOf P e fun z => K (.slice (some ⟨w.heap.size, 0, none⟩) n n) (w.alloc (.cells (setL (reps z n) vs).toArray e))
      else (match vs with
        | [(0, .agg cs)] => bif Nat.beq n 1 && Nat.beq cs.toList.length (P.cellsOf e) && Nat.ble (P.cellsOf e) 1024 then
            zeroOf P e fun _ => K (.slice (some ⟨w.heap.size, 0, none⟩) 1 1) (w.alloc (.cells cs.toList.toArray e)) else False
        | _ => False)
    | _ => False
  | .makeSlice t l c => get ρ l fun vl => get ρ c fun vc => match P.underlying t, vl, vc with
    | some (.slice e), .int .i64 l, .int .i64 c => zeroOf P e fun z => MkS e z (P.bytesOf e) w l c fun s w' => K (.slice s.a s.l s.c) w'
    | _, _, _ => False
  | .call c => (match c.callee with
    | .builtin .append => getL ρ c.args.toList fun vs => match c.argTypes.toList, vs with
      | [t, t'], [.slice a l cp, .slice a' l' cp'] => (match P.underlying t, P.underlying t' with
        | some (.slice e), some (.slice _) => bif Nat.beq (P.bytesOf e) 0 then False else zeroOf P e fun z => AppS e z (P.bytesOf e) (P.cellsOf e) w ⟨a, l, cp⟩ ⟨a', l', cp'⟩ fun s w' => K (.slice s.a s.l s.c) w'
        | _, _ => False)
      | _, _ => False
    | .builtin .copy => getL ρ c.args.toList fun vs => match c.argTypes.toList, vs with
      | [t, _], [.slice a l cp, .slice a' l' cp'] => (match P.underlying t with
        | some (.slice e) => bif Nat.beq (P.cellsOf e) 0 then False else CopyS (P.cellsOf e) w ⟨a, l, cp⟩ ⟨a', l', cp'⟩ fun n w' => K (.int .i64 n) w'
        | _ => False)
      | [t, _], [.slice a l cp, .string s] => (match P.underlying t with
        | some (.slice e) => bif Nat.beq (P.cellsOf e) 0 then False else CopyStr w ⟨a, l, cp⟩ s fun n w' => K (.int .i64 n) w'
        | _ => False)
      | _, _ => False
    | .value (.func f) => getL ρ c.args.toList fun vs => C f vs w K
    | _ => False)
  | _ => False

/-! ### The operations of a region, in the order of the text -/
def cls (P : Program) : Op → Nat
  | .load _ _ => 1
  | .convert s _ _ => match P.underlying s with | some (.slice _) => 1 | _ => 0
  | .store _ _ _ => 2
  | .alloc _ => 2
  | .box _ _ => 2
  | .buildSlice _ _ _ => 2
  | .makeSlice _ _ _ => 2
  | .call c => (match c.callee with | .builtin .len => 0 | .builtin .cap => 0 | _ => 2)
  | _ => 0
def denOp (P : Program) (C : CallT) (o : Oper) (ρ : Env) (w : World) (K : Value → World → Prop) : Prop :=
  match cls P o.op with
  | 0 => denPure P o ρ fun v => K v w
  | 1 => denRead P o ρ w fun v => K v w
  | _ => denEff P C o ρ w K
def putK (n : Nat) (d : Option Nat) (ρ : Env) (v : Value) (K : Env → Prop) : Prop :=
  match d with
  | some d => bif Nat.blt d n then K (upd ρ d v) else False
  | none => K ρ
def denL (P : Program) (C : CallT) (n : Nat) (ops : List Oper) : List Oper → Env → World → (Env → World → Prop) → Prop
  | [], ρ, w, K => K ρ w
  | o :: rest, ρ, w, K =>
    match o.guard with
    | none => denOp P C o ρ w fun v w' => putK n o.dst ρ v fun ρ' => denL P C n ops rest ρ' w' K
    | some (j, want) =>
      match (ops[j]?).bind (·.dst) with
      | none => False
      | some d =>
        match ρ d with
        | some (.bool b) =>
          if b = true then
            (match want with
             | true => denOp P C o (upd ρ d (.bool true)) w fun v w' => putK n o.dst (upd ρ d (.bool true)) v fun ρ' => denL P C n ops rest ρ' w' K
             | false => putK n o.dst (upd ρ d (.bool true)) undef fun ρ' => denL P C n ops rest ρ' w K)
          else
            (match want with
             | true => putK n o.dst (upd ρ d (.bool false)) undef fun ρ' => denL P C n ops rest ρ' w K
             | false => denOp P C o (upd ρ d (.bool false)) w fun v w' => putK n o.dst (upd ρ d (.bool false)) v fun ρ' => denL P C n ops rest ρ' w' K)
        | some _ => putK n o.dst ρ undef fun ρ' => denL P C n ops rest ρ' w K
        | none => False

/-! ### When the order that is drawn makes no difference: a check on the text alone -/
/-- Who waits, directly or not, for operation i (among those behind it). -/
def waitsOn (i : Nat) : List Oper → Nat → List Nat → List Nat
  | [], _, acc => acc
  | o :: rest, j, acc => waitsOn i rest (j + 1) (bif o.after.toList.any (fun e => Region.binds .any e && (Nat.beq e.on i || acc.any (Nat.beq e.on))) then j :: acc else acc)
/-- From the stage at which the operations before k have come up. -/
def drawFrom (P : Program) (ops : Array Oper) : List Oper → Nat → Array Bool → Bool
  | [], _, listed => (Region.ready .any ops listed).isEmpty
  | o :: rest, k, listed =>
    (match cls P o.op with
     | 0 => Region.free .any ops listed k
     | 1 => Region.free .any ops listed k && ((waitsOn k ops.toList 0 []).all (Nat.blt k) && (List.range ops.size).all fun j => Nat.blt j k || (match ops[j]? with | some p => !(Nat.beq (cls P p.op) 2) | none => true) || (waitsOn k ops.toList 0 []).any (Nat.beq j))
     | _ => true) &&
    (match cls P o.op with
     | 0 => (Region.ready .any ops listed).contains k
     | 1 => (Region.ready .any ops listed).contains k
     | _ => (Region.ready .any ops listed) == [k]) &&
    drawFrom P ops rest (k + 1) (listed.setIfInBounds k true)
def drawOk (P : Program) (ops : Array Oper) : Bool :=
  Region.noSelect ops && drawFrom P ops ops.toList 0 (Array.replicate ops.size false)

/-! ### A region whose reads are not forced ahead of its actions: an action that could come before a read must leave what it reads -/
def Hold (w : World) (ad : Addr) (n : Nat) (K : (World → Prop) → Prop) : Prop := K fun w' => ∀ i, i < n → w'.cell? (ad.add i) = w.cell? (ad.add i)
def HoldB (w : World) (s : Sl) (K : (World → Prop) → Prop) : Prop := K fun w' => ∀ vs, CellsAt w s.a s.l vs → CellsAt w' s.a s.l vs
def After (S : World → Prop) (w : World) (K : Prop) : Prop := S w ∧ K
def isEff (P : Program) (ops : Array Oper) (j : Nat) : Bool := match ops[j]? with | some p => Nat.beq (cls P p.op) 2 | none => false
def waitsB (ops : Array Oper) (i j : Nat) : Bool := (waitsOn i ops.toList 0 []).any (Nat.beq j)
/-- Does no action wait any more to come before read i? -/
def tied (P : Program) (ops : Array Oper) (listed : Array Bool) (i : Nat) : Bool :=
  (List.range ops.size).all fun j => listed.getD j true || !(isEff P ops j) || waitsB ops i j
def heldOk (ops : Array Oper) (listed : Array Bool) (i : Nat) : Bool := (waitsOn i ops.toList 0 []).all (fun j => !(listed.getD j false))
def heldRead (P : Program) (o : Oper) (ρ : Env) (w : World) (K : (World → Prop) → Value → Prop) : Prop :=
  match o.op with
  | .load t a => get ρ a fun x => match x with
    | .pointer (some ad) => bif Nat.blt 0 (P.cellsOf t) then Hold w ad (P.cellsOf t) fun R => LdV P t w ad (K R) else False
    | _ => False
  | .convert s d x => get ρ x fun v => match P.underlying s, P.underlying d, v with
    | some (.slice e), some .string, .slice a l c => (match P.underlying e with | some (.int .u8) => HoldB w ⟨a, l, c⟩ fun R => BtS w ⟨a, l, c⟩ fun b => K R (.string b) | _ => False)
    | _, _, _ => False
  | _ => False
/-- Behind action j: every read that it could have come before. -/
def afters (ops : Array Oper) (j : Nat) (w : World) : List (Nat × (World → Prop)) → Prop → Prop
  | [], K => K
  | (i, R) :: G, K => bif waitsB ops i j then afters ops j w G K else After R w (afters ops j w G K)
/-- The guard of an operation, and then the one or the other. -/
def guardK (n : Nat) (ops : List Oper) (o : Oper) (ρ : Env) (run : Env → Prop) (skip : Env → Prop) : Prop :=
  match o.guard with
  | none => run ρ
  | some (j, want) =>
    match (ops[j]?).bind (·.dst) with
    | none => False
    | some d =>
      match ρ d with
      | some (.bool b) =>
        if b = true then (match want with | true => run (upd ρ d (.bool true)) | false => putK n o.dst (upd ρ d (.bool true)) undef skip)
        else (match want with | true => putK n o.dst (upd ρ d (.bool false)) undef skip | false => run (upd ρ d (.bool false)))
      | some _ => putK n o.dst ρ undef skip
      | none => False
def allC : List Nat → (Nat → Prop) → Prop
  | [], _ => True
  | [i], F => F i
  | i :: j :: r, F => F i ∧ allC (j :: r) F
def denX (P : Program) (C : CallT) (n : Nat) (ops : Array Oper) : Nat → List (Nat × (World → Prop)) → Array Bool → Env → World → (Env → World → Prop) → Prop
  | 0, _, listed, ρ, w, K => bif (Region.ready .any ops listed).isEmpty then K ρ w else False
  | fuel + 1, G, listed, ρ, w, K =>
    match Region.ready .any ops listed with
    | [] => K ρ w
    | r :: rs =>
      match (r :: rs).find? (fun i => !(isEff P ops i)) with
      | some i =>
        bif Region.free .any ops listed i then
          match ops[i]? with
          | none => False
          | some o =>
            guardK n ops.toList o ρ
              (fun ρ1 => match cls P o.op with
                | 0 => denPure P o ρ1 fun v => putK n o.dst ρ1 v fun ρ' => denX P C n ops fuel G (listed.setIfInBounds i true) ρ' w K
                | _ => bif heldOk ops listed i then
                    (bif tied P ops listed i then denRead P o ρ1 w fun v => putK n o.dst ρ1 v fun ρ' => denX P C n ops fuel G (listed.setIfInBounds i true) ρ' w K
                     else heldRead P o ρ1 w fun R v => putK n o.dst ρ1 v fun ρ' => denX P C n ops fuel ((i, R) :: G) (listed.setIfInBounds i true) ρ' w K)
                  else False)
              (fun ρ' => denX P C n ops fuel G (listed.setIfInBounds i true) ρ' w K)
        else False
      | none =>
        allC (r :: rs) fun i =>
          match ops[i]? with
          | none => False
          | some o =>
            guardK n ops.toList o ρ
              (fun ρ1 => denEff P C o ρ1 w fun v w' => putK n o.dst ρ1 v fun ρ' => afters ops i w' G (denX P C n ops fuel G (listed.setIfInBounds i true) ρ' w' K))
              (fun ρ' => afters ops i w G (denX P C n ops fuel G (listed.setIfInBounds i true) ρ' w K))

/-! ### Loops: a typed state -/
def KT : Nat → Type
  | 0 => Int
  | 1 => Int
  | 2 => Int
  | 3 => Bool
  | 4 => ByteArray
  | 5 => Nat
  | 6 => Sl
  | _ => Value
def injK : (k : Nat) → KT k → Value
  | 0, n => .int .i64 n
  | 1, n => .int .u8 n
  | 2, n => .int .u64 n
  | 3, b => .bool b
  | 4, s => .string s
  | 5, p => .pointer (some ⟨p, 0, none⟩)
  | 6, s => .slice s.a s.l s.c
  | _ + 7, v => v
def projK : (k : Nat) → Value → (KT k → Prop) → Prop
  | 0, v, K => match v with | .int .i64 n => K n | _ => False
  | 1, v, K => match v with | .int .u8 n => K n | _ => False
  | 2, v, K => match v with | .int .u64 n => K n | _ => False
  | 3, v, K => match v with | .bool n => K n | _ => False
  | 4, v, K => match v with | .string n => K n | _ => False
  | 5, v, K => match v with | .pointer (some ⟨p, 0, none⟩) => K p | _ => False
  | 6, v, K => match v with | .slice a l c => K ⟨a, l, c⟩ | _ => False
  | _ + 7, v, K => K v
def Tup : List (Nat × Nat) → Type
  | [] => Unit
  | (_, k) :: r => KT k × Tup r
def updT : (vs : List (Nat × Nat)) → Tup vs → Env → Env
  | [], _, ρ => ρ
  | (t, k) :: r, s, ρ => upd (updT r s.2 ρ) t (injK k s.1)
def projT : (vs : List (Nat × Nat)) → Env → (Tup vs → Prop) → Prop
  | [], _, K => K ()
  | (t, k) :: r, ρ, K => match ρ t with | some v => projK k v fun x => projT r ρ fun s => K (x, s) | none => False
def restr (keep : List Nat) (ρ : Env) : Env := fun t => bif keep.any (Nat.beq t) then ρ t else none
/-- A loop: some invariant and measure. -/
def LoopP {σ : Type} (body : σ → World → (σ → World → Prop) → Prop) (s : σ) (w : World) : Prop :=
  ∃ (I : σ → World → Prop) (μ : σ → World → Nat), I s w ∧ ∀ s w, I s w → body s w (fun s' w' => I s' w' ∧ μ s' w' < μ s w)

def wr : Code → Nat → Bool
  | .region _ ops _, t => ops.toList.any fun o => match o.dst with | some d => Nat.beq d t | none => false
  | .seq a b, t => wr a t || wr b t
  | .cond _ a b, t => wr a t || wr b t
  | .block _ c, t => wr c t
  | .loop c, t => wr c t
  | .scope c, t => wr c t
  | .rangeFunc _ _ _ _, _ => true
  | _, _ => false
/-- The first region of a text: the name of a loop. -/
def firstR : Code → Nat
  | .region id _ _ => id
  | .seq a _ => firstR a
  | .block _ c => firstR c
  | .loop c => firstR c
  | _ => 0
abbrev Ann := Nat → Option (List Nat × List (Nat × Nat))

def den (P : Program) (C : CallT) (n : Nat) (A : Ann) : Code → (Exit → Env → World → Prop) → Env → World → Prop
  | .skip, Q, ρ, w => Q .normal ρ w
  | .region _ ops draw, Q, ρ, w =>
    (match draw with
     | false => denL P C n ops.toList ops.toList ρ w (Q .normal)
     | true => bif drawOk P ops then denL P C n ops.toList ops.toList ρ w.drew (Q .normal)
       else bif Region.noSelect ops then denX P C n ops ops.size [] (Array.replicate ops.size false) ρ w.drew (Q .normal) else False)
  | .seq a b, Q, ρ, w => den P C n A a (fun e ρ w => match e with | .normal => den P C n A b Q ρ w | e => Q e ρ w) ρ w
  | .cond c x y, Q, ρ, w => get ρ c fun v => match v with
    | .bool b => (if b = true then den P C n A x Q ρ w else match A (1000000 + firstR y) with
      | some (_, vs) => projT vs ρ fun s => den P C n A y Q (updT vs s fun _ => none) w
      | none => den P C n A y Q ρ w)
    | _ => False
  | .block id c, Q, ρ, w => den P C n A c (fun e ρ w => match e with | .exit i => (bif Nat.beq i id then Q .normal ρ w else Q (.exit i) ρ w) | e => Q e ρ w) ρ w
  | .loop c, Q, ρ, w =>
    match A (firstR c) with
    | some (keep, vs) => bif keep.all (fun t => !(wr c t)) then
        projT vs ρ fun s0 => LoopP (σ := Tup vs) (fun s w next => den P C n A c (fun e ρ' w' => match e with | .normal => projT vs ρ' fun s' => next s' w' | e => Q e ρ' w') (updT vs s (restr keep ρ)) w) s0 w
      else False
    | none => False
  | .exit id, Q, ρ, w => Q (.exit id) ρ w
  | .ret, Q, ρ, w => Q .ret ρ w
  | _, _, _, _ => False

def resD (P : Program) (w : World) : List ResultVar → Env → (List Value → Prop) → Prop
  | [], _, K => K []
  | .tmp t :: r, ρ, K => match ρ t with | some v => resD P w r ρ fun vs => K (v :: vs) | none => False
  | .cell a t :: r, ρ, K => match ρ a with
    | some (.pointer (some ad)) => LdV P t w ad fun v => resD P w r ρ fun vs => K (v :: vs)
    | _ => False
def one : List Value → Value
  | [v] => v
  | vs => .tuple vs.toArray
def envA (args : List Value) : Env := fun t => args[t]?
def denF (P : Program) (C : CallT) (A : Ann) (fn : Func) (args : List Value) (w : World) (K : Value → World → Prop) : Prop :=
  match fn.body with
  | some c => bif Nat.ble args.length fn.ntmps then den P C fn.ntmps A c (fun e ρ w => match e with
      | .normal => resD P w fn.results.toList ρ fun vs => K (one vs) w
      | .ret => resD P w fn.results.toList ρ fun vs => K (one vs) w
      | _ => False) (envA args) w else False
  | none => False
end Go.Den
