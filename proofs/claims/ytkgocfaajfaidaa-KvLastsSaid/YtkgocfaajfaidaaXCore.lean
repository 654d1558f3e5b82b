/- A predicate transformer over the heap for the code of a loaded program ('den'), in a form that reduces to a short text. Definitions alone; the soundness is proved in the next texts. -/
import Derived.Orders
import Derived.Laws.World
import Derived.Laws.Sem
import Derived.CallsIn
namespace Go.Proofs.Ytkgocfaajfaidaa.D
open Go

abbrev Heap := Array Obj

def cellH (h : Heap) (a : Addr) : Option Value :=
  match h[a.block]? with
  | some (.cells c _ _) => if a.spot.isSome then none else c[a.off]?
  | _ => none

def frozH (h : Heap) (a : Addr) : Bool :=
  match h[a.block]? with
  | some (.cells _ _ (lo, hi)) => lo ≤ a.off && a.off < hi
  | _ => false

def setH (h : Heap) (a : Addr) (v : Value) : Heap :=
  h.modify a.block fun
    | .cells c elem frozen => .cells (if a.spot.isSome then c else c.setIfInBounds a.off v) elem frozen
    | o => o

def setRow : Heap → Addr → List Value → Nat → Heap
  | h, _, [], _ => h
  | h, a, v :: r, i => setRow (setH h (a.add i) v) a r (i + 1)

/-! ### kinds of values in one cell -/
structure Sl where
  a : Option Addr
  len : Nat
  cap : Nat

inductive Sc where
  | int (k : IntKind) | bool | str | ptr | sl | map | raw

abbrev Sc.T : Sc → Type
  | .int _ => Int
  | .bool => Bool
  | .str => ByteArray
  | .ptr => Option Addr
  | .sl => Sl
  | .map => Option Nat
  | .raw => Value

def kEq : IntKind → IntKind → Bool
  | .i8, .i8 | .i16, .i16 | .i32, .i32 | .i64, .i64 | .u8, .u8 | .u16, .u16 | .u32, .u32 | .u64, .u64 => true
  | _, _ => false

def Sc.mk : (s : Sc) → s.T → Value
  | .int k, n => .int k n
  | .bool, b => .bool b
  | .str, s => .string s
  | .ptr, a => .pointer a
  | .sl, s => .slice s.a s.len s.cap
  | .map, r => .map r
  | .raw, v => v

def Sc.get : (s : Sc) → Value → Option s.T
  | .int k, .int k' n => match kEq k k' with | true => some n | false => none
  | .bool, .bool b => some b
  | .str, .string s => some s
  | .ptr, .pointer a => some a
  | .sl, .slice a l c => some ⟨a, l, c⟩
  | .map, .map r => some r
  | .raw, v => some v
  | _, _ => none

abbrev TupS : List Sc → Type
  | [] => Unit
  | [a] => a.T
  | a :: b :: r => a.T × TupS (b :: r)

def mkS : (l : List Sc) → TupS l → List Value
  | [], _ => []
  | [a], x => [a.mk x]
  | a :: b :: r, x => a.mk x.1 :: mkS (b :: r) x.2

def getS : (l : List Sc) → List Value → Option (TupS l)
  | [], [] => some ()
  | [a], [v] => a.get v
  | a :: b :: r, v :: w :: vs => match a.get v with
    | some x => match getS (b :: r) (w :: vs) with
      | some y => some (x, y)
      | none => none
    | none => none
  | _, _ => none

/-- kinds of results: one cell, or a struct of such cells -/
inductive Sh where
  | sc (s : Sc) | agg (l : List Sc)

abbrev Sh.T : Sh → Type
  | .sc s => s.T
  | .agg l => TupS l

def Sh.mk : (s : Sh) → s.T → Value
  | .sc s, x => s.mk x
  | .agg l, x => .agg (mkS l x).toArray

def Sh.get : (s : Sh) → Value → Option s.T
  | .sc s, v => s.get v
  | .agg l, .agg cs => getS l cs.toList
  | .agg _, _ => none

abbrev Tup : List Sh → Type
  | [] => Unit
  | [a] => a.T
  | a :: b :: r => a.T × Tup (b :: r)

def mkT : (l : List Sh) → Tup l → List Value
  | [], _ => []
  | [a], x => [a.mk x]
  | a :: b :: r, x => a.mk x.1 :: mkT (b :: r) x.2

def getT : (l : List Sh) → List Value → Option (Tup l)
  | [], [] => some ()
  | [a], [v] => a.get v
  | a :: b :: r, v :: w :: vs => match a.get v with
    | some x => match getT (b :: r) (w :: vs) with
      | some y => some (x, y)
      | none => none
    | none => none
  | _, _ => none

/-- what a function hands back, out of its results' values -/
def retOf : List Value → Value
  | [v] => v
  | vs => .tuple vs.toArray

/-! ### the words of the printed texts -/
def cnd (b : Bool) (A B : Prop) : Prop := match b with | true => A | false => B
def nn (o : Option Addr) (K : Addr → Prop) : Prop := match o with | some a => K a | none => False
def geZ (y : Int) (K : Prop) : Prop := 0 ≤ y ∧ K
def neZ (y : Int) (K : Prop) : Prop := y ≠ 0 ∧ K

def ldI (k : IntKind) (a : Addr) (h : Heap) (K : Int → Prop) : Prop := ∃ n, cellH h a = some (.int k n) ∧ K n
def ldB (a : Addr) (h : Heap) (K : Bool → Prop) : Prop := ∃ b, cellH h a = some (.bool b) ∧ K b
def ldS (a : Addr) (h : Heap) (K : ByteArray → Prop) : Prop := ∃ s, cellH h a = some (.string s) ∧ K s
def ldP (a : Addr) (h : Heap) (K : Option Addr → Prop) : Prop := ∃ x, cellH h a = some (.pointer x) ∧ K x
def ldL (a : Addr) (h : Heap) (K : Option Addr → Nat → Nat → Prop) : Prop := ∃ x l c, cellH h a = some (.slice x l c) ∧ K x l c
def ldM (a : Addr) (h : Heap) (K : Option Nat → Prop) : Prop := ∃ x, cellH h a = some (.map x) ∧ K x
def ldV (a : Addr) (h : Heap) (K : Value → Prop) : Prop := ∃ v, cellH h a = some v ∧ K v

def ldSc : Sc → Addr → Heap → (Value → Prop) → Prop
  | .int k, a, h, K => ldI k a h fun n => K (.int k n)
  | .bool, a, h, K => ldB a h fun b => K (.bool b)
  | .str, a, h, K => ldS a h fun s => K (.string s)
  | .ptr, a, h, K => ldP a h fun x => K (.pointer x)
  | .sl, a, h, K => ldL a h fun x l c => K (.slice x l c)
  | .map, a, h, K => ldM a h fun x => K (.map x)
  | .raw, a, h, K => ldV a h K

def ldAgg : List Sc → Nat → Addr → Heap → (List Value → Prop) → Prop
  | [], _, _, _, K => K []
  | s :: r, i, a, h, K => ldSc s (a.add i) h fun v => ldAgg r (i + 1) a h fun vs => K (v :: vs)

def ldRow (n : Nat) (a : Addr) (h : Heap) (K : List Value → Prop) : Prop :=
  ∃ cs : List Value, cs.length = n ∧ (∀ i v, cs[i]? = some v → cellH h (a.add i) = some v) ∧ K cs

def rdCells (o : Option Addr) (n : Nat) (h : Heap) (K : List Value → Prop) : Prop :=
  match o with
  | some a => ldRow n a h K
  | none => K []

def stC (a : Addr) (v : Value) (h : Heap) (K : Heap → Prop) : Prop :=
  v.oneCell' = true ∧ (cellH h a).isSome = true ∧ frozH h a = false ∧ K (setH h a v)

def stN : List Value → Nat → Addr → Heap → (Heap → Prop) → Prop
  | [], _, _, h, K => K h
  | v :: r, i, a, h, K => stC (a.add i) v h fun h' => stN r (i + 1) a h' K

def stRow (cs : List Value) (a : Addr) (h : Heap) (K : Heap → Prop) : Prop :=
  (∀ v ∈ cs, v.oneCell' = true) ∧ (∀ i, i < cs.length → (cellH h (a.add i)).isSome = true ∧ frozH h (a.add i) = false) ∧ K (setRow h a cs 0)

def newB (cs : List Value) (t : TypeId) (h : Heap) (K : Addr → Heap → Prop) : Prop :=
  K ⟨h.size, 0, none⟩ (h.push (.cells cs.toArray t))

def zerosL (zs : List Value) (n : Nat) : List Value :=
  match zs with
  | [z] => List.replicate n z
  | zs => (List.replicate n zs).flatten

/-- make([]T, l, c) -/
def mkSl (zs : List Value) (e : TypeId) (bytes : Nat) (l c : Int) (h : Heap) (K : Addr → Heap → Prop) : Prop :=
  0 ≤ l ∧ l ≤ c ∧ c ≤ 281474976710656 ∧ bytes * c ≤ 281474976710656 ∧ newB (zerosL zs c.toNat) e h K

/-- append: 'new': the cells of what is appended, m elements -/
def app (zs : List Value) (e : TypeId) (size bytes : Nat) (o : Option Addr) (l c : Nat) (new : List Value) (m : Nat) (h : Heap) (K : Option Addr → Nat → Heap → Prop) : Prop :=
  if l + m ≤ c then
    match o with
    | some a => stRow new (a.add (l * size)) h (K o c)
    | none => K o c h
  else Builtin.nextslicecap (l + m) c * bytes ≤ 281474976710656 ∧
    rdCells o (l * size) h fun old => ∀ c', l + m ≤ c' → c' ≤ 9223372036854775807 →
      K (some ⟨h.size, 0, none⟩) c' (h.push (.cells (old ++ new ++ zerosL zs (c' - (l + m))).toArray e))

def bytesV (s : ByteArray) : List Value := s.data.toList.map fun b => Value.int .u8 (b.toNat : Int)

/-- []byte(s) -/
def s2b (s : ByteArray) (e : TypeId) (h : Heap) (K : Addr → Nat → Heap → Prop) : Prop :=
  s.size ≤ 9223372036854775807 ∧ ∀ c, s.size ≤ c → c ≤ 9223372036854775807 → K ⟨h.size, 0, none⟩ c (h.push (.cells (bytesV s ++ List.replicate (c - s.size) (Value.int .u8 0)).toArray e (c, c + 1)))

/-- a row of bytes that stands for a constant string's -/
def frzH (h : Heap) (b n : Nat) : Heap :=
  h.modify b fun
    | .cells c elem (lo, hi) => .cells c elem (if lo == hi then (n, n + 1) else (min lo n, max hi (n + 1)))
    | o => o
def markS (a : Addr) (h : Heap) (K : Heap → Prop) : Prop := ∃ c e f, h[a.block]? = some (.cells c e f) ∧ K (frzH h a.block c.size)

/-- append(.., make([]T, n)...) -/
def appZ (zs : List Value) (e : TypeId) (size bytes : Nat) (o : Option Addr) (l c : Nat) (n : Int) (h : Heap) (K : Option Addr → Nat → Heap → Prop) : Prop :=
  0 ≤ n ∧ n * bytes ≤ 281474976710656 ∧ app zs e size bytes o l c (zerosL zs n.toNat) n.toNat h K

/-- string(b) -/
def b2s (o : Option Addr) (l : Nat) (h : Heap) (K : ByteArray → Prop) : Prop :=
  match o with
  | some a => ∃ bs : List UInt8, bs.length = l ∧ (∀ i v, bs[i]? = some v → cellH h (a.add i) = some (.int .u8 (v.toNat : Int))) ∧ K ⟨bs.toArray⟩
  | none => K ByteArray.empty

def idx (o : Option Addr) (len : Nat) (i : Int) (K : Addr → Prop) : Prop := ∃ a, o = some a ∧ 0 ≤ i ∧ i < len ∧ K a
def inB (len : Nat) (i : Int) (K : Prop) : Prop := 0 ≤ i ∧ i < len ∧ K
def sidx (s : ByteArray) (i : Int) (K : UInt8 → Prop) : Prop := ∃ b, 0 ≤ i ∧ s.data.toList[i.toNat]? = some b ∧ K b
def aidx (cs : List Value) (i : Int) (K : Value → Prop) : Prop := ∃ v, 0 ≤ i ∧ cs[i.toNat]? = some v ∧ K v
def aidxI (k : IntKind) (cs : List Value) (i : Int) (K : Int → Prop) : Prop := ∃ n, 0 ≤ i ∧ cs[i.toNat]? = some (.int k n) ∧ K n
def aidxSc (s : Sc) (cs : List Value) (i : Int) (K : Value → Prop) : Prop := match s with | .int k => aidxI k cs i fun n => K (.int k n) | _ => aidx cs i K

/-- s[lo:hi] of a string -/
def ssl (s : ByteArray) (lo hi : Int) (K : ByteArray → Prop) : Prop := 0 ≤ lo ∧ lo ≤ hi ∧ hi ≤ s.size ∧ K (s.extract lo.toNat hi.toNat)
/-- x[lo:hi:mx] of a slice (elements of 'size' cells) -/
def lsl (size : Nat) (o : Option Addr) (cap : Nat) (lo hi mx : Int) (K : Option Addr → Nat → Nat → Prop) : Prop :=
  0 ≤ lo ∧ lo ≤ hi ∧ hi ≤ mx ∧ mx ≤ cap ∧ K (if mx = lo then o else o.map (·.add (lo.toNat * size))) (hi - lo).toNat (mx - lo).toNat

def andI (k : IntKind) (x y : Int) : Int := k.wrap (BitVec.ofInt k.bits x &&& BitVec.ofInt k.bits y).toNat
def orI (k : IntKind) (x y : Int) : Int := k.wrap (BitVec.ofInt k.bits x ||| BitVec.ofInt k.bits y).toNat
def xorI (k : IntKind) (x y : Int) : Int := k.wrap (BitVec.ofInt k.bits x ^^^ BitVec.ofInt k.bits y).toNat
def andNotI (k : IntKind) (x y : Int) : Int := k.wrap (BitVec.ofInt k.bits x &&& ~~~(BitVec.ofInt k.bits y)).toNat
def shlI (k : IntKind) (x y : Int) : Int := k.wrap (x * 2 ^ min y.toNat k.bits)
def shrI (k : IntKind) (x y : Int) : Int := x.fdiv (2 ^ min y.toNat k.bits)
def minI (x y : Int) : Int := if y < x then y else x
def maxI (x y : Int) : Int := if y > x then y else x
def seq (a b : ByteArray) : Bool := a.toList == b.toList
def slt (a b : ByteArray) : Bool := Op.bytesLess a.toList b.toList

/-- a loop: what holds at its head, and what every round lowers -/
def LoopT {σ : Type} (F : (σ → Heap → Prop) → σ → Heap → Prop) (s : σ) (h : Heap) : Prop :=
  ∃ (I : σ → Heap → Prop) (μ : σ → Heap → Nat), I s h ∧ ∀ s h, I s h → F (fun s' h' => I s' h' ∧ μ s' h' < μ s h) s h

/-- ways that meet again -/
def withJ {σ : Type} (Y : σ → Heap → Prop) (X : (σ → Heap → Prop) → Prop) : Prop := X Y

/-- the blocks for deferred calls lie as they lay -/
def DefKept (h h' : Heap) : Prop := h.size ≤ h'.size ∧ ∀ b : Nat, h[b]? = some (.deferred (some [])) → h'[b]? = some (.deferred (some []))
/-- the streams and the tape are as they were -/
def SameOs (w w' : World) : Prop := w'.os = w.os ∧ w'.tape = w.tape ∧ w'.output = w.output ∧ DefKept w.heap w'.heap

/-- a call, whatever else the world holds -/
def CallT (P : Program) (f : FuncId) (args : List Value) (h : Heap) (l : List Sh) (K : Tup l → Heap → Prop) : Prop :=
  ∀ w : World, w.heap = h → Calls P f args.toArray w fun e w' => SameOs w w' ∧ ∃ s, e = .returned (retOf (mkT l s)) ∧ K s w'.heap

/-- a call of yield: the round's answer, whatever else the world holds -/
def YldT (P : Program) (l : Nat) (args : List Value) (h : Heap) (K : Bool → Heap → Prop) : Prop :=
  ∀ w : World, w.heap = h → ∃ fn tmps assign body, (Instr.yield l args.toArray).run P w = .ok (.round l fn tmps assign body) w ∧
    RoundIn Fence.wide 0 P l fn tmps assign body w fun e w' => SameOs w w' ∧ ∃ b, e = .returned (.bool b) ∧ K b w'.heap

/-! ### what is known of the frame -/
abbrev Env := List (Nat × Value)
def look (d : Nat) : Env → Option Value
  | [] => none
  | (k, v) :: r => match Nat.beq k d with | true => some v | false => look d r
def ev (env : Env) : Operand → Option Value
  | .tmp t => look t env
  | .const v => some v
  | .global g => some (.pointer (some ⟨g, 0, none⟩))
  | .func f => some (.func (.func f) #[] #[])
def ev1 (env : Env) (x : Operand) (K : Value → Prop) : Prop := match ev env x with | some v => K v | none => False
def evs (env : Env) : List Operand → (List Value → Prop) → Prop
  | [], K => K []
  | x :: r, K => ev1 env x fun v => evs env r fun vs => K (v :: vs)
def memN (d : Nat) : List Nat → Bool
  | [] => false
  | k :: r => match Nat.beq k d with | true => true | false => memN d r
def dropE (ws : List Nat) : Env → Env
  | [] => []
  | p :: r => match memN p.1 ws with | true => dropE ws r | false => p :: dropE ws r

/-! ### types -/
section
variable (P : Program)
def isAggT (t : TypeId) : Bool := match P.underlying t with | some (.struct _) => true | some (.array _ _) => true | _ => false
def scOf (t : TypeId) : Sc := match P.underlying t with
  | some (.int k) => .int k
  | some .bool => .bool
  | some .string => .str
  | some (.pointer _) => .ptr
  | some (.slice _) => .sl
  | some (.map _ _) => .map
  | _ => .raw
/-- the kinds of a type's cells; none: an array of more than eight elements -/
def cellSc : Nat → TypeId → Option (List Sc)
  | 0, _ => none
  | n + 1, t => match P.underlying t with
    | some (.struct fs) => fs.toList.foldr (fun f acc => match acc with
      | some l => match cellSc n f.type with | some m => some (m ++ l) | none => none
      | none => none) (some [])
    | some (.array k e) => match Nat.ble k 8 with
      | true => match cellSc n e with | some m => some (List.replicate k m).flatten | none => none
      | false => none
    | _ => some [scOf P t]
def zeroL (t : TypeId) : Option (List Value) := match P.info? t with
  | some i => match i.zero with | some v => some v.cells.toList | none => none
  | none => none
def shOf (t : TypeId) : Sh := match isAggT P t with
  | true => match cellSc P 8 t with | some l => .agg l | none => .sc .raw
  | false => .sc (scOf P t)

/-! ### operations that leave the heap alone -/
def ldT (t : TypeId) (a : Addr) (h : Heap) (K : Value → Prop) : Prop :=
  match isAggT P t with
  | true => match cellSc P 8 t with
    | some l => match Nat.beq l.length (P.cellsOf t) with
      | true => ldAgg l 0 a h fun vs => K (.agg vs.toArray)
      | false => False
    | none => ldRow (P.cellsOf t) a h fun vs => K (.agg vs.toArray)
  | false => ldSc (scOf P t) a h K
end

def nilD (v : Value) (K : Value → Prop) : Prop :=
  match v with
  | .pointer o => nn o fun a => K (.pointer (some a))
  | .iface t v => K (.iface t v)
  | .func (.func f) a b => K (.func (.func f) a b)
  | .func (.yield f) a b => K (.func (.yield f) a b)
  | _ => False

def pickD (c a b : Value) (K : Value → Prop) : Prop :=
  match c with
  | .bool t => cnd t (K a) (K b)
  | _ => False

def intD (op : BinOp) (yc : Bool) (k : IntKind) (x : Int) (k' : IntKind) (y : Int) (K : Value → Prop) : Prop :=
  match op with
  | .shl => match yc with | true => K (.int k (shlI k x y)) | false => geZ y (K (.int k (shlI k x y)))
  | .shr => match yc with | true => K (.int k (shrI k x y)) | false => geZ y (K (.int k (shrI k x y)))
  | op => match kEq k k' with
    | false => False
    | true => match op with
      | .add => K (.int k (k.wrap (x + y)))
      | .sub => K (.int k (k.wrap (x - y)))
      | .mul => K (.int k (k.wrap (x * y)))
      | .quo => match yc with | true => K (.int k (k.wrap (x.tdiv y))) | false => neZ y (K (.int k (k.wrap (x.tdiv y))))
      | .rem => match yc with | true => K (.int k (x.tmod y)) | false => neZ y (K (.int k (x.tmod y)))
      | .and => K (.int k (andI k x y))
      | .or => K (.int k (orI k x y))
      | .xor => K (.int k (xorI k x y))
      | .andNot => K (.int k (andNotI k x y))
      | .eql => K (.bool (x == y))
      | .neq => K (.bool (x != y))
      | .lss => K (.bool (decide (x < y)))
      | .leq => K (.bool (decide (x ≤ y)))
      | .gtr => K (.bool (decide (x > y)))
      | .geq => K (.bool (decide (x ≥ y)))
      | _ => False

def strD (op : BinOp) (x y : ByteArray) (K : Value → Prop) : Prop :=
  match op with
  | .add => ((x.size + y.size : Nat) : Int) ≤ 9223372036854775807 ∧ K (.string (x ++ y))
  | .eql => K (.bool (seq x y))
  | .neq => K (.bool (!seq x y))
  | .lss => K (.bool (slt x y))
  | .leq => K (.bool (slt x y || seq x y))
  | .gtr => K (.bool (!(slt x y || seq x y)))
  | .geq => K (.bool (!slt x y))
  | _ => False

def outB (neg b : Bool) (K : Value → Prop) : Prop := match neg with | true => K (.bool (!b)) | false => K (.bool b)

/-- x == y at a type of one cell -/
def eqS (P : Program) (t : TypeId) (x y : Value) (K : Bool → Prop) : Prop :=
  match P.underlying t with
  | some (.int _) => match x, y with
    | .int k a, .int k' b => match kEq k k' with | true => K (a == b) | false => False
    | _, _ => False
  | some .bool => match x, y with
    | .bool a, .bool b => K (a == b)
    | _, _ => False
  | some .string => match x, y with
    | .string a, .string b => K (seq a b)
    | _, _ => False
  | _ => False

/-- cell by cell, the cells' types given -/
def eqCells (P : Program) : List TypeId → List Value → List Value → (Bool → Prop) → Prop
  | [], [], [], K => K true
  | t :: ts, x :: xs, y :: ys, K => eqS P t x y fun r => eqCells P ts xs ys fun s => K (r && s)
  | _, _, _, _ => False

/-- the fields of a struct, one cell each, in their order -/
def fldTys : Nat → List Field → Option (List TypeId)
  | _, [] => some []
  | n, f :: r => match Nat.beq f.offset n && !(f.name == "_") with
    | true => match fldTys (n + 1) r with
      | some l => some (f.type :: l)
      | none => none
    | false => none

/-- the cells' types of a struct or an array whose parts are of one cell -/
def aggTys (P : Program) (t : TypeId) : Option (List TypeId) :=
  match P.eqGuardType P.depth t with
  | true => none
  | false => match P.underlying t with
    | some (.array n e) => match P.info? e with
      | some _ => match Nat.beq (P.cellsOf e) 1 && !isAggT P e with
        | true => some (List.replicate n e)
        | false => none
      | none => none
    | some (.struct fs) => match P.stoodInHeld t with
      | true => none
      | false => match fldTys 0 fs.toList with
        | some l => match l.all (fun u => !isAggT P u) with
          | true => some l
          | false => none
        | none => none
    | _ => none

/-- is an interface's value nil? -/
def isNilI (v : Value) (K : Bool → Prop) : Prop := match v with | .nilIface => K true | .iface _ _ => K false | _ => False
/-- x == y beside integers and strings; 'neg': !=; y is nil where it is no bool -/
def eqD (P : Program) (neg : Bool) (t : TypeId) (x y : Value) (K : Value → Prop) : Prop :=
  match P.underlying t with
  | some .bool => match x, y with
    | .bool a, .bool b => outB neg (a == b) K
    | _, _ => False
  | some (.slice _) => match y with
    | .slice none _ _ => match x with | .slice a _ _ => outB neg a.isNone K | _ => False
    | _ => False
  | some (.map _ _) => match y with
    | .map none => match x with | .map a => outB neg a.isNone K | _ => False
    | _ => False
  | some (.pointer _) => match y with
    | .pointer none => match x with | .pointer a => outB neg a.isNone K | _ => False
    | _ => False
  | some (.func _ _ _) => match y with
    | .nilFunc => match x with | .nilFunc => outB neg true K | .func _ _ _ => outB neg false K | _ => False
    | _ => False
  | some (.interface _) => match y with
    | .nilIface => match x with | .iface _ _ => outB neg false K | _ => False
    | _ => False
  | some (.array _ _) => match x, y with
    | .agg xs, .agg ys => match aggTys P t with
      | some l => eqCells P l xs.toList ys.toList fun r => outB neg r K
      | none => False
    | _, _ => False
  | some (.struct _) => match x, y with
    | .agg xs, .agg ys => match aggTys P t with
      | some l => eqCells P l xs.toList ys.toList fun r => outB neg r K
      | none => False
    | _, _ => False
  | _ => False

def binD (P : Program) (op : BinOp) (yc : Bool) (t : TypeId) (x y : Value) (K : Value → Prop) : Prop :=
  match x, y with
  | .int k a, .int k' b => intD op yc k a k' b K
  | .string a, .string b => strD op a b K
  | x, y => match op with
    | .eql => eqD P false t x y K
    | .neq => eqD P true t x y K
    | _ => False

/-- are two pointers compared, neither a constant? -/
def ptrCmp (P : Program) (t : TypeId) (y : Operand) : Bool :=
  match P.underlying t with
  | some (.pointer e) => match Nat.beq (P.cellsOf e) 0, y with
    | false, .const _ => false
    | false, _ => true
    | true, _ => false
  | _ => false
/-- pointers that are the same -/
def sameD (op : BinOp) (a b : Value) (K : Value → Prop) : Prop :=
  match op, a, b with
  | .eql, .pointer x, .pointer y => x = y ∧ K (.bool true)
  | .neq, .pointer x, .pointer y => x = y ∧ K (.bool false)
  | _, _, _ => False

/-- an interface's value and the literal nil -/
def nilCmp (P : Program) (t : TypeId) (y : Operand) : Bool :=
  match P.underlying t with
  | some (.interface _) => match y with | .const .nilIface => true | _ => false
  | _ => false
def nilX (op : BinOp) (a : Value) (K : Value → Prop) : Prop :=
  match op with
  | .eql => isNilI a fun b => K (.bool b)
  | .neq => isNilI a fun b => K (.bool (!b))
  | _ => False

/-- a constant by which one may divide and shift -/
def constOk : Operand → Bool
  | .const (.int _ n) => match n with | .ofNat (_ + 1) => true | .ofNat 0 => false | _ => false
  | _ => false

def unD (op : UnOp) (x : Value) (K : Value → Prop) : Prop :=
  match op, x with
  | .neg, .int k n => K (.int k (k.wrap (0 - n)))
  | .xor, .int k n => K (.int k (xorI k (if k.signed then -1 else k.max) n))
  | .not, .bool b => K (.bool !b)
  | _, _ => False

def fieldD (P : Program) (s : TypeId) (x : Value) (f : Nat) (K : Value → Prop) : Prop :=
  match P.underlying s with
  | some (.struct fs) => match fs[f]? with
    | some fd => match Nat.beq (P.cellsOf fd.type) 0 with
      | true => False
      | false => match x with
        | .pointer o => nn o fun a => K (.pointer (some (a.add fd.offset)))
        | _ => False
    | none => False
  | _ => False

def partD (P : Program) (t : TypeId) (cs : List Value) (off : Nat) (K : Value → Prop) : Prop :=
  match isAggT P t with
  | true => K (.agg ((cs.drop off).take (P.cellsOf t)).toArray)
  | false => match cs[off]? with | some v => K v | none => False

def fieldV (P : Program) (s : TypeId) (x : Value) (f : Nat) (K : Value → Prop) : Prop :=
  match P.underlying s with
  | some (.struct fs) => match fs[f]? with
    | some fd => match P.underlying fd.type, x with
      | some _, .agg cs => partD P fd.type cs.toList fd.offset K
      | _, _ => False
    | none => False
  | _ => False

def indexAD (P : Program) (t : TypeId) (x i : Value) (K : Value → Prop) : Prop :=
  match i with
  | .int _ i => match P.underlying t, x with
    | some (.slice e), .slice o len _ => match Nat.beq (P.cellsOf e) 0 with
      | false => idx o len i fun a => K (.pointer (some (a.add (i.toNat * P.cellsOf e))))
      | true => False
    | some (.array n e), .pointer o => match Nat.beq (P.cellsOf e) 0 with
      | false => nn o fun a => inB n i (K (.pointer (some (a.add (i.toNat * P.cellsOf e)))))
      | true => False
    | _, _ => False
  | _ => False

def indexVD (P : Program) (t : TypeId) (x i : Value) (K : Value → Prop) : Prop :=
  match i with
  | .int _ i => match P.underlying t, x with
    | some .string, .string s => sidx s i fun b => K (.int .u8 (b.toNat : Int))
    | some (.array n e), .agg cs => match isAggT P e, Nat.beq (P.cellsOf e) 1, P.underlying e with
      | false, true, some _ => inB n i (aidxSc (scOf P e) cs.toList i K)
      | _, _, _ => False
    | _, _ => False
  | _ => False

/-- a bound of a slice expression: the number, or what stands for it -/
def bnd (env : Env) (x : Option Operand) (dflt : Int) (K : Int → Prop) : Prop :=
  match x with
  | none => K dflt
  | some x => ev1 env x fun v => match v with | .int _ n => K n | _ => False

def sl3 : Option Operand → Option Operand → Bool
  | none, some _ => false
  | _, _ => true

def sliceD (P : Program) (env : Env) (t : TypeId) (x : Value) (lo hi mx : Option Operand) (K : Value → Prop) : Prop :=
  match P.underlying t, x with
  | some .string, .string s => match mx with
    | none => bnd env lo 0 fun l => bnd env hi s.size fun h => ssl s l h fun r => K (.string r)
    | some _ => False
  | some (.slice e), .slice o len cap => match Nat.beq (P.cellsOf e) 0, sl3 hi mx with
    | false, true => bnd env lo 0 fun l => bnd env hi len fun h => bnd env mx cap fun m => lsl (P.cellsOf e) o cap l h m fun o' n' c' => K (.slice o' n' c')
    | _, _ => False
  | some (.array n e), .pointer o => match Nat.beq (P.cellsOf e) 0, sl3 hi mx with
    | false, true => nn o fun a => bnd env lo 0 fun l => bnd env hi n fun h => bnd env mx n fun m => lsl (P.cellsOf e) (some a) n l h m fun o' n' c' => K (.slice o' n' c')
    | _, _ => False
  | _, _ => False

def convD (P : Program) (src dst : TypeId) (x : Value) (h : Heap) (K : Value → Prop) : Prop :=
  match P.underlying src, P.underlying dst, x with
  | some _, some (.int k), .int _ n => K (.int k (k.wrap n))
  | some _, some .string, .string s => K (.string s)
  | some (.int _), some .string, .int _ n => K (.string (Utf8.encode n))
  | some (.slice e), some .string, .slice o len _ => match P.underlying e with
    | some (.int .u8) => b2s o len h fun s => K (.string s)
    | _ => False
  | _, _, _ => False

def extractD (x : Value) (i : Nat) (K : Value → Prop) : Prop :=
  match x with
  | .tuple vs => match vs.toList[i]? with | some v => K v | none => False
  | _ => False

/-- is the value behind an interface of type t? -/
def isT (v : Value) (t : TypeId) (Y : Value → Prop) (N : Prop) : Prop :=
  match v with
  | .iface t' p => match Nat.beq t' t with | true => Y p | false => N
  | .nilIface => N
  | _ => False
/-- the same, of a type of pointers -/
def isP (v : Value) (t : TypeId) (Y : Option Addr → Prop) (N : Prop) : Prop :=
  match v with
  | .iface t' p => match Nat.beq t' t with
    | true => match p with | .pointer o => Y o | _ => False
    | false => N
  | .nilIface => N
  | _ => False
/-- the same, of a type of no cells -/
def isZ (v : Value) (t : TypeId) (Y N : Prop) : Prop :=
  match v with
  | .iface t' p => match Nat.beq t' t with | true => p = .agg #[] ∧ Y | false => N
  | .nilIface => N
  | _ => False
def asX (P : Program) (v : Value) (t : TypeId) (Y : Value → Prop) (N : Prop) : Prop :=
  match isAggT P t with
  | true => match cellSc P 8 t with
    | some [] => isZ v t (Y (.agg #[])) N
    | _ => isT v t Y N
  | false => match scOf P t with
    | .ptr => isP v t (fun o => Y (.pointer o)) N
    | _ => isT v t Y N

def assertD (P : Program) (x : Value) (asserted : TypeId) (ok : Bool) (K : Value → Prop) : Prop :=
  match P.underlying asserted with
  | some (.interface _) => False
  | some _ => match ok with
    | true => match P.info? asserted with
      | some i => match i.zero with
        | some z => asX P x asserted (fun p => K (.tuple #[p, .bool true])) (K (.tuple #[z, .bool false]))
        | none => False
      | none => False
    | false => asX P x asserted K False
  | none => False

/-- the cells of a struct or array, parts laid in -/
def setL : List Value → Nat → List Value → List Value
  | cs, _, [] => cs
  | cs, i, v :: r => setL (cs.set i v) (i + 1) r
/-- a value of one cell -/
def one1 (v : Value) (K : Prop) : Prop := v.cells = #[v] ∧ K
def rawT (P : Program) (t : TypeId) : Bool := match isAggT P t with
  | true => false
  | false => match scOf P t with | .raw => true | _ => false
def fillD (place : Nat → Option (Nat × Nat)) (raw : Nat → Bool) : List (Nat × Value) → List Value → (List Value → Prop) → Prop
  | [], cs, K => K cs
  | (i, v) :: r, cs, K => match place i with
    | none => False
    | some (off, size) => match raw i with
      | true => match Nat.beq 1 size, Nat.ble (off + 1) cs.length with
        | true, true => one1 v (fillD place raw r (setL cs off [v]) K)
        | _, _ => False
      | false => match Nat.beq v.cells.toList.length size, Nat.ble (off + v.cells.toList.length) cs.length with
        | true, true => fillD place raw r (setL cs off v.cells.toList) K
        | _, _ => False
def evParts (env : Env) : List (Nat × Operand) → (List (Nat × Value) → Prop) → Prop
  | [], K => K []
  | (i, x) :: r, K => ev1 env x fun v => evParts env r fun vs => K ((i, v) :: vs)
def placesF (P : Program) (fs : List Field) (i : Nat) : Option (Nat × Nat) := match fs[i]? with
  | some f => some (f.offset, P.cellsOf f.type)
  | none => none

def rawF (P : Program) (fs : List Field) (i : Nat) : Bool := match fs[i]? with
  | some f => rawT P f.type
  | none => false

def infoAll (P : Program) : List Field → Bool
  | [] => true
  | f :: r => match P.info? f.type with | some _ => infoAll P r | none => false

def buildD (P : Program) (t : TypeId) (parts : List (Nat × Value)) (K : Value → Prop) : Prop :=
  match zeroL P t, P.underlying t with
  | some zs, some (.struct fs) => match infoAll P fs.toList with
    | true => fillD (placesF P fs.toList) (rawF P fs.toList) parts zs fun cs => K (.agg cs.toArray)
    | false => False
  | some zs, some (.array _ e) => match Nat.beq (P.cellsOf e) 0 with
    | false => fillD (fun i => some (i * P.cellsOf e, P.cellsOf e)) (fun _ => rawT P e) parts zs fun cs => K (.agg cs.toArray)
    | true => False
  | _, _ => False

def lenD (P : Program) (t : TypeId) (x : Value) (K : Value → Prop) : Prop :=
  match P.underlying t, x with
  | some .string, .string s => K (.int .i64 (s.size : Int))
  | some (.array n _), _ => K (.int .i64 (n : Int))
  | some (.slice _), .slice _ n _ => K (.int .i64 (n : Int))
  | _, _ => False
def capD (P : Program) (t : TypeId) (x : Value) (K : Value → Prop) : Prop :=
  match P.underlying t, x with
  | some (.array n _), _ => K (.int .i64 (n : Int))
  | some (.slice _), .slice _ _ n => K (.int .i64 (n : Int))
  | _, _ => False
def minD (x : Value) : List Value → (Value → Prop) → Prop
  | [], K => K x
  | y :: r, K => match x, y with
    | .int k a, .int k' b => match kEq k k' with | true => minD (.int k (minI a b)) r K | false => False
    | _, _ => False
def maxD (x : Value) : List Value → (Value → Prop) → Prop
  | [], K => K x
  | y :: r, K => match x, y with
    | .int k a, .int k' b => match kEq k k' with | true => maxD (.int k (maxI a b)) r K | false => False
    | _, _ => False

def builtinQ (P : Program) (b : Builtin) (ts : Array TypeId) (args : List Value) (K : Value → Prop) : Prop :=
  match b, ts.toList, args with
  | .len, t :: _, x :: _ => lenD P t x K
  | .cap, t :: _, x :: _ => capD P t x K
  | .min, _, x :: r => minD x r K
  | .max, _, x :: r => maxD x r K
  | _, _, _ => False

/-- is it an operation that leaves the heap alone? -/
def isQuiet (P : Program) : Op → Bool
  | .move _ | .assign _ | .pick .. | .nilCheck _ | .binOp .. | .unOp .. | .fieldAddr .. | .field .. | .indexAddr .. | .index .. | .slice .. | .load .. | .extract .. | .makeInterface .. | .makeFunc .. | .typeAssert .. | .build .. => true
  | .convert s d _ => match P.underlying s, P.underlying d with
    | _, some (.slice _) => false
    | some .unsafePointer, _ => false
    | _, some .unsafePointer => false
    | _, _ => true
  | .call c => match c.callee with
    | .builtin .len | .builtin .cap | .builtin .min | .builtin .max => true
    | _ => false
  | _ => false

/-- does it not even look at the heap? -/
def isPure (P : Program) : Op → Bool
  | .load .. => false
  | .convert s d _ => match P.underlying s, P.underlying d with
    | some .unsafePointer, _ => false
    | _, some (.int _) => true
    | _, _ => false
  | op => isQuiet P op

def qx (P : Program) (op : Op) (env : Env) (h : Heap) (K : Value → Prop) : Prop :=
  match op with
  | .move x | .assign x => ev1 env x K
  | .pick c a b => ev1 env c fun c => ev1 env a fun a => ev1 env b fun b => pickD c a b K
  | .nilCheck x => ev1 env x fun v => nilD v K
  | .binOp op t x y _ => ev1 env x fun a => ev1 env y fun b => match ptrCmp P t y with
    | true => sameD op a b K
    | false => match nilCmp P t y with
      | true => nilX op a K
      | false => binD P op (constOk y) t a b K
  | .unOp op _ x => ev1 env x fun v => unD op v K
  | .convert src dst x => ev1 env x fun v => convD P src dst v h K
  | .makeInterface t x => match P.underlying t with
    | some (.interface _) => False
    | some _ => ev1 env x fun v => K (.iface t v)
    | none => False
  | .makeFunc fn first captured => evs env first.toList fun a => evs env captured.toList fun b => K (.func fn a.toArray b.toArray)
  | .fieldAddr s x f => ev1 env x fun v => fieldD P s v f K
  | .field s x f => ev1 env x fun v => fieldV P s v f K
  | .indexAddr t x i => ev1 env x fun x => ev1 env i fun i => indexAD P t x i K
  | .index t x i => ev1 env x fun x => ev1 env i fun i => indexVD P t x i K
  | .slice t x lo hi mx => ev1 env x fun v => sliceD P env t v lo hi mx K
  | .load t a => match P.underlying t with
    | some _ => ev1 env a fun v => match v with
      | .pointer o => nn o fun a => ldT P t a h K
      | _ => False
    | none => False
  | .extract x i => ev1 env x fun v => extractD v i K
  | .typeAssert x _ asserted ok => ev1 env x fun v => assertD P v asserted ok K
  | .build t parts => evParts env parts.toList fun ps => buildD P t ps K
  | .call c => match c.callee with
    | .builtin b => evs env c.args.toList fun vs => builtinQ P b c.argTypes vs K
    | _ => False
  | _ => False

/-! ### operations that write, make memory or call -/
/-- the cells of a struct or an array -/
def agD (v : Value) (K : List Value → Prop) : Prop := match v with | .agg cs => K cs.toList | _ => False
def stT (P : Program) (t : TypeId) (a : Addr) (v : Value) (h : Heap) (K : Heap → Prop) : Prop :=
  match isAggT P t with
  | true => match cellSc P 8 t with
    | some _ => match v with
      | .agg cs => match Nat.beq cs.toList.length (P.cellsOf t) with
        | true => stN cs.toList 0 a h K
        | false => False
      | _ => False
    | none => agD v fun cs => cs.length = P.cellsOf t ∧ stRow cs a h K
  | false => match Nat.beq (P.cellsOf t) 1 with
    | true => stC a v h K
    | false => False

def boxV (v : Value) (t : TypeId) (h : Heap) (K : Addr → Heap → Prop) : Prop := v.cells = #[v] ∧ newB [v] t h K
def boxD (P : Program) (t : TypeId) (v : Value) (h : Heap) (K : Value → Heap → Prop) : Prop :=
  match rawT P t with
  | true => boxV v t h fun a h' => K (.pointer (some a)) h'
  | false => newB v.cells.toList t h fun a h' => K (.pointer (some a)) h'

def buildSlD (P : Program) (t : TypeId) (n : Nat) (parts : List (Nat × Value)) (h : Heap) (K : Value → Heap → Prop) : Prop :=
  match P.underlying t with
  | some (.slice e) => match zeroL P e, Nat.ble (n * P.cellsOf e) 16777216, Nat.beq (P.cellsOf e) 0 with
    | some zs, true, false => match Nat.beq zs.length (P.cellsOf e) with
      | true => fillD (fun i => some (i * P.cellsOf e, P.cellsOf e)) (fun _ => rawT P e) parts (zerosL zs n) fun cs => newB cs e h fun a h' => K (.slice (some a) n n) h'
      | false => False
    | _, _, _ => False
  | _ => False

def makeSlD (P : Program) (t : TypeId) (l c : Value) (h : Heap) (K : Value → Heap → Prop) : Prop :=
  match P.underlying t, l, c with
  | some (.slice e), .int _ l, .int _ c => match zeroL P e, Nat.beq (P.cellsOf e) 0 with
    | some zs, false => match Nat.beq zs.length (P.cellsOf e) with
      | true => mkSl zs e (P.bytesOf e) l c h fun a h' => K (.slice (some a) l.toNat c.toNat) h'
      | false => False
    | _, _ => False
  | _, _, _ => False

def appendD (P : Program) (t : TypeId) (s x : Value) (h : Heap) (K : Value → Heap → Prop) : Prop :=
  match P.underlying t, s with
  | some (.slice e), .slice o l c => match zeroL P e, Nat.beq (P.bytesOf e) 0 with
    | some zs, false => match Nat.beq zs.length (P.cellsOf e) with
      | true => match x with
        | .slice o' m _ => rdCells o' (m * P.cellsOf e) h fun new => app zs e (P.cellsOf e) (P.bytesOf e) o l c new m h fun o'' c' h' => K (.slice o'' (l + m) c') h'
        | .string b => app zs e (P.cellsOf e) (P.bytesOf e) o l c (bytesV b) b.size h fun o'' c' h' => K (.slice o'' (l + b.size) c') h'
        | _ => False
      | false => False
    | _, _ => False
  | _, _ => False

def appendZ (P : Program) (t : TypeId) (s x : Value) (h : Heap) (K : Value → Heap → Prop) : Prop :=
  match P.underlying t, s, x with
  | some (.slice e), .slice o l c, .int _ n => match zeroL P e, Nat.beq (P.bytesOf e) 0 with
    | some zs, false => match Nat.beq zs.length (P.cellsOf e) with
      | true => appZ zs e (P.cellsOf e) (P.bytesOf e) o l c n h fun o' c' h' => K (.slice o' (l + n.toNat) c') h'
      | false => False
    | _, _ => False
  | _, _, _ => False

def wrRow (new : List Value) (o : Option Addr) (h : Heap) (K : Heap → Prop) : Prop :=
  match o with
  | some a => stRow new a h K
  | none => K h

def copyD (P : Program) (t : TypeId) (s x : Value) (h : Heap) (K : Value → Heap → Prop) : Prop :=
  match P.underlying t, s with
  | some (.slice e), .slice o l _ => match Nat.beq (P.cellsOf e) 0, x with
    | false, .slice o' m _ => rdCells o' (Nat.min m l * P.cellsOf e) h fun new => wrRow new o h fun h' => K (.int .i64 ((Nat.min m l : Nat) : Int)) h'
    | false, .string b => wrRow ((bytesV b).take (Nat.min b.size l)) o h fun h' => K (.int .i64 ((Nat.min b.size l : Nat) : Int)) h'
    | _, _ => False
  | _, _ => False

/-- clear(s) -/
def clrX (zs : List Value) (o : Option Addr) (l : Nat) (h : Heap) (K : Heap → Prop) : Prop :=
  match o with
  | some a => match l with | 0 => K h | l + 1 => stRow (zerosL zs (l + 1)) a h K
  | none => K h
def shsOf (P : Program) (f : FuncId) : List Sh := match P.funcs[f]? with
  | some fn => fn.resultTypes.toList.map (shOf P)
  | none => []

/-- a place inside memory that is there -/
def seenB (a : Addr) (h : Heap) (K : Prop) : Prop := (∃ cs e f, h[a.block]? = some (.cells cs e f) ∧ a.off < cs.size) ∧ K
/-- n variables of a type lie at a place -/
def liesB (P : Program) (u : TypeId) (n : Nat) (a : Addr) (h : Heap) (K : Prop) : Prop := (∃ cs e f, h[a.block]? = some (.cells cs e f) ∧ liesAt P P.depth e (cs.size / P.cellsOf e) a.off u n = true) ∧ K
/-- the cells that a string shares are not written to any more -/
def frzR (h : Heap) (a : Addr) (n : Nat) : Heap :=
  h.modify a.block fun
    | .cells c elem (lo, hi) => .cells c elem (if lo == hi then (a.off, a.off + n) else (min lo a.off, max hi (a.off + n)))
    | o => o
/-- unsafe.SliceData -/
def sdata (o : Option Addr) (c : Nat) (K : Option Addr → Prop) : Prop := match o with | none => K none | some a => c ≠ 0 ∧ K (some a)
/-- unsafe.String -/
def ustr (u : TypeId) (o : Option Addr) (n : Int) (h : Heap) (K : ByteArray → Heap → Prop) : Prop :=
  (n = 0 ∧ K ByteArray.empty h) ∨ ∃ (g : Nat) (bs : List UInt8), o = some ⟨g, 0, none⟩ ∧ bs ≠ [] ∧ n = (bs.length : Int) ∧ bs.length ≤ 9223372036854775807 ∧ (∃ cs f, h[g]? = some (.cells cs u f) ∧ bs.length ≤ cs.size) ∧
    (∀ i v, bs[i]? = some v → cellH h ((⟨g, 0, none⟩ : Addr).add i) = some (.int .u8 (v.toNat : Int))) ∧ K ⟨bs.toArray⟩ (frzR h ⟨g, 0, none⟩ bs.length)
/-- where a byte stands in a text -/
def ixB (s : ByteArray) (c : Int) : Int := match (List.range s.size).find? fun i => s[i]! == c.toNat.toUInt8 with | some i => (i : Int) | none => -1
/-- where a text stands in another: variable g holds how long it may be -/
def ixT (s b : ByteArray) : Int := match (List.range (s.size + 1 - b.size)).find? fun i => s.extract i (i + b.size) == b with | some i => (i : Int) | none => -1
def ixS (g : Nat) (s b : ByteArray) (h : Heap) (K : Int → Prop) : Prop := (∃ m, cellH h ⟨g, 0, none⟩ = some (.int .i64 m) ∧ (b.size : Int) ≤ m) ∧ 2 ≤ b.size ∧ s.size < 4294967281 ∧ K (ixT s b)
/-- going through a text's characters -/
def rngS (s : ByteArray) (h : Heap) (K : Addr → Heap → Prop) : Prop := K ⟨h.size, 0, none⟩ (h.push (.stringIter s 0))
def nxtS (a : Addr) (h : Heap) (Y : Int → Int → Heap → Prop) (N : Prop) : Prop :=
  ∃ s pos, a.off = 0 ∧ h[a.block]? = some (.stringIter s pos) ∧ (pos < s.size → Y (pos : Int) ((Utf8.decode s pos).1 : Int) (h.setIfInBounds a.block (.stringIter s (pos + (Utf8.decode s pos).2)))) ∧ (¬ pos < s.size → N)
/-- memory that holds whatever it holds -/
def mkNZ (n : Int) (e : TypeId) (h : Heap) (K : Addr → Nat → Heap → Prop) : Prop :=
  0 ≤ n ∧ n ≤ 281474976710656 ∧ ∀ cs : List Value, n ≤ cs.length → cs.length ≤ 9223372036854775807 → K ⟨h.size, 0, none⟩ cs.length (h.push (.cells cs.toArray e))
/-- which of the functions without a body it is -/
def extK (P : Program) (f : FuncId) : Nat :=
  match P.funcs[f]? with
  | some fn => match fn.body with
    | none => match fn.origin == "" && !(fn.name == "runtime.NumGoroutine") with
      | true => match fn.name == "internal/abi.NoEscape", fn.name == "internal/bytealg.IndexByteString", fn.name == "internal/bytealg.MakeNoZero", fn.name == "internal/bytealg.IndexString" with
        | true, _, _, _ => 1
        | _, true, _, _ => 2
        | _, _, true, _ => 3
        | _, _, _, true => 4
        | _, _, _, _ => 0
      | false => 0
    | some _ => 0
  | none => 0
def extD (P : Program) (f : FuncId) (args : List Value) (h : Heap) (K : Value → Heap → Prop) : Prop :=
  match extK P f, args with
  | 1, [x] => K x h
  | 2, [.string s, .int .u8 c] => K (.int .i64 (ixB s c)) h
  | 3, [.int .i64 n] => match P.funcs[f]? with
    | some fn => match fn.resultTypes.toList with
      | [t] => match P.underlying t with
        | some (.slice e) => mkNZ n e h fun a c h' => K (.slice (some a) n.toNat c) h'
        | _ => False
      | _ => False
    | none => False
  | 4, [.string s, .string b] => match P.globals.findIdx? (fun g => g.name == "internal/bytealg.MaxLen") with
    | some g => ixS g s b h fun n => K (.int .i64 n) h
    | none => False
  | _, _ => False

/-- slices.overlaps: of nothing, or of two blocks -/
def ovlX (o : Option Addr) (l : Nat) (o' : Option Addr) (l' : Nat) (h : Heap) (K : Bool → Prop) : Prop :=
  ((o = none ∨ o' = none ∨ l = 0 ∨ l' = 0) ∨ ∃ a b cs t f cs' t' f', o = some a ∧ o' = some b ∧ a.block ≠ b.block ∧ h[a.block]? = some (.cells cs t f) ∧ frozH h a = false ∧ frozH h ⟨a.block, cs.size, none⟩ = false ∧ h[b.block]? = some (.cells cs' t' f') ∧ cs'.size ≠ 0) ∧ K false
def ovlK (P : Program) (f : FuncId) : Bool :=
  match P.funcs[f]? with
  | some fn => match fn.body with
    | none => fn.origin == "slices.overlaps" && (fn.name == "slices.overlaps[string]" || fn.name == "slices.overlaps[stowage/btree.node]")
    | some _ => false
  | none => false
def ovlD (P : Program) (f : FuncId) (args : List Value) (h : Heap) (K : Value → Heap → Prop) : Prop :=
  match args, P.funcs[f]? with
  | [.slice o l _, .slice o' l' _], some fn => match fn.params.toList with
    | [t, _] => match P.underlying t with
      | some (.slice e) => match Nat.beq (P.cellsOf e) 0 with
        | false => ovlX o l o' l' h fun b => K (.bool b) h
        | true => False
      | _ => False
    | _ => False
  | _, _ => False

def callD (P : Program) (F : List Nat) (f : FuncId) (args : List Value) (h : Heap) (K : Value → Heap → Prop) : Prop :=
  match memN f F with
  | true => CallT P f args h (shsOf P f) fun s h' => K (retOf (mkT (shsOf P f) s)) h'
  | false => match ovlK P f with
    | true => ovlD P f args h K
    | false => extD P f args h K

/-- the function that is a type's method; its receiver is the value itself -/
def mrow (P : Program) (t : TypeId) (name : String) : Option FuncId :=
  match P.info? t, P.underlying t with
  | some i, some d => match i.methods.toList.find? (fun m => m.name == name) with
    | some m => match m.path.toList, m.func, d with
      | [], some (f, true), .pointer _ => some f
      | [], some (_, true), _ => none
      | [], some (_, false), .pointer _ => none
      | [], some (f, false), _ => some f
      | _, _, _ => none
    | none => none
  | _, _ => none
/-- the types that have such a method -/
def cands (P : Program) (F : List Nat) (name : String) : Nat → List (TypeId × FuncId) → List (TypeId × FuncId)
  | 0, acc => acc
  | t + 1, acc => match mrow P t name with
    | some f => match memN f F with
      | true => cands P F name t ((t, f) :: acc)
      | false => cands P F name t acc
    | none => cands P F name t acc
/-- a method is called through an interface's value -/
def invC (P : Program) (F : List Nat) (vs : List Value) (v : Value) (h : Heap) (K : Value → Heap → Prop) : List (TypeId × FuncId) → Prop
  | [] => False
  | (t, f) :: r => asX P v t (fun p => callD P F f (p :: vs) h K) (invC P F vs v h K r)

/-- the shape of a single result -/
def oneSh (P : Program) (ty : TypeId) : Option Sh := match P.underlying ty with
  | none => none
  | some (.tuple _) => none
  | some _ => some (shOf P ty)
def bodyB (P : Program) (f : FuncId) : Bool := match P.funcs[f]? with
  | some fn => match fn.body with | some _ => !(fn.name == "runtime.NumGoroutine") | none => false
  | none => false
/-- a call of a function value -/
def callV (P : Program) (l : Sh) (v : Value) (vs : List Value) (h : Heap) (K : l.T → Heap → Prop) : Prop :=
  ∃ f first captured, v = .func (.func f) first captured ∧ bodyB P f = true ∧ shsOf P f = [l] ∧ CallT P f (first.toList ++ vs ++ captured.toList) h [l] K
/-- the same, of one that tells a bool; it may be a loop's yield -/
def callY (P : Program) (v : Value) (vs : List Value) (h : Heap) (K : Bool → Heap → Prop) : Prop :=
  callV P (.sc .bool) v vs h K ∨ ∃ y, v = .func (.yield y) #[] #[] ∧ YldT P y vs h K
def isTmp : Operand → Bool | .tmp _ => true | _ => false

def lx (P : Program) (F : List Nat) (ty : TypeId) (op : Op) (env : Env) (h : Heap) (K : Value → Heap → Prop) : Prop :=
  match op with
  | .store t a x => ev1 env a fun a => ev1 env x fun v => match a with
    | .pointer o => nn o fun a => stT P t a v h fun h' => K undef h'
    | _ => False
  | .alloc t => match zeroL P t with
    | some zs => newB zs t h fun a h' => K (.pointer (some a)) h'
    | none => False
  | .box t x => ev1 env x fun v => boxD P t v h K
  | .buildSlice t n parts => evParts env parts.toList fun ps => buildSlD P t n ps h K
  | .makeSlice t l c => ev1 env l fun l => ev1 env c fun c => makeSlD P t l c h K
  | .convert src dst x => ev1 env x fun v => match P.underlying src, P.underlying dst, v with
    | some _, some (.slice e), .string s => match P.underlying e with
      | some (.int .u8) => s2b s e h fun a c h' => K (.slice (some a) s.size c) h'
      | _ => False
    | some (.slice _), some (.slice e), .slice (some a) l c => match Nat.beq src dst, P.underlying e with
      | true, some (.int .u8) => markS a h fun h' => K (.slice (some a) l c) h'
      | _, _ => False
    | some (.pointer t), some .unsafePointer, .pointer o => match Nat.beq (P.cellsOf t) 0 with
      | false => nn o fun a => seenB a h (K (.pointer (some a)) h)
      | true => False
    | some .unsafePointer, some (.pointer t), .pointer o => match Nat.beq (P.cellsOf t) 0 with
      | false => nn o fun a => liesB P t 1 a h (K (.pointer (some a)) h)
      | true => False
    | _, _, _ => False
  | .call c => match c.callee with
    | .builtin .append => evs env c.args.toList fun vs => match c.argTypes.toList, vs with
      | [t, u], [s, x] => match P.underlying u with
        | some (.int _) => appendZ P t s x h K
        | some _ => appendD P t s x h K
        | none => False
      | _, _ => False
    | .builtin .clear => evs env c.args.toList fun vs => match c.argTypes.toList, vs with
      | [t], [.slice o l _] => match P.underlying t with
        | some (.slice e) => match zeroL P e, Nat.beq (P.cellsOf e) 0 with
          | some zs, false => match Nat.beq zs.length (P.cellsOf e) with
            | true => clrX zs o l h fun h' => K (.tuple #[]) h'
            | false => False
          | _, _ => False
        | _ => False
      | _, _ => False
    | .builtin .copy => evs env c.args.toList fun vs => match c.argTypes.toList, vs with
      | t :: _, s :: x :: _ => copyD P t s x h K
      | _, _ => False
    | .builtin .unsafeSliceData => evs env c.args.toList fun vs => match vs with
      | [.slice o _ k] => sdata o k fun o' => K (.pointer o') h
      | _ => False
    | .builtin .unsafeString => evs env c.args.toList fun vs => match c.argTypes.toList, vs with
      | [pt, _], [.pointer o, .int .i64 n] => match P.underlying pt with
        | some (.pointer u) => match Nat.beq (P.cellsOf u) 1 with
          | true => ustr u o n h fun s h' => K (.string s) h'
          | false => False
        | _ => False
      | _, _ => False
    | .value f => ev1 env f fun v => evs env c.args.toList fun vs => match isTmp f, oneSh P ty with
      | true, some (.sc .bool) => callY P v vs h fun b h' => K (.bool b) h'
      | true, some l => callV P l v vs h fun s h' => K (l.mk s) h'
      | _, _ => match v with
        | .func (.func f) first captured => callD P F f (first.toList ++ vs ++ captured.toList) h K
        | _ => False
    | .invoke x name => ev1 env x fun v => evs env c.args.toList fun vs => invC P F vs v h K (cands P F name P.types.size [])
    | _ => False
  | .range t x => ev1 env x fun v => match P.underlying t, v with
    | some .string, .string s => rngS s h fun a h' => K (.pointer (some a)) h'
    | _, _ => False
  | .next x b => ev1 env x fun v => match b, v with
    | true, .pointer (some a) => nxtS a h (fun i c h' => K (.tuple #[.bool true, .int .i64 i, .int .i32 c]) h') (K (.tuple #[.bool false]) h)
    | _, _ => False
  | _ => False

/-! ### regions and code -/
/-- number of slots n; one operation of a region; the guard is decided first -/
def putK (n : Nat) (dst : Option Tmp) (v : Value) (env : Env) (K : Env → Prop) : Prop :=
  match dst with
  | some d => match Nat.blt d n with | true => K ((d, v) :: env) | false => False
  | none => K env

def opX (P : Program) (F : List Nat) (n : Nat) (o : Oper) (env : Env) (h : Heap) (K : Env → Heap → Prop) : Prop :=
  match isQuiet P o.op with
  | true => qx P o.op env h fun v => putK n o.dst v env fun env' => K env' h
  | false => lx P F o.type o.op env h fun v h' => putK n o.dst v env fun env' => K env' h'

/-- is operation o wanted? its guard's slot is then known by its value -/
def guardX (ops : List Oper) (o : Oper) (env : Env) (yes no : Env → Prop) : Prop :=
  match o.guard with
  | none => yes env
  | some (j, want) => match ops[j]? with
    | some g => match g.dst with
      | some d => match look d env with
        | some (.tuple _) => no env
        | some (.bool b) => match want with
          | true => cnd b (yes ((d, .bool true) :: env)) (no ((d, .bool false) :: env))
          | false => cnd b (no ((d, .bool true) :: env)) (yes ((d, .bool false) :: env))
        | _ => False
      | none => False
    | none => False

def regX (P : Program) (F : List Nat) (n : Nat) (all : List Oper) : List Oper → Env → Heap → (Env → Heap → Prop) → Prop
  | [], env, h, K => K env h
  | o :: r, env, h, K => guardX all o env (fun env => opX P F n o env h fun env' h' => regX P F n all r env' h' K)
      (fun env => putK n o.dst undef env fun env' => regX P F n all r env' h K)

/-! regions that draw their order: the quiet operations as early as they may come; what they read must stay as it is until nothing may come ahead of them any more -/
def isEarly (P : Program) : Op → Bool
  | .assign _ => false
  | op => isQuiet P op

/-- operation i writes a slot of its own: it does not look at it, and no listed operation does -/
def freshB (ops : Array Oper) (listed : Array Bool) (i : Nat) : Bool :=
  match ops[i]? with
  | none => false
  | some o => match o.dst with
    | none => false
    | some d => !(o.looksAt ops).contains d && (List.range ops.size).all fun p => !listed.getD p false || match ops[p]? with
        | some q => !(q.looksAt ops).contains d && q.dst != some d
        | none => true

def findQ (P : Program) (ops : Array Oper) : List Nat → Option Nat
  | [] => none
  | i :: r => match ops[i]? with
    | some o => match isEarly P o.op with | true => some i | false => findQ P ops r
    | none => findQ P ops r

/-- an order in which a region's operations may come; where two may come that act, both orders -/
inductive Ord where
  | nil
  | one (i : Nat) (r : Ord)
  | two (i : Nat) (r : Ord) (j : Nat) (s : Ord)

def canonD (P : Program) (ops : Array Oper) : Nat → Array Bool → Option Ord
  | 0, listed => match Region.ready .any ops listed with | [] => some .nil | _ => none
  | n + 1, listed => match findQ P ops (Region.ready .any ops listed) with
    | some i => match Region.free .any ops listed i, freshB ops listed i with
      | true, true => match canonD P ops n (listed.setIfInBounds i true) with | some r => some (.one i r) | none => none
      | _, _ => none
    | none => match Region.ready .any ops listed with
      | [i] => match canonD P ops n (listed.setIfInBounds i true) with | some r => some (.one i r) | none => none
      | [i, j] => match canonD P ops n (listed.setIfInBounds i true), canonD P ops n (listed.setIfInBounds j true) with | some r, some s => some (.two i r j s) | _, _ => none
      | _ => none

def bitsOf (acc : List Nat) : List Edge → Nat → Nat
  | [], s => s
  | e :: r, s => match Region.binds .any e with | true => bitsOf acc r (s ||| 2 ^ e.on ||| acc.getD e.on 0) | false => bitsOf acc r s
def closL : List Oper → List Nat → List Nat
  | [], acc => acc
  | o :: r, acc => closL r (acc ++ [bitsOf acc o.after.toList 0])

def keepL (b : Nat) : List Nat → List Nat
  | [] => []
  | j :: r => match b.testBit j with | true => keepL b r | false => j :: keepL b r

def stabX (P : Program) (all : List Oper) (env : Env) (h : Heap) : List Nat → Prop → Prop
  | [], K => K
  | j :: r, K => match all[j]? with
    | some o => match isPure P o.op with
      | true => stabX P all env h r K
      | false => match o.dst with
        | some d => ev1 env (.tmp d) fun v => qx P o.op env h (fun v' => v' = v) ∧ stabX P all env h r K
        | none => False
    | none => False

/-- an operation that acts: whatever is left behind it -/
def loudX (P : Program) (F : List Nat) (n : Nat) (all : List Oper) (cl : List Nat) (i : Nat) (pend : List Nat) (env : Env) (h : Heap) (K : List Nat → Env → Heap → Prop) : Prop :=
  match all[i]? with
  | none => False
  | some o => guardX all o env (fun env => opX P F n o env h fun env' h' => match isQuiet P o.op with
        | true => K (keepL (cl.getD i 0) pend) env' h'
        | false => stabX P all env' h' (keepL (cl.getD i 0) pend) (K (keepL (cl.getD i 0) pend) env' h'))
      (fun env => putK n o.dst undef env fun env' => K (keepL (cl.getD i 0) pend) env' h)

def drawX (P : Program) (F : List Nat) (n : Nat) (all : List Oper) (cl : List Nat) : Ord → List Nat → Env → Heap → (Env → Heap → Prop) → Prop
  | .nil, _, env, h, K => K env h
  | .one i r, pend, env, h, K => match all[i]? with
    | none => False
    | some o => match isEarly P o.op with
      | true => guardX all o env (fun env => opX P F n o env h fun env' h' => drawX P F n all cl r (i :: pend) env' h' K)
          (fun env => putK n o.dst undef env fun env' => drawX P F n all cl r pend env' h K)
      | false => loudX P F n all cl i pend env h fun pend' env' h' => drawX P F n all cl r pend' env' h' K
  | .two i r j s, pend, env, h, K => (loudX P F n all cl i pend env h fun pend' env' h' => drawX P F n all cl r pend' env' h' K) ∧
      (loudX P F n all cl j pend env h fun pend' env' h' => drawX P F n all cl s pend' env' h' K)

def noDefer : List Oper → Bool
  | [] => true
  | o :: r => match o.op with | .defer _ => false | _ => noDefer r

def regionX (P : Program) (F : List Nat) (n : Nat) (ops : Array Oper) (draw : Bool) (env : Env) (h : Heap) (K : Env → Heap → Prop) : Prop :=
  match draw with
  | false => regX P F n ops.toList ops.toList env h K
  | true => match Region.noSelect ops && noDefer ops.toList, canonD P ops ops.size (Array.replicate ops.size false) with
    | true, some order => drawX P F n ops.toList (closL ops.toList []) order [] env h K
    | _, _ => False

inductive Ex where
  | nrm | exit (i : Nat) | goto (l : Nat) | ret

def nrmK (K : Env → Heap → Prop) (Q : Ex → Env → Heap → Prop) : Ex → Env → Heap → Prop
  | .nrm => K
  | .exit i => Q (.exit i)
  | .goto l => Q (.goto l)
  | .ret => Q .ret
def blkK (i : Nat) (Q : Ex → Env → Heap → Prop) : Ex → Env → Heap → Prop
  | .nrm => Q .nrm
  | .exit j => match Nat.beq j i with | true => Q .nrm | false => Q (.exit j)
  | .goto l => Q (.goto l)
  | .ret => Q .ret
/-- a scope: a jump to its label goes on at J, and to no other -/
def scpK (l : Nat) (J : Env → Heap → Prop) (Q : Ex → Env → Heap → Prop) : Ex → Env → Heap → Prop
  | .nrm => Q .nrm
  | .exit j => Q (.exit j)
  | .goto l' => match Nat.beq l' l with | true => J | false => fun _ _ => False
  | .ret => Q .ret
def noG (Q : Ex → Env → Heap → Prop) : Ex → Env → Heap → Prop
  | .nrm => Q .nrm
  | .exit j => Q (.exit j)
  | .goto _ => fun _ _ => False
  | .ret => Q .ret
/-- does the label stand on its spine? -/
def hasL (l : Nat) : Code → Bool
  | .seq a b => match hasL l a with | true => true | false => hasL l b
  | .label l' => Nat.beq l' l
  | _ => false

def written : Code → List Nat
  | .region _ ops _ => ops.toList.filterMap (·.dst)
  | .seq a b => written a ++ written b
  | .cond _ a b => written a ++ written b
  | .block _ a => written a
  | .loop a => written a
  | .scope a => written a
  | _ => []

/-- notes for the text's form: where ways meet again, what a loop carries -/
inductive Ann where
  | n
  | s (a b : Ann)
  | j (l : List (Nat × Sc)) (a b : Ann)
  | b (a : Ann)
  | l (l : List (Nat × Sc)) (a : Ann)
  | g (t : Nat) (l : List (Nat × Sc)) (a b : Ann)
  | r (l : List Sc) (a b : Ann)

def Ann.fst : Ann → Ann | .s x _ => x | _ => .n
def Ann.snd : Ann → Ann | .s _ y => y | _ => .n
def Ann.sub : Ann → Ann | .b x => x | _ => .n

def zipE : List Nat → List Value → Env → Env
  | d :: ds, v :: vs, env => (d, v) :: zipE ds vs env
  | _, _, env => env
def lookL (env : Env) : List Nat → Option (List Value)
  | [] => some []
  | d :: r => match look d env with
    | some v => match lookL env r with | some vs => some (v :: vs) | none => none
    | none => none
def getE (l : List (Nat × Sc)) (env : Env) (K : TupS (l.map (·.2)) → Prop) : Prop :=
  match lookL env (l.map (·.1)) with
  | some vs => match getS (l.map (·.2)) vs with
    | some s => K s
    | none => False
  | none => False
def mkE (l : List (Nat × Sc)) (s : TupS (l.map (·.2))) (env : Env) : Env := zipE (l.map (·.1)) (mkS _ s) env

/-! ### a range over a function -/
/-- what a round leaves undone -/
def jumpC : Ex → Option Code
  | .nrm => none
  | .exit i => some (.exit i)
  | .goto l => some (.goto l)
  | .ret => some .ret
def nrmB : Ex → Bool | .nrm => true | _ => false
/-- the loop's record in a state -/
def recO (r : Loop) (st : LoopState) (j : Option Code) : Obj := .loop { r with state := st, pending := j }
/-- no range over a function within -/
def noRange : Code → Bool
  | .seq a b => noRange a && noRange b
  | .cond _ a b => noRange a && noRange b
  | .block _ a => noRange a
  | .loop a => noRange a
  | .scope a => noRange a
  | .rangeFunc _ _ _ _ => false
  | _ => true
/-- the exits that a body leaves by -/
def dropN (i : Nat) : List Nat → List Nat
  | [] => []
  | j :: r => match Nat.beq j i with | true => dropN i r | false => j :: dropN i r
def freeX : Code → List Nat
  | .seq a b => freeX a ++ freeX b
  | .cond _ a b => freeX a ++ freeX b
  | .block i a => dropN i (freeX a)
  | .loop a => freeX a
  | .scope a => freeX a
  | .exit i => [i]
  | _ => []
def hasRet : Code → Bool
  | .seq a b => match hasRet a with | true => true | false => hasRet b
  | .cond _ a b => match hasRet a with | true => true | false => hasRet b
  | .block _ a => hasRet a
  | .loop a => hasRet a
  | .scope a => hasRet a
  | .ret => true
  | _ => false
/-- a round's slots are there, each once -/
def okPs (n : Nat) : List Nat → Bool
  | [] => true
  | d :: r => Nat.blt d n && (!(memN d r) && okPs n r)
/-- the statement: 'rnd' is a round, in two parts; Q what comes behind -/
def rngX (P : Program) (v : Value) (l : List Sc) (rnd : TupS l → (Heap → (Heap → Prop) → Prop) → (Ex → Heap → Prop) → Heap → Prop) (Qn Qr : Heap → Prop) (Qx : List (Nat × (Heap → Prop))) (h : Heap) : Prop :=
  ∃ f first captured, v = .func (.func f) first captured ∧ bodyB P f = true ∧ shsOf P f = [] ∧ ∀ r : Loop,
    (∀ (s : TupS l) (h1 : Heap) (R : Bool → Heap → Prop), h1[h.size + 1]? = some (recO r .ready none) →
      rnd s (fun h2 K => h2[h.size + 1]? = some (recO r .ready none) ∧ K (h2.setIfInBounds (h.size + 1) (recO r .busy none)))
        (fun ex h3 => h3[h.size + 1]? = some (recO r .busy none) ∧ R (nrmB ex) (h3.setIfInBounds (h.size + 1) (recO r (match nrmB ex with | true => .ready | false => .done) (jumpC ex)))) h1 → YldT P (h.size + 1) (mkS l s) h1 R) →
    CallT P f (first.toList ++ [.func (.yield (h.size + 1)) #[] #[]] ++ captured.toList) ((h.push (.deferred (some []))).push (recO r .ready none)) [] fun _ h4 =>
      (h4[h.size + 1]? = some (recO r .ready none) ∧ Qn (h4.setIfInBounds (h.size + 1) (recO r .exhausted none))) ∨
      (h4[h.size + 1]? = some (recO r .done (some .ret)) ∧ Qr (h4.setIfInBounds (h.size + 1) (recO r .exhausted (some .ret)))) ∨
      (∃ p ∈ Qx, h4[h.size + 1]? = some (recO r .done (some (.exit p.1))) ∧ p.2 (h4.setIfInBounds (h.size + 1) (recO r .exhausted (some (.exit p.1)))))
/-- on the way out the blocks for deferred calls are shut -/
def shutX (lo : Nat) (h : Heap) (K : Heap → Prop) : Prop :=
  ∀ h' : Heap, h'.size = h.size → (∀ b : Nat, h'[b]? = h[b]? ∨ (lo ≤ b ∧ h[b]? = some (.deferred (some [])) ∧ h'[b]? = some (.deferred none))) → K h'

/-- m: from where the code runs, its start or a label on its spine -/
def den (P : Program) (F : List Nat) (n : Nat) : Code → Option Nat → Ann → (Ex → Env → Heap → Prop) → Env → Heap → Prop
  | .skip, none, _, Q, env, h => Q .nrm env h
  | .label l', m, _, Q, env, h => match m with
    | none => Q .nrm env h
    | some l => match Nat.beq l' l with | true => Q .nrm env h | false => False
  | .region _ ops d, none, _, Q, env, h => regionX P F n ops d env h (Q .nrm)
  | .seq a b, m, A, Q, env, h => match m with
    | none => match A with
      | .j l x y => withJ (σ := TupS (l.map (·.2))) (fun s h' => den P F n b none y Q (mkE l s (dropE (written a) env)) h')
          (fun J => den P F n a none x (nrmK (fun env' h' => getE l env' fun s => J s h') Q) env h)
      | A => den P F n a none A.fst (nrmK (den P F n b none A.snd Q) Q) env h
    | some l => match hasL l a with
      | true => den P F n a (some l) A.fst (nrmK (den P F n b none A.snd Q) Q) env h
      | false => den P F n b (some l) A.snd Q env h
  | .cond c a b, none, A, Q, env, h => ev1 env c fun v => match v with
    | .bool t => cnd t (den P F n a none A.fst Q env h) (den P F n b none A.snd Q env h)
    | _ => False
  | .block i a, none, A, Q, env, h => den P F n a none A.sub (blkK i Q) env h
  | .scope a, none, A, Q, env, h => match A with
    | .g t l x y => withJ (σ := TupS (l.map (·.2))) (fun s h' => den P F n a (some t) y (noG Q) (mkE l s (dropE (written a) env)) h')
        (fun J => den P F n a none x (scpK t (fun env' h' => getE l env' fun s => J s h') Q) env h)
    | A => den P F n a none A.sub (noG Q) env h
  | .loop a, none, A, Q, env, h => match A with
    | .l l x => getE l env fun s0 => LoopT (σ := TupS (l.map (·.2)))
        (fun X s h' => den P F n a none x (nrmK (fun env' h'' => getE l env' fun s' => X s' h'') Q) (mkE l s (dropE (written a) env)) h') s0 h
    | _ => False
  | .exit i, none, _, Q, env, h => Q (.exit i) env h
  | .goto l, none, _, Q, env, h => Q (.goto l) env h
  | .ret, none, _, Q, env, h => Q .ret env h
  | .rangeFunc g ps x y, none, A, Q, env, h => match A with
    | .r l Ax Ay => match Nat.beq ps.size l.length && (okPs n ps.toList && (noRange x && noRange y)) with
      | true => ev1 env g fun v => rngX P v l
          (fun s mid Qb h1 => den P F n x none Ax (nrmK (fun env' h2 => mid h2 fun h2' => den P F n y none Ay (fun ex _ h3 => Qb ex h3) env' h2') (fun _ _ _ => False)) (zipE ps.toList (mkS l s) env) h1)
          (fun h' => Q .nrm env h') (match hasRet y with | true => fun h' => Q .ret env h' | false => fun _ => False) ((freeX y).map fun i => (i, fun h' => Q (.exit i) env h')) h
      | false => False
    | _ => False
  | _, _, _, _, _, _ => False

/-- the results' values -/
def resX (P : Program) (env : Env) (h : Heap) : List ResultVar → (List Value → Prop) → Prop
  | [], K => K []
  | .tmp t :: r, K => ev1 env (.tmp t) fun v => resX P env h r fun vs => K (v :: vs)
  | .cell a t :: r, K => match P.underlying t with
    | some _ => ev1 env (.tmp a) fun v => match v with
      | .pointer o => nn o fun a => ldT P t a h fun v => resX P env h r fun vs => K (v :: vs)
      | _ => False
    | none => False

/-- a whole function's body: R is what is asked of the results and the heap -/
def fnX (P : Program) (F : List Nat) (fn : Func) (A : Ann) (l : List Sh) (args : List Value) (h : Heap) (R : Tup l → Heap → Prop) : Prop :=
  match fn.body with
  | some c => match noRange c with
    | true => den P F fn.ntmps c none A (fun ex env h => match ex with
      | .exit _ => False
      | .goto _ => False
      | _ => resX P env h fn.results.toList fun vs => match getT l vs with | some s => R s h | none => False)
      (zipE (List.range args.length) args []) h
    | false => den P F fn.ntmps c none A (fun ex env h1 => match ex with
      | .exit _ => False
      | .goto _ => False
      | _ => shutX h.size h1 fun h2 => resX P env h2 fn.results.toList fun vs => match getT l vs with | some s => R s h2 | none => False)
      (zipE (List.range args.length) args []) h
  | none => False

end Go.Proofs.Ytkgocfaajfaidaa.D
