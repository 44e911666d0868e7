/- A part of the proof that a law answers true for every input: an executor of the model over an abstract heap, proved sound, or the use of it. -/
import GoSem.Step
namespace Go.X
noncomputable section

/-! ## Trees by number -/
inductive T (α : Type) where
  | leaf
  | node (v : Option α) (l r : T α)

/-- The way to a number. -/
inductive P where
  | e
  | z (p : P)
  | o (p : P)

def P.ofF (fuel : Nat) : Nat → P :=
  Nat.rec (motive := fun _ => Nat → P) (fun _ => .e)
    (fun _ ih k => Bool.rec (Bool.rec (.o (ih (Nat.div k 2))) (.z (ih (Nat.div k 2))) (Nat.beq (Nat.mod k 2) 0)) .e (Nat.beq k 1)) fuel

/-- The way to the number i. -/
def P.of (i : Nat) : P := P.ofF (Nat.succ i) (Nat.succ i)

def T.at {α : Type} (p : P) : T α → Option α :=
  P.rec (motive := fun _ => T α → Option α)
    (fun t => T.rec (motive := fun _ => Option α) none (fun v _ _ _ _ => v) t)
    (fun _ ih t => T.rec (motive := fun _ => Option α) none (fun _ l _ _ _ => ih l) t)
    (fun _ ih t => T.rec (motive := fun _ => Option α) none (fun _ _ r _ _ => ih r) t) p

def T.get {α : Type} (t : T α) (i : Nat) : Option α := T.at (P.of i) t

def T.putP {α β : Type} (x : Option α) (p : P) : T α → (T α → β) → β :=
  P.rec (motive := fun _ => T α → (T α → β) → β)
    (fun t c => T.rec (motive := fun _ => β) (c (.node x .leaf .leaf)) (fun _ l r _ _ => c (.node x l r)) t)
    (fun _ ih t c => T.rec (motive := fun _ => β) (ih .leaf fun l' => c (.node none l' .leaf)) (fun v l r _ _ => ih l fun l' => c (.node v l' r)) t)
    (fun _ ih t c => T.rec (motive := fun _ => β) (ih .leaf fun r' => c (.node none .leaf r')) (fun v l r _ _ => ih r fun r' => c (.node v l r')) t) p

/-- The tree with x (none: nothing) at i, handed on. -/
def T.put {α β : Type} (t : T α) (i : Nat) (x : Option α) (c : T α → β) : β := T.putP x (P.of i) t c

/-! ## Values as they are reckoned -/
def forceN {β : Type} (n : Nat) (c : Nat → β) : β := Nat.rec (motive := fun _ => β) (c 0) (fun m _ => c (Nat.succ m)) n
def forceI {β : Type} (n : Int) (c : Int → β) : β := Int.rec (motive := fun _ => β) (fun m => forceN m fun m' => c (.ofNat m')) (fun m => forceN m fun m' => c (.negSucc m')) n
def forceB {β : Type} (b : Bool) (c : Bool → β) : β := Bool.rec (motive := fun _ => β) (c false) (c true) b
def forceL {β : Type} (l : List Nat) : (List Nat → β) → β :=
  List.rec (motive := fun _ => (List Nat → β) → β) (fun c => c []) (fun x _ ih c => forceN x fun x' => ih fun l' => c (x' :: l')) l
/-- A list, link by link (its elements as they stand). -/
def forceS {α β : Type} (l : List α) : (List α → β) → β :=
  List.rec (motive := fun _ => (List α → β) → β) (fun c => c []) (fun x _ ih c => ih fun l' => c (x :: l')) l

inductive Cap where
  | exact (c : Nat)
  | room (es c : Nat)

inductive V where
  | bool (b : Bool)
  | int (k : IntKind) (n : Int)
  | str (s : List Nat)
  | nilp
  | ptr (i o : Nat)
  | gptr (g o : Nat)
  | nils
  | slice (i o n : Nat) (c : Cap)
  | emp
  | nilm
  | map (i : Nat)
  | func (fn : Fn) (first cap : List V)
  | yield (i : Nat)
  | nilf
  | iface (t : Nat) (v : V)
  | nili
  | agg (l : List V)
  | tuple (l : List V)
  | lit (v : Value)

inductive Obj where
  | cells (n : Nat) (cs : T V) (elem : Nat)
  | map (es : List (V × V × Nat)) (clock : Nat)
  | siter (s : List Nat) (pos : Nat)
  | miter (m : Option Nat) (since : Nat) (seen : List Nat) (stepped : Nat)
  | mark
  | loop (st : LoopState) (pending : Option Code) (fn : Nat) (τ : T V) (nt : Nat) (params : List Nat) (assign body : Code) (dm : Nat)

structure S where
  heap : T Obj
  next : Nat

/-- The kinds of a plain struct's cells. -/
inductive CK where
  | int (k : IntKind)
  | str
  | bool

structure Env where
  types : T TypeInfo
  funcs : T Func
  plain : T (List CK)

inductive XE where
  | norm
  | exit (id : Nat)
  | ret

structure Fr where
  fn : Nat
  nt : Nat
  round : Option Nat

inductive Task where
  | code (c : Code) (fr : Fr) (τ : T V) (ms : List Nat) (s : S)
  | ops (l : List Oper) (all : List Oper) (fr : Fr) (τ : T V) (ms : List Nat) (s : S)
  | call (f : Nat) (args : List V) (s : S)
  | round (l : Nat) (args : List V) (s : S)

inductive Out where
  | code (e : XE) (τ : T V) (ms : List Nat) (s : S)
  | val (v : V) (s : S)
  | no (why : Nat)

/-! ## Types -/
def Env.info (E : Env) (t : Nat) : Option TypeInfo := E.types.get t
def Env.und (E : Env) (t : Nat) : Option TypeDesc :=
  match E.info t with
  | some i => match i.desc with
    | .named _ u => match E.info u with
      | some j => some j.desc
      | none => none
    | d => some d
  | none => none

def sizeX (E : Env) (t : Nat) : Option Nat := match E.info t with
  | some i => some i.size
  | none => none

def isAggD : TypeDesc → Bool
  | .struct _ => true
  | .array _ _ => true
  | _ => false

/-! ## Small functions -/
def ltI (a b : Int) : Bool := match a, b with
  | .ofNat m, .ofNat n => Nat.blt m n
  | .ofNat _, .negSucc _ => false
  | .negSucc _, .ofNat _ => true
  | .negSucc m, .negSucc n => Nat.blt n m
def eqI (a b : Int) : Bool := match a, b with
  | .ofNat m, .ofNat n => Nat.beq m n
  | .negSucc m, .negSucc n => Nat.beq m n
  | _, _ => false
def kindEq : IntKind → IntKind → Bool
  | .i8, .i8 => true | .i16, .i16 => true | .i32, .i32 => true | .i64, .i64 => true
  | .u8, .u8 => true | .u16, .u16 => true | .u32, .u32 => true | .u64, .u64 => true
  | _, _ => false
def topOf : IntKind → Nat
  | .i8 => 127 | .i16 => 32767 | .i32 => 2147483647 | .i64 => 9223372036854775807
  | .u8 => 255 | .u16 => 65535 | .u32 => 4294967295 | .u64 => 18446744073709551615
def lowOf : IntKind → Nat      -- negSucc m is let for m below this
  | .i8 => 128 | .i16 => 32768 | .i32 => 2147483648 | .i64 => 9223372036854775808
  | _ => 0
def modOf : IntKind → Nat
  | .i8 | .u8 => 256 | .i16 | .u16 => 65536 | .i32 | .u32 => 4294967296 | .i64 | .u64 => 18446744073709551616
def wrapX (k : IntKind) (n : Int) : Int := match n with
  | .ofNat m => match Nat.ble m (topOf k) with
    | true => .ofNat m
    | false => IntKind.wrap k (.ofNat m)
  | .negSucc m => match Nat.blt m (lowOf k) with
    | true => .negSucc m
    | false => IntKind.wrap k (.negSucc m)

/-- The words of the bits of two numbers, both at least 0. -/
def bitsX (op : BinOp) (a b : Nat) : Option Nat := match op with
  | .and => some (Nat.land a b)
  | .or => some (Nat.lor a b)
  | .xor => some (Nat.xor a b)
  | _ => none

def byteLt : List Nat → List Nat → Bool
  | _, [] => false
  | [], _ :: _ => true
  | a :: x, b :: y => match Nat.blt a b with
    | true => true
    | false => match Nat.beq a b with
      | true => byteLt x y
      | false => false
def eqL : List Nat → List Nat → Bool
  | [], [] => true
  | a :: x, b :: y => match Nat.beq a b with
    | true => eqL x y
    | false => false
  | _, _ => false

def okB (b : Bool) : Option V := some (.bool b)

def strOp (op : BinOp) (x y : List Nat) : Option V := match op with
  | .eql => okB (eqL x y)
  | .neq => okB (!eqL x y)
  | .lss => okB (byteLt x y)
  | .leq => okB (byteLt x y || eqL x y)
  | .gtr => okB (!(byteLt x y || eqL x y))
  | .geq => okB (!byteLt x y)
  | _ => none

def intOp (op : BinOp) (k : IntKind) (a b : Int) : Option V := match op with
  | .add => some (.int k (wrapX k (Int.add a b)))
  | .sub => some (.int k (wrapX k (Int.sub a b)))
  | .mul => some (.int k (wrapX k (Int.mul a b)))
  | .eql => okB (eqI a b)
  | .neq => okB (!eqI a b)
  | .lss => okB (ltI a b)
  | .leq => okB (!ltI b a)
  | .gtr => okB (ltI b a)
  | .geq => okB (!ltI a b)
  | .quo => match a, b with
    | .ofNat m, .ofNat (n + 1) => some (.int k (wrapX k (.ofNat (Nat.div m (n + 1)))))
    | _, _ => none
  | .rem => match a, b with
    | .ofNat m, .ofNat (n + 1) => some (.int k (.ofNat (Nat.mod m (n + 1))))
    | _, _ => none
  | .and | .or | .xor => match a, b with
    | .ofNat m, .ofNat n => match Nat.ble m (topOf k), Nat.ble n (topOf k) with
      | true, true => match bitsX op m n with
        | some r => some (.int k (wrapX k (.ofNat r)))
        | none => none
      | _, _ => none
    | _, _ => none
  | _ => none

def bitsOf : IntKind → Nat
  | .i8 | .u8 => 8 | .i16 | .u16 => 16 | .i32 | .u32 => 32 | .i64 | .u64 => 64

def shiftOp (op : BinOp) (k : IntKind) (a b : Int) : Option V := match b with
  | .ofNat n => match op with
    | .shl => match Nat.ble n (bitsOf k) with
      | true => some (.int k (wrapX k (Int.mul a (.ofNat (Nat.pow 2 n)))))
      | false => none
    | .shr => match a with
      | .ofNat m => match Nat.ble n (bitsOf k) with
        | true => some (.int k (.ofNat (Nat.div m (Nat.pow 2 n))))
        | false => none
      | _ => none
    | _ => none
  | _ => none

/-- Two values of a type of that kind, one of them nil, or two pointers into one object. -/
def eqBare (d : TypeDesc) (x y : V) : Option Bool := match d, x, y with
  | .bool, .bool a, .bool b => some (match a, b with | true, true => true | false, false => true | _, _ => false)
  | .pointer _, .nilp, .nilp => some true
  | .pointer _, .nilp, .ptr _ _ => some false
  | .pointer _, .ptr _ _, .nilp => some false
  | .slice _, .nils, .nils => some true
  | .slice _, .nils, .slice .. => some false
  | .slice _, .slice .., .nils => some false
  | .slice _, .nils, .emp => some false
  | .slice _, .emp, .nils => some false
  | .map _ _, .nilm, .nilm => some true
  | .map _ _, .nilm, .map _ => some false
  | .map _ _, .map _, .nilm => some false
  | .func _ _ _, .nilf, .nilf => some true
  | .func _ _ _, .nilf, .func .. => some false
  | .func _ _ _, .func .., .nilf => some false
  | .interface _, .nili, .iface .. => some false
  | .interface _, .iface .., .nili => some false
  | _, _, _ => none

/-- Two pointers into one object. -/
def eqPtr (E : Env) (e : Nat) (x y : V) : Option Bool := match x, y with
  | .ptr i o, .ptr j q => match Nat.beq i j, sizeX E e with
    | true, some (_ + 1) => some (Nat.beq o q)
    | _, _ => none
  | _, _ => none

/-- The plain cells of a struct: numbers, texts, bools. -/
def eqCell (c : CK) (x y : V) : Option Bool := match c, x, y with
  | .int k, .int i a, .int j b => match kindEq i k, kindEq j k with
    | true, true => some (eqI a b)
    | _, _ => none
  | .str, .str a, .str b => some (eqL a b)
  | .bool, .bool a, .bool b => some (match a, b with | true, true => true | false, false => true | _, _ => false)
  | _, _, _ => none
def eqCells : List CK → List V → List V → Option Bool
  | [], [], [] => some true
  | c :: ks, a :: x, b :: y => match eqCell c a b with
    | some true => eqCells ks x y
    | some false => match eqCells ks x y with
      | some _ => some false
      | none => none
    | none => none
  | _, _, _ => none

/-- '==' of two values of a type. -/
def Env.eq (E : Env) (t : Nat) (x y : V) : Option Bool := match x, y with
  | .agg a, .agg b => match E.plain.get t with
    | some ks => eqCells ks a b
    | none => none
  | .ptr i o, .ptr j q => match E.und t with
    | some (.pointer e) => eqPtr E e (.ptr i o) (.ptr j q)
    | _ => none
  | x, y => match E.und t with
    | some d => eqBare d x y
    | none => none

/-- How keys of a type are held against each other. -/
inductive KM where
  | int
  | str
  | agg (ks : List CK)
def keyMode (E : Env) (t : Nat) : Option KM := match E.und t with
  | some (.int _) => some .int
  | some .string => some .str
  | some (.struct _) => match E.plain.get t with
    | some ks => some (.agg ks)
    | none => none
  | _ => none
def keyEq (m : KM) (x y : V) : Option Bool := match m, x, y with
  | .int, .int k a, .int j b => match kindEq k j with
    | true => some (eqI a b)
    | false => none
  | .str, .str a, .str b => some (eqL a b)
  | .agg ks, .agg a, .agg b => eqCells ks a b
  | _, _, _ => none

/-! ## From the program's constants -/
def bytesOf (s : ByteArray) : List Nat := s.data.toList.map (·.toNat)

mutual
def ofValue : Nat → Value → Option V
  | 0, _ => none
  | n + 1, v => match v with
    | .bool b => some (.bool b)
    | .int k a => forceI a fun a' => some (.int k a')
    | .string s => forceL (bytesOf s) fun l => some (.str l)
    | .pointer none => some .nilp
    | .slice none 0 0 => some .nils
    | .map none => some .nilm
    | .nilFunc => some .nilf
    | .nilIface => some .nili
    | .agg cs => match ofValues n cs.toList with
      | some l => some (.agg l)
      | none => none
    | .tuple cs => match ofValues n cs.toList with
      | some l => some (.tuple l)
      | none => none
    | _ => none
def ofValues : Nat → List Value → Option (List V)
  | 0, _ => none
  | n + 1, vs => match vs with
    | [] => some []
    | v :: rest => match ofValue n v with
      | some x => match ofValues n rest with
        | some l => some (x :: l)
        | none => none
      | none => none
end

def constDepth : Nat := 2000

def ev (τ : T V) (o : Operand) : Option V := match o with
  | .tmp t => τ.get t
  | .const v => ofValue constDepth v
  | .global g => some (.gptr g 0)
  | .func f => some (.func (.func f) [] [])

def evs (τ : T V) : List Operand → Option (List V)
  | [] => some []
  | o :: rest => match ev τ o with
    | some x => match evs τ rest with
      | some l => some (x :: l)
      | none => none
    | none => none

def cellsV : V → List V
  | .agg l => l
  | v => [v]

def oneCell : V → Bool
  | .agg _ => false
  | .tuple _ => false
  | _ => true

/-- Cells laid into a tree from place o on. -/
def layCells {β : Type} : List V → Nat → T V → (T V → β) → β
  | [], _, t, c => c t
  | x :: rest, o, t, c => T.put t o (some x) fun t' => forceN (Nat.succ o) fun o' => layCells rest o' t' c

/-- n cells from place o on. -/
def readCells (t : T V) : Nat → Nat → Option (List V)
  | 0, _ => some []
  | n + 1, o => match t.get o with
    | some x => match readCells t n (Nat.succ o) with
      | some l => some (x :: l)
      | none => none
    | none => none

def allOne : List V → Bool
  | [] => true
  | x :: l => match oneCell x with
    | true => allOne l
    | false => false

inductive XR where
  | val (v : V) (s : S)
  | skip (s : S)
  | enter (f : Nat) (args : List V) (s : S)
  | round (l : Nat) (args : List V) (s : S)
  | no (why : Nat)

def zeroCellsV (E : Env) (t : Nat) : Option (List V) := match E.info t with
  | some i => match i.zero with
    | some z => match ofValue constDepth z with
      | some v => some (cellsV v)
      | none => none
    | none => none
  | none => none

def S.new (s : S) (o : Obj) (c : Nat → S → XR) : XR :=
  T.put s.heap s.next (some o) fun h => forceN (Nat.succ s.next) fun n => c s.next ⟨h, n⟩

def S.set (s : S) (i : Nat) (o : Obj) (c : S → XR) : XR := T.put s.heap i (some o) fun h => c ⟨h, s.next⟩
def S.kill (s : S) (i : Nat) (c : S → XR) : XR := T.put s.heap i none fun h => c ⟨h, s.next⟩

def newCells (s : S) (cells : List V) (elem : Nat) (c : Nat → S → XR) : XR :=
  match allOne cells with
  | true => layCells cells 0 .leaf fun t => forceN cells.length fun n => s.new (.cells n t elem) c
  | false => .no 20

def listPut {α : Type} : List α → Nat → α → List α
  | [], _, _ => []
  | _ :: l, 0, x => x :: l
  | y :: l, n + 1, x => y :: listPut l n x

/-- Cells put over others from place o on. -/
def splice : List V → Nat → List V → List V
  | base, _, [] => base
  | base, o, x :: rest => splice (listPut base o x) (Nat.succ o) rest

def fieldsPlaces (E : Env) (fs : List Field) (i : Nat) : Option (Nat × Nat) := match fs[i]? with
  | some f => match sizeX E f.type with
    | some n => some (f.offset, n)
    | none => none
  | none => none

def fillX (place : Nat → Option (Nat × Nat)) (cells : List V) : List (Nat × V) → Option (List V)
  | [] => some cells
  | (i, v) :: rest => match place i with
    | some (off, size) => match Nat.beq (cellsV v).length size, Nat.ble (Nat.add off size) cells.length with
      | true, true => fillX place (splice cells off (cellsV v)) rest
      | _, _ => none
    | none => none

def evParts (τ : T V) : List (Nat × Operand) → Option (List (Nat × V))
  | [] => some []
  | (i, o) :: rest => match ev τ o with
    | some x => match evParts τ rest with
      | some l => some ((i, x) :: l)
      | none => none
    | none => none

def repeatL (z : List V) : Nat → List V
  | 0 => []
  | n + 1 => z ++ repeatL z n

/-- n times the cells of a type's zero value, each time so many. -/
def zeroRow (E : Env) (n e es : Nat) : Option (List V) := match n with
  | 0 => some []
  | n + 1 => match zeroCellsV E e with
    | some z => match Nat.beq z.length es with
      | true => some (repeatL z (n + 1))
      | false => none
    | none => none
def okV (v : V) (s : S) : XR := .val v s

/-- A value, its numbers and words reckoned. -/
def forceV {β : Type} (v : V) (c : V → β) : β := match v with
  | .int k n => forceI n fun n' => c (.int k n')
  | .bool b => forceB b fun b' => c (.bool b')
  | .str l => forceL l fun l' => c (.str l')
  | v => c v

def optV (o : Option V) (s : S) (why : Nat) : XR := match o with
  | some v => forceV v fun v' => .val v' s
  | none => .no why

def doBin (E : Env) (op : BinOp) (t : Nat) (x y : V) : Option V := match op, x, y with
  | .shl, .int k a, .int _ b => shiftOp .shl k a b
  | .shr, .int k a, .int _ b => shiftOp .shr k a b
  | op, .int k a, .int j b => match kindEq k j with
    | true => intOp op k a b
    | false => none
  | op, .str a, .str b => match op with
    | .add => match Nat.ble (Nat.add a.length b.length) 1099511627776 with
      | true => some (.str (a ++ b))
      | false => none
    | op => strOp op a b
  | .eql, x, y => match E.eq t x y with
    | some b => some (.bool b)
    | none => none
  | .neq, x, y => match E.eq t x y with
    | some b => some (.bool (!b))
    | none => none
  | _, _, _ => none

def doLoad (E : Env) (t : Nat) (a : V) (s : S) : XR := match a with
  | .ptr i o => match s.heap.get i with
    | some (.cells _ cs _) => match E.und t with
      | some d => match isAggD d with
        | true => match sizeX E t with
          | some n => match readCells cs n o with
            | some l => forceS l fun l' => .val (.agg l') s
            | none => .no 31
          | none => .no 32
        | false => match cs.get o with
          | some v => .val v s
          | none => .no 33
      | none => .no 34
    | _ => .no 35
  | .gptr g _ => .no (1000 + g)
  | _ => .no 36

def doStore (E : Env) (t : Nat) (a v : V) (s : S) : XR := match a with
  | .ptr i o => match s.heap.get i with
    | some (.cells n cs e) => match sizeX E t with
      | some k => match Nat.beq (cellsV v).length k, allOne (cellsV v), Nat.ble (Nat.add o k) n with
        | true, true, true => layCells (cellsV v) o cs fun cs' => s.set i (.cells n cs' e) fun s' => .skip s'
        | _, _, _ => .no 41
      | none => .no 42
    | _ => .no 43
  | _ => .no 44

def idxN (v : V) : Option Nat := match v with
  | .int _ (.ofNat n) => some n
  | _ => none

def doIndexAddr (E : Env) (t : Nat) (x ix : V) (s : S) : XR := match idxN ix with
  | none => .no 51
  | some k => match E.und t, x with
    | some (.slice e), .slice i o n _ => match Nat.blt k n, sizeX E e with
      | true, some es => forceN (Nat.add o (Nat.mul k es)) fun p => .val (.ptr i p) s
      | _, _ => .no 52
    | some (.array n e), .ptr i o => match Nat.blt k n, sizeX E e with
      | true, some es => forceN (Nat.add o (Nat.mul k es)) fun p => .val (.ptr i p) s
      | _, _ => .no 53
    | _, _ => .no 54

def doFieldAddr (E : Env) (t : Nat) (x : V) (f : Nat) (s : S) : XR := match x with
  | .ptr i o => match E.und t with
    | some (.struct fs) => match fs.toList[f]? with
      | some fd => match sizeX E fd.type with
        | some (_ + 1) => forceN (Nat.add o fd.offset) fun p => .val (.ptr i p) s
        | _ => .no 61
      | none => .no 62
    | _ => .no 63
  | _ => .no 64

def partX (E : Env) (t : Nat) (cs : List V) (off : Nat) : Option V := match E.und t with
  | some d => match isAggD d with
    | true => match sizeX E t with
      | some n => match Nat.ble (Nat.add off n) cs.length with
        | true => some (.agg ((cs.drop off).take n))
        | false => none
      | none => none
    | false => cs[off]?
  | none => none

def doField (E : Env) (t : Nat) (x : V) (f : Nat) (s : S) : XR := match x with
  | .agg cs => match E.und t with
    | some (.struct fs) => match fs.toList[f]? with
      | some fd => match partX E fd.type cs fd.offset with
        | some (.agg l) => forceS l fun l' => .val (.agg l') s
        | some v => .val v s
        | none => .no 71
      | none => .no 72
    | _ => .no 73
  | _ => .no 74

def doIndex (E : Env) (t : Nat) (x ix : V) (s : S) : XR := match idxN ix with
  | none => .no 81
  | some k => match E.und t, x with
    | some .string, .str l => match l[k]? with
      | some b => .val (.int .u8 (.ofNat b)) s
      | none => .no 82
    | some (.array n e), .agg cs => match Nat.blt k n, sizeX E e with
      | true, some es => match partX E e cs (Nat.mul k es) with
        | some (.agg l) => forceS l fun l' => .val (.agg l') s
        | some v => .val v s
        | none => .no 83
      | _, _ => .no 84
    | _, _ => .no 85

/-- Where a key lies among entries: its place, its value and its stamp; none: it cannot be told. -/
def findX (m : KM) (k : V) : List (V × V × Nat) → Nat → Option (Option (Nat × V × Nat))
  | [], _ => some none
  | (q, v, b) :: es, i => match keyEq m k q with
    | some true => some (some (i, v, b))
    | some false => findX m k es (Nat.succ i)
    | none => none

/-- How a key of a type is held against others; none: it may not be. -/
def keyOk (E : Env) (t : Nat) (k : V) : Option KM := match keyMode E t with
  | some m => match keyEq m k k with
    | some _ => some m
    | none => none
  | none => none

def zeroV (E : Env) (t : Nat) : Option V := match E.info t with
  | some i => match i.zero with
    | some z => ofValue constDepth z
    | none => none
  | none => none

def lookFin (ok : Bool) (v : V) (b : Bool) (s : S) : XR := match ok with
  | true => .val (.tuple [v, .bool b]) s
  | false => .val v s
def lookMiss (E : Env) (et : Nat) (ok : Bool) (s : S) : XR := match zeroV E et with
  | some z => lookFin ok z false s
  | none => .no 92
def doLookup (E : Env) (t : Nat) (x ix : V) (ok : Bool) (s : S) : XR := match E.und t with
  | some (.map kt et) => match keyOk E kt ix with
    | none => .no 91
    | some m => match x with
      | .nilm => lookMiss E et ok s
      | .map i => match s.heap.get i with
        | some (.map es _) => match findX m ix es 0 with
          | some (some (_, v, _)) => lookFin ok v true s
          | some none => lookMiss E et ok s
          | none => .no 93
        | _ => .no 94
      | _ => .no 95
  | _ => .no 96

def doMapUpdate (E : Env) (t : Nat) (m k v : V) (s : S) : XR := match E.und t, m with
  | some (.map kt _), .map i => match keyOk E kt k, s.heap.get i with
    | some km, some (.map es clock) => match findX km k es 0 with
      | some (some (p, _, b)) => forceS (listPut es p (k, v, b)) fun es' => s.set i (.map es' clock) fun s' => .skip s'
      | some none => forceS (es ++ [(k, v, clock)]) fun es' => forceN (Nat.succ clock) fun c' => s.set i (.map es' c') fun s' => .skip s'
      | none => .no 101
    | _, _ => .no 102
  | _, _ => .no 103

def doMapEntry (E : Env) (t : Nat) (m k : V) (s : S) : XR := match E.und t, m with
  | some (.map kt et), .map i => match keyOk E kt k, s.heap.get i with
    | some km, some (.map es clock) => match findX km k es 0 with
      | some (some (p, v, b)) => forceS (listPut es p (k, v, b)) fun es' => s.set i (.map es' clock) fun s' => .val (.tuple [v, .int .i64 (.ofNat b)]) s'
      | some none => match zeroV E et with
        | some z => forceS (es ++ [(k, z, clock)]) fun es' => forceN (Nat.succ clock) fun c' => s.set i (.map es' c') fun s' => .val (.tuple [z, .int .i64 (.ofNat clock)]) s'
        | none => .no 114
      | none => .no 111
    | _, _ => .no 112
  | _, _ => .no 113

def bornAt (b : Nat) : List (V × V × Nat) → Nat → Option (Nat × V)
  | [], _ => none
  | (k, _, c) :: es, i => match Nat.beq c b with
    | true => some (i, k)
    | false => bornAt b es (Nat.succ i)

def doEntryStore (m st v : V) (s : S) : XR := match m, idxN st with
  | .map i, some b => match s.heap.get i with
    | some (.map es clock) => match bornAt b es 0 with
      | some (p, k) => forceS (listPut es p (k, v, b)) fun es' => s.set i (.map es' clock) fun s' => .skip s'
      | none => .no 121
    | _ => .no 122
  | _, _ => .no 123

def dropAt {α : Type} : List α → Nat → List α
  | [], _ => []
  | _ :: l, 0 => l
  | y :: l, n + 1 => y :: dropAt l n

def doDelete (E : Env) (t : Nat) (m k : V) (s : S) : XR := match E.und t with
  | some (.map kt _) => match keyOk E kt k with
    | none => .no 131
    | some km => match m with
      | .nilm => .val (.tuple []) s
      | .map i => match s.heap.get i with
        | some (.map es clock) => match findX km k es 0 with
          | some (some (p, _, _)) => forceS (dropAt es p) fun es' => s.set i (.map es' clock) fun s' => .val (.tuple []) s'
          | some none => .val (.tuple []) s
          | none => .no 132
        | _ => .no 133
      | _ => .no 134
  | _ => .no 135

def doRange (E : Env) (t : Nat) (x : V) (s : S) : XR := match E.und t, x with
  | some .string, .str l => s.new (.siter l 0) fun i s' => .val (.ptr i 0) s'
  | some (.map _ _), .nilm => s.new (.miter none 0 [] 0) fun i s' => .val (.ptr i 0) s'
  | some (.map _ _), .map m => match s.heap.get m with
    | some (.map _ clock) => s.new (.miter (some m) clock [] clock) fun i s' => .val (.ptr i 0) s'
    | _ => .no 141
  | _, _ => .no 142

def seenB (b : Nat) : List Nat → Bool
  | [] => false
  | x :: l => match Nat.beq x b with
    | true => true
    | false => seenB b l

def leftOf (seen : List Nat) : List (V × V × Nat) → List (V × V × Nat)
  | [] => []
  | e :: es => match seenB e.2.2 seen with
    | true => leftOf seen es
    | false => e :: leftOf seen es

/-- Are all entries born at this stamp or later? -/
def allFrom (n : Nat) : List (V × V × Nat) → Bool
  | [] => true
  | e :: es => match Nat.ble n e.2.2 with
    | true => allFrom n es
    | false => false

def doNext (it : V) (isStr : Bool) (s : S) : XR := match it with
  | .ptr i 0 => match s.heap.get i, isStr with
    | some (.siter l pos), true => match l[pos]? with
      | none => match Nat.ble l.length pos with
        | true => .val (.tuple [.bool false]) s
        | false => .no 151
      | some b => match Nat.blt b 128 with
        | true => forceN (Nat.succ pos) fun p' => s.set i (.siter l p') fun s' => .val (.tuple [.bool true, .int .i64 (.ofNat pos), .int .i32 (.ofNat b)]) s'
        | false => .no 152
    | some (.miter none _ _ _), false => .val (.tuple [.bool false]) s
    | some (.miter (some m) since seen last), false => match s.heap.get m with
      | some (.map es clock) =>
        let bad : Bool := match seen, es with
          | [], _ => false
          | _, [] => false
          | _, _ => allFrom last es
        match bad with
        | true => .no 153
        | false => match leftOf seen es with
          | [] => .val (.tuple [.bool false]) s
          | [(k, v, b)] => match Nat.blt b since with
            | true => forceS (seen ++ [b]) fun seen' => s.set i (.miter (some m) since seen' clock) fun s' => .val (.tuple [.bool true, k, v]) s'
            | false => .no 154
          | _ => .no 155
      | _ => .no 156
    | _, _ => .no 157
  | _ => .no 158

def lastOf : List Nat → Option Nat
  | [] => none
  | [x] => some x
  | _ :: l => lastOf l

def bornEntry (b : Nat) : List (V × V × Nat) → Option (V × V)
  | [] => none
  | (k, v, c) :: es => match Nat.beq c b with
    | true => some (k, v)
    | false => bornEntry b es

def doEntry (it : V) (s : S) : XR := match it with
  | .ptr i 0 => match s.heap.get i with
    | some (.miter (some m) _ seen stepped) => match lastOf seen, s.heap.get m with
      | some b, some (.map es clock) => match Nat.beq clock stepped, bornEntry b es with
        | true, some (k, v) => .val (.tuple [k, v]) s
        | _, _ => .no 161
      | _, _ => .no 162
    | _ => .no 163
  | _ => .no 164

def capLow : Cap → Nat
  | .exact k => k
  | .room _ k => k

def loX (lo : Option V) : Option Nat := match lo with
  | none => some 0
  | some v => idxN v
def hiX (hi : Option V) (n : Nat) : Option Nat := match hi with
  | none => some n
  | some v => idxN v

/-- A slice of which the bounds are known: k the capacity. -/
def cutExact (i o l h k es : Nat) (s : S) : XR := match Nat.ble l h, Nat.ble h k with
  | true, true => match Nat.beq k l with
    | true => forceN (Nat.sub h l) fun n' => .val (.slice i o n' (.exact 0)) s
    | false => forceN (Nat.sub h l) fun n' => forceN (Nat.sub k l) fun k' => forceN (Nat.add o (Nat.mul l es)) fun o' => .val (.slice i o' n' (.exact k')) s
  | _, _ => .no 175

def cutRoom (i o l h e k es : Nat) (s : S) : XR := match Nat.ble l h, Nat.ble h k, Nat.beq e es with
  | true, true, true => match Nat.blt l k with
    | true => forceN (Nat.sub h l) fun n' => forceN (Nat.sub k l) fun k' => forceN (Nat.add o (Nat.mul l es)) fun o' => .val (.slice i o' n' (.room e k')) s
    | false => match Nat.beq h l with
      | true => .val .emp s
      | false => .no 180
  | _, _, _ => .no 176

/-- Part of a slice. -/
def sliceX (x : V) (lo hi : Option V) (es : Nat) (s : S) : XR := match x with
  | .nils => match loX lo, hiX hi 0 with
    | some 0, some 0 => .val .nils s
    | _, _ => .no 174
  | .slice i o n c => match loX lo, hiX hi n with
    | some l, some h => match c with
      | .exact k => cutExact i o l h k es s
      | .room e k => cutRoom i o l h e k es s
    | _, _ => .no 177
  | _ => .no 178

/-- .. with a capacity of its own. -/
def sliceX3 (x : V) (lo : Option V) (hi mx : V) (es : Nat) (s : S) : XR := match x, loX lo, idxN hi, idxN mx with
  | .slice i o _ c, some l, some h, some m => match Nat.ble m (capLow c) with
    | true => cutExact i o l h m es s
    | false => .no 171
  | _, _, _, _ => .no 173

def sliceStr (l : List Nat) (lo hi : Option V) (s : S) : XR := match loX lo, hiX hi l.length with
  | some a, some b => match Nat.ble a b, Nat.ble b l.length with
    | true, true => forceS ((l.drop a).take (Nat.sub b a)) fun l' => .val (.str l') s
    | _, _ => .no 181
  | _, _ => .no 182

def doSlice (E : Env) (t : Nat) (x : V) (lo hi mx : Option V) (s : S) : XR := match E.und t, x, mx with
  | some .string, .str l, none => sliceStr l lo hi s
  | some (.slice e), x, none => match sizeX E e with
    | some es => sliceX x lo hi es s
    | none => .no 183
  | some (.slice e), x, some m => match sizeX E e, hi with
    | some es, some h => sliceX3 x lo h m es s
    | _, _ => .no 183
  | some (.array n e), .ptr i o, none => match sizeX E e, lo, hi with
    | some _, none, none => .val (.slice i o n (.exact n)) s
    | _, _, _ => .no 184
  | _, _, _ => .no 185

/-- The cells of a slice's first n elements. -/
def sliceCells (s : S) (es : Nat) (x : V) (n : Nat) : Option (List V) := match x with
  | .nils => some []
  | .emp => match n with
    | 0 => some []
    | _ + 1 => none
  | .slice i o _ _ => match s.heap.get i with
    | some (.cells _ cs _) => readCells cs (Nat.mul n es) o
    | _ => none
  | .str l => some ((l.take n).map fun b => V.int .u8 (.ofNat b))
  | _ => none

def lenX (x : V) : Option Nat := match x with
  | .nils => some 0
  | .emp => some 0
  | .slice _ _ n _ => some n
  | .str l => some l.length
  | _ => none

/-- A row laid anew by an append: its cells, and more that are not known. -/
def appendNew (E : Env) (e es n : Nat) (cells : List V) (s : S) : XR := match E.info e, zeroRow E 1 e es with
  | some i, some _ => match Nat.ble (Nat.mul n i.bytes) 1073741824, Nat.ble n 1073741824, Nat.blt 0 n with
    | true, true, true => newCells s cells e fun i' s' => .val (.slice i' 0 n (.room es n)) s'
    | _, _, _ => .no 199
  | _, _ => .no 200

/-- append onto a row, in place. -/
def appendIn (i o n m es tot : Nat) (c : Cap) (cs : T V) (el : Nat) (new : List V) (s : S) : XR :=
  match Nat.ble (Nat.add (Nat.add o (Nat.mul n es)) new.length) tot, allOne new with
  | true, true => layCells new (Nat.add o (Nat.mul n es)) cs fun cs' => s.set i (.cells tot cs' el) fun s' => forceN (Nat.add n m) fun n' => .val (.slice i o n' c) s'
  | _, _ => .no 191

def appendAt (E : Env) (e es i o n m : Nat) (c : Cap) (new : List V) (s : S) : XR := match s.heap.get i with
  | some (.cells tot cs el) => match Nat.ble (Nat.add n m) (capLow c) with
    | true => appendIn i o n m es tot c cs el new s
    | false => match readCells cs (Nat.mul n es) o with
      | none => .no 192
      | some old => match c with
        | .exact _ => forceN (Nat.add n m) fun n' => appendNew E e es n' (old ++ new) s
        | .room r _ => match Nat.beq r es, Nat.beq el e, allOne old with
          | true, true, true => s.kill i fun s' => forceN (Nat.add n m) fun n' => appendNew E e es n' (old ++ new) s'
          | _, _, _ => .no 193
  | _ => .no 194

def appendTo (E : Env) (e es m : Nat) (x : V) (new : List V) (s : S) : XR := match x with
  | .nils => match m with
    | 0 => .val .nils s
    | _ + 1 => appendNew E e es m new s
  | .slice i o n c => match m with
    | 0 => match Nat.ble n (capLow c) with
      | true => .val (.slice i o n c) s
      | false => .no 190
    | _ + 1 => appendAt E e es i o n m c new s
  | _ => .no 195

def isRow : TypeDesc → Bool
  | .slice _ => true
  | .string => true
  | _ => false

def doAppend (E : Env) (t t2 : Nat) (x y : V) (s : S) : XR := match E.und t, E.und t2 with
  | some (.slice e), some d => match isRow d, sizeX E e, lenX y with
    | true, some es, some m => match sliceCells s es y m with
      | some new => match Nat.beq new.length (Nat.mul m es) with
        | true => appendTo E e es m x new s
        | false => .no 189
      | none => .no 196
    | _, _, _ => .no 197
  | _, _ => .no 198

def copyTo (_es k : Nat) (x : V) (new : List V) (s : S) : XR := match x with
  | .nils => .val (.int .i64 (.ofNat k)) s
  | .slice i o _ _ => match s.heap.get i with
    | some (.cells tot cs el) => match Nat.ble (Nat.add o new.length) tot, allOne new with
      | true, true => layCells new o cs fun cs' => s.set i (.cells tot cs' el) fun s' => .val (.int .i64 (.ofNat k)) s'
      | _, _ => .no 201
    | _ => .no 202
  | _ => .no 203

def doCopy (E : Env) (t : Nat) (x y : V) (s : S) : XR := match E.und t, lenX x, lenX y with
  | some (.slice e), some n, some m => match sizeX E e with
    | some es => forceN (Nat.min m n) fun k => match sliceCells s es y k with
      | some new => copyTo es k x new s
      | none => .no 204
    | none => .no 205
  | _, _, _ => .no 206

def doClear (E : Env) (t : Nat) (x : V) (s : S) : XR := match E.und t, x with
  | some (.slice _), .nils => .val (.tuple []) s
  | some (.slice _), .emp => .val (.tuple []) s
  | some (.slice e), .slice i o n _ => match n with
    | 0 => .val (.tuple []) s
    | _ + 1 => match sizeX E e, s.heap.get i with
      | some es, some (.cells tot cs el) => match zeroRow E n e es with
        | some z => match Nat.ble (Nat.add o z.length) tot, allOne z with
          | true, true => layCells z o cs fun cs' => s.set i (.cells tot cs' el) fun s' => .val (.tuple []) s'
          | _, _ => .no 211
        | none => .no 214
      | _, _ => .no 212
  | _, _ => .no 213

def doLen (E : Env) (t : Nat) (x : V) (s : S) : XR := match E.und t, x with
  | some .string, .str l => forceN l.length fun n => .val (.int .i64 (.ofNat n)) s
  | some (.array n _), _ => .val (.int .i64 (.ofNat n)) s
  | some (.slice _), .nils => .val (.int .i64 (.ofNat 0)) s
  | some (.slice _), .emp => .val (.int .i64 (.ofNat 0)) s
  | some (.slice _), .slice _ _ n _ => .val (.int .i64 (.ofNat n)) s
  | some (.map _ _), .nilm => .val (.int .i64 (.ofNat 0)) s
  | some (.map _ _), .map i => match s.heap.get i with
    | some (.map es _) => forceN es.length fun n => .val (.int .i64 (.ofNat n)) s
    | _ => .no 221
  | some (.pointer a), _ => match E.und a with
    | some (.array n _) => .val (.int .i64 (.ofNat n)) s
    | _ => .no 222
  | _, _ => .no 223

def lessX (mx : Bool) (a b : Int) : Bool := match mx with
  | true => ltI a b
  | false => ltI b a
def minX (mx : Bool) (k : IntKind) (a : Int) : List V → Option V
  | [] => some (.int k a)
  | .int j b :: rest => match kindEq k j with
    | true => match lessX mx a b with
      | true => minX mx k b rest
      | false => minX mx k a rest
    | false => none
  | _ => none

def doBuiltin (E : Env) (b : Builtin) (tys : List Nat) (args : List V) (s : S) : XR := match b, tys, args with
  | .len, t :: _, x :: _ => doLen E t x s
  | .append, [t, t2], [x, y] => doAppend E t t2 x y s
  | .copy, t :: _, [x, y] => doCopy E t x y s
  | .delete, t :: _, [x, y] => doDelete E t x y s
  | .clear, t :: _, [x] => doClear E t x s
  | .min, _, .int k a :: rest => optV (minX false k a rest) s 231
  | .max, _, .int k a :: rest => optV (minX true k a rest) s 232
  | .cap, t :: _, [x] => match E.und t, x with
    | some (.slice _), .nils => .val (.int .i64 (.ofNat 0)) s
    | some (.slice _), .slice _ _ _ (.exact c) => .val (.int .i64 (.ofNat c)) s
    | _, _ => .no 233
  | _, _, _ => .no 234

def doConvert (E : Env) (src dst : Nat) (x : V) (s : S) : XR := match E.und src, E.und dst, x with
  | some _, some (.int k), .int _ n => optV (some (.int k (wrapX k n))) s 241
  | some _, some .string, .str l => .val (.str l) s
  | _, _, _ => .no 242

/-- The method of a type by its name, if its receiver is the value itself. -/
def methodX (E : Env) (t : Nat) (name : String) : Option (Nat × Bool) := match E.info t with
  | some i => match i.methods.toList.find? (fun m => m.name == name) with
    | some m => match m.path.isEmpty, m.func with
      | true, some (f, p) => some (f, p)
      | _, _ => none
    | none => none
  | none => none

def enterX (E : Env) (f : Nat) (args : List V) (s : S) : XR := match E.funcs.get f with
  | some fn => match fn.body with
    | some _ => .enter f args s
    | none => .no (10000 + f)
  | none => .no 251

def doInvoke (E : Env) (recv : V) (name : String) (args : List V) (s : S) : XR := match recv with
  | .iface t v => match methodX E t name with
    | some (f, p) => match E.und t, p with
      | some (.pointer _), true => enterX E f (v :: args) s
      | some (.pointer _), false => .no 261
      | some _, false => enterX E f (v :: args) s
      | _, _ => .no 262
    | none => .no 263
  | _ => .no 264

def doApply (E : Env) (fv : V) (args : List V) (s : S) : XR := match fv with
  | .func (.func f) first cap => forceS (first ++ args ++ cap) fun l => enterX E f l s
  | .yield l => .round l args s
  | _ => .no 271

def optEv (τ : T V) : Option Operand → Option (Option V)
  | none => some none
  | some o => match ev τ o with
    | some v => some (some v)
    | none => none

def opMove (τ : T V) (s : S) (x : Operand) : XR := match ev τ x with
  | some v => .val v s
  | none => .no 1
def opPick (τ : T V) (s : S) (c a b : Operand) : XR := match ev τ c with
  | some (.bool true) => opMove τ s a
  | some (.bool false) => opMove τ s b
  | _ => .no 2
def opAlloc (E : Env) (s : S) (e : Nat) : XR := match zeroCellsV E e with
  | some z => newCells s z e fun i s' => .val (.ptr i 0) s'
  | none => .no 3
def opBox (τ : T V) (s : S) (e : Nat) (x : Operand) : XR := match ev τ x with
  | some v => newCells s (cellsV v) e fun i s' => .val (.ptr i 0) s'
  | none => .no 4
def buildAs (s : S) (place : Nat → Option (Nat × Nat)) (z : List V) (ps : List (Nat × V)) : XR := match fillX place z ps with
  | some l => forceS l fun l' => .val (.agg l') s
  | none => .no 5
def allSized (E : Env) : List Field → Bool
  | [] => true
  | f :: fs => match sizeX E f.type with
    | some _ => allSized E fs
    | none => false
def opBuild (E : Env) (τ : T V) (s : S) (t : Nat) (parts : Array (Nat × Operand)) : XR := match zeroCellsV E t, E.und t, evParts τ parts.toList with
  | some z, some (.struct fs), some ps => match allSized E fs.toList with
    | true => buildAs s (fieldsPlaces E fs.toList) z ps
    | false => .no 5
  | some z, some (.array _ e), some ps => match sizeX E e with
    | some es => buildAs s (fun i => some (Nat.mul i es, es)) z ps
    | none => .no 5
  | _, _, _ => .no 5
def opBuildSlice (E : Env) (τ : T V) (s : S) (t len : Nat) (parts : Array (Nat × Operand)) : XR := match E.und t, evParts τ parts.toList with
  | some (.slice e), some ps => match sizeX E e with
    | some es => match zeroRow E len e es, Nat.ble (Nat.mul len es) 16777216 with
      | some z, true => match fillX (fun i => some (Nat.mul i es, es)) z ps with
        | some l => newCells s l e fun i s' => .val (.slice i 0 len (.exact len)) s'
        | none => .no 6
      | _, _ => .no 6
    | none => .no 6
  | _, _ => .no 6
def opLoad (E : Env) (τ : T V) (s : S) (t : Nat) (a : Operand) : XR := match ev τ a with
  | some v => doLoad E t v s
  | none => .no 7
def opStore (E : Env) (τ : T V) (s : S) (t : Nat) (a x : Operand) : XR := match ev τ a, ev τ x with
  | some v, some y => doStore E t v y s
  | _, _ => .no 8
def opNilCheck (τ : T V) (s : S) (x : Operand) : XR := match ev τ x with
  | some (.ptr i o) => .val (.ptr i o) s
  | some (.gptr i o) => .val (.gptr i o) s
  | some (.func (.func f) a b) => .val (.func (.func f) a b) s
  | some (.iface t v) => .val (.iface t v) s
  | _ => .no 9
def opBin (E : Env) (τ : T V) (s : S) (op : BinOp) (t : Nat) (x y : Operand) : XR := match ev τ x, ev τ y with
  | some a, some b => optV (doBin E op t a b) s 10
  | _, _ => .no 10
def opUn (τ : T V) (s : S) (op : UnOp) (x : Operand) : XR := match op, ev τ x with
  | .not, some (.bool b) => forceB (!b) fun b' => .val (.bool b') s
  | .neg, some (.int k n) => forceI (wrapX k (Int.sub 0 n)) fun n' => .val (.int k n') s
  | _, _ => .no 11
def opConvert (E : Env) (τ : T V) (s : S) (src dst : Nat) (x : Operand) : XR := match ev τ x with
  | some v => doConvert E src dst v s
  | none => .no 12
def opMakeInterface (E : Env) (τ : T V) (s : S) (t : Nat) (x : Operand) : XR := match ev τ x, E.und t with
  | some _, some (.interface _) => .no 13
  | some v, some _ => .val (.iface t v) s
  | _, _ => .no 13
def opMakeFunc (τ : T V) (s : S) (fn : Fn) (first cap : Array Operand) : XR := match fn, evs τ first.toList, evs τ cap.toList with
  | .func f, some a, some b => .val (.func (.func f) a b) s
  | _, _, _ => .no 14
def opMakeMap (E : Env) (τ : T V) (s : S) (t : Nat) (r : Option Operand) : XR := match E.und t, optEv τ r with
  | some (.map _ _), some none => s.new (.map [] 0) fun i s' => .val (.map i) s'
  | some (.map _ _), some (some (.int _ _)) => s.new (.map [] 0) fun i s' => .val (.map i) s'
  | _, _ => .no 15
def opMakeSlice (E : Env) (τ : T V) (s : S) (t : Nat) (l c : Operand) : XR := match E.und t, ev τ l, ev τ c with
  | some (.slice e), some (.int .i64 (.ofNat n)), some (.int .i64 (.ofNat m)) => match E.info e with
    | some i => match zeroRow E m e i.size, Nat.ble n m, Nat.ble (Nat.mul i.bytes m) 16777216, Nat.ble m 16777216 with
      | some z, true, true, true => newCells s z e fun i s' => .val (.slice i 0 n (.exact m)) s'
      | _, _, _, _ => .no 16
    | none => .no 16
  | _, _, _ => .no 16
def opSlice (E : Env) (τ : T V) (s : S) (t : Nat) (x : Operand) (lo hi mx : Option Operand) : XR := match ev τ x, optEv τ lo, optEv τ hi, optEv τ mx with
  | some v, some a, some b, some c => doSlice E t v a b c s
  | _, _, _, _ => .no 17
def opFieldAddr (E : Env) (τ : T V) (s : S) (t : Nat) (x : Operand) (f : Nat) : XR := match ev τ x with
  | some v => doFieldAddr E t v f s
  | none => .no 18
def opField (E : Env) (τ : T V) (s : S) (t : Nat) (x : Operand) (f : Nat) : XR := match ev τ x with
  | some v => doField E t v f s
  | none => .no 19
def opIndexAddr (E : Env) (τ : T V) (s : S) (t : Nat) (x ix : Operand) : XR := match ev τ x, ev τ ix with
  | some v, some k => doIndexAddr E t v k s
  | _, _ => .no 20
def opIndex (E : Env) (τ : T V) (s : S) (t : Nat) (x ix : Operand) : XR := match ev τ x, ev τ ix with
  | some v, some k => doIndex E t v k s
  | _, _ => .no 21
def opLookup (E : Env) (τ : T V) (s : S) (t : Nat) (x ix : Operand) (ok : Bool) : XR := match ev τ x, ev τ ix with
  | some v, some k => doLookup E t v k ok s
  | _, _ => .no 22
def opMapUpdate (E : Env) (τ : T V) (s : S) (t : Nat) (m k x : Operand) : XR := match ev τ m, ev τ k, ev τ x with
  | some a, some b, some c => doMapUpdate E t a b c s
  | _, _, _ => .no 23
def opMapEntry (E : Env) (τ : T V) (s : S) (t : Nat) (m k : Operand) : XR := match ev τ m, ev τ k with
  | some a, some b => doMapEntry E t a b s
  | _, _ => .no 24
def opEntryStore (τ : T V) (s : S) (m st x : Operand) : XR := match ev τ m, ev τ st, ev τ x with
  | some a, some b, some c => doEntryStore a b c s
  | _, _, _ => .no 25
def opRange (E : Env) (τ : T V) (s : S) (t : Nat) (x : Operand) : XR := match ev τ x with
  | some v => doRange E t v s
  | none => .no 26
def opNext (τ : T V) (s : S) (it : Operand) (isStr : Bool) : XR := match ev τ it with
  | some v => doNext v isStr s
  | none => .no 27
def opEntry (τ : T V) (s : S) (it : Operand) : XR := match ev τ it with
  | some v => doEntry v s
  | none => .no 28
def opTypeAssert (E : Env) (τ : T V) (s : S) (x : Operand) (asserted : Nat) (ok : Bool) : XR := match ev τ x, E.und asserted with
  | some (.iface _ _), some (.interface _) => .no 29
  | some (.iface t v), some _ => match Nat.beq t asserted, ok with
    | true, true => .val (.tuple [v, .bool true]) s
    | true, false => .val v s
    | _, _ => .no 29
  | _, _ => .no 29
def opExtract (τ : T V) (s : S) (x : Operand) (i : Nat) : XR := match ev τ x with
  | some (.tuple l) => match l[i]? with
    | some v => .val v s
    | none => .no 30
  | _ => .no 30
def callTo (E : Env) (τ : T V) (s : S) (tys : List Nat) (cal : Callee) (l : List V) : XR := match cal with
  | .builtin b => doBuiltin E b tys l s
  | .invoke r name => match ev τ r with
    | some v => doInvoke E v name l s
    | none => .no 31
  | .value f => match ev τ f with
    | some v => doApply E v l s
    | none => .no 32
def opCall (E : Env) (τ : T V) (s : S) (c : Call) : XR := match evs τ c.args.toList with
  | some l => callTo E τ s c.argTypes.toList c.callee l
  | none => .no 33

def doOp (E : Env) (τ : T V) (s : S) (op : Op) : XR := match op with
  | .move x => opMove τ s x
  | .assign x => opMove τ s x
  | .pick c a b => opPick τ s c a b
  | .alloc e => opAlloc E s e
  | .box e x => opBox τ s e x
  | .build t parts => opBuild E τ s t parts
  | .buildSlice t len parts => opBuildSlice E τ s t len parts
  | .load t a => opLoad E τ s t a
  | .store t a x => opStore E τ s t a x
  | .nilCheck x => opNilCheck τ s x
  | .binOp op t x y _ => opBin E τ s op t x y
  | .unOp op _ x => opUn τ s op x
  | .convert src dst x => opConvert E τ s src dst x
  | .makeInterface t x => opMakeInterface E τ s t x
  | .makeFunc fn first cap => opMakeFunc τ s fn first cap
  | .makeMap t r => opMakeMap E τ s t r
  | .makeSlice t l c => opMakeSlice E τ s t l c
  | .slice t x lo hi mx => opSlice E τ s t x lo hi mx
  | .fieldAddr t x f => opFieldAddr E τ s t x f
  | .field t x f => opField E τ s t x f
  | .indexAddr t x ix => opIndexAddr E τ s t x ix
  | .index t x ix => opIndex E τ s t x ix
  | .lookup t x ix ok => opLookup E τ s t x ix ok
  | .mapUpdate t m k x => opMapUpdate E τ s t m k x
  | .insert t m k x => opMapUpdate E τ s t m k x
  | .mapEntry t m k => opMapEntry E τ s t m k
  | .entryStore _ m st x => opEntryStore τ s m st x
  | .range t x => opRange E τ s t x
  | .next it isStr => opNext τ s it isStr
  | .entry it => opEntry τ s it
  | .typeAssert x _ asserted ok => opTypeAssert E τ s x asserted ok
  | .extract x i => opExtract τ s x i
  | .call c => opCall E τ s c
  | _ => .no 34

/-! ## A function's frame -/
def tmpsOf : List Operand → List Nat
  | [] => []
  | .tmp t :: rest => t :: tmpsOf rest
  | _ :: rest => tmpsOf rest

def putDst {β : Type} (fr : Fr) (τ : T V) (d : Option Nat) (v : V) (bad : β) (c : T V → β) : β := match d with
  | none => c τ
  | some d => match Nat.blt d fr.nt with
    | true => T.put τ d (some v) c
    | false => bad

/-- Is an operation wanted? none: it cannot be told. -/
def wantedX (o : Oper) (all : List Oper) (τ : T V) : Option Bool := match o.guard with
  | none => some true
  | some (j, want) => match all[j]? with
    | some q => match q.dst with
      | some d => match τ.get d with
        | some (.bool b) => some (match b, want with | true, true => true | false, false => true | _, _ => false)
        | some (.tuple []) => some false
        | _ => none
      | none => none
    | none => none

def layArgs {β : Type} : List V → Nat → T V → (T V → β) → β := layCells

def resultsX (E : Env) (τ : T V) (s : S) : List ResultVar → Option (List V)
  | [] => some []
  | .tmp t :: rest => match τ.get t, resultsX E τ s rest with
    | some v, some l => some (v :: l)
    | _, _ => none
  | .cell a t :: rest => match τ.get a with
    | some p => match doLoad E t p s, resultsX E τ s rest with
      | .val v _, some l => some (v :: l)
      | _, _ => none
    | none => none

def oneOf (l : List V) : V := match l with
  | [v] => v
  | l => .tuple l

/-- The marks of ranges over functions among the deferred calls are taken. -/
def takeMarks {β : Type} : List Nat → S → (S → β) → β → β
  | [], s, c, _ => c s
  | m :: ms, s, c, bad => match s.heap.get m with
    | some .mark => T.put s.heap m none fun h => takeMarks ms ⟨h, s.next⟩ c bad
    | _ => bad

def S.new' {β : Type} (s : S) (o : Obj) (c : Nat → S → β) : β :=
  T.put s.heap s.next (some o) fun h => forceN (Nat.succ s.next) fun n => c s.next ⟨h, n⟩

def S.set' {β : Type} (s : S) (i : Nat) (o : Obj) (c : S → β) : β := T.put s.heap i (some o) fun h => c ⟨h, s.next⟩

def putParams {β : Type} (nt : Nat) : List Nat → List V → T V → (T V → β) → β → β
  | [], [], t, c, _ => c t
  | p :: ps, v :: vs, t, c, bad => match Nat.blt p nt with
    | true => T.put t p (some v) fun t' => putParams nt ps vs t' c bad
    | false => bad
  | _, _, _, _, bad => bad

abbrev Ih := Task → Out

def opsRest (ih : Ih) (rest all : List Oper) (fr : Fr) (τ : T V) (ms : List Nat) (d : Option Nat) (v : V) (s : S) : Out :=
  putDst fr τ d v (.no 902) fun τ' => ih (.ops rest all fr τ' ms s)

def opsBack (ih : Ih) (rest all : List Oper) (fr : Fr) (τ : T V) (ms : List Nat) (d : Option Nat) (r : Out) : Out := match r with
  | .val v s => opsRest ih rest all fr τ ms d v s
  | .no w => .no w
  | .code .. => .no 903

def opsOn (ih : Ih) (rest all : List Oper) (fr : Fr) (τ : T V) (ms : List Nat) (d : Option Nat) (r : XR) : Out := match r with
  | .val v s => opsRest ih rest all fr τ ms d v s
  | .skip s => opsRest ih rest all fr τ ms d (.tuple []) s
  | .enter f args s => opsBack ih rest all fr τ ms d (ih (.call f args s))
  | .round l args s => opsBack ih rest all fr τ ms d (ih (.round l args s))
  | .no w => .no w

def stepOps (E : Env) (ih : Ih) (l all : List Oper) (fr : Fr) (τ : T V) (ms : List Nat) (s : S) : Out := match l with
  | [] => .code .norm τ ms s
  | o :: rest => match wantedX o all τ with
    | none => .no 901
    | some false => opsRest ih rest all fr τ ms o.dst (.tuple []) s
    | some true => opsOn ih rest all fr τ ms o.dst (doOp E τ s o.op)

def giveX (E : Env) (results : List ResultVar) (τ : T V) (s : S) : Out := match resultsX E τ s results with
  | some l => .val (oneOf l) s
  | none => .no 906

def leaveX (E : Env) (results : List ResultVar) (τ : T V) (ms : List Nat) (s : S) : Out := takeMarks ms s (giveX E results τ) (.no 905)

def callBack (E : Env) (results : List ResultVar) (r : Out) : Out := match r with
  | .code .norm τ ms s => leaveX E results τ ms s
  | .code .ret τ ms s => leaveX E results τ ms s
  | .no w => .no w
  | _ => .no 907

def stepCall (E : Env) (ih : Ih) (f : Nat) (args : List V) (s : S) : Out := match E.funcs.get f with
  | some fn => match fn.body, Nat.ble args.length fn.ntmps with
    | some c, true => layArgs args 0 .leaf fun τ => callBack E fn.results.toList (ih (.code c ⟨f, fn.ntmps, none⟩ τ [] s))
    | _, _ => .no 909
  | none => .no 910

def setLoop (s : S) (l : Nat) (st : LoopState) (pend : Option Code) (c : S → Out) : Out := match s.heap.get l with
  | some (.loop _ _ f τ nt ps asg body dm) => s.set' l (.loop st pend f τ nt ps asg body dm) c
  | _ => .no 911

def roundEnd (l : Nat) (r : Out) : Out := match r with
  | .code .norm _ [] s => setLoop s l .ready none fun s' => .val (.bool true) s'
  | .code .ret _ [] s => setLoop s l .done (some .ret) fun s' => .val (.bool false) s'
  | .code (.exit id) _ [] s => setLoop s l .done (some (.exit id)) fun s' => .val (.bool false) s'
  | .no w => .no w
  | _ => .no 912

def roundBody (ih : Ih) (l : Nat) (fr : Fr) (body : Code) (r : Out) : Out := match r with
  | .code .norm τ [] s => match s.heap.get l with
    | some (.loop .ready pend _ _ _ _ _ _ _) => setLoop s l .busy pend fun s' => roundEnd l (ih (.code body fr τ [] s'))
    | _ => .no 913
  | .no w => .no w
  | _ => .no 914

def stepRound (ih : Ih) (l : Nat) (args : List V) (s : S) : Out := match s.heap.get l with
  | some (.loop .ready _ f τ nt ps asg body _) =>
    putParams nt ps args τ (fun τ' => roundBody ih l ⟨f, nt, some l⟩ body (ih (.code asg ⟨f, nt, some l⟩ τ' [] s))) (.no 915)
  | _ => .no 917

def thenX (ih : Ih) (b : Code) (fr : Fr) (r : Out) : Out := match r with
  | .code .norm τ ms s => ih (.code b fr τ ms s)
  | r => r

def blockX (id : Nat) (r : Out) : Out := match r with
  | .code (.exit j) τ ms s => match Nat.beq j id with
    | true => .code .norm τ ms s
    | false => .code (.exit j) τ ms s
  | r => r

def condX (ih : Ih) (a b : Code) (fr : Fr) (τ : T V) (ms : List Nat) (s : S) (x : Option V) : Out := match x with
  | some (.bool true) => ih (.code a fr τ ms s)
  | some (.bool false) => ih (.code b fr τ ms s)
  | _ => .no 920

def jumpX (τ : T V) (ms : List Nat) (pend : Option Code) (s : S) : Out := match pend with
  | none => .code .norm τ ms s
  | some .ret => .code .ret τ ms s
  | some (.exit id) => .code (.exit id) τ ms s
  | _ => .no 922

def rangeEnd (τ : T V) (ms : List Nat) (l : Nat) (r : Out) : Out := match r with
  | .val _ s => match s.heap.get l with
    | some (.loop .busy _ _ _ _ _ _ _ _) => .no 921
    | some (.loop _ pend _ _ _ _ _ _ _) => setLoop s l .exhausted pend (jumpX τ ms pend)
    | _ => .no 923
  | .no w => .no w
  | _ => .no 924

def rangeCallX (ih : Ih) (τ : T V) (ms : List Nat) (l : Nat) (r : XR) : Out := match r with
  | .enter f args s => rangeEnd τ ms l (ih (.call f args s))
  | .no w => .no w
  | _ => .no 925

def rangeGo (E : Env) (ih : Ih) (fv : V) (ps : List Nat) (asg body : Code) (fr : Fr) (τ : T V) (dm : Nat) (ms : List Nat) (s : S) : Out :=
  s.new' (.loop .ready none fr.fn τ fr.nt ps asg body dm) fun l s' => rangeCallX ih τ ms l (doApply E fv [.yield l] s')

def rangeX (E : Env) (ih : Ih) (g : Operand) (ps : Array Tmp) (asg body : Code) (fr : Fr) (τ : T V) (ms : List Nat) (s : S) : Out := match ev τ g with
  | some fv => match fr.round with
    | none => s.new' .mark fun m s' => rangeGo E ih fv ps.toList asg body fr τ m (m :: ms) s'
    | some l => match s.heap.get l with
      | some (.loop _ _ _ _ _ _ _ _ dm) => rangeGo E ih fv ps.toList asg body fr τ dm ms s
      | _ => .no 926
  | none => .no 927

/-! ## Regions that draw their order -/
inductive Cls where
  | chain
  | alloc
  | load
  | pure

def clsLen (E : Env) (tys : List Nat) : Cls := match tys with
  | t :: _ => match E.und t with
    | some .string => .pure
    | some (.slice _) => .pure
    | some (.array _ _) => .pure
    | some (.pointer _) => .pure
    | _ => .chain
  | [] => .chain

def clsCall (E : Env) (c : Call) : Cls := match c.callee with
  | .builtin .min => .pure
  | .builtin .max => .pure
  | .builtin .len => clsLen E c.argTypes.toList
  | .builtin .cap => clsLen E c.argTypes.toList
  | _ => .chain

def clsSlice (E : Env) (t : Nat) : Cls := match E.und t with
  | some .string => .pure
  | some (.slice _) => .pure
  | _ => .chain

def clsOf (E : Env) (op : Op) : Cls := match op with
  | .move _ => .pure
  | .assign _ => .pure
  | .pick _ _ _ => .pure
  | .alloc _ => .alloc
  | .box _ _ => .alloc
  | .build _ _ => .pure
  | .buildSlice _ _ _ => .alloc
  | .load _ _ => .load
  | .nilCheck _ => .pure
  | .binOp _ _ _ _ _ => .pure
  | .unOp _ _ _ => .pure
  | .convert _ _ _ => .pure
  | .makeInterface _ _ => .pure
  | .makeFunc _ _ _ => .pure
  | .makeMap _ _ => .alloc
  | .makeSlice _ _ _ => .alloc
  | .slice t _ _ _ _ => clsSlice E t
  | .fieldAddr _ _ _ => .pure
  | .field _ _ _ => .pure
  | .indexAddr _ _ _ => .pure
  | .index _ _ _ => .pure
  | .typeAssert _ _ _ _ => .pure
  | .extract _ _ => .pure
  | .call c => clsCall E c
  | _ => .chain

structure Rec where
  o : Oper
  c : Cls
  idle : Bool
  τo : T V
  v : V
  s : S
  s' : S

/-- The temporaries that an operation looks at. -/
def looks (all : List Oper) (o : Oper) : List Nat :=
  match o.guard with
  | none => tmpsOf o.op.operands.toList
  | some (g, _) => match all[g]? with
    | some q => match q.dst with
      | some d => d :: tmpsOf o.op.operands.toList
      | none => tmpsOf o.op.operands.toList
    | none => tmpsOf o.op.operands.toList

def restrict {β : Type} (τ : T V) : List Nat → T V → (T V → β) → β
  | [], acc, c => c acc
  | t :: ts, acc, c => match τ.get t with
    | some x => T.put acc t (some x) fun acc' => restrict τ ts acc' c
    | none => restrict τ ts acc c

mutual
/-- No number of an object from n on stands in a value. -/
def belowV (n : Nat) : Nat → V → Bool
  | 0, _ => false
  | d + 1, v => match v with
    | .ptr i _ => Nat.blt i n
    | .slice i _ _ _ => Nat.blt i n
    | .map i => Nat.blt i n
    | .yield i => Nat.blt i n
    | .func _ f c => match belowVs n d f with
      | true => belowVs n d c
      | false => false
    | .iface _ x => belowV n d x
    | .agg l => belowVs n d l
    | .tuple l => belowVs n d l
    | _ => true
def belowVs (n : Nat) : Nat → List V → Bool
  | 0, _ => false
  | d + 1, l => match l with
    | [] => true
    | x :: rest => match belowV n d x with
      | true => belowVs n d rest
      | false => false
end

def belowT (n : Nat) (τ : T V) : List Nat → Bool
  | [] => true
  | t :: ts => match τ.get t with
    | some x => match belowV n 4000 x with
      | true => belowT n τ ts
      | false => false
    | none => belowT n τ ts

def putObjs {β : Type} (h : T Obj) : Nat → Nat → T Obj → (T Obj → β) → β
  | 0, _, b, c => c b
  | k + 1, i, b, c => T.put b i (h.get i) fun b' => forceN (Nat.succ i) fun i' => putObjs h k i' b' c

def huge : Nat := 4611686018427387904

def valOf (r : XR) (ih : Ih) : Out := match r with
  | .val v s => .val v s
  | .skip s => .val (.tuple []) s
  | .enter f args s => ih (.call f args s)
  | .round l args s => ih (.round l args s)
  | .no w => .no w

/-- One operation, whole. -/
def execX (E : Env) (ih : Ih) (τ : T V) (s : S) (op : Op) : Out := valOf (doOp E τ s op) ih

def drawNext (fr : Fr) (o : Oper) (c : Cls) (idle : Bool) (τ τo : T V) (v : V) (s s' : S) (acc : List Rec) (k : T V → S → List Rec → Out) : Out := match Nat.ble s.next s'.next with
  | true => putDst fr τ o.dst v (.no 951) fun τ' => k τ' s' (⟨o, c, idle, τo, v, s, s'⟩ :: acc)
  | false => .no 952

def drawPure (fr : Fr) (o : Oper) (τ τo : T V) (s : S) (acc : List Rec) (k : T V → S → List Rec → Out) (r : Out) : Out := match r with
  | .val v s' => match Nat.beq s'.next huge with
    | true => drawNext fr o .pure false τ τo v s s acc k
    | false => .no 953
  | .no w => .no w
  | _ => .no 954

def drawLoad (fr : Fr) (o : Oper) (τ τo : T V) (s : S) (acc : List Rec) (k : T V → S → List Rec → Out) (r : Out) : Out := match r with
  | .val v _ => drawNext fr o .load false τ τo v s s acc k
  | .no w => .no w
  | _ => .no 954

def drawAlloc (fr : Fr) (o : Oper) (τ τo : T V) (s : S) (acc : List Rec) (k : T V → S → List Rec → Out) (r : Out) : Out := match r with
  | .val v s₁ => putObjs s₁.heap (Nat.sub s₁.next s.next) s.next s.heap fun h => drawNext fr o .alloc false τ τo v s ⟨h, s₁.next⟩ acc k
  | .no w => .no w
  | _ => .no 954

def drawChain (fr : Fr) (o : Oper) (τ τo : T V) (s : S) (acc : List Rec) (k : T V → S → List Rec → Out) (r : Out) : Out := match r with
  | .val v s' => drawNext fr o .chain false τ τo v s s' acc k
  | .no w => .no w
  | _ => .no 954

def drawOp (E : Env) (ih : Ih) (fr : Fr) (all : List Oper) (o : Oper) (τ τo : T V) (s : S) (acc : List Rec) (k : T V → S → List Rec → Out) : Out := match clsOf E o.op with
  | .pure => drawPure fr o τ τo s acc k (execX E ih τo ⟨.leaf, huge⟩ o.op)
  | .load => drawLoad fr o τ τo s acc k (execX E ih τo s o.op)
  | .alloc => match belowT s.next τo (looks all o) with
    | true => drawAlloc fr o τ τo s acc k (execX E ih τo ⟨.leaf, s.next⟩ o.op)
    | false => .no 955
  | .chain => match belowT s.next τo (looks all o) with
    | true => drawChain fr o τ τo s acc k (execX E ih τo s o.op)
    | false => .no 955

def drawGo (E : Env) (ih : Ih) (fr : Fr) (all : List Oper) : List Oper → T V → S → List Rec → (T V → S → List Rec → Out) → Out
  | [], τ, s, acc, k => k τ s acc
  | o :: rest, τ, s, acc, k => restrict τ (looks all o) .leaf fun τo => match wantedX o all τo with
    | none => .no 956
    | some false => drawNext fr o (clsOf E o.op) true τ τo (.tuple []) s s acc fun τ' s' acc' => drawGo E ih fr all rest τ' s' acc' k
    | some true => drawOp E ih fr all o τ τo s acc fun τ' s' acc' => drawGo E ih fr all rest τ' s' acc' k

/-! ### What is looked at once -/
def edgeMask : List Edge → List Nat → Nat → Nat
  | [], _, m => m
  | e :: es, ms, m => match Region.binds .any e with
    | true => edgeMask es ms (Nat.lor m (Nat.lor (Nat.pow 2 e.on) (ms.getD e.on 0)))
    | false => edgeMask es ms m

/-- For each operation, those that must stand before it, as bits. -/
def masksGo : List Oper → List Nat → List Nat
  | [], ms => ms
  | o :: rest, ms => forceN (edgeMask o.after.toList ms 0) fun m => masksGo rest (ms ++ [m])

def masks (all : List Oper) : List Nat := masksGo all []

def bef (ms : List Nat) (i j : Nat) : Bool := Nat.testBit (ms.getD i 0) j

def backB : List Edge → Nat → Bool
  | [], _ => true
  | e :: es, i => match Region.binds .any e with
    | true => match Nat.blt e.on i with
      | true => backB es i
      | false => false
    | false => backB es i

/-- Of the operation i and the operation j, with j's destination, i's looks. -/
def pairB (E : Env) (all : List Oper) (ms : List Nat) (oi oj : Oper) (i j : Nat) : Bool :=
  (match oj.dst with
   | none => true
   | some d => (match Nat.beq i j with
     | true => true
     | false => (match seenB d (looks all oi) with
       | false => true
       | true => (match Nat.blt j i with | true => bef ms i j | false => bef ms j i)) &&
       (match oi.dst with | some d' => !Nat.beq d d' | none => true))) &&
  (match clsOf E oi.op with
   | .chain => (match Nat.blt j i with
     | false => true
     | true => (match clsOf E oj.op with
       | .chain => bef ms i j
       | .alloc => bef ms i j
       | _ => true))
   | _ => true)

def rowB (E : Env) (all : List Oper) (ms : List Nat) (oi : Oper) (i : Nat) : List Oper → Nat → Bool
  | [], _ => true
  | oj :: rest, j => match pairB E all ms oi oj i j with
    | true => rowB E all ms oi i rest (Nat.succ j)
    | false => false

def staticGo (E : Env) (all : List Oper) (ms : List Nat) : List Oper → Nat → Bool
  | [], _ => true
  | oi :: rest, i => match backB oi.after.toList i with
    | true => match rowB E all ms oi i all 0 with
      | true => staticGo E all ms rest (Nat.succ i)
      | false => false
    | false => false

def staticB (E : Env) (all : List Oper) : Bool := staticGo E all (masks all) all 0

/-! ### What is looked at again -/
def beqCap : Cap → Cap → Bool
  | .exact a, .exact b => Nat.beq a b
  | .room a b, .room c d => match Nat.beq a c with
    | true => Nat.beq b d
    | false => false
  | _, _ => false

def beqNs : List Nat → List Nat → Bool
  | [], [] => true
  | a :: l, b :: m => match Nat.beq a b with
    | true => beqNs l m
    | false => false
  | _, _ => false

mutual
def beqV : Nat → V → V → Bool
  | 0, _, _ => false
  | d + 1, x, y => match x, y with
    | .bool a, .bool b => (match a, b with | true, true => true | false, false => true | _, _ => false)
    | .int j a, .int k b => (match decide (j = k) with | true => decide (a = b) | false => false)
    | .str l, .str m => beqNs l m
    | .nilp, .nilp => true
    | .ptr i o, .ptr j p => (match Nat.beq i j with | true => Nat.beq o p | false => false)
    | .gptr i o, .gptr j p => (match Nat.beq i j with | true => Nat.beq o p | false => false)
    | .nils, .nils => true
    | .emp, .emp => true
    | .nilm, .nilm => true
    | .nilf, .nilf => true
    | .nili, .nili => true
    | .map i, .map j => Nat.beq i j
    | .slice i o n c, .slice j p m e => (match Nat.beq i j with
      | true => match Nat.beq o p with
        | true => match Nat.beq n m with
          | true => beqCap c e
          | false => false
        | false => false
      | false => false)
    | .iface t a, .iface u b => (match Nat.beq t u with | true => beqV d a b | false => false)
    | .agg l, .agg m => beqVs d l m
    | .tuple l, .tuple m => beqVs d l m
    | _, _ => false
def beqVs : Nat → List V → List V → Bool
  | 0, _, _ => false
  | d + 1, l, m => match l, m with
    | [], [] => true
    | x :: l, y :: m => (match beqV d x y with | true => beqVs d l m | false => false)
    | _, _ => false
end

/-- May the operation i stand at the place p: behind the chain's operations before p, ahead of the others? -/
def fitsB (ms : List Nat) (i p : Nat) : List Rec → Nat → Bool
  | [], _ => true
  | r :: rest, j => match r.c with
    | .chain => (match Nat.blt j p with
      | true => (match bef ms j i with | true => false | false => fitsB ms i p rest (Nat.succ j))
      | false => (match bef ms i j with | true => false | false => fitsB ms i p rest (Nat.succ j)))
    | _ => fitsB ms i p rest (Nat.succ j)

/-- The heap at the place p, with what the operation i waits for. -/
def heapAt {β : Type} (ms : List Nat) (i p : Nat) : List Rec → Nat → T Obj → (T Obj → β) → β
  | [], _, h, c => c h
  | r :: rest, j, h, c => match r.c with
    | .alloc => (match Nat.ble p j with
      | true => (match bef ms i j with
        | true => putObjs r.s'.heap (Nat.sub r.s'.next r.s.next) r.s.next h fun h' => heapAt ms i p rest (Nat.succ j) h' c
        | false => heapAt ms i p rest (Nat.succ j) h c)
      | false => heapAt ms i p rest (Nat.succ j) h c)
    | _ => heapAt ms i p rest (Nat.succ j) h c

def sameLoad (E : Env) (r : Rec) (h : T Obj) : Bool := match doOp E r.τo ⟨h, huge⟩ r.o.op with
  | .val v _ => beqV 4000 r.v v
  | _ => false

def loadAtB (E : Env) (ms : List Nat) (recs : List Rec) (r : Rec) (i p : Nat) (h : T Obj) : Bool := match fitsB ms i p recs 0 with
  | false => true
  | true => heapAt ms i p recs 0 h (sameLoad E r)

/-- At every place behind an operation of the chain. -/
def loadPlaces (E : Env) (ms : List Nat) (recs : List Rec) (r : Rec) (i : Nat) : List Rec → Nat → Bool
  | [], _ => true
  | q :: rest, j => match q.c with
    | .chain => (match loadAtB E ms recs r i (Nat.succ j) q.s'.heap with
      | true => loadPlaces E ms recs r i rest (Nat.succ j)
      | false => false)
    | _ => loadPlaces E ms recs r i rest (Nat.succ j)

def loadsB (E : Env) (ms : List Nat) (recs : List Rec) (h₀ : T Obj) : List Rec → Nat → Bool
  | [], _ => true
  | r :: rest, i => match r.c, r.idle with
    | .load, false => (match loadAtB E ms recs r i 0 h₀ with
      | true => (match loadPlaces E ms recs r i recs 0 with
        | true => loadsB E ms recs h₀ rest (Nat.succ i)
        | false => false)
      | false => false)
    | _, _ => loadsB E ms recs h₀ rest (Nat.succ i)

def drawEnd (E : Env) (all : List Oper) (ms : List Nat) (s₀ : S) (τ : T V) (s : S) (acc : List Rec) : Out := match loadsB E (masks all) acc.reverse s₀.heap acc.reverse 0 with
  | true => (match Nat.ble s.next huge with
    | true => .code .norm τ ms s
    | false => .no 957)
  | false => .no 958

def drawX (E : Env) (ih : Ih) (all : List Oper) (fr : Fr) (τ : T V) (ms : List Nat) (s : S) : Out := match staticB E all with
  | true => drawGo E ih fr all all τ s [] (drawEnd E all ms s)
  | false => .no 959

def regionX (E : Env) (ih : Ih) (ops : Array Oper) (draw : Bool) (fr : Fr) (τ : T V) (ms : List Nat) (s : S) : Out := match draw with
  | false => ih (.ops ops.toList ops.toList fr τ ms s)
  | true => drawX E ih ops.toList fr τ ms s

def stepCode (E : Env) (ih : Ih) (c : Code) (fr : Fr) (τ : T V) (ms : List Nat) (s : S) : Out := match c with
  | .skip => .code .norm τ ms s
  | .label _ => .code .norm τ ms s
  | .region _ ops draw => regionX E ih ops draw fr τ ms s
  | .seq a b => thenX ih b fr (ih (.code a fr τ ms s))
  | .cond x a b => condX ih a b fr τ ms s (ev τ x)
  | .block id b => blockX id (ih (.code b fr τ ms s))
  | .loop b => thenX ih (.loop b) fr (ih (.code b fr τ ms s))
  | .scope _ => .no 932
  | .exit id => .code (.exit id) τ ms s
  | .ret => .code .ret τ ms s
  | .rangeFunc g ps asg body => rangeX E ih g ps asg body fr τ ms s
  | .goto _ => .no 930
  | .refuse _ => .no 931

def stepTask (E : Env) (ih : Ih) (task : Task) : Out := match task with
  | .code c fr τ ms s => stepCode E ih c fr τ ms s
  | .ops l all fr τ ms s => stepOps E ih l all fr τ ms s
  | .call f args s => stepCall E ih f args s
  | .round l args s => stepRound ih l args s

/-- A task, with so many steps down at most. -/
def run (E : Env) (n : Nat) : Ih := Nat.rec (motive := fun _ => Ih) (fun _ => .no 900) (fun _ ih => stepTask E ih) n
end
end Go.X
