/- The frames first part: abstract values, an abstract heap, and a predicate transformer over the programs code. Plain definitions, no proof about the machine. -/
import Derived.CallsIn
import Derived.OrdersIn

namespace Pv
open Go

/-- Abstract values. agg: a structs fields. arr n xs: an array of n elements of one cell each, nothing in it but data. list: a slice as what it holds, never written again. sl: elements i .. i+n of row h. sla: n elements, from j on, of the array at a path in element i of block h. ptr: the part at a path of element i of block h. vptr: the part at a path of a value that is never written again. dmap: a map as what it holds, entries .tup [key, value] in the order in which they came, never written again. ty, et: types of elements. -/
inductive PV where
  | undef
  | bool (b : Bool)
  | int (k : IntKind) (n : Int)
  | str (s : ByteArray)
  | agg (fs : List PV)
  | arr (n : Nat) (xs : List PV)
  | tup (vs : List PV)
  | list (ty : Nat) (xs : List PV)
  | nilsl
  | sl (h ty i n : Nat)
  | sla (h ty i : Nat) (path : List Nat) (et j n : Nat)
  | ptr (h ty i : Nat) (path : List Nat)
  | vptr (ty : Nat) (x : PV) (path : List Nat)
  | nilp
  | mapr (h : Nat)
  | dmap (kt et : Nat) (en : List PV)
  | nilm
  | fn (f : FuncId) (caps : List PV)
  | nilf
  deriving Inhabited

/-- Blocks: a row of elements; a variable; a map; a walk through a map, with the entries that are left, and the one that came last. -/
inductive Blk where
  | gone
  | row (live : Bool) (ty : Nat) (xs : List PV)
  | box (live : Bool) (ty : Nat) (x : PV)
  | map (live : Bool) (kt et : Nat) (en : List PV)
  | iter (live : Bool) (kt et : Nat) (rest : List PV) (cur : PV)
  deriving Inhabited

abbrev Heap := Nat → Blk

def hp (l : List Blk) : Heap := fun h => l.getD h .gone
def upd (L : Heap) (h : Nat) (b : Blk) : Heap := fun x => cond (Nat.beq x h) b (L x)
def upds (L : Heap) : List (Nat × Blk) → Heap
  | [] => L
  | (h, b) :: r => upds (upd L h b) r

/-- Kinds of types, as the operations ask for them. struct: each fields place and type. -/
inductive Kd where
  | int (k : IntKind)
  | bool
  | str
  | slice (e : Nat)
  | struct (fs : List (Nat × Nat))
  | array (n e : Nat)
  | ptr (e : Nat)
  | map (k e : Nat)
  | func
  | other
  deriving Inhabited, DecidableEq

structure Ti where
  kd : Kd
  size : Nat
  bytes : Nat
  zero : PV
  /-- where == goes cell by cell, over whole numbers, bools and strings: the cells types; nothing elsewhere -/
  eqL : List Kd
  deriving Inhabited

abbrev Tab := List Ti
def Tab.at (T : Tab) (t : Nat) : Ti := T.getD t ⟨.other, 0, 0, .undef, []⟩

def Kd.isAgg : Kd → Bool
  | .struct _ | .array _ _ => true
  | _ => false

mutual
/-- The cells of a value. -/
def flat : PV → List PV
  | .agg fs => flats fs
  | .arr _ xs => xs
  | x => [x]
def flats : List PV → List PV
  | [] => []
  | x :: r => flat x ++ flats r
end

def isAggV : PV → Bool
  | .agg _ | .arr _ _ => true
  | _ => false

def Kd.isOther : Kd → Bool
  | .other => true
  | _ => false

/-- A cell that may stand in memory. -/
def cellC : PV → Bool
  | .undef | .agg _ | .arr _ _ | .tup _ => false
  | _ => true

mutual
/-- Has a value the shape of a types values? -/
def fits (T : Tab) (t : Nat) : PV → Bool
  | .agg fs => match (T.at t).kd with
    | .struct l => fitsL T (l.map (·.2)) fs
    | _ => false
  | .arr n _ => match (T.at t).kd with
    | .array n' e => Nat.beq n n' && Nat.beq (T.at e).size 1 && !(T.at e).kd.isAgg && !(T.at e).kd.isOther
    | _ => false
  | .undef => false
  | .tup _ => false
  | _ => !(T.at t).kd.isAgg && !(T.at t).kd.isOther
def fitsL (T : Tab) : List Nat → List PV → Bool
  | [], [] => true
  | t :: ts, x :: xs => fits T t x && fitsL T ts xs
  | _, _ => false
end

/-- Are the places of a structs fields those of the text, one behind the other? -/
def placesOk (T : Tab) : Nat → List (Nat × Nat) → Nat → Bool
  | acc, [], n => Nat.beq acc n
  | acc, (o, ft) :: r, n => Nat.beq o acc && placesOk T (acc + (T.at ft).size) r n
def sizeOk (T : Tab) (ti : Ti) : Bool :=
  match ti.kd with
  | .other => true
  | .struct l => placesOk T 0 l ti.size
  | .array n e => Nat.beq ti.size (n * (T.at e).size)
  | _ => Nat.beq ti.size 1
def tabSized (T : Tab) : Bool := T.all (sizeOk T)

/-- A constant of the text. -/
def ofValue : Value → PV
  | .bool b => .bool b
  | .int k n => .int k n
  | .string s => .str s
  | .slice none 0 0 => .nilsl
  | .pointer none => .nilp
  | .map none => .nilm
  | .nilFunc => .nilf
  | _ => .undef

structure St where
  t : List PV
  L : Heap
  nx : Nat

/-- Package variables that nobody writes: their type, and what they hold. -/
abbrev Globs := Nat → Option (Nat × PV)

def St.ev (Γ : Globs) (t : List PV) : Operand → PV
  | .tmp n => t.getD n .undef
  | .const v => ofValue v
  | .func f => .fn f []
  | .global g => match Γ g with | some (ty, x) => .vptr ty x [] | none => .undef

def putD (t : List PV) (d : Option Nat) (v : PV) : List PV :=
  match d with
  | some d => t.set d v
  | none => t

/-- A cell that is data alone: nothing in it that a renaming of blocks would turn. -/
def pureC : PV → Prop
  | .bool _ | .int _ _ | .str _ | .list _ _ | .dmap _ _ _ | .nilp | .nilm | .nilf | .nilsl | .vptr _ _ _ => True
  | .fn _ [] => True
  | _ => False

def pureV (x : PV) : Prop := ∀ c ∈ flat x, pureC c

/-- An element that may come into a row of a type. -/
def elemOk (T : Tab) (ty : Nat) (x : PV) : Prop := fits T ty x = true ∧ pureV x

/-- Asked where it cannot be seen at once. -/
def elemOkK (T : Tab) (ty : Nat) (x : PV) (K : Prop) : Prop :=
  match x with
  | .int k n => cond (fits T ty (.int k n)) K False
  | .bool b => cond (fits T ty (.bool b)) K False
  | .str s => cond (fits T ty (.str s)) K False
  | x => elemOk T ty x ∧ K
def elemsOkK (T : Tab) (ty : Nat) : List PV → Prop → Prop
  | [], K => K
  | x :: r, K => elemOkK T ty x (elemsOkK T ty r K)
def pureVK (x : PV) (K : Prop) : Prop :=
  match x with
  | .int _ _ | .bool _ | .str _ => K
  | x => pureV x ∧ K

theorem elemOkK_spec {T : Tab} {ty : Nat} {x : PV} {K : Prop} (h : elemOkK T ty x K) : elemOk T ty x ∧ K := by
  have c : ∀ {b : Bool} {p : Prop}, cond b p False → b = true ∧ p := fun {b p} h => by cases b with
    | true => exact ⟨rfl, h⟩
    | false => exact h.elim
  cases x <;> first | exact h | (obtain ⟨h1, h2⟩ := c h; exact ⟨⟨h1, fun y hy => by simp only [flat, List.mem_singleton] at hy; subst hy; trivial⟩, h2⟩)
theorem elemsOkK_spec {T : Tab} {ty : Nat} : ∀ {l : List PV} {K : Prop}, elemsOkK T ty l K → (∀ x ∈ l, elemOk T ty x) ∧ K
  | [], _, h => ⟨fun x hx => by simp at hx, h⟩
  | x :: r, K, h => by
    obtain ⟨h1, h2⟩ := elemOkK_spec h
    obtain ⟨h3, h4⟩ := elemsOkK_spec h2
    exact ⟨fun y hy => by rcases List.mem_cons.1 hy with e | hy; exact e ▸ h1; exact h3 y hy, h4⟩
theorem pureVK_spec {x : PV} {K : Prop} (h : pureVK x K) : pureV x ∧ K := by
  cases x <;> first | exact h | exact ⟨fun y hy => by simp only [flat, List.mem_singleton] at hy; subst hy; trivial, h⟩

def asIntK (k : IntKind) (x : PV) (K : Int → Prop) : Prop :=
  match x with
  | .int k' n => cond (decide (k = k')) (K n) False
  | _ => False
def asBoolK (x : PV) (K : Bool → Prop) : Prop :=
  match x with
  | .bool b => K b
  | _ => False
def asStrK (x : PV) (K : ByteArray → Prop) : Prop :=
  match x with
  | .str s => K s
  | _ => False
def asListK (ty : Nat) (x : PV) (K : List PV → Prop) : Prop :=
  match x with
  | .list ty' xs => cond (Nat.beq ty' ty) (K xs) False
  | _ => False
def asAggK (x : PV) (K : List PV → Prop) : Prop :=
  match x with
  | .agg fs => K fs
  | _ => False
def asArrK (n : Nat) (x : PV) (K : List PV → Prop) : Prop :=
  match x with
  | .arr n' xs => cond (Nat.beq n' n) (K xs) False
  | _ => False
def consK (l : List PV) (K : PV → List PV → Prop) : Prop :=
  match l with
  | a :: r => K a r
  | [] => False
def nilK (l : List PV) (K : Prop) : Prop :=
  match l with
  | [] => K
  | _ :: _ => False

def elemAt {α : Type} (xs : List α) (i : Nat) (K : α → Prop) : Prop :=
  match xs[i]? with
  | some x => K x
  | none => False

/-- A part of a struct or an array. -/
def fieldK (x : PV) (j : Nat) (K : PV → Prop) : Prop :=
  match x with
  | .agg fs => elemAt fs j K
  | .arr _ xs => elemAt xs j K
  | _ => False
def subK (x : PV) : List Nat → (PV → Prop) → Prop
  | [], K => K x
  | j :: p, K => fieldK x j fun y => subK y p K

/-- The type of the part at a path. -/
def tyAt (T : Tab) (ty : Nat) : List Nat → Option Nat
  | [] => some ty
  | j :: p => match (T.at ty).kd with
    | .struct fs => match fs[j]? with
      | some (_, ft) => tyAt T ft p
      | none => none
    | .array _ e => tyAt T e p
    | _ => none
/-- The first cell of the part at a path. -/
def offAt (T : Tab) (ty : Nat) : List Nat → Nat
  | [] => 0
  | j :: p => match (T.at ty).kd with
    | .struct fs => match fs[j]? with
      | some (o, ft) => o + offAt T ft p
      | none => 0
    | .array _ e => j * (T.at e).size + offAt T e p
    | _ => 0

/-- Does a path lead through an array? -/
def arrPath (T : Tab) (ty : Nat) : List Nat → Bool
  | [] => false
  | j :: p => match (T.at ty).kd with
    | .struct fs => match fs[j]? with
      | some (_, ft) => arrPath T ft p
      | none => false
    | _ => true

def fieldsK (f : Nat → PV → (PV → Prop) → Prop) : List Nat → List PV → (List PV → Prop) → Prop
  | [], l, K => nilK l (K [])
  | t :: ts, l, K => consK l fun a r => f t a fun a' => fieldsK f ts r fun r' => K (a' :: r')

/-- A value out of a row, laid open to its last part, by its type. fuel: how deep. -/
def decK (T : Tab) : (fuel : Nat) → (ty : Nat) → PV → (PV → Prop) → Prop
  | 0, _, _, _ => False
  | fuel + 1, ty, x, K =>
    match (T.at ty).kd with
    | .int k => asIntK k x fun n => K (.int k n)
    | .bool => asBoolK x fun b => K (.bool b)
    | .str => asStrK x fun s => K (.str s)
    | .slice e => asListK e x fun xs => K (.list e xs)
    | .array n _ => asArrK n x fun xs => K (.arr n xs)
    | .struct fs => asAggK x fun l => fieldsK (decK T fuel) (fs.map (·.2)) l fun l' => K (.agg l')
    | _ => False

/-- The elements that a slice shows. -/
def rowPart (xs : List PV) (i n : Nat) : List PV := cond (Nat.beq i 0) (xs.take n) ((xs.drop i).take n)

def rowK (xs : List PV) (i n : Nat) (K : List PV → Prop) : Prop := i + n ≤ xs.length ∧ K (rowPart xs i n)

def bytesOf : List PV → Option (List UInt8)
  | [] => some []
  | .int .u8 n :: r => (bytesOf r).map (UInt8.ofNat n.toNat :: ·)
  | _ :: _ => none
def asBytesK (xs : List PV) (K : ByteArray → Prop) : Prop :=
  match bytesOf xs with
  | some l => K ⟨l.toArray⟩
  | none => False
def bytePVs (s : ByteArray) : List PV := s.data.toList.map fun b => .int .u8 b.toNat

def maxRoom : Nat := 2 ^ 46

/-- == of cells. -/
def peq : PV → PV → Bool
  | .int _ a, .int _ b => a == b
  | .bool a, .bool b => a == b
  | .str a, .str b => a.toList == b.toList
  | _, _ => false
def peqs : List PV → List PV → Bool
  | [], [] => true
  | a :: r, b :: s => peq a b && peqs r s
  | _, _ => false
/-- Two cells of a type that may be compared. -/
def cmpK : Kd → PV → PV → Prop
  | .int k, .int k1 _, .int k2 _ => k1 = k ∧ k2 = k
  | .bool, .bool _, .bool _ => True
  | .str, .str _, .str _ => True
  | _, _, _ => False
def cmpL : List Kd → List PV → List PV → Prop
  | [], [], [] => True
  | k :: l, a :: r, b :: s => cmpK k a b ∧ cmpL l r s
  | _, _, _ => False

def bitsW (op : BinOp) (k : IntKind) (x y : Int) : Int :=
  let a := BitVec.ofInt k.bits x
  let b := BitVec.ofInt k.bits y
  match op with
  | .and => k.wrap (a &&& b).toNat
  | .or => k.wrap (a ||| b).toNat
  | .xor => k.wrap (a ^^^ b).toNat
  | _ => k.wrap (a &&& ~~~b).toNat

def evAggEq (eqL : List Kd) (op : BinOp) (cs ds : List PV) (K : PV → Prop) : Prop :=
  cond (!eqL.isEmpty) (match op with
    | .eql => cmpL eqL cs ds ∧ K (.bool (peqs cs ds))
    | .neq => cmpL eqL cs ds ∧ K (.bool (!peqs cs ds))
    | _ => False) False

def evIntBin (op : BinOp) (k k' : IntKind) (a b : Int) (K : PV → Prop) : Prop :=
  match op with
  | .shl => 0 ≤ b ∧ K (.int k (k.wrap (a * 2 ^ (min b.toNat k.bits))))
  | .shr => 0 ≤ b ∧ K (.int k (a.fdiv (2 ^ (min b.toNat k.bits))))
  | _ => cond (decide (k = k')) (match op with
    | .add => K (.int k (k.wrap (a + b)))
    | .sub => K (.int k (k.wrap (a - b)))
    | .mul => K (.int k (k.wrap (a * b)))
    | .quo => b ≠ 0 ∧ K (.int k (k.wrap (a.tdiv b)))
    | .rem => b ≠ 0 ∧ K (.int k (a.tmod b))
    | .and => K (.int k (bitsW .and k a b))
    | .or => K (.int k (bitsW .or k a b))
    | .xor => K (.int k (bitsW .xor k a b))
    | .andNot => K (.int k (bitsW .andNot k a b))
    | .eql => K (.bool (decide (a = b)))
    | .neq => K (.bool (!decide (a = b)))
    | .lss => K (.bool (decide (a < b)))
    | .leq => K (.bool (decide (a ≤ b)))
    | .gtr => K (.bool (decide (a > b)))
    | .geq => K (.bool (decide (a ≥ b)))
    | _ => False) False

def evStrBin (op : BinOp) (a b : ByteArray) (K : PV → Prop) : Prop :=
  match op with
  | .add => a.size + b.size ≤ maxRoom ∧ K (.str (a ++ b))
  | .eql => K (.bool (a.toList == b.toList))
  | .neq => K (.bool (!(a.toList == b.toList)))
  | .lss => K (.bool (Op.bytesLess a.toList b.toList))
  | .leq => K (.bool (Op.bytesLess a.toList b.toList || a.toList == b.toList))
  | .gtr => K (.bool (!(Op.bytesLess a.toList b.toList || a.toList == b.toList)))
  | .geq => K (.bool (!Op.bytesLess a.toList b.toList))
  | _ => False

/-- == or != whose outcome is known. -/
def evKnown (op : BinOp) (b : Bool) (K : PV → Prop) : Prop :=
  match op with
  | .eql => K (.bool b)
  | .neq => K (.bool (!b))
  | _ => False

def evBin (ti : Ti) (op : BinOp) (x y : PV) (K : PV → Prop) : Prop :=
  match x, y with
  | .int k a, .int k' b => evIntBin op k k' a b K
  | .str a, .str b => evStrBin op a b K
  | .bool a, .bool b => match ti.kd with | .bool => evKnown op (a == b) K | _ => False
  | .agg fs, .agg gs => evAggEq ti.eqL op (flats fs) (flats gs) K
  | .arr _ xs, .arr _ ys => evAggEq ti.eqL op xs ys K
  | .list _ xs, .nilsl => match ti.kd with | .slice _ => ∀ b : Bool, (b = true → xs = []) → evKnown op b K | _ => False
  | .nilsl, .nilsl => match ti.kd with | .slice _ => evKnown op true K | _ => False
  | .nilp, .nilp => match ti.kd with | .ptr _ => evKnown op true K | _ => False
  | .ptr .., .nilp => match ti.kd with | .ptr _ => evKnown op false K | _ => False
  | .vptr .., .nilp => match ti.kd with | .ptr _ => evKnown op false K | _ => False
  | .nilf, .nilf => match ti.kd with | .func => evKnown op true K | _ => False
  | .fn .., .nilf => match ti.kd with | .func => evKnown op false K | _ => False
  | .nilm, .nilm => match ti.kd with | .map _ _ => evKnown op true K | _ => False
  | .mapr .., .nilm => match ti.kd with | .map _ _ => evKnown op false K | _ => False
  | .dmap _ _ en, .nilm => match ti.kd with | .map _ _ => ∀ b : Bool, (b = true → en = []) → evKnown op b K | _ => False
  | _, _ => False

def evUn (op : UnOp) (x : PV) (K : PV → Prop) : Prop :=
  match op, x with
  | .not, .bool b => K (.bool (!b))
  | .neg, .int k n => K (.int k (k.wrap (0 - n)))
  | .xor, .int k n => K (.int k (bitsW .xor k (cond k.signed (-1) k.max) n))
  | _, _ => False

abbrev Ups := List (Nat × Blk)

/-- A conversion. -/
def evConv (T : Tab) (hb : Nat) (L : Heap) (src dst : Nat) (x : PV) (K : PV → Ups → Prop) : Prop :=
  match (T.at src).kd, (T.at dst).kd, x with
  | .int _, .int k, .int _ n => K (.int k (k.wrap n)) []
  | .str, .str, .str s => K (.str s) []
  | .str, .slice e, .str s =>
    match (T.at e).kd with
    | .int .u8 => s.size ≤ maxRoom ∧ K (.sl hb e 0 s.size) [(hb, .row true e (bytePVs s))]
    | _ => False
  | .slice e, .str, .list e' xs =>
    match (T.at e).kd with
    | .int .u8 => cond (Nat.beq e e') (asBytesK xs fun s => K (.str s) []) False
    | _ => False
  | .slice e, .str, .nilsl =>
    match (T.at e).kd with
    | .int .u8 => K (.str .empty) []
    | _ => False
  | .slice e, .str, .sl h e' i n =>
    match (T.at e).kd, L h with
    | .int .u8, .row _ e'' xs => cond (Nat.beq e e' && Nat.beq e e'') (rowK xs i n fun ys => asBytesK ys fun s => K (.str s) []) False
    | _, _ => False
  | _, _, _ => False

/-- Also: a row that is taken for bytes of a constant text, as it is. -/
def evConv2 (T : Tab) (hb : Nat) (L : Heap) (src dst : Nat) (x : PV) (K : PV → Ups → Prop) : Prop :=
  match x with
  | .sl h e i n => match (T.at dst).kd with
    | .slice _ => match (T.at src).kd, (T.at e).kd, L h with
      | .slice e', .int .u8, .row true _ _ => cond (Nat.beq src dst && Nat.beq e e' && Nat.blt 0 n) (K (.sl h e i n) []) False
      | _, _, _ => False
    | _ => evConv T hb L src dst (.sl h e i n) K
  | x => evConv T hb L src dst x K

/-- What a slices value shows; e: the type of its elements. -/
def showK (T : Tab) (e : Nat) (L : Heap) (x : PV) (K : List PV → Prop) : Prop :=
  match x with
  | .list e' xs => cond (Nat.beq e' e) (K xs) False
  | .nilsl => K []
  | .sl h e' i n => match L h with | .row _ e'' xs => cond (Nat.beq e' e && Nat.beq e'' e) (rowK xs i n K) False | _ => False
  | .sla h ty i p e' j n => match L h with
    | .box _ ty' x => cond (Nat.beq ty' ty && Nat.beq e' e && Nat.beq i 0 && !(T.at e).kd.isAgg && !(T.at e).kd.isOther) (subK x p fun y => match y with
        | .arr _ cs => rowK cs j n K
        | _ => False) False
    | _ => False
  | _ => False

def lenOf (kd : Kd) (L : Heap) (x : PV) (K : Int → Prop) : Prop :=
  match kd, x with
  | .slice _, .list _ xs => K xs.length
  | .slice _, .nilsl => K 0
  | .slice _, .sl _ _ _ n => K n
  | .slice _, .sla _ _ _ _ _ _ n => K n
  | .str, .str s => K s.size
  | .map _ _, .mapr h => match L h with | .map _ _ _ en => K en.length | _ => False
  | .map _ _, .dmap _ _ en => K en.length
  | .map _ _, .nilm => K 0
  | _, _ => False

/-- append, of elements that are known to be in order. -/
def evAppendTo (hb : Nat) (L : Heap) (e by_ : Nat) (a : PV) (ys : List PV) (K : PV → Ups → Prop) : Prop :=
  match a with
  | .sl h e' i n => match L h with
    | .row true e'' xs => cond (Nat.beq i 0 && Nat.beq e' e && Nat.beq e'' e) (n = xs.length ∧ (n + ys.length) * by_ ≤ maxRoom ∧ K (.sl hb e 0 (n + ys.length)) [(h, .gone), (hb, .row true e (xs ++ ys))]) False
    | _ => False
  | .nilsl => ys.length * by_ ≤ maxRoom ∧ K (.sl hb e 0 ys.length) [(hb, .row true e ys)]
  | _ => False
def evAppend (T : Tab) (hb : Nat) (L : Heap) (st : Nat) (a b : PV) (K : PV → Ups → Prop) : Prop :=
  match (T.at st).kd with
  | .slice e => cond (!(T.at e).kd.isOther && Nat.blt 0 (T.at e).bytes) (
    match b with
    | .str s => match (T.at e).kd with
      | .int .u8 => evAppendTo hb L e (T.at e).bytes a (bytePVs s) K
      | _ => False
    | b => showK T e L b fun ys => evAppendTo hb L e (T.at e).bytes a ys K) False
  | _ => False

/-- append of so many zero values. -/
def evAppendZ (T : Tab) (hb : Nat) (L : Heap) (st : Nat) (a b : PV) (K : PV → Ups → Prop) : Prop :=
  match (T.at st).kd, b with
  | .slice e, .int _ n => cond (!(T.at e).kd.isOther && Nat.blt 0 (T.at e).bytes) (0 ≤ n ∧ n.toNat * (T.at e).bytes ≤ maxRoom ∧ evAppendTo hb L e (T.at e).bytes a (List.replicate n.toNat (T.at e).zero) K) False
  | _, _ => False

def arrOf (T : Tab) (t : Option Nat) (e : Nat) : Bool :=
  match t with
  | some t => match (T.at t).kd with | .array _ e' => Nat.beq e' e | _ => false
  | none => false

/-- Where an element of a slice or an array lies. -/
def evIndexAddr (T : Tab) (t : Nat) (x ix : PV) (K : PV → Prop) : Prop :=
  match ix with
  | .int _ j =>
    match (T.at t).kd, x with
    | .slice e, .list e' xs => cond (Nat.beq e' e) (0 ≤ j ∧ elemAt xs j.toNat fun x => K (.vptr e x [])) False
    | .slice e, .sl h e' i n => cond (Nat.beq e' e && !(T.at e).kd.isOther) (0 ≤ j ∧ j < n ∧ K (.ptr h e (i + j.toNat) [])) False
    | .slice e, .sla h ty i p e' o n => cond (Nat.beq e' e && !(T.at e).kd.isOther && arrOf T (tyAt T ty p) e) (0 ≤ j ∧ j < n ∧ K (.ptr h ty i (p ++ [o + j.toNat]))) False
    | .array n e, .ptr h ty i p => cond ((tyAt T ty p) == some t && !(T.at e).kd.isOther) (0 ≤ j ∧ j < n ∧ K (.ptr h ty i (p ++ [j.toNat]))) False
    | .array n e, .vptr ty x p => cond ((tyAt T ty p) == some t && !(T.at e).kd.isOther) (0 ≤ j ∧ j < n ∧ K (.vptr ty x (p ++ [j.toNat]))) False
    | _, _ => False
  | _ => False

/-- The byte of a string. -/
def strAt (s : ByteArray) (i : Nat) (K : UInt8 → Prop) : Prop := elemAt s.data.toList i K

def evIndex (T : Tab) (t : Nat) (x ix : PV) (K : PV → Prop) : Prop :=
  match ix with
  | .int _ j =>
    match (T.at t).kd, x with
    | .str, .str s => 0 ≤ j ∧ strAt s j.toNat fun b => K (.int .u8 b.toNat)
    | .array n e, .arr n' xs => cond (Nat.beq n n' && !(T.at e).kd.isAgg && !(T.at e).kd.isOther) (0 ≤ j ∧ elemAt xs j.toNat fun x => decK T 8 e x K) False
    | _, _ => False
  | _ => False

/-- A bound of a cut: none, or a whole number. -/
def boundK (x : Option PV) (d : Int) (K : Int → Prop) : Prop :=
  match x with
  | none => K d
  | some (.int _ j) => K j
  | _ => False

def cutL {α : Type} (xs : List α) (l h : Nat) : List α := (xs.take h).drop l

def evSlice (T : Tab) (t : Nat) (x : PV) (lo hi mx : Option PV) (K : PV → Prop) : Prop :=
  match mx with
  | none => boundK lo 0 fun l =>
    match (T.at t).kd, x with
    | .str, .str s => boundK hi s.size fun h => 0 ≤ l ∧ l ≤ h ∧ h ≤ s.size ∧ K (.str (s.extract l.toNat h.toNat))
    | .slice e, .list e' xs => cond (Nat.beq e' e && !(T.at e).kd.isOther) (boundK hi xs.length fun h => 0 ≤ l ∧ l ≤ h ∧ h ≤ xs.length ∧ K (.list e (cutL xs l.toNat h.toNat))) False
    | .slice e, .nilsl => cond (!(T.at e).kd.isOther) (boundK hi 0 fun h => l = 0 ∧ h = 0 ∧ K .nilsl) False
    | .slice e, .sl b e' i n => cond (Nat.beq e' e && !(T.at e).kd.isOther) (boundK hi n fun h => 0 ≤ l ∧ l ≤ h ∧ h ≤ n ∧ K (.sl b e (i + l.toNat) (h.toNat - l.toNat))) False
    | .slice e, .sla b ty i p e' o n => cond (Nat.beq e' e && !(T.at e).kd.isOther) (boundK hi n fun h => 0 ≤ l ∧ l ≤ h ∧ h ≤ n ∧ K (.sla b ty i p e (o + l.toNat) (h.toNat - l.toNat))) False
    | .array n e, .ptr b ty i p => cond ((tyAt T ty p) == some t && !(T.at e).kd.isOther) (boundK hi n fun h => 0 ≤ l ∧ l ≤ h ∧ h ≤ n ∧ K (.sla b ty i p e l.toNat (h.toNat - l.toNat))) False
    | _, _ => False
  | some m => match m, hi, (T.at t).kd, x with
    | .int _ j, some (.int _ h), .slice e, .list e' xs => boundK lo 0 fun l => cond (Nat.beq e' e && !(T.at e).kd.isOther) (0 ≤ l ∧ l ≤ h ∧ h ≤ j ∧ j ≤ xs.length ∧ K (.list e (cutL xs l.toNat h.toNat))) False
    | _, _, _, _ => False

def evLoad (T : Tab) (L : Heap) (t : Nat) (a : PV) (K : PV → Prop) : Prop :=
  match a with
  | .ptr h ty i p => match L h with
    | .row _ ty' xs => cond (Nat.beq ty' ty && (tyAt T ty p == some t)) (elemAt xs i fun x => subK x p fun y => decK T 8 t y K) False
    | .box _ ty' x => cond (Nat.beq ty' ty && Nat.beq i 0 && (tyAt T ty p == some t)) (subK x p fun y => cond (arrPath T ty p) (decK T 8 t y K) (cond (isAggV y == (T.at t).kd.isAgg) (K y) False)) False
    | _ => False
  | .vptr ty x p => cond (tyAt T ty p == some t) (subK x p fun y => decK T 8 t y K) False
  | _ => False

/-- A value with another part. -/
def putIn (x : PV) : List Nat → PV → PV
  | [], v => v
  | j :: p, v => match x with
    | .agg fs => .agg (fs.modify j fun y => putIn y p v)
    | .arr n xs => .arr n (xs.modify j fun y => putIn y p v)
    | x => x

def evStore (T : Tab) (L : Heap) (t : Nat) (a v : PV) (K : Ups → Prop) : Prop :=
  match a with
  | .ptr h ty i p => match L h with
    | .row true ty' xs => cond (Nat.beq ty' ty && (tyAt T ty p == some t)) (elemOkK T t v (elemAt xs i fun x => match p with
        | [] => K [(h, .row true ty (xs.set i v))]
        | p => subK x p fun _ => K [(h, .row true ty (xs.set i (putIn x p v)))])) False
    | .box true ty' x => cond (Nat.beq ty' ty && Nat.beq i 0 && (tyAt T ty p == some t) && fits T t v) (subK x p fun _ => cond (arrPath T ty p) (pureVK v (K [(h, .box true ty (putIn x p v))])) (K [(h, .box true ty (putIn x p v))])) False
    | _ => False
  | _ => False

/-- A struct of parts. -/
def buildInto (T : Tab) (fs : List (Nat × Nat)) : List (Nat × PV) → List PV → Option (List PV)
  | [], cs => some cs
  | (i, v) :: r, cs =>
    match fs[i]? with
    | some (_, ft) => cond (fits T ft v) (buildInto T fs r (cs.set i v)) none
    | none => none

/-- A literals elements: each of them is given, in order. -/
def litElems : Nat → List (Nat × PV) → Option (List PV)
  | _, [] => some []
  | i, (j, v) :: r => cond (Nat.beq i j) ((litElems (i + 1) r).map (v :: ·)) none

def evBuild (T : Tab) (t : Nat) (parts : List (Nat × PV)) (K : PV → Prop) : Prop :=
  match (T.at t).kd, (T.at t).zero with
  | .struct fs, .agg zs => cond (fs.all fun f => !(T.at f.2).kd.isOther) (match buildInto T fs parts zs with
    | some cs => K (.agg cs)
    | none => False) False
  | .array n e, .arr n' zs =>
    cond (Nat.beq n n' && parts.all (fun x => Nat.blt x.1 n) && !(T.at e).kd.isAgg && !(T.at e).kd.isOther)
      (elemsOkK T e (parts.map (·.2)) (K (.arr n (parts.foldl (fun cs x => cs.set x.1 x.2) zs)))) False
  | _, _ => False

def evBuildSlice (T : Tab) (hb t n : Nat) (parts : List (Nat × PV)) (K : PV → Ups → Prop) : Prop :=
  match (T.at t).kd with
  | .slice e => match litElems 0 parts with
    | some xs => cond (Nat.beq xs.length n && Nat.ble (n * (T.at e).size) 16777216 && Nat.blt 0 (T.at e).size && !(T.at e).kd.isOther) (elemsOkK T e xs (K (.sl hb e 0 n) [(hb, .row true e xs)])) False
    | none => False
  | _ => False

def evMakeSlice (T : Tab) (hb t : Nat) (len cap : PV) (K : PV → Ups → Prop) : Prop :=
  match (T.at t).kd, len, cap with
  | .slice e, .int _ n, .int _ m => (0 ≤ n ∧ n ≤ m ∧ m * (T.at e).bytes ≤ maxRoom ∧ m ≤ maxRoom) ∧ elemOkK T e (T.at e).zero (
      K (.sl hb e 0 n.toNat) [(hb, .row true e (List.replicate n.toNat (T.at e).zero))])
  | _, _, _ => False

def evField (T : Tab) (t f : Nat) (x : PV) (K : PV → Prop) : Prop :=
  match (T.at t).kd with
  | .struct fs => match fs[f]? with
    | some (_, ft) => asAggK x fun gs => cond (fits T t x) (elemAt gs f fun y => cond (fits T ft y) (K y) False) False
    | none => False
  | _ => False

def evFieldAddr (T : Tab) (t f : Nat) (x : PV) (K : PV → Prop) : Prop :=
  match (T.at t).kd with
  | .struct fs => match fs[f]? with
    | some (_, ft) => match x with
      | .ptr h ty i p => cond (tyAt T ty p == some t && !(T.at ft).kd.isOther && Nat.blt 0 (T.at ft).size) (K (.ptr h ty i (p ++ [f]))) False
      | .vptr ty x p => cond (tyAt T ty p == some t && !(T.at ft).kd.isOther && Nat.blt 0 (T.at ft).size) (K (.vptr ty x (p ++ [f]))) False
      | _ => False
    | none => False
  | _ => False

def minW (a b : PV) (K : PV → Prop) : Prop :=
  match a, b with
  | .int k x, .int k' y => cond (decide (k = k')) (K (.int k (if y < x then y else x))) False
  | _, _ => False
def maxW (a b : PV) (K : PV → Prop) : Prop :=
  match a, b with
  | .int k x, .int k' y => cond (decide (k = k')) (K (.int k (if y > x then y else x))) False
  | _, _ => False
def foldW (f : PV → PV → (PV → Prop) → Prop) : PV → List PV → (PV → Prop) → Prop
  | a, [], K => K a
  | a, b :: r, K => f a b fun c => foldW f c r K

/-! Maps. -/

def entK (x : PV) (K : PV → PV → Prop) : Prop :=
  match x with
  | .tup [k, v] => K k v
  | _ => False
def entKey : PV → PV
  | .tup [k, _] => k
  | _ => .undef
def entVal : PV → PV
  | .tup [_, v] => v
  | _ => .undef
def mget (k : PV) : List PV → Option PV
  | [] => none
  | x :: r => cond (peq k (entKey x)) (some (entVal x)) (mget k r)
def mput (k v : PV) : List PV → List PV
  | [] => [.tup [k, v]]
  | x :: r => cond (peq k (entKey x)) (.tup [k, v] :: r) (x :: mput k v r)
def mdel (k : PV) : List PV → List PV
  | [] => []
  | x :: r => cond (peq k (entKey x)) r (x :: mdel k r)

/-- Is a value a key of a type? -/
def isKey (T : Tab) (kt : Nat) (k : PV) : Bool :=
  match (T.at kt).kd, k with
  | .int q, .int q' _ => decide (q = q')
  | .str, .str _ => true
  | .bool, .bool _ => true
  | _, _ => false

def mapK (kt et : Nat) (L : Heap) (x : PV) (K : List PV → Prop) : Prop :=
  match x with
  | .mapr h => match L h with | .map _ kt' et' en => cond (Nat.beq kt' kt && Nat.beq et' et) (K en) False | _ => False
  | .dmap kt' et' en => cond (Nat.beq kt' kt && Nat.beq et' et) (K en) False
  | .nilm => K []
  | _ => False

def evLookup (T : Tab) (L : Heap) (t : Nat) (x ix : PV) (ok : Bool) (K : PV → Prop) : Prop :=
  match (T.at t).kd with
  | .map kt et => mapK kt et L x fun en => cond (isKey T kt ix && !(T.at et).kd.isOther && fits T et (T.at et).zero) (decK T 8 et ((mget ix en).getD (T.at et).zero) fun v => K (cond ok (.tup [v, .bool (mget ix en).isSome]) v)) False
  | _ => False

def evMapUpdate (T : Tab) (L : Heap) (t : Nat) (x k v : PV) (K : Ups → Prop) : Prop :=
  match (T.at t).kd, x with
  | .map kt et, .mapr h => match L h with
    | .map true kt' et' en => cond (Nat.beq kt' kt && Nat.beq et' et && isKey T kt k) (elemOkK T et v (K [(h, .map true kt et (mput k v en))])) False
    | _ => False
  | _, _ => False

def evDelete (T : Tab) (L : Heap) (t : Nat) (x k : PV) (K : Ups → Prop) : Prop :=
  match (T.at t).kd, x with
  | .map kt et, .mapr h => match L h with
    | .map true kt' et' en => cond (Nat.beq kt' kt && Nat.beq et' et && isKey T kt k) (K [(h, .map true kt et (mdel k en))]) False
    | _ => False
  | _, _ => False

def evMakeMap (T : Tab) (hb t : Nat) (r : Option PV) (K : PV → Ups → Prop) : Prop :=
  match (T.at t).kd with
  | .map kt et => match r with
    | none => K (.mapr hb) [(hb, .map true kt et [])]
    | some (.int _ _) => K (.mapr hb) [(hb, .map true kt et [])]
    | _ => False
  | _ => False

/-- A walk through a map begins: the map is not written from then on. -/
def evRangeM (T : Tab) (hb : Nat) (L : Heap) (t : Nat) (x : PV) (K : PV → Ups → Prop) : Prop :=
  match (T.at t).kd, x with
  | .map kt et, .mapr h => match L h with
    | .map _ kt' et' en => cond (Nat.beq kt' kt && Nat.beq et' et) (K (.ptr hb 0 0 []) [(h, .map false kt et en), (hb, .iter true kt et en .undef)]) False
    | _ => False
  | .map kt et, .dmap kt' et' en => cond (Nat.beq kt' kt && Nat.beq et' et) (K (.ptr hb 0 0 []) [(hb, .iter true kt et en .undef)]) False
  | .map kt et, .nilm => K (.ptr hb 0 0 []) [(hb, .iter true kt et [] .undef)]
  | _, _ => False

def evNext (T : Tab) (L : Heap) (it : PV) (isS : Bool) (K : PV → Ups → Prop) : Prop :=
  match isS, it with
  | false, .ptr h _ i p => match L h with
    | .iter true kt et rest _ => cond (Nat.beq i 0 && p.isEmpty) ((rest = [] → K (.tup [.bool false]) []) ∧ ∀ (j : Nat) x, rest[j]? = some x → entK x fun k v => decK T 8 kt k fun k => decK T 8 et v fun v => K (.tup [.bool true, k, v]) [(h, .iter true kt et (rest.eraseIdx j) (.tup [k, v]))]) False
    | _ => False
  | _, _ => False

/-- The entry that a walk stands at: it is asked once. -/
def evEntry (L : Heap) (it : PV) (K : PV → Ups → Prop) : Prop :=
  match it with
  | .ptr h _ i p => match L h with
    | .iter l kt et rest cur => cond (Nat.beq i 0 && p.isEmpty) (entK cur fun k v => K (.tup [k, v]) [(h, .iter l kt et rest .undef)]) False
    | _ => False
  | _ => False

/-- copy: n cells of a row, from place i on, are those of another one. -/
def splice (xs ys : List PV) (i n : Nat) : List PV := xs.take i ++ (ys.take n ++ xs.drop (i + min n ys.length))

def evCopy (T : Tab) (L : Heap) (t : Nat) (x y : PV) (K : PV → Ups → Prop) : Prop :=
  match (T.at t).kd with
  | .slice e => cond (!(T.at e).kd.isAgg && !(T.at e).kd.isOther) (showK T e L y fun ys => match x with
    | .sl h e' i n => match L h with
      | .row true e'' xs => cond (Nat.beq e' e && Nat.beq e'' e) (i + n ≤ xs.length ∧ K (.int .i64 (min ys.length n : Nat)) [(h, .row true e (splice xs ys i n))]) False
      | _ => False
    | .sla h ty i p e' j n => match L h with
      | .box true ty' x => cond (Nat.beq ty' ty && Nat.beq e' e && Nat.beq i 0) (subK x p fun z => match z with
        | .arr m cs => cond (arrOf T (tyAt T ty p) e) (j + n ≤ cs.length ∧ K (.int .i64 (min ys.length n : Nat)) [(h, .box true ty (putIn x p (.arr m (splice cs ys j n))))]) False
        | _ => False) False
      | _ => False
    | _ => False) False
  | _ => False

/-- An operation that is no call of a function. hb: the number that a new block gets. -/
def evOp (T : Tab) (hb : Nat) (ρ : Operand → PV) (L : Heap) (op : Op) (K : PV → Ups → Prop) : Prop :=
  match op with
  | .move x | .assign x => K (ρ x) []
  | .pick c a b => asBoolK (ρ c) fun g =>
    match ρ a, ρ b with
    | .bool x, .bool y => K (.bool (cond g x y)) []
    | x, y => cond g (K x []) (K y [])
  | .binOp op t x y _ => evBin (T.at t) op (ρ x) (ρ y) fun v => K v []
  | .unOp op _ x => evUn op (ρ x) fun v => K v []
  | .convert src dst x => evConv2 T hb L src dst (ρ x) K
  | .extract x i => match ρ x with
    | .tup vs => elemAt vs i fun v => K v []
    | _ => False
  | .indexAddr t x ix => evIndexAddr T t (ρ x) (ρ ix) fun v => K v []
  | .index t x ix => evIndex T t (ρ x) (ρ ix) fun v => K v []
  | .slice t x lo hi mx => evSlice T t (ρ x) (lo.map ρ) (hi.map ρ) (mx.map ρ) fun v => K v []
  | .load t a => evLoad T L t (ρ a) fun v => K v []
  | .store t a v => evStore T L t (ρ a) (ρ v) fun u => K .undef u
  | .build t parts => evBuild T t (parts.toList.map fun (i, x) => (i, ρ x)) fun v => K v []
  | .buildSlice t n parts => evBuildSlice T hb t n (parts.toList.map fun (i, x) => (i, ρ x)) K
  | .makeSlice t l c => evMakeSlice T hb t (ρ l) (ρ c) K
  | .field t x f => evField T t f (ρ x) fun v => K v []
  | .fieldAddr t x f => evFieldAddr T t f (ρ x) fun v => K v []
  | .alloc t => cond (fits T t (T.at t).zero) (K (.ptr hb t 0 []) [(hb, .box true t (T.at t).zero)]) False
  | .box t x => cond (fits T t (ρ x)) (K (.ptr hb t 0 []) [(hb, .box true t (ρ x))]) False
  | .nilCheck x => match ρ x with
    | .ptr h ty i p => K (.ptr h ty i p) []
    | .vptr ty x p => K (.vptr ty x p) []
    | _ => False
  | .makeMap t r => evMakeMap T hb t (r.map ρ) K
  | .lookup t x ix ok => evLookup T L t (ρ x) (ρ ix) ok fun v => K v []
  | .mapUpdate t m k v => evMapUpdate T L t (ρ m) (ρ k) (ρ v) fun u => K .undef u
  | .range t x => evRangeM T hb L t (ρ x) K
  | .next it s => evNext T L (ρ it) s K
  | .entry it => evEntry L (ρ it) K
  | .makeFunc (.func g) first captured => cond first.isEmpty (K (.fn g (captured.toList.map ρ)) []) False
  | .call { callee := .builtin .delete, args, argTypes } => match args.toList, argTypes.toList with
    | [x, k], t :: _ => evDelete T L t (ρ x) (ρ k) fun u => K (.tup []) u
    | _, _ => False
  | .call { callee := .builtin .copy, args, argTypes } => match args.toList, argTypes.toList with
    | [x, y], t :: _ => evCopy T L t (ρ x) (ρ y) K
    | _, _ => False
  | .call { callee := .builtin .len, args, argTypes } => match args.toList, argTypes.toList with
    | [x], [t] => lenOf (T.at t).kd L (ρ x) fun n => K (.int .i64 n) []
    | _, _ => False
  | .call { callee := .builtin .append, args, argTypes } => match args.toList, argTypes.toList with
    | [x, y], [t, u] => match (T.at u).kd with
      | .slice _ => evAppend T hb L t (ρ x) (ρ y) K
      | .str => evAppend T hb L t (ρ x) (ρ y) K
      | .int _ => evAppendZ T hb L t (ρ x) (ρ y) K
      | _ => False
    | _, _ => False
  | .call { callee := .builtin .min, args, .. } => match args.toList.map ρ with
    | x :: r => foldW minW x r fun v => K v []
    | _ => False
  | .call { callee := .builtin .max, args, .. } => match args.toList.map ρ with
    | x :: r => foldW maxW x r fun v => K v []
    | _ => False
  | _ => False

/-! Handles, renaming, what is reached. -/

mutual
def PV.hs : PV → List Nat
  | .agg fs => PV.hss fs
  | .tup vs => PV.hss vs
  | .sl h _ _ _ => [h]
  | .sla h _ _ _ _ _ _ => [h]
  | .ptr h _ _ _ => [h]
  | .mapr h => [h]
  | .fn _ cs => PV.hss cs
  | _ => []
def PV.hss : List PV → List Nat
  | [] => []
  | x :: r => x.hs ++ PV.hss r
end

mutual
def PV.ren (f : Nat → Nat) : PV → PV
  | .agg fs => .agg (PV.rens f fs)
  | .tup vs => .tup (PV.rens f vs)
  | .sl h ty i n => .sl (f h) ty i n
  | .sla h ty i p e j n => .sla (f h) ty i p e j n
  | .ptr h ty i p => .ptr (f h) ty i p
  | .mapr h => .mapr (f h)
  | .fn g cs => .fn g (PV.rens f cs)
  | x => x
def PV.rens (f : Nat → Nat) : List PV → List PV
  | [] => []
  | x :: r => x.ren f :: PV.rens f r
end

def Blk.hs : Blk → List Nat
  | .box _ _ x => x.hs
  | _ => []
def Blk.ren (f : Nat → Nat) : Blk → Blk
  | .box l ty x => .box l ty (x.ren f)
  | b => b

def addNew (acc : List Nat) : List Nat → List Nat
  | [] => acc
  | h :: r => cond (acc.contains h) (addNew acc r) (addNew (acc ++ [h]) r)

/-- The blocks that are reached: from place k on those of acc are looked into. -/
def reach (L : Heap) : (fuel k : Nat) → List Nat → List Nat
  | 0, _, acc => acc
  | fuel + 1, k, acc => match acc[k]? with
    | some h => reach L fuel (k + 1) (addNew acc (L h).hs)
    | none => acc

def idx (R : List Nat) (h : Nat) : Nat := R.idxOf h

/-- Is all that is reached among R? -/
def closedIn (R : List Nat) (L : Heap) (xs : List PV) : Bool :=
  (PV.hss xs).all R.contains && R.all fun h => (L h).hs.all R.contains

/-- A small number, written out. -/
def forceN (n : Nat) (K : Nat → Prop) : Prop :=
  match n with
  | 0 => K 0
  | 1 => K 1
  | 2 => K 2
  | 3 => K 3
  | 4 => K 4
  | 5 => K 5
  | 6 => K 6
  | 7 => K 7
  | 8 => K 8
  | 9 => K 9
  | 10 => K 10
  | 11 => K 11
  | 12 => K 12
  | 13 => K 13
  | 14 => K 14
  | 15 => K 15
  | 16 => K 16
  | 17 => K 17
  | 18 => K 18
  | 19 => K 19
  | 20 => K 20
  | 21 => K 21
  | 22 => K 22
  | 23 => K 23
  | n => K n
def forceNs : List Nat → (List Nat → Prop) → Prop
  | [], K => K []
  | x :: r, K => forceN x fun x => forceNs r fun r => K (x :: r)
theorem forceN_eq (n : Nat) (K : Nat → Prop) : forceN n K = K n := by
  unfold forceN; split <;> rfl
theorem forceNs_eq : ∀ (l : List Nat) (K : List Nat → Prop), forceNs l K = K l
  | [], _ => rfl
  | x :: r, K => by rw [forceNs, forceN_eq, forceNs_eq r]

mutual
/-- A value, written out as far as its blocks. -/
def forceV : PV → (PV → Prop) → Prop
  | .agg fs, K => forceVs fs fun fs => K (.agg fs)
  | .tup fs, K => forceVs fs fun fs => K (.tup fs)
  | .fn g fs, K => forceVs fs fun fs => K (.fn g fs)
  | .sl h ty i n, K => forceN h fun h => K (.sl h ty i n)
  | .sla h ty i p e j n, K => forceN h fun h => K (.sla h ty i p e j n)
  | .ptr h ty i p, K => forceN h fun h => K (.ptr h ty i p)
  | .mapr h, K => forceN h fun h => K (.mapr h)
  | .undef, K => K .undef
  | .bool b, K => K (.bool b)
  | .int k n, K => K (.int k n)
  | .str s, K => K (.str s)
  | .arr n xs, K => K (.arr n xs)
  | .list ty xs, K => K (.list ty xs)
  | .nilsl, K => K .nilsl
  | .vptr ty x p, K => K (.vptr ty x p)
  | .nilp, K => K .nilp
  | .dmap kt et en, K => K (.dmap kt et en)
  | .nilm, K => K .nilm
  | .nilf, K => K .nilf
def forceVs : List PV → (List PV → Prop) → Prop
  | [], K => K []
  | x :: r, K => forceV x fun x => forceVs r fun r => K (x :: r)
end
mutual
theorem forceV_eq : ∀ (x : PV) (K : PV → Prop), forceV x K = K x
  | .agg fs, K => by rw [forceV, forceVs_eq fs]
  | .tup fs, K => by rw [forceV, forceVs_eq fs]
  | .fn g fs, K => by rw [forceV, forceVs_eq fs]
  | .sl _ _ _ _, K => by rw [forceV, forceN_eq]
  | .sla _ _ _ _ _ _ _, K => by rw [forceV, forceN_eq]
  | .ptr _ _ _ _, K => by rw [forceV, forceN_eq]
  | .mapr _, K => by rw [forceV, forceN_eq]
  | .undef, _ => by rw [forceV]
  | .bool _, _ => by rw [forceV]
  | .int _ _, _ => by rw [forceV]
  | .str _, _ => by rw [forceV]
  | .arr _ _, _ => by rw [forceV]
  | .list _ _, _ => by rw [forceV]
  | .nilsl, _ => by rw [forceV]
  | .vptr _ _ _, _ => by rw [forceV]
  | .nilp, _ => by rw [forceV]
  | .dmap _ _ _, _ => by rw [forceV]
  | .nilm, _ => by rw [forceV]
  | .nilf, _ => by rw [forceV]
theorem forceVs_eq : ∀ (l : List PV) (K : List PV → Prop), forceVs l K = K l
  | [], _ => by rw [forceVs]
  | x :: r, K => by rw [forceVs, forceV_eq x, forceVs_eq r]
end
def forceB : Blk → (Blk → Prop) → Prop
  | .gone, K => K .gone
  | .row l ty xs, K => K (.row l ty xs)
  | .box l ty x, K => forceV x fun x => K (.box l ty x)
  | .map l kt et en, K => K (.map l kt et en)
  | .iter l kt et rest cur, K => K (.iter l kt et rest cur)
def forceBs : List Blk → (List Blk → Prop) → Prop
  | [], K => K []
  | x :: r, K => forceB x fun x => forceBs r fun r => K (x :: r)
theorem forceB_eq (b : Blk) (K : Blk → Prop) : forceB b K = K b := by
  cases b <;> simp only [forceB, forceV_eq]
theorem forceBs_eq : ∀ (l : List Blk) (K : List Blk → Prop), forceBs l K = K l
  | [], _ => rfl
  | x :: r, K => by rw [forceBs, forceB_eq, forceBs_eq r]

def forceU : Ups → (Ups → Prop) → Prop
  | [], K => K []
  | (h, b) :: r, K => forceN h fun h => forceB b fun b => forceU r fun r => K ((h, b) :: r)
theorem forceU_eq : ∀ (l : Ups) (K : Ups → Prop), forceU l K = K l
  | [], _ => rfl
  | (h, b) :: r, K => by rw [forceU, forceN_eq, forceB_eq, forceU_eq r]

/-- Blocks 0 .. p-1 stay; the others that are reached come behind them, in order; the rest is forgotten. -/
def tidy (p : Nat) (xs : List PV) (L : Heap) (K : List PV → List Blk → Prop) : Prop :=
  forceNs (reach L 60 0 (addNew (List.range p) (PV.hss xs))) fun R =>
  cond (closedIn R L xs) (forceVs (PV.rens (idx R) xs) fun xs => forceBs (R.map fun h => (L h).ren (idx R)) fun bs => K xs bs) False

/-- What lives on behind a region: the other temporaries are forgotten. -/
def memN (i : Nat) : List Nat → Bool
  | [] => false
  | j :: r => match Nat.beq i j with
    | true => true
    | false => memN i r
def keepG (keep : List Nat) : Nat → List PV → List PV
  | _, [] => []
  | i, x :: r => (match memN i keep with | true => x | false => .undef) :: keepG keep (i + 1) r
def keepT (keep : List Nat) (t : List PV) : List PV := keepG keep 0 t
def keepK (keep : List Nat) : Nat → List PV → (List PV → Prop) → Prop
  | _, [], K => K []
  | i, x :: r, K => match memN i keep with
    | true => keepK keep (i + 1) r fun r => K (x :: r)
    | false => keepK keep (i + 1) r fun r => K (.undef :: r)
theorem keepK_eq (keep : List Nat) : ∀ (i : Nat) (t : List PV) (K : List PV → Prop), keepK keep i t K = K (keepG keep i t)
  | _, [], _ => rfl
  | i, x :: r, K => by
    rw [keepK, keepG]
    cases memN i keep <;> simp only [keepK_eq keep (i + 1) r]
def setK : List PV → Nat → PV → (List PV → Prop) → Prop
  | [], _, _, K => K []
  | _ :: r, 0, v, K => K (v :: r)
  | x :: r, d + 1, v, K => setK r d v fun r => K (x :: r)
theorem setK_eq : ∀ (t : List PV) (d : Nat) (v : PV) (K : List PV → Prop), setK t d v K = K (t.set d v)
  | [], _, _, _ => rfl
  | _ :: _, 0, _, _ => rfl
  | x :: r, d + 1, v, K => by rw [setK, setK_eq r]; rfl
def setD (t : List PV) (d : Option Nat) (v : PV) (K : List PV → Prop) : Prop :=
  match d with
  | some d => setK t d v K
  | none => K t
theorem setD_eq (t : List PV) (d : Option Nat) (v : PV) (K : List PV → Prop) : setD t d v K = K (putD t d v) := by
  cases d with
  | none => rfl
  | some d => exact setK_eq t d v K

abbrev FnSem := List Blk → List PV → (List Blk → List PV → Prop) → Prop

inductive Ex where
  | normal
  | exit (id : Nat)
  | ret

/-- A piece of code by itself: what it does from temporaries and blocks. -/
abbrev LoopSem := List PV → List Blk → (Ex → List PV → List Blk → Prop) → Prop

/-- An iterator that goes through a list: of the blocks and values that it has caught, the list. -/
abbrev ItSem := List Blk → List PV → (List (List PV) → Prop) → Prop

structure Ctx where
  T : Tab
  Γ : Globs
  /-- contracts of functions -/
  Φ : FuncId → Option FnSem
  /-- are a functions arguments of this place handed over by their blocks? -/
  ref : FuncId → Nat → Bool
  /-- loops, by the number of their first region -/
  Λ : Nat → Option LoopSem
  /-- what stands behind in a sequence, by the number of its first region, where it is looked at by itself -/
  J : Nat → Option LoopSem
  /-- temporaries that live on behind a region -/
  keep : Nat → List Nat
  /-- how many blocks came in -/
  p : Nat
  /-- may regions draw their order? -/
  mixed : Bool
  /-- nil slices that are owned from the end of a region on: the temporary, the type of its elements -/
  own : Nat → List (Nat × Nat)
  /-- nil slices in variables that are owned from the end of a region on: the block, the place in it, the type of its elements -/
  ownB : Nat → List (Nat × List Nat × Nat) := fun _ => []
  /-- iterators -/
  It : FuncId → Option ItSem := fun _ => none
  /-- ranges over a function, by the number of their bodys first region: blocks that keep their numbers; what is done with the list -/
  R : Nat → Option (List Nat × (List (List PV) → LoopSem)) := fun _ => none
  /-- temporaries whose values are data from the end of a region on -/
  frz : Nat → List (Nat × Option (Nat × Option Nat)) := fun _ => []
  /-- blocks that are not written any more from the end of a region on -/
  frzB : Nat → List Nat := fun _ => []
  /-- temporaries that must be pointers at the end of a region -/
  need : Nat → List Nat := fun _ => []

mutual
/-- A value that is handed over as what it holds; the blocks that must not be written from then on. -/
def purK (T : Tab) (L : Heap) : PV → (PV → List Nat → Prop) → Prop
  | .sl h ty i n, K => match L h with
    | .row _ ty' xs => cond (Nat.beq ty ty') (rowK xs i n fun ys => K (.list ty ys) [h]) False
    | _ => False
  | .sla h ty i p e j n, K => showK T e L (.sla h ty i p e j n) fun ys => K (.list e ys) [h]
  | .agg fs, K => pursK T L fs fun gs F => K (.agg gs) F
  | .nilsl, K => K .nilsl []
  | .mapr h, K => match L h with
    | .map _ kt et en => K (.dmap kt et en) [h]
    | _ => False
  | x, K => K x []
def pursK (T : Tab) (L : Heap) : List PV → (List PV → List Nat → Prop) → Prop
  | [], K => K [] []
  | x :: r, K => purK T L x fun y F => pursK T L r fun ys G => K (y :: ys) (F ++ G)
end

/-- The arguments of a call, one by one: those that go by their blocks as they are. -/
def argsK (T : Tab) (L : Heap) (ref : Nat → Bool) : Nat → List PV → (List PV → List Nat → Prop) → Prop
  | _, [], K => K [] []
  | i, x :: r, K => cond (ref i) (argsK T L ref (i + 1) r fun ys F => K (x :: ys) F)
      (purK T L x fun y F => argsK T L ref (i + 1) r fun ys G => K (y :: ys) (F ++ G))

def freeze : Blk → Blk
  | .row _ ty xs => .row false ty xs
  | .box _ ty x => .box false ty x
  | .map _ kt et en => .map false kt et en
  | .iter _ kt et rest cur => .iter false kt et rest cur
  | .gone => .gone

def scalar : PV → Bool
  | .bool _ | .int _ _ | .str _ => true
  | _ => false

def oneRes : List PV → PV
  | [v] => v
  | vs => .tup vs

def Blk.isBlk : Blk → Bool
  | .gone => false
  | _ => true

/-- The callees number of a block, back to the callers. -/
def backOf (R : List Nat) (hb i : Nat) : Nat := cond (Nat.blt i R.length) (R.getD i 0) (hb + (i - R.length))

/-- A call of a function, by its contract. -/
def evCall (C : Ctx) (hb : Nat) (L : Heap) (f : FuncId) (args : List PV) (K : PV → Ups → Prop) : Prop :=
  match C.Φ f with
  | none => False
  | some φ => argsK C.T L (C.ref f) 0 args fun args1 F =>
    forceNs (reach L 60 0 (addNew [] (PV.hss args1))) fun R =>
    cond (closedIn R L args1 && F.all (fun h => !R.contains h) && R.all fun h => (L h).isBlk)
      (φ (R.map fun h => (L h).ren (idx R)) (PV.rens (idx R) args1) fun bs res =>
        cond (Nat.ble bs.length (R.length + 8) && bs.all (fun b => b.hs.all fun q => Nat.blt q bs.length) && (PV.hss res).all fun q => Nat.blt q bs.length)
          (cond (Nat.beq bs.length 0 && res.all scalar)
             (K (oneRes res) [])
             (forceV (PV.ren (backOf R hb) (oneRes res)) fun v => forceU ((bs.mapIdx fun i b => (backOf R hb i, b.ren (backOf R hb))) ++ F.map fun h => (h, freeze (L h))) fun u => K v u)) False)
      False

def calleeOf : Op → Option (Operand × List Operand)
  | .call { callee := .value f, args, .. } => some (f, args.toList)
  | _ => none

/-- An operation that is carried out. -/
def evRun (C : Ctx) (hb : Nat) (t : List PV) (L : Heap) (op : Op) (K : PV → Ups → Prop) : Prop :=
  match calleeOf op with
  | some (f, args) => match St.ev C.Γ t f with
    | .fn g caps => evCall C hb L g (args.map (St.ev C.Γ t) ++ caps) K
    | _ => False
  | none => evOp C.T hb (St.ev C.Γ t) L op K

/-- The operation at place j of a region, its guard asked. -/
def evOper (C : Ctx) (ops : Array Oper) (j : Nat) (o : Oper) (s : St) (K : St → Prop) : Prop :=
  let run := fun (t : List PV) => evRun C (s.nx + 8 * j) t s.L o.op fun v u => setD t o.dst v fun t => K ⟨t, upds s.L u, s.nx⟩
  match o.guard with
  | none => run s.t
  | some (g, want) =>
    match ops[g]? with
    | some og => match og.dst with
      | some d => match s.t.getD d .undef with
        | .bool b => cond (cond want b (!b)) (setK s.t d (.bool want) run) (setK s.t d (.bool (!want)) fun t => setD t o.dst (.tup []) fun t => K ⟨t, s.L, s.nx⟩)
        | .tup [] => setD s.t o.dst (.tup []) fun t => K ⟨t, s.L, s.nx⟩
        | _ => False
      | none => False
    | none => False

def evOps (C : Ctx) (ops : Array Oper) : Nat → List Oper → St → (St → Prop) → Prop
  | _, [], s, K => K s
  | j, o :: r, s, K => evOper C ops j o s fun s' => evOps C ops (j + 1) r s' K

/-! A region that draws its order: what answers alike in every world comes first; of the rest every order. -/

def sclU : PV → Bool
  | .undef | .tup _ => true
  | x => scalar x
def sliceU : PV → Bool
  | .undef | .tup _ | .list _ _ | .nilsl | .sl _ _ _ _ | .sla _ _ _ _ _ _ _ | .str _ => true
  | _ => false
def intU : PV → Bool
  | .undef | .tup _ | .int _ _ => true
  | _ => false
def undefV : PV → Bool
  | .undef | .tup _ => true
  | _ => false

def pureNow (op : Op) (ρ : Operand → PV) : Bool :=
  match op with
  | .move _ | .assign _ | .pick _ _ _ | .extract _ _ => true
  | .binOp _ _ x y _ => sclU (ρ x) && sclU (ρ y)
  | .unOp _ _ x => sclU (ρ x)
  | .convert _ _ x => intU (ρ x)
  | .slice _ x _ _ _ => sliceU (ρ x)
  | .load _ a => undefV (ρ a)
  | .indexAddr _ _ _ => true
  | .fieldAddr _ _ _ => true
  | .nilCheck _ => true
  | .call { callee := .builtin .len, args, .. } => match args.toList with
    | [x] => sliceU (ρ x)
    | _ => false
  | _ => false

def evAt (C : Ctx) (ops : Array Oper) (i : Nat) (s : St) (K : St → Prop) : Prop :=
  match ops[i]? with
  | some o => evOper C ops i o s K
  | none => False

def pureAt (C : Ctx) (ops : Array Oper) (s : St) (i : Nat) : Bool :=
  match ops[i]? with
  | some o => pureNow o.op (St.ev C.Γ s.t)
  | none => false

def allP (f : Nat → Prop) : List Nat → Prop
  | [] => True
  | [i] => f i
  | i :: r => f i ∧ allP f r

def evAny (C : Ctx) (ops : Array Oper) : Nat → Array Bool → St → (St → Prop) → Prop
  | 0, listed, s, K => match Region.ready .any ops listed with
    | [] => K s
    | _ => False
  | n + 1, listed, s, K =>
    match (Region.ready .any ops listed).find? fun i => pureAt C ops s i && Region.free .any ops listed i with
    | some i => evAt C ops i s fun s' => evAny C ops n (listed.setIfInBounds i true) s' K
    | none => match Region.ready .any ops listed with
      | [] => K s
      | j :: r => allP (fun i => evAt C ops i s fun s' => evAny C ops n (listed.setIfInBounds i true) s' K) (j :: r)

/-- A nil slice, as a slice of no elements that one may append to. -/
def owned (hb : Nat) : List (Nat × Nat) → List PV → Heap → (List PV → Heap → Prop) → Prop
  | [], t, L, K => K t L
  | (d, ty) :: r, t, L, K => match t.getD d .undef with
    | .nilsl => owned (hb + 1) r (t.set d (.sl hb ty 0 0)) (upd L hb (.row true ty [])) K
    | _ => owned hb r t L K

/-- A nil slice in a variable, as a slice of no elements that one may append to. -/
def ownedB (T : Tab) (hb : Nat) : List (Nat × List Nat × Nat) → Heap → (Heap → Prop) → Prop
  | [], L, K => K L
  | (h, p, ty) :: r, L, K => match L h with
    | .box true t x => cond (Nat.blt h hb && (tyAt T t p).any (fun e => match (T.at e).kd with | .slice _ => true | _ => false) && !arrPath T t p)
      (subK x p fun y => match y with
        | .nilsl => ownedB T (hb + 1) r (upd (upd L h (.box true t (putIn x p (.sl hb ty 0 0)))) hb (.row true ty [])) K
        | _ => ownedB T hb r L K) False
    | _ => ownedB T hb r L K

/-- A nil slice, as a slice of no elements; a nil map, as a map of no entries. -/
def weak1 : Option (Nat × Option Nat) → PV → PV
  | some (ty, none), .nilsl => .list ty []
  | some (kt, some et), .nilm => .dmap kt et []
  | _, x => x

/-- Values that are data from here on: their blocks are not written any more. -/
def frzK (T : Tab) : List (Nat × Option (Nat × Option Nat)) → List PV → Heap → (List PV → Heap → Prop) → Prop
  | [], t, L, K => K t L
  | (d, k) :: r, t, L, K => purK T L (t.getD d .undef) fun y F => frzK T r (t.set d (weak1 k y)) (upds L (F.map fun h => (h, freeze (L h)))) K

def lendB : Blk → Bool
  | .row _ _ _ | .box _ _ _ | .map _ _ _ _ => true
  | _ => false
def frzL (l : List Nat) (L : Heap) : Heap := upds L ((l.filter fun h => lendB (L h)).map fun h => (h, freeze (L h)))

def cleanW (C : Ctx) (id n : Nat) (s : St) (K : St → Prop) : Prop :=
  keepK (C.keep id) 0 s.t fun t => owned (s.nx + 8 * n) (C.own id) t s.L fun t L => ownedB C.T (s.nx + 8 * n + (C.own id).length) (C.ownB id) L fun L => frzK C.T (C.frz id) t L fun t L => tidy C.p t (frzL (C.frzB id) L) fun t bs => forceN bs.length fun n => K ⟨t, hp bs, n⟩
/-- Are temporaries pointers? -/
def isPtr : PV → Bool
  | .ptr _ _ _ _ | .vptr _ _ _ => true
  | _ => false
def needOk (t : List PV) (l : List Nat) : Bool := l.all fun d => isPtr (t.getD d .undef)

/-- Behind a region: what lives on, the blocks numbered anew. -/
def clean (C : Ctx) (id n : Nat) (s : St) (K : St → Prop) : Prop :=
  cond (needOk s.t (C.need id)) (cleanW C id n s K) False

def firstRegion : Code → Nat
  | .region id _ _ => id
  | .seq a _ => firstRegion a
  | .block _ c => firstRegion c
  | .scope c => firstRegion c
  | _ => 0

def dropT (c : Operand) (t : List PV) : List PV :=
  match c with
  | .tmp n => t.set n .undef
  | _ => t

/-- The blocks of a state. -/
def St.bs (s : St) : List Blk := (List.range s.nx).map s.L
def mkSt (t : List PV) (bs : List Blk) : St := ⟨t, hp bs, bs.length⟩

/-- Does no operation put off a call? -/
def noDefer (ops : Array Oper) : Bool := ops.all fun o => match o.op with | .defer _ => false | _ => true

/-- No range over a function inside. -/
def noRange : Code → Bool
  | .rangeFunc _ _ _ _ => false
  | .seq a b => noRange a && noRange b
  | .cond _ a b => noRange a && noRange b
  | .block _ c => noRange c
  | .loop c => noRange c
  | .scope c => noRange c
  | _ => true

/-- The temporaries of a round. -/
def setP : List Nat → List PV → List PV → List PV
  | p :: ps, x :: xs, t => setP ps xs (t.set p x)
  | _, _, t => t

def evC (C : Ctx) : Code → St → (Ex → St → Prop) → Prop
  | .skip, s, K => K .normal s
  | .region id ops draw, s, K => cond draw (cond (Region.noSelect ops && C.mixed && noDefer ops) (evAny C ops ops.size (Array.replicate ops.size false) s fun s' => clean C id ops.size s' (K .normal)) False)
      (evOps C ops 0 ops.toList s fun s' => clean C id ops.size s' (K .normal))
  | .seq a b, s, K => evC C a s fun e s' => match e with
    | .normal => match C.J (firstRegion b) with
      | some l => l s'.t s'.bs fun e t bs => K e (mkSt t bs)
      | none => evC C b s' K
    | .exit id => K (.exit id) s'
    | .ret => K .ret s'
  | .cond c a b, s, K => match St.ev C.Γ s.t c with
    | .bool g => cond g (evC C a ⟨dropT c s.t, s.L, s.nx⟩ K) (evC C b ⟨dropT c s.t, s.L, s.nx⟩ K)
    | _ => False
  | .block id c, s, K => evC C c s fun e s' => match e with
    | .normal => K .normal s'
    | .exit i => cond (Nat.beq i id) (K .normal s') (K (.exit i) s')
    | .ret => K .ret s'
  | .loop c, s, K => match C.Λ (firstRegion c) with
    | some l => l s.t s.bs fun e t bs => K e (mkSt t bs)
    | none => False
  | .rangeFunc f ps a b, s, K => match St.ev C.Γ s.t f with
    | .fn g caps => match C.It g, C.R (firstRegion b) with
      | some φ, some (pins, l) =>
        forceNs (reach s.L 60 0 (addNew [] (PV.hss caps))) fun Q =>
        cond (closedIn Q s.L caps && Q.all (fun h => Nat.ble C.p h && (s.L h).isBlk) && noRange a && noRange b)
          (φ (Q.map fun h => (s.L h).ren (idx Q)) (PV.rens (idx Q) caps) fun xs =>
            let L := upds s.L (Q.map fun h => (h, .gone))
            let t := dropT f s.t
            forceNs (reach L 60 0 (addNew (List.range C.p) (pins ++ PV.hss t))) fun R =>
            cond (closedIn R L t && Nat.ble (C.p + pins.length) R.length && (PV.hss (PV.rens (idx R) t)).all (fun q => Nat.blt q (C.p + pins.length)) && xs.all fun x => Nat.beq x.length ps.size)
              (l xs (PV.rens (idx R) t) (R.map fun h => (L h).ren (idx R)) fun e t bs => K e (mkSt t bs)) False) False
      | _, _ => False
    | _ => False
  | .exit id, s, K => K (.exit id) s
  | .ret, s, K => K .ret s
  | _, _, _ => False

/-- The rounds of a range over a function, one for each of a list. -/
def evRange (C : Ctx) (ps : List Nat) (a b : Code) (t : List PV) : List (List PV) → Heap → Nat → (Ex → St → Prop) → Prop
  | [], L, nx, K => K .normal ⟨t, L, nx⟩
  | x :: xs, L, nx, K => evC C a ⟨setP ps x t, L, nx⟩ fun e s => match e with
    | .normal => evC C b s fun e s' => match e with
      | .normal => evRange C ps a b t xs s'.L s'.nx K
      | .exit id => K (.exit id) ⟨t, s'.L, s'.nx⟩
      | .ret => K .ret ⟨t, s'.L, s'.nx⟩
    | _ => False

def evLoop (C : Ctx) (c : Code) : Nat → St → (Ex → St → Prop) → Prop
  | 0, _, _ => False
  | n + 1, s, K => evC C c s fun e s' => match e with
    | .normal => evLoop C c n s' K
    | .exit id => K (.exit id) s'
    | .ret => K .ret s'

def resOf (T : Tab) (t : List PV) (L : Heap) (r : ResultVar) (K : PV → Prop) : Prop :=
  match r with
  | .tmp n => K (t.getD n .undef)
  | .cell a ty => evLoad T L ty (t.getD a .undef) K
def ress (T : Tab) (t : List PV) (L : Heap) : List ResultVar → (List PV → Prop) → Prop
  | [], K => K []
  | r :: rs, K => resOf T t L r fun x => ress T t L rs fun xs => K (x :: xs)

/-- A functions body, from its arguments to its results. -/
def evF (C : Ctx) (fn : Func) (bs : List Blk) (args : List PV) (K : List Blk → List PV → Prop) : Prop :=
  match fn.body with
  | none => False
  | some c =>
    (bs.length = C.p) ∧ evC C c ⟨args ++ List.replicate (fn.ntmps - args.length) .undef, hp bs, bs.length⟩ fun e s =>
      let fin := ress C.T s.t s.L fn.results.toList fun vs => tidy C.p vs s.L fun vs' bs' => K bs' vs'
      match e with
      | .normal => fin
      | .ret => fin
      | .exit _ => False

end Pv
