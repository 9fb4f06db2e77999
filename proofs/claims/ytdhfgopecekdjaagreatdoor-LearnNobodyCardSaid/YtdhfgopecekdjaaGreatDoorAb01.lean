/- Abstract values, objects and single operations: definitions. -/
import Derived.Maps.AppendAt
import Derived.Laws.MakeOwn
import Derived.CallsIn
import Derived.RangeFuncIn
import Derived.Laws.BytesArg
/-! Abstract states: typed immutable data, owned rows, boxes, maps; and a step function on them. -/
namespace Go.Ab
noncomputable section

/-! ### Types of data -/
inductive Ty where
  | int (k : IntKind) | bool | str | lst (t : Ty) | pair (a b : Ty) | unit

def Ty.V : Ty → Type
  | .int _ => Int | .bool => Bool | .str => ByteArray
  | .lst t => List t.V | .pair a b => a.V × b.V | .unit => Unit

def ikEq : IntKind → IntKind → Bool
  | .i8, .i8 | .i16, .i16 | .i32, .i32 | .i64, .i64 | .u8, .u8 | .u16, .u16 | .u32, .u32 | .u64, .u64 => true
  | _, _ => false
theorem ikEq_eq {a b : IntKind} (h : ikEq a b = true) : a = b := by cases a <;> cases b <;> first | rfl | cases h

def Ty.eq : Ty → Ty → Bool
  | .int k, .int j => ikEq k j
  | .bool, .bool | .str, .str | .unit, .unit => true
  | .lst a, .lst b => a.eq b
  | .pair a b, .pair c d => a.eq c && b.eq d
  | _, _ => false
theorem Ty.eq_eq : ∀ {a b : Ty}, a.eq b = true → a = b := by
  intro a
  induction a with
  | int k =>
    intro b h
    cases b <;> first | (cases h; done) | skip
    rw [ikEq_eq h]
  | bool => intro b h; cases b <;> first | rfl | cases h
  | str => intro b h; cases b <;> first | rfl | cases h
  | unit => intro b h; cases b <;> first | rfl | cases h
  | lst t ih =>
    intro b h
    cases b <;> first | (cases h; done) | skip
    rw [ih h]
  | pair x y ih1 ih2 =>
    intro b h
    cases b <;> first | (cases h; done) | skip
    simp only [Ty.eq, Bool.and_eq_true] at h
    rw [ih1 h.1, ih2 h.2]
/-- A datum of one type, seen as one of an equal type. -/
def Ty.cst {a b : Ty} (h : a.eq b = true) (x : a.V) : b.V := Ty.eq_eq h ▸ x
theorem Ty.cst_self {a : Ty} (h : a.eq a = true) (x : a.V) : Ty.cst h x = x := rfl

def Ty.dflt : (t : Ty) → t.V
  | .int _ => (0 : Int) | .bool => false | .str => (ByteArray.empty : ByteArray)
  | .lst _ => [] | .pair a b => (a.dflt, b.dflt) | .unit => ()
/-- How many cells. -/
def Ty.size : Ty → Nat
  | .pair a b => a.size + b.size | .unit => 0 | _ => 1
def Ty.agg : Ty → Bool
  | .pair _ _ => true | .unit => true | _ => false
def eqI (x y : Int) : Bool := match x, y with
  | .ofNat m, .ofNat n => Nat.beq m n
  | .negSucc m, .negSucc n => Nat.beq m n
  | _, _ => false
theorem eqI_dec (x y : Int) : eqI x y = decide (x = y) := by
  cases x <;> cases y
  case ofNat.ofNat m n =>
    show Nat.beq m n = _
    by_cases h : m = n
    · subst h; rw [Nat.beq_refl]; simp
    · have : Nat.beq m n = false := by
        cases hb : Nat.beq m n with
        | false => rfl
        | true => exact absurd (Nat.eq_of_beq_eq_true hb) h
      rw [this]; symm; simp; omega
  case negSucc.negSucc m n =>
    show Nat.beq m n = _
    by_cases h : m = n
    · subst h; rw [Nat.beq_refl]; simp
    · have : Nat.beq m n = false := by
        cases hb : Nat.beq m n with
        | false => rfl
        | true => exact absurd (Nat.eq_of_beq_eq_true hb) h
      rw [this]; symm; simp; omega
  all_goals (symm; simp [eqI])
def eqB (x y : Bool) : Bool := x == y
def eqS (x y : ByteArray) : Bool := x == y
def appS (x y : ByteArray) : ByteArray := x ++ y
def NonNeg (y : Int) : Prop := 0 ≤ y
/-- A number of rows' elements, seen. -/
def SmallLen (n : Nat) : Prop := n ≤ 9223372036854775807
/-- Equality of data. -/
def Ty.veq : (t : Ty) → t.V → t.V → Bool
  | .int _, x, y => eqI x y
  | .bool, x, y => eqB x y
  | .str, x, y => eqS x y
  | .lst _, _, _ => false
  | .pair a b, x, y => a.veq x.1 y.1 && b.veq x.2 y.2
  | .unit, _, _ => true

/-! ### Abstract values and objects -/
inductive AV where
  /-- immutable data -/
  | dat (t : Ty) (x : t.V)
  /-- a struct's fields (an array's elements), one behind the other -/
  | pr (a b : AV)
  | un
  /-- a nil slice -/
  | nil (t : Ty)
  /-- a slice: the whole of an owned row -/
  | sl (id : Nat)
  /-- a slice: a part of an owned row -/
  | sub (id lo hi : Nat)
  /-- a pointer into object id: element i, offset and path within the element -/
  | ptr (id i off : Nat) (path : List Nat)
  /-- a pointer to data that never changes -/
  | pim (t : Ty) (x : t.V)
  | map (id : Nat)
  | fn (f : FuncId) (caps : AV)
  | nilfn
  /-- a nil pointer -/
  | nilp
  /-- a nil map -/
  | nilm
  /-- the body of a range over a function: object id is its record -/
  | yld (id : Nat)
  | tup (vs : AV)
  | any

inductive LSt where
  | ready | busy | done | gone
/-- What a range over a function is about. -/
structure LRec where
  n : Nat
  params : Array Tmp
  assign : Code
  body : Code
  st : LSt
  pend : Option Code

inductive AObj where
  | box (v : AV)
  | row (e : TypeId) (t : Ty) (xs : List t.V)
  | frz (t : Ty) (xs : List t.V)
  | map (k v : Ty) (m : List (k.V × v.V))
  /-- a map to values -/
  | vmap (k : Ty) (m : List (k.V × AV))
  /-- a row whose elements are values: such as name objects -/
  | vrow (e : TypeId) (sz : Nat) (xs : List AV)
  /-- a range over a function that goes on: its record; what the temporaries held -/
  | lp (L : LRec) (fr : List (Nat × AV))
  /-- the block of a range over a function for deferred calls -/
  | mark
  | dead

abbrev Fr := List (Nat × AV)
abbrev Objs := List (Nat × AObj)

/-- What is told of s. -/
noncomputable def look {α : Type} (s : Nat) (l : List (Nat × α)) : Option α :=
  List.rec (motive := fun _ => Option α) none (fun p _ ih => Bool.rec (motive := fun _ => Option α) ih (some p.2) (Nat.beq s p.1)) l
theorem look_nil {α : Type} {s : Nat} : look s ([] : List (Nat × α)) = none := rfl
theorem look_cons {α : Type} {s k : Nat} {v : α} {r : List (Nat × α)} : look s ((k, v) :: r) = if s = k then some v else look s r := by
  show Bool.rec (motive := fun _ => Option α) (look s r) (some v) (Nat.beq s k) = _
  by_cases h : s = k
  · subst h; rw [if_pos rfl, Nat.beq_refl]
  · rw [if_neg h]
    cases hb : Nat.beq s k with
    | false => rfl
    | true => exact absurd (Nat.eq_of_beq_eq_true hb) h

def AV.size : AV → Nat
  | .dat t _ => t.size | .pr a b => a.size + b.size | .un => 0 | _ => 1
def AV.agg : AV → Bool
  | .dat t _ => t.agg | .pr _ _ => true | .un => true | _ => false

/-- A value that is known. -/
def AV.ok : AV → Bool
  | .any => false | .tup _ => false | _ => true

/-! ### Data out of values -/
def toDat (objs : Objs) : (t : Ty) → AV → Option t.V
  | t, .dat t' x => if h : t'.eq t = true then some (Ty.cst h x) else none
  | .lst t, .nil t' => if t'.eq t then some [] else none
  | .lst t, .sl id =>
    match look id objs with
    | some (.row _ t' xs) => if h : t'.eq t = true then some (Ty.cst (a := .lst t') (b := .lst t) h xs) else none
    | some (.frz t' xs) => if h : t'.eq t = true then some (Ty.cst (a := .lst t') (b := .lst t) h xs) else none
    | _ => none
  | .lst t, .sub id lo hi =>
    match look id objs with
    | some (.row _ t' xs) => if h : t'.eq t = true then some (Ty.cst (a := .lst t') (b := .lst t) h ((xs.take hi).drop lo)) else none
    | _ => none
  | .pair a b, .pr f fs =>
    match toDat objs a f, toDat objs b fs with
    | some x, some y => some (x, y)
    | _, _ => none
  | .unit, .un => some ()
  | _, _ => none
/-- The rows that are named in a value. -/
def slIds : AV → List Nat
  | .sl id => [id] | .sub id _ _ => [id] | .pr a b => slIds a ++ slIds b | _ => []
/-- Rows that become data. -/
def freeze (objs : Objs) : List Nat → Objs
  | [] => []
  | id :: r => match look id objs with
    | some (.row _ t xs) => (id, .frz t xs) :: freeze objs r
    | _ => freeze objs r

/-! ### Paths -/
def datGet : (t : Ty) → t.V → List Nat → Option AV
  | t, x, [] => some (.dat t x)
  | .pair a _, x, 0 :: p => datGet a x.1 p
  | .pair _ b, x, (n + 1) :: p => datGet b x.2 (n :: p)
  | _, _, _ => none
def avGet : AV → List Nat → Option AV
  | v, [] => some v
  | .pr a _, 0 :: p => avGet a p
  | .pr _ b, (n + 1) :: p => avGet b (n :: p)
  | .dat t x, p => datGet t x p
  | _, _ => none
/-- The offset of what lies at a path. -/
def tyOff : Ty → List Nat → Option Nat
  | _, [] => some 0
  | .pair a _, 0 :: p => tyOff a p
  | .pair a b, (n + 1) :: p => (tyOff b (n :: p)).map (a.size + ·)
  | _, _ => none
def avOff : AV → List Nat → Option Nat
  | _, [] => some 0
  | .pr a _, 0 :: p => avOff a p
  | .pr a b, (n + 1) :: p => (avOff b (n :: p)).map (a.size + ·)
  | .dat t _, p => tyOff t p
  | _, _ => none
def datSet : (t : Ty) → t.V → List Nat → AV → Option AV
  | t, _, [], u => if u.size = t.size ∧ u.agg = t.agg then some u else none
  | .pair a b, x, 0 :: p, u => (datSet a x.1 p u).map (AV.pr · (.dat b x.2))
  | .pair a b, x, (n + 1) :: p, u => (datSet b x.2 (n :: p) u).map (AV.pr (.dat a x.1) ·)
  | _, _, _, _ => none
def avSet : AV → List Nat → AV → Option AV
  | v, [], u => if u.size = v.size ∧ u.agg = v.agg then some u else none
  | .pr a b, 0 :: p, u => (avSet a p u).map (AV.pr · b)
  | .pr a b, (n + 1) :: p, u => (avSet b (n :: p) u).map (AV.pr a ·)
  | .dat t x, p, u => datSet t x p u
  | _, _, _ => none
/-- A new datum at a path of a datum. -/
def tset (objs : Objs) : (t : Ty) → List Nat → AV → t.V → Option t.V
  | t, [], u, _ => toDat objs t u
  | .pair a _, 0 :: p, u, x => (tset objs a p u x.1).map (·, x.2)
  | .pair _ b, (n + 1) :: p, u, x => (tset objs b (n :: p) u x.2).map (x.1, ·)
  | _, _, _, _ => none

/-! ### The program's types -/
inductive TD where
  | int (k : IntKind) | bool | str | slice (e : TypeId) | map (k e : TypeId)
  | struct (fs : List (TypeId × Nat)) | array (n : Nat) (e : TypeId) | func | other
structure TI where
  d : TD
  size : Nat
  bytes : Nat
  agg : Bool
  zero : AV
  ty : Option Ty
abbrev Tbl := TypeId → Option TI

/-- The data type of a slice type's elements. -/
def elemTy (T : Tbl) (t : TypeId) : Option Ty :=
  match T t with
  | some { d := .slice e, .. } => (T e).bind (·.ty)
  | _ => none
def constAV (T : Tbl) (t : TypeId) : Value → Option AV
  | .int k n => some (.dat (.int k) n)
  | .bool b => some (.dat .bool b)
  | .string s => if ByteArray.size s ≤ 9223372036854775807 then some (.dat .str s) else none
  | .slice none 0 0 => (elemTy T t).map AV.nil
  | .nilFunc => some .nilfn
  | .pointer none => some .nilp
  | .map none => some .nilm
  | _ => none
def ev (T : Tbl) (t : TypeId) (fr : Fr) : Operand → Option AV
  | .tmp s => look s fr
  | .const v => constAV T t v
  | .func f => some (.fn f .un)
  | .global _ => none

/-! ### Integers -/
def iLo : IntKind → Int
  | .i8 => -128 | .i16 => -32768 | .i32 => -2147483648 | .i64 => -9223372036854775808 | _ => 0
def iHi : IntKind → Int
  | .i8 => 127 | .i16 => 32767 | .i32 => 2147483647 | .i64 => 9223372036854775807
  | .u8 => 255 | .u16 => 65535 | .u32 => 4294967295 | .u64 => 18446744073709551615
/-- A number is one of a kind. -/
def InR (k : IntKind) (n : Int) : Prop := iLo k ≤ n ∧ n ≤ iHi k
def iand (k : IntKind) (x y : Int) : Int := k.wrap ((BitVec.ofInt k.bits x &&& BitVec.ofInt k.bits y).toNat : Int)
def ior (k : IntKind) (x y : Int) : Int := k.wrap ((BitVec.ofInt k.bits x ||| BitVec.ofInt k.bits y).toNat : Int)
def ixor (k : IntKind) (x y : Int) : Int := k.wrap ((BitVec.ofInt k.bits x ^^^ BitVec.ofInt k.bits y).toNat : Int)
def iandNot (k : IntKind) (x y : Int) : Int := k.wrap ((BitVec.ofInt k.bits x &&& ~~~(BitVec.ofInt k.bits y)).toNat : Int)
def ishl (k : IntKind) (x y : Int) : Int := k.wrap (x * 2 ^ (min y.toNat k.bits))
def ishr (k : IntKind) (x y : Int) : Int := x.fdiv (2 ^ (min y.toNat k.bits))
def iquo (k : IntKind) (x y : Int) : Int := k.wrap (x.tdiv y)
def irem (x y : Int) : Int := x.tmod y

def InRange (i : Int) (n : Nat) : Prop := 0 ≤ i ∧ i < n
def FitsRow (n bytes : Nat) : Prop := n * bytes ≤ 140737488355328
def SubOk (lo hi : Int) (n : Nat) : Prop := 0 ≤ lo ∧ lo ≤ hi ∧ hi ≤ n
def MakeOk (n : Int) (bytes : Nat) : Prop := 0 ≤ n ∧ n * bytes ≤ 140737488355328
/-- What must be shown of an operation. -/
inductive Cnd where
  | inR (k : IntKind) (n : Int) | nonNeg (n : Int) | small (n : Nat) | ne0 (n : Int) | inRange (i : Int) (n : Nat)
  | subOk (lo hi : Int) (n : Nat) | fits (n b : Nat) | make (n : Int) (b : Nat) | same (a b : Int) | isB (a b : Bool)
def Cnd.holds : Cnd → Prop
  | .inR k n => InR k n | .nonNeg n => NonNeg n | .small n => SmallLen n | .ne0 n => n ≠ 0 | .inRange i n => InRange i n
  | .subOk lo hi n => SubOk lo hi n | .fits n b => FitsRow n b | .make n b => MakeOk n b | .same a b => a = b | .isB a b => a = b
def leB (a b : Int) : Bool := match a, b with
  | .ofNat m, .ofNat n => Nat.ble m n
  | .negSucc _, .ofNat _ => true
  | .ofNat _, .negSucc _ => false
  | .negSucc m, .negSucc n => Nat.ble n m
def Cnd.chk : Cnd → Bool
  | .inR k n => leB (iLo k) n && leB n (iHi k) | .nonNeg n => leB 0 n | .small n => Nat.ble n 9223372036854775807 | .ne0 n => !eqI n 0
  | .inRange i n => leB 0 i && leB (i + 1) n | .subOk lo hi n => leB 0 lo && leB lo hi && leB hi n | .fits n b => Nat.ble (n * b) 140737488355328
  | .make n b => leB 0 n && leB (n * b) 140737488355328 | .same a b => eqI a b | .isB a b => a == b
theorem leB_le {a b : Int} (h : leB a b = true) : a ≤ b := by
  cases a <;> cases b <;> simp only [leB, reduceCtorEq] at h
  · have := Nat.le_of_ble_eq_true h; simp only [Int.ofNat_eq_natCast]; omega
  · simp only [Int.ofNat_eq_natCast]; omega
  · have := Nat.le_of_ble_eq_true h; omega
theorem beq_eqI (x y : Int) : (x == y) = eqI x y := by
  rw [eqI_dec]
  by_cases h : x = y <;> simp [h]
theorem eqI_of {x y : Int} (h : eqI x y = true) : x = y := by rw [eqI_dec] at h; exact of_decide_eq_true h
theorem Cnd.chk_holds {c : Cnd} (h : c.chk = true) : c.holds := by
  cases c <;> simp only [Cnd.chk, Bool.and_eq_true] at h
  case inR k n => exact ⟨leB_le h.1, leB_le h.2⟩
  case nonNeg n => exact leB_le h
  case small n => exact Nat.le_of_ble_eq_true h
  case ne0 n =>
    intro h0
    subst h0
    simp [eqI_dec] at h
  case inRange i n => exact ⟨leB_le h.1, by have := leB_le h.2; omega⟩
  case subOk lo hi n => exact ⟨leB_le h.1.1, leB_le h.1.2, leB_le h.2⟩
  case fits n b => exact Nat.le_of_ble_eq_true h
  case make n b => exact ⟨leB_le h.1, leB_le h.2⟩
  case same a b => exact eqI_of h
  case isB a b => exact eq_of_beq h

/-- What an operation comes to: a value; what is new or turned among the objects; what may be taken for granted; what must be shown; what it reads, what it writes. -/
structure Eff where
  v : AV
  upd : Objs := []
  facts : List Prop := []
  conds : List Cnd := []
  rd : List Nat := []
  wr : List Nat := []

def intOp (op : BinOp) (k : IntKind) (x y : Int) : Option Eff :=
  match op with
  | .add => some { v := .dat (.int k) (x + y : Int), conds := [.inR k (x + y)] }
  | .sub => some { v := .dat (.int k) (x - y : Int), conds := [.inR k (x - y)] }
  | .mul => some { v := .dat (.int k) (x * y : Int), conds := [.inR k (x * y)] }
  | .quo => some { v := .dat (.int k) (iquo k x y), conds := [.ne0 y] }
  | .rem => some { v := .dat (.int k) (irem x y), conds := [.ne0 y] }
  | .and => some { v := .dat (.int k) (iand k x y) }
  | .or => some { v := .dat (.int k) (ior k x y) }
  | .xor => some { v := .dat (.int k) (ixor k x y) }
  | .andNot => some { v := .dat (.int k) (iandNot k x y) }
  | .eql => some { v := .dat .bool (decide (x = y)) }
  | .neq => some { v := .dat .bool (!decide (x = y)) }
  | .lss => some { v := .dat .bool (decide (x < y)) }
  | .leq => some { v := .dat .bool (decide (x ≤ y)) }
  | .gtr => some { v := .dat .bool (decide (x > y)) }
  | .geq => some { v := .dat .bool (decide (x ≥ y)) }
  | _ => none

/-- Data whose equality the machine tells part by part. -/
def Ty.flat : Ty → Bool
  | .int _ => true | .bool => true | .str => true | .pair a b => a.flat && b.flat | .unit => true | .lst _ => false

def binEff (op : BinOp) (a b : AV) : Option Eff :=
  match op, a, b with
  | .shl, .dat (.int k) x, .dat (.int _) y => some { v := .dat (.int k) (ishl k x y), conds := [.nonNeg y] }
  | .shr, .dat (.int k) x, .dat (.int _) y => some { v := .dat (.int k) (ishr k x y), conds := [.nonNeg y] }
  | op, .dat (.int k) x, .dat (.int j) y => if ikEq k j then intOp op k x y else none
  | .add, .dat .str x, .dat .str y => some { v := .dat .str (appS x y), conds := [.small (ByteArray.size x + ByteArray.size y)] }
  | .eql, .dat .str x, .dat .str y => some { v := .dat .bool (eqS x y) }
  | .neq, .dat .str x, .dat .str y => some { v := .dat .bool (!(eqS x y)) }
  | .eql, .dat .bool x, .dat .bool y => some { v := .dat .bool (eqB x y) }
  | .neq, .dat .bool x, .dat .bool y => some { v := .dat .bool (!(eqB x y)) }
  | .eql, .fn _ _, .nilfn => some { v := .dat .bool false }
  | .eql, .nilfn, .nilfn => some { v := .dat .bool true }
  | .neq, .fn _ _, .nilfn => some { v := .dat .bool true }
  | .neq, .nilfn, .nilfn => some { v := .dat .bool false }
  | _, _, _ => none
end
end Go.Ab

namespace Go.Ab
noncomputable section

/-! ### Single operations -/
def asBool : AV → Option Bool
  | .dat .bool b => some b
  | _ => none
/-- Data without slices. -/
def flatTy : Option Ty → Option Ty
  | some t => if t.flat = true then some t else none
  | none => none
theorem flatTy_some {x : Option Ty} {t : Ty} (h : flatTy x = some t) : x = some t ∧ t.flat = true := by
  cases x with
  | none => cases h
  | some u =>
    simp only [flatTy] at h
    split at h
    · rename_i hf; cases h; exact ⟨rfl, hf⟩
    · cases h

def newId (fn dst : Nat) : Nat := fn * 4096 + dst
def fresh (id : Nat) (objs : Objs) : Bool := match look id objs with | none => true | some _ => false

/-- A value of an integer kind. -/
def intOf : AV → Option Int
  | .dat (.int _) x => some x
  | _ => none
def mkStr (xs : List Int) : ByteArray := strOfNums xs
def byteAt (s : ByteArray) (i : Int) : Int := ((s.data.toList.getD i.toNat 0).toNat : Int)
def subL {α : Type} (xs : List α) (lo hi : Int) : List α := (xs.take hi.toNat).drop lo.toNat
def subS (s : ByteArray) (lo hi : Int) : ByteArray := s.extract lo.toNat hi.toNat
def repl {α : Type} (n : Int) (z : α) : List α := List.replicate n.toNat z

def appL {α : Type} (xs ys : List α) : List α := xs ++ ys
def mget {k : Ty} {β : Type} : List (k.V × β) → k.V → Option β
  | [], _ => none
  | (a, x) :: r, b => if k.veq b a then some x else mget r b
def mput {k : Ty} {β : Type} : List (k.V × β) → k.V → β → List (k.V × β)
  | [], b, y => [(b, y)]
  | (a, x) :: r, b, y => if k.veq b a then (b, y) :: r else (a, x) :: mput r b y
def mgetD {k : Ty} {β : Type} (m : List (k.V × β)) (b : k.V) (z : β) : β := match mget m b with | some y => y | none => z
def mhas {k : Ty} {β : Type} (m : List (k.V × β)) (b : k.V) : Bool := match mget m b with | some _ => true | none => false

/-- A slice that is read: its elements (rd: the rows). -/
def readL (objs : Objs) (t : Ty) : AV → Option (List t.V)
  | v => toDat objs (.lst t) v

/-- A slice that is read: its elements as values. -/
def readA (objs : Objs) : AV → Option (List AV)
  | .nil _ => some []
  | .sl id => match look id objs with
    | some (.vrow _ _ xs) => some xs
    | some (.frz t xs) => some (xs.map (AV.dat t))
    | _ => none
  | .sub id lo hi => match look id objs with
    | some (.vrow _ _ xs) => some ((xs.take hi).drop lo)
    | _ => none
  | .dat (.lst t) xs => some (List.map (α := t.V) (AV.dat t) xs)
  | _ => none

def lenEff (objs : Objs) : AV → Option Eff
  | .dat .str s => some { v := .dat (.int .i64) ((ByteArray.size s : Nat) : Int), facts := [SmallLen (ByteArray.size s)] }
  | .dat (.lst t) xs => some { v := .dat (.int .i64) ((List.length (α := t.V) xs : Nat) : Int), facts := [SmallLen (List.length (α := t.V) xs)] }
  | .nil _ => some { v := .dat (.int .i64) (0 : Int) }
  | .sl id => match look id objs with
    | some (.row _ _ xs) => some { v := .dat (.int .i64) ((xs.length : Nat) : Int), facts := [SmallLen xs.length], rd := [id] }
    | some (.frz _ xs) => some { v := .dat (.int .i64) ((xs.length : Nat) : Int), facts := [SmallLen xs.length], rd := [id] }
    | some (.vrow _ _ xs) => some { v := .dat (.int .i64) ((xs.length : Nat) : Int), facts := [SmallLen xs.length], rd := [id] }
    | _ => none
  | .sub id lo hi => match look id objs with
    | some (.row _ _ _) => some { v := .dat (.int .i64) ((hi - lo : Nat) : Int), facts := [SmallLen (hi - lo)], rd := [id] }
    | some (.vrow _ _ _) => some { v := .dat (.int .i64) ((hi - lo : Nat) : Int), facts := [SmallLen (hi - lo)], rd := [id] }
    | _ => none
  | .map id => match look id objs with
    | some (.map _ _ m) => some { v := .dat (.int .i64) ((m.length : Nat) : Int), rd := [id] }
    | some (.vmap _ m) => some { v := .dat (.int .i64) ((m.length : Nat) : Int), rd := [id] }
    | _ => none
  | _ => none

def lenOk : TD → AV → Bool
  | .str, .dat .str _ => true
  | .slice _, .dat (.lst _) _ => true
  | .slice _, .nil _ => true
  | .slice _, .sl _ => true
  | .slice _, .sub _ _ _ => true
  | .map _ _, .map _ => true
  | _, _ => false
/-- Onto a row of values. -/
def vappEff (fn : Nat) (dst : Nat) (objs : Objs) (e : TypeId) (ti : TI) (s x : AV) : Option Eff :=
  if fresh (newId fn dst) objs ∧ 0 < ti.size ∧ ti.bytes ≠ 0 then
    match readA objs x with
    | some ys =>
      if ys.all (fun v => v.size == ti.size) = true then
        match s with
        | .nil t => match ys with
          | [] => some { v := .nil t, rd := newId fn dst :: slIds x }
          | y :: r => some { v := .sl (newId fn dst), upd := [(newId fn dst, .vrow e ti.size (y :: r))], conds := [.fits (y :: r).length ti.bytes], rd := slIds x, wr := [newId fn dst] }
        | .sl id => match look id objs with
          | some (.vrow e' sz xs) => if e' = e ∧ sz = ti.size then
              some { v := .sl (newId fn dst), upd := [(newId fn dst, .vrow e ti.size (appL xs ys)), (id, .dead)], conds := [.fits (xs.length + ys.length) ti.bytes], rd := slIds x, wr := [newId fn dst, id] }
            else none
          | _ => none
        | .sub id 0 hi => match look id objs with
          | some (.vrow e' sz xs) => if e' = e ∧ sz = ti.size then
              some { v := .sl (newId fn dst), upd := [(newId fn dst, .vrow e ti.size (appL (xs.take hi) ys)), (id, .dead)], conds := [.fits (hi + ys.length) ti.bytes], rd := slIds x, wr := [newId fn dst, id] }
            else none
          | _ => none
        | _ => none
      else none
    | none => none
  else none
/-- Onto a row of data. -/
def appTyped (fn : Nat) (dst : Nat) (objs : Objs) (e : TypeId) (bytes : Nat) (t : Ty) (s : AV) (ys : List t.V) (rd : List Nat) : Option Eff :=
  if fresh (newId fn dst) objs ∧ 0 < t.size ∧ bytes ≠ 0 then
    match s with
    | .nil t0 => match ys with
      | [] => some { v := .nil t0, rd := newId fn dst :: rd }
      | y :: r => some { v := .sl (newId fn dst), upd := [(newId fn dst, .row e t (y :: r))], conds := [.fits (y :: r).length bytes], rd := rd, wr := [newId fn dst] }
    | .sl id =>
      match look id objs with
      | some (.row e' t' xs) =>
        if h : t'.eq t = true ∧ e' = e then
          some { v := .sl (newId fn dst), upd := [(newId fn dst, .row e t (appL (Ty.cst (a := .lst t') (b := .lst t) h.1 xs) ys)), (id, .dead)]
                 conds := [.fits (xs.length + ys.length) bytes], rd := rd, wr := [newId fn dst, id] }
        else none
      | _ => none
    | .sub id 0 hi =>
      match look id objs with
      | some (.row e' t' xs) =>
        if h : t'.eq t = true ∧ e' = e then
          some { v := .sl (newId fn dst), upd := [(newId fn dst, .row e t (appL (Ty.cst (a := .lst t') (b := .lst t) h.1 (xs.take hi)) ys)), (id, .dead)]
                 conds := [.fits (hi + ys.length) bytes], rd := rd, wr := [newId fn dst, id] }
        else none
      | _ => none
    | _ => none
  else none
def isZ8 : AV → Bool
  | .dat (.int .u8) n => eqI n 0
  | _ => false
def strNums (s : ByteArray) : List Int := s.data.toList.map fun b => (b.toNat : Int)
def appendEff (T : Tbl) (fn : Nat) (dst : Nat) (objs : Objs) (st : TypeId) (s x : AV) : Option Eff :=
  match T st with
  | some { d := .slice e, .. } =>
    match T e with
    | some ti =>
      match flatTy ti.ty with
      | some t =>
        match readL objs t x with
        | some ys => appTyped fn dst objs e ti.bytes t s ys (slIds x)
        | none => none
      | none => vappEff fn dst objs e ti s x
    | none => none
  | _ => none
/-- Onto bytes: a string; onto nil: so many zeros. -/
def appendEff2 (T : Tbl) (fn : Nat) (dst : Nat) (objs : Objs) (st xt : TypeId) (s x : AV) : Option Eff :=
  match T st, T xt with
  | some { d := .slice e, .. }, some { d := .str, .. } =>
    match T e, x with
    | some te, .dat .str b => if te.size = 1 ∧ te.bytes = 1 ∧ isZ8 te.zero = true then appTyped fn dst objs e 1 (.int .u8) s (strNums b) [] else none
    | _, _ => none
  | some { d := .slice e, .. }, some { d := .int .i64, .. } =>
    match T e, s, x with
    | some ti, .nil _, .dat (.int .i64) n => match flatTy ti.ty with
      | some t => match toDat [] t ti.zero with
        | some z => if fresh (newId fn dst) objs ∧ 0 < t.size ∧ ti.bytes ≠ 0 ∧ ti.zero.ok = true then
            some { v := .sl (newId fn dst), upd := [(newId fn dst, .row e t (repl n z))], conds := [.nonNeg (Int.sub n 1), .make n ti.bytes], wr := [newId fn dst] } else none
        | none => none
      | none => none
    | _, _, _ => none
  | _, _ => none

def loadEff (T : Tbl) (objs : Objs) (t : TypeId) : AV → Option Eff
  | .pim u x => match T t with
    | some ti => if ti.size = u.size ∧ ti.agg = u.agg then some { v := .dat u x } else none
    | none => none
  | .ptr id i off p => match T t with
    | some ti => match look id objs with
      | some (.box v) => match avGet v p, avOff v p with
        | some u, some o => if i = 0 ∧ o = off ∧ ti.size = u.size ∧ ti.agg = u.agg then some { v := u, rd := [id] } else none
        | _, _ => none
      | some (.row _ u xs) => match datGet u (xs.getD i u.dflt) p, tyOff u p with
        | some y, some o => if o = off ∧ ti.size = y.size ∧ ti.agg = y.agg then some { v := y, rd := [id] } else none
        | _, _ => none
      | some (.vrow _ _ xs) => match avGet (xs.getD i .any) p, avOff (xs.getD i .any) p with
        | some y, some o => if o = off ∧ ti.size = y.size ∧ ti.agg = y.agg then some { v := y, rd := [id] } else none
        | _, _ => none
      | _ => none
    | none => none
  | _ => none

def storeEff (T : Tbl) (objs : Objs) (t : TypeId) (u : AV) : AV → Option Eff
  | .ptr id i off p => match T t with
    | some ti => match look id objs with
      | some (.box v) => match avSet v p u, avOff v p with
        | some v', some o => if i = 0 ∧ o = off ∧ ti.size = u.size ∧ u.ok = true then some { v := .any, upd := [(id, .box v')], wr := [id] } else none
        | _, _ => none
      | some (.vrow e sz xs) => match avSet (xs.getD i .any) p u, avOff (xs.getD i .any) p with
        | some v', some o => if o = off ∧ ti.size = u.size ∧ u.ok = true then some { v := .any, upd := [(id, .vrow e sz (xs.set i v'))], wr := [id] } else none
        | _, _ => none
      | some (.row e r xs) => match tset objs r p u (xs.getD i r.dflt), tyOff r p with
        | some y, some o => if o = off ∧ ti.size = u.size ∧ u.ok = true ∧ ¬ id ∈ slIds u then some { v := .any, upd := (id, .row e r (xs.set i y)) :: freeze objs (slIds u), wr := id :: slIds u } else none
        | _, _ => none
      | _ => none
    | none => none
  | _ => none

def setFields (T : Tbl) (fr : Fr) (z : AV) : List (Nat × Operand) → (Nat → Option (TypeId × Nat)) → Option AV
  | [], _ => some z
  | (i, x) :: r, ft => match ft i with
    | some (t, fo) => match ev T t fr x, T t, avOff z [i] with
      | some v, some ti, some off => if off = fo ∧ ti.size = v.size ∧ v.ok = true then match avSet z [i] v with
          | some z' => setFields T fr z' r ft
          | none => none
        else none
      | _, _, _ => none
    | none => none

/-- The elements of a literal, one behind the other. -/
def litElems (T : Tbl) (fr : Fr) (objs : Objs) (e : TypeId) (t : Ty) : Nat → List (Nat × Operand) → Option (List t.V × List Nat)
  | _, [] => some ([], [])
  | k, (i, x) :: r => if i = k then
      match ev T e fr x with
      | some v => match toDat objs t v, litElems T fr objs e t (k + 1) r with
        | some y, some (ys, ids) => some (y :: ys, slIds v ++ ids)
        | _, _ => none
      | none => none
    else none

/-- The elements of a literal as values. -/
def litAV (T : Tbl) (fr : Fr) (e : TypeId) (sz : Nat) : Nat → List (Nat × Operand) → Option (List AV)
  | _, [] => some []
  | k, (i, x) :: r => if i = k then
      match ev T e fr x, litAV T fr e sz (k + 1) r with
      | some v, some vs => if v.ok = true ∧ v.size = sz then some (v :: vs) else none
      | _, _ => none
    else none

def capsAV (T : Tbl) (fr : Fr) : List Operand → Option AV
  | [] => some .un
  | x :: r => match ev T 0 fr x, capsAV T fr r with
    | some v, some c => if v.ok = true then some (.pr v c) else none
    | _, _ => none

def nthAV : AV → Nat → Option AV
  | .pr a _, 0 => some a
  | .pr _ b, n + 1 => nthAV b n
  | _, _ => none

mutual
/-- A type of the program is one of flat data. -/
def chkTy (T : Tbl) : Nat → TypeId → Ty → Bool
  | 0, _, _ => false
  | d + 1, t, y => match T t with
    | some ti => ti.size == y.size && ti.agg == y.agg && match ti.d, y with
      | .int k, .int j => ikEq k j
      | .bool, .bool => true
      | .str, .str => true
      | .struct fs, y => chkFs T d fs 0 y
      | .array n e, y => match T e with
        | some _ => chkArr T d n 0 e y
        | none => false
      | _, _ => false
    | none => false
def chkFs (T : Tbl) : Nat → List (TypeId × Nat) → Nat → Ty → Bool
  | 0, _, _, _ => false
  | _ + 1, [], _, .unit => true
  | d + 1, (t, fo) :: fs, off, .pair a b => fo == off && chkTy T d t a && chkFs T d fs (off + a.size) b
  | _, _, _, _ => false
def chkArr (T : Tbl) : Nat → Nat → Nat → TypeId → Ty → Bool
  | 0, _, _, _, _ => false
  | _ + 1, 0, _, _, .unit => true
  | d + 1, n + 1, i, e, .pair a b => chkTy T d e a && chkArr T d n (i + 1) e b
  | _, _, _, _, _ => false
end

def bnd (T : Tbl) (fr : Fr) (z : Int) : Option Operand → Option Int
  | none => some z
  | some l => match ev T 0 fr l with
    | some (.dat (.int _) n) => some n
    | _ => none
def sliceDat (T : Tbl) (fr : Fr) (objs : Objs) (ty : Ty) (v : AV) (lo hi : Option Operand) : Option Eff :=
  match readL objs ty v with
  | some xs => match bnd T fr 0 lo, bnd T fr (List.length (α := ty.V) xs : Nat) hi with
    | some l, some h => some { v := .dat (.lst ty) (subL (α := ty.V) xs l h), upd := freeze objs (slIds v), conds := [.subOk l h (List.length (α := ty.V) xs)], wr := slIds v }
    | _, _ => none
  | none => none
def sliceEff (T : Tbl) (fr : Fr) (objs : Objs) (t : TypeId) (x : Operand) (lo hi : Option Operand) : Option Eff :=
  match T t with
  | some { d := .str, .. } => match ev T t fr x with
    | some (.dat .str s) => match bnd T fr 0 lo, bnd T fr (ByteArray.size s : Nat) hi with
      | some l, some h => some { v := .dat .str (subS s l h), conds := [.subOk l h (ByteArray.size s)] }
      | _, _ => none
    | _ => none
  | some { d := .slice e, .. } => match T e, ev T t fr x with
    | some te, some v => match te.ty with
      | some ty => match v with
        | .sub id lo0 hi0 => match look id objs with
          | some (.row _ ty' _) => if te.size = ty'.size then match bnd T fr 0 lo, bnd T fr (hi0 - lo0 : Nat) hi with
              | some l, some h => some { v := .sub id (lo0 + Int.toNat l) (lo0 + Int.toNat h), conds := [.subOk l h (hi0 - lo0)], rd := [id] }
              | _, _ => none
            else none
          | some (.vrow _ sz _) => if te.size = sz then match bnd T fr 0 lo, bnd T fr (hi0 - lo0 : Nat) hi with
              | some l, some h => some { v := .sub id (lo0 + Int.toNat l) (lo0 + Int.toNat h), conds := [.subOk l h (hi0 - lo0)], rd := [id] }
              | _, _ => none
            else none
          | _ => none
        | .nil ty' => match bnd T fr 0 lo, bnd T fr 0 hi with
          | some l, some h => some { v := .nil ty', conds := [.subOk l h 0] }
          | _, _ => none
        | .sl id => match look id objs with
          | some (.vrow _ sz xs) => if te.size = sz then match bnd T fr 0 lo, bnd T fr (xs.length : Nat) hi with
              | some l, some h => some { v := .sub id (Int.toNat l) (Int.toNat h), conds := [.subOk l h xs.length], rd := [id] }
              | _, _ => none
            else none
          | some (.row _ ty' xs) => if te.size = ty'.size then match bnd T fr 0 lo, bnd T fr (xs.length : Nat) hi with
              | some l, some h => some { v := .sub id (Int.toNat l) (Int.toNat h), conds := [.subOk l h xs.length], rd := [id] }
              | _, _ => none
            else none
          | some (.frz _ _) => sliceDat T fr objs ty v lo hi
          | _ => none
        | v => sliceDat T fr objs ty v lo hi
      | none => none
    | _, _ => none
  | _ => none
def eqEff (T : Tbl) (t : TypeId) (op : BinOp) (a b : AV) : Option Eff :=
  match T t with
  | some ti => match ti.ty with
    | some ty => match toDat [] ty a, toDat [] ty b with
      | some u, some v => if ti.agg = true ∧ ty.flat = true ∧ chkTy T 20 t ty = true then match op with
          | .eql => some { v := .dat .bool (ty.veq u v) }
          | .neq => some { v := .dat .bool (!ty.veq u v) }
          | _ => none else none
      | _, _ => none
    | none => none
  | none => none

def minN (a b : Nat) : Nat := if a ≤ b then a else b
/-- The first elements of a part of a row turn into others. -/
def copyAt {α : Type} (xs ys : List α) (lo n : Nat) : List α := xs.take lo ++ ys.take n ++ xs.drop (lo + n)
def copyRow (T : Tbl) (objs : Objs) (e : TypeId) (id lo hi : Nat) (s : AV) : Option Eff :=
  match look id objs with
  | some (.row e' t xs) => match T e, readL objs t s with
    | some te, some ys => if e' = e ∧ te.size = t.size ∧ 0 < t.size then
        some { v := .dat (.int .i64) ((minN (List.length (α := t.V) ys) (hi - lo) : Nat) : Int), upd := [(id, .row e' t (copyAt xs ys lo (minN (List.length (α := t.V) ys) (hi - lo))))], rd := slIds s, wr := [id] } else none
    | _, _ => none
  | _ => none
def copyEff (T : Tbl) (objs : Objs) (st : TypeId) (d s : AV) : Option Eff :=
  match T st with
  | some { d := .slice e, .. } => match d with
    | .sl id => match look id objs with
      | some (.row _ _ xs) => copyRow T objs e id 0 xs.length s
      | _ => none
    | .sub id lo hi => copyRow T objs e id lo hi s
    | _ => none
  | _ => none
/-- A slice against nil. -/
def nilEff (T : Tbl) (objs : Objs) (t : TypeId) (op : BinOp) (a b : AV) : Option Eff :=
  match T t, b with
  | some { d := .slice _, .. }, .nil _ =>
    match (match a with
      | .nil _ => some (true, [])
      | .sl id => match look id objs with
        | some (.row _ _ _) => some (false, [id])
        | some (.vrow _ _ _) => some (false, [id])
        | _ => none
      | .sub id _ _ => match look id objs with
        | some (.row _ _ _) => some (false, [id])
        | some (.vrow _ _ _) => some (false, [id])
        | _ => none
      | _ => none : Option (Bool × List Nat)) with
    | some (r, rd) => match op with
      | .eql => some { v := .dat .bool r, rd := rd }
      | .neq => some { v := .dat .bool (!r), rd := rd }
      | _ => none
    | none => none
  | _, _ => none

def mapEff (T : Tbl) (fr : Fr) (objs : Objs) (t : TypeId) (m k x : Operand) : Option Eff :=
  match T t with
  | some { d := .map kt0 et, .. } => match ev T 0 fr m with
    | some (.map id) => match look id objs with
      | some (.map kt vt mm) => match ev T kt0 fr k, ev T et fr x with
        | some kv, some xv => match toDat objs kt kv, toDat objs vt xv with
          | some k, some y => if chkTy T 20 kt0 kt = true then some { v := .any, upd := (id, .map kt vt (mput mm k y)) :: freeze objs (slIds xv), rd := slIds kv, wr := id :: slIds xv } else none
          | _, _ => none
        | _, _ => none
      | some (.vmap kt mm) => match ev T kt0 fr k, ev T et fr x with
        | some kv, some xv => match toDat objs kt kv with
          | some k => if chkTy T 20 kt0 kt = true ∧ xv.ok = true then some { v := .any, upd := [(id, .vmap kt (mput mm k xv))], rd := slIds kv, wr := [id] } else none
          | none => none
        | _, _ => none
      | _ => none
    | _ => none
  | _ => none

def step (T : Tbl) (fn : Nat) (o : Oper) (fr : Fr) (objs : Objs) : Option Eff :=
  match o.op with
  | .move x => (ev T o.type fr x).map fun v => { v }
  | .assign x => (ev T o.type fr x).map fun v => { v }
  | .pick c a b => match ev T 0 fr c with
    | some (.dat .bool c) => match ev T o.type fr a, ev T o.type fr b with
      | some va, some vb => match c with
        | true => some { v := va }
        | false => some { v := vb }
      | _, _ => none
    | _ => none
  | .alloc t => match T t, o.dst with
    | some ti, some d => if fresh (newId fn d) objs ∧ ti.zero.ok = true then some { v := .ptr (newId fn d) 0 0 [], upd := [(newId fn d, .box ti.zero)], wr := [newId fn d] } else none
    | _, _ => none
  | .box t x => match o.dst, ev T t fr x with
    | some d, some v => if fresh (newId fn d) objs ∧ v.ok = true then some { v := .ptr (newId fn d) 0 0 [], upd := [(newId fn d, .box v)], wr := [newId fn d] } else none
    | _, _ => none
  | .build t parts => match T t with
    | some ti => match ti.d with
      | .struct fs => if ti.agg = true then (setFields T fr ti.zero parts.toList (fun i => fs[i]?)).map fun v => { v } else none
      | .array _ e => match T e with
        | some te => if ti.agg = true then (setFields T fr ti.zero parts.toList (fun i => some (e, i * te.size))).map fun v => { v } else none
        | none => none
      | _ => none
    | none => none
  | .buildSlice t len parts => match T t, o.dst with
    | some { d := .slice e, .. }, some d => match T e with
      | some te => match flatTy te.ty with
        | some ty => match litElems T fr objs e ty 0 parts.toList with
          | some (xs, ids) => if fresh (newId fn d) objs ∧ parts.toList.length = len ∧ len * ty.size ≤ 16777216 ∧ 0 < ty.size then
              some { v := .sl (newId fn d), upd := (newId fn d, .row e ty xs) :: freeze objs ids, wr := newId fn d :: ids } else none
          | none => none
        | none => match litAV T fr e te.size 0 parts.toList with
          | some xs => if fresh (newId fn d) objs ∧ parts.toList.length = len ∧ len * te.size ≤ 16777216 ∧ 0 < te.size then
              some { v := .sl (newId fn d), upd := [(newId fn d, .vrow e te.size xs)], wr := [newId fn d] } else none
          | none => none
      | none => none
    | _, _ => none
  | .load t a => match ev T 0 fr a with
    | some p => loadEff T objs t p
    | none => none
  | .store t a x => match ev T 0 fr a, ev T t fr x with
    | some p, some u => storeEff T objs t u p
    | _, _ => none
  | .nilCheck x => match ev T 0 fr x with
    | some (.ptr id i off p) => some { v := .ptr id i off p }
    | some (.pim t y) => some { v := .pim t y }
    | some (.fn f c) => some { v := .fn f c }
    | _ => none
  | .binOp op t x y t' => match ev T t fr x, ev T t' fr y with
    | some a, some b => match a with
      | .pr _ _ => eqEff T t op a b
      | .dat (.pair _ _) _ => eqEff T t op a b
      | .dat .bool _ => match T t with
        | some { d := .bool, .. } => binEff op a b
        | _ => none
      | .fn _ _ => match T t with
        | some { d := .func, .. } => binEff op a b
        | _ => none
      | .nilfn => match T t with
        | some { d := .func, .. } => binEff op a b
        | _ => none
      | .dat (.int _) _ => binEff op a b
      | .dat .str _ => binEff op a b
      | .nil _ => nilEff T objs t op a b
      | .sl _ => nilEff T objs t op a b
      | .sub _ _ _ => nilEff T objs t op a b
      | _ => none
    | _, _ => none
  | .unOp op _ x => match op, ev T 0 fr x with
    | .not, some (.dat .bool b) => some { v := .dat .bool (Bool.not b) }
    | .neg, some (.dat (.int k) n) => some { v := .dat (.int k) (Int.neg n), conds := [.inR k (Int.neg n)] }
    | _, _ => none
  | .convert src dst x => match T dst, T src with
    | some { d := .int k, .. }, some _ => match ev T 0 fr x with
      | some (.dat (.int _) n) => some { v := .dat (.int k) n, conds := [.inR k n] }
      | _ => none
    | some { d := .str, .. }, some { d := .slice e, .. } => match T e, ev T src fr x with
      | some { d := .int .u8, .. }, some v => match readL objs (.int .u8) v with
        | some xs => some { v := .dat .str (mkStr xs), rd := slIds v }
        | none => none
      | _, _ => none
    | _, _ => none
  | .makeFunc f first caps => match f with
    | .func g => match first.toList with
      | [] => (capsAV T fr caps.toList).map fun c => { v := .fn g c }
      | _ => none
    | _ => none
  | .makeMap t r => match r with
    | some _ => none
    | none => match T t, o.dst with
    | some { d := .map k e, .. }, some d => match T k, T e with
      | some tk, some te => match tk.ty, flatTy te.ty with
        | some kt, some vt => if fresh (newId fn d) objs ∧ kt.flat = true then some { v := .map (newId fn d), upd := [(newId fn d, .map kt vt [])], wr := [newId fn d] } else none
        | some kt, none => if fresh (newId fn d) objs ∧ kt.flat = true then some { v := .map (newId fn d), upd := [(newId fn d, .vmap kt [])], wr := [newId fn d] } else none
        | _, _ => none
      | _, _ => none
    | _, _ => none
  | .makeSlice t l c => match T t, o.dst with
    | some { d := .slice e, .. }, some d => match T e with
      | some te => match flatTy te.ty with
        | some ty => match ev T 0 fr l, ev T 0 fr c, toDat [] ty te.zero with
          | some (.dat (.int .i64) n), some (.dat (.int .i64) m), some z => if fresh (newId fn d) objs ∧ te.bytes ≠ 0 ∧ te.zero.ok = true then
              some { v := .sl (newId fn d), upd := [(newId fn d, .row e ty (repl n z))], conds := [.make n te.bytes, .same n m], wr := [newId fn d] } else none
          | _, _, _ => none
        | none => match ev T 0 fr l, ev T 0 fr c with
          | some (.dat (.int .i64) n), some (.dat (.int .i64) m) => if fresh (newId fn d) objs ∧ te.bytes ≠ 0 ∧ te.zero.ok = true then
              some { v := .sl (newId fn d), upd := [(newId fn d, .vrow e te.size (repl n te.zero))], conds := [.make n te.bytes, .same n m], wr := [newId fn d] } else none
          | _, _ => none
      | none => none
    | _, _ => none
  | .slice t x lo hi mx => match mx with
    | none => sliceEff T fr objs t x lo hi
    | some _ => none
  | .fieldAddr s x f => match ev T 0 fr x, T s with
    | some (.ptr id i off p), some { d := .struct fs, .. } => match fs[f]? with
      | some (ft, fo) => match T ft with
        | some tf => if tf.size = 0 then none else some { v := .ptr id i (off + fo) (p ++ [f]) }
        | none => none
      | none => none
    | some (.pim t y), some { d := .struct fs, .. } => match fs[f]?, datGet t y [f], tyOff t [f] with
      | some (ft, fo), some (.dat u z), some o => match T ft with
        | some tf => if fo = o ∧ tf.size ≠ 0 then some { v := .pim u z } else none
        | none => none
      | _, _, _ => none
    | _, _ => none
  | .field t x f => match ev T 0 fr x, T t with
    | some v, some { d := .struct fs, .. } => match fs[f]?, avGet v [f], avOff v [f] with
      | some (ft, fo), some u, some o => match T ft with
        | some ti => if fo = o ∧ v.agg = true ∧ ti.size = u.size ∧ ti.agg = u.agg then some { v := u } else none
        | none => none
      | _, _, _ => none
    | _, _ => none
  | .indexAddr t x ix => match ev T t fr x, ev T 0 fr ix with
    | some (.dat (.lst ty) xs), some (.dat (.int _) i) => match T t with
      | some { d := .slice e, .. } => match T e with
        | some te => if te.size = ty.size then some { v := .pim ty (List.getD (α := ty.V) xs (Int.toNat i) ty.dflt), conds := [.inRange i (List.length (α := ty.V) xs)] } else none
        | none => none
      | _ => none
    | some (.sl id), some (.dat (.int _) i) => match T t with
      | some { d := .slice e, .. } => match T e, look id objs with
        | some te, some (.row _ ty xs) => if te.size = ty.size then some { v := .ptr id (Int.toNat i) 0 [], conds := [.inRange i xs.length], rd := [id] } else none
        | some te, some (.frz ty xs) => if te.size = ty.size then some { v := .pim ty (xs.getD (Int.toNat i) ty.dflt), conds := [.inRange i xs.length], rd := [id] } else none
        | some te, some (.vrow _ sz xs) => if te.size = sz then some { v := .ptr id (Int.toNat i) 0 [], conds := [.inRange i xs.length], rd := [id] } else none
        | _, _ => none
      | _ => none
    | some (.sub id lo hi), some (.dat (.int _) i) => match T t with
      | some { d := .slice e, .. } => match T e, look id objs with
        | some te, some (.row _ ty _) => if te.size = ty.size then some { v := .ptr id (lo + Int.toNat i) 0 [], conds := [.inRange i (hi - lo)], rd := [id] } else none
        | some te, some (.vrow _ sz _) => if te.size = sz then some { v := .ptr id (lo + Int.toNat i) 0 [], conds := [.inRange i (hi - lo)], rd := [id] } else none
        | _, _ => none
      | _ => none
    | some (.ptr id i off p), some (.dat (.int _) j) => match T t with
      | some { d := .array n e, .. } => match T e with
        | some te => if Int.toNat j < n ∧ eqI (Int.ofNat (Int.toNat j)) j then some { v := .ptr id i (off + Int.toNat j * te.size) (p ++ [Int.toNat j]) } else none
        | none => none
      | _ => none
    | some (.pim u y), some (.dat (.int _) j) => match T t with
      | some { d := .array n e, .. } => match T e, datGet u y [Int.toNat j], tyOff u [Int.toNat j] with
        | some te, some (.dat w z), some o => if Int.toNat j < n ∧ eqI (Int.ofNat (Int.toNat j)) j ∧ o = Int.toNat j * te.size then some { v := .pim w z } else none
        | _, _, _ => none
      | _ => none
    | _, _ => none
  | .index t x ix => match T t, ev T t fr x, ev T 0 fr ix with
    | some { d := .str, .. }, some (.dat .str s), some (.dat (.int _) i) => some { v := .dat (.int .u8) (byteAt s i), conds := [.inRange i (ByteArray.size s)] }
    | _, _, _ => none
  | .lookup t x ix ok => match T t with
    | some { d := .map kt0 et, .. } => match T et, ev T 0 fr x with
      | some te, some (.map id) => match look id objs with
        | some (.map kt vt m) => match ev T kt0 fr ix, toDat [] vt te.zero with
          | some kv, some z => match toDat objs kt kv with
            | some k => if chkTy T 20 kt0 kt = true ∧ te.zero.ok = true then
                if ok then some { v := .tup (.pr (.dat vt (mgetD m k z)) (.pr (.dat .bool (mhas m k)) .un)), rd := id :: slIds kv }
                else some { v := .dat vt (mgetD m k z), rd := id :: slIds kv }
              else none
            | none => none
          | _, _ => none
        | some (.vmap kt m) => match ev T kt0 fr ix with
          | some kv => match toDat objs kt kv with
            | some k => if chkTy T 20 kt0 kt = true ∧ te.zero.ok = true then
                if ok then some { v := .tup (.pr (mgetD m k te.zero) (.pr (.dat .bool (mhas m k)) .un)), rd := id :: slIds kv }
                else some { v := mgetD m k te.zero, rd := id :: slIds kv }
              else none
            | none => none
          | none => none
        | _ => none
      | _, _ => none
    | _ => none
  | .mapUpdate t m k x => mapEff T fr objs t m k x
  | .insert t m k x => mapEff T fr objs t m k x
  | .extract x i => match ev T 0 fr x with
    | some (.tup vs) => (nthAV vs i).map fun v => { v }
    | _ => none
  | .call { callee := .builtin b, args, argTypes } => match b, o.dst with
    | .len, _ => match argTypes.toList, args.toList with
      | [t], [x] => match T t, ev T t fr x with
        | some ti, some v => if lenOk ti.d v = true then lenEff objs v else none
        | _, _ => none
      | _, _ => none
    | .append, some d => match argTypes.toList, args.toList with
      | [t, t'], [s, x] => if t = t' then match ev T t fr s, ev T t fr x with
          | some s, some x => appendEff T fn d objs t s x
          | _, _ => none
        else match ev T t fr s, ev T t' fr x with
          | some s, some x => appendEff2 T fn d objs t t' s x
          | _, _ => none
      | _, _ => none
    | .cap, _ => match argTypes.toList, args.toList with
      | [t], [x] => match T t, ev T t fr x with
        | some { d := .slice _, .. }, some (.nil _) => some { v := .dat (.int .i64) (0 : Int) }
        | _, _ => none
      | _, _ => none
    | .copy, _ => match argTypes.toList, args.toList with
      | [t, t'], [d, s] => match ev T t fr d, ev T t' fr s with
        | some d, some s => copyEff T objs t d s
        | _, _ => none
      | _, _ => none
    | _, _ => none
  | _ => none

/-! ### A list of operations -/
structure Br where
  fr : Fr
  objs : Objs
  facts : List Prop
  conds : List Prop
  fps : List (Nat × List Nat × List Nat)
  rest : List (Nat × Oper)

def putFr (d : Option Tmp) (v : AV) (fr : Fr) : Fr := match d with | some d => (d, v) :: fr | none => fr

/-- What a guard says: 'none': it can't be told. -/
def guardSays (ops : Array Oper) (fr : Fr) : Option (Nat × Bool) → Option Bool
  | none => some true
  | some (j, want) => match (ops[j]?).bind (·.dst) with
    | some d => match look d fr with
      | some (.dat .bool true) => some want
      | some (.dat .bool false) => some (!want)
      | some (.tup .un) => some false
      | _ => none
    | none => none

def isSrc (ops : Array Oper) (i : Nat) : Bool := ops.any fun o => match o.guard with | some (j, _) => j == i | none => false

def argsOf (T : Tbl) (fr : Fr) (objs : Objs) : List (Operand × TypeId) → Option AV
  | [] => some .un
  | (x, t) :: r => match ev T t fr x, argsOf T fr objs r with
    | some v, some c => if v.ok = true then some (.pr v c) else none
    | _, _ => none
end
end Go.Ab
