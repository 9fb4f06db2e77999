/- The executor and the check of its table of types. -/
import Derived.Test.YtdhfgopecekdjaaGreatDoorAb13
namespace Go.Ab
noncomputable section
open Go

/-! ### Operations, one function each -/
def binInt (op : BinOp) (k : IntKind) (x : Int) : AV → Option Eff
  | .dat (.int j) y => match op with
    | .shl => some { v := .dat (.int k) (ishl k x y), conds := [.nonNeg y] }
    | .shr => some { v := .dat (.int k) (ishr k x y), conds := [.nonNeg y] }
    | op => if ikEq k j then intOp op k x y else none
  | _ => none
def binStr (op : BinOp) (x : ByteArray) : AV → Option Eff
  | .dat .str y => match op with
    | .add => some { v := .dat .str (appS x y), conds := [.small (ByteArray.size x + ByteArray.size y)] }
    | .eql => some { v := .dat .bool (eqS x y) }
    | .neq => some { v := .dat .bool (!(eqS x y)) }
    | _ => none
  | _ => none
def binBool (op : BinOp) (x : Bool) : AV → Option Eff
  | .dat .bool y => match op with
    | .eql => some { v := .dat .bool (eqB x y) }
    | .neq => some { v := .dat .bool (!(eqB x y)) }
    | _ => none
  | _ => none
def binNil (op : BinOp) (r : Bool) : AV → Option Eff
  | .nilfn => match op with
    | .eql => some { v := .dat .bool r }
    | .neq => some { v := .dat .bool (!r) }
    | _ => none
  | _ => none
def binS (op : BinOp) (a b : AV) : Option Eff := match a with
  | .dat (.int k) x => binInt op k x b
  | .dat .str x => binStr op x b
  | .dat .bool x => binBool op x b
  | .fn _ _ => binNil op false b
  | .nilfn => binNil op true b
  | _ => none
theorem binS_eq (op : BinOp) (a b : AV) : binS op a b = binEff op a b := by
  cases a with
  | dat t x => cases t <;> cases b <;> first
    | (rename_i t' y; cases t' <;> cases op <;> rfl)
    | (cases op <;> rfl)
  | fn f c => cases b <;> cases op <;> rfl
  | nilfn => cases b <;> cases op <;> rfl
  | _ => cases op <;> rfl

def sMove (T : Tbl) (fn : Nat) (o : Oper) (fr : Fr) (objs : Objs) (x : Operand) : Option Eff := (ev T o.type fr x).map fun v => { v }
def sAssign (T : Tbl) (fn : Nat) (o : Oper) (fr : Fr) (objs : Objs) (x : Operand) : Option Eff := (ev T o.type fr x).map fun v => { v }
def sPick (T : Tbl) (fn : Nat) (o : Oper) (fr : Fr) (objs : Objs) (c : Operand) (a : Operand) (b : Operand) : Option Eff := match ev T 0 fr c with
    | some (.dat .bool c) => match ev T o.type fr a, ev T o.type fr b with
      | some va, some vb => match c with
        | true => some { v := va }
        | false => some { v := vb }
      | _, _ => none
    | _ => none
def sAlloc (T : Tbl) (fn : Nat) (o : Oper) (fr : Fr) (objs : Objs) (t : TypeId) : Option Eff := match T t, o.dst with
    | some ti, some d => if fresh (newId fn d) objs ∧ ti.zero.ok = true then some { v := .ptr (newId fn d) 0 0 [], upd := [(newId fn d, .box ti.zero)], wr := [newId fn d] } else none
    | _, _ => none
def sBox (T : Tbl) (fn : Nat) (o : Oper) (fr : Fr) (objs : Objs) (t : TypeId) (x : Operand) : Option Eff := match o.dst, ev T t fr x with
    | some d, some v => if fresh (newId fn d) objs ∧ v.ok = true then some { v := .ptr (newId fn d) 0 0 [], upd := [(newId fn d, .box v)], wr := [newId fn d] } else none
    | _, _ => none
def sBuild (T : Tbl) (fn : Nat) (o : Oper) (fr : Fr) (objs : Objs) (t : TypeId) (parts : Array (Nat × Operand)) : Option Eff := match T t with
    | some ti => match ti.d with
      | .struct fs => if ti.agg = true then (setFields T fr ti.zero parts.toList (fun i => fs[i]?)).map fun v => { v } else none
      | .array _ e => match T e with
        | some te => if ti.agg = true then (setFields T fr ti.zero parts.toList (fun i => some (e, i * te.size))).map fun v => { v } else none
        | none => none
      | _ => none
    | none => none
def sBuildSlice (T : Tbl) (fn : Nat) (o : Oper) (fr : Fr) (objs : Objs) (t : TypeId) (len : Nat) (parts : Array (Nat × Operand)) : Option Eff := match T t, o.dst with
    | some { d := .slice e, .. }, some d => match T e with
      | some te => match flatTy te.ty with
        | some ty => match litElems T fr objs e ty 0 parts.toList with
          | some (xs, ids) => if fresh (newId fn d) objs ∧ parts.toList.length = len ∧ len * ty.size ≤ 16777216 ∧ 0 < ty.size then
              some { v := .sl (newId fn d), upd := (newId fn d, .row e ty xs) :: freeze objs ids, wr := newId fn d :: ids } else none
          | none => none
        | none => match litAV T fr e te.size 0 parts.toList with
          | some xs => if fresh (newId fn d) objs ∧ parts.toList.length = len ∧ len * te.size ≤ 16777216 ∧ 0 < te.size then
              some { v := .sl (newId fn d), upd := [(newId fn d, .vrow e te.size xs)], wr := [newId fn d] } else none
          | none => none
      | none => none
    | _, _ => none
def sLoad (T : Tbl) (fn : Nat) (o : Oper) (fr : Fr) (objs : Objs) (t : TypeId) (a : Operand) : Option Eff := match ev T 0 fr a with
    | some p => loadEff T objs t p
    | none => none
def sStore (T : Tbl) (fn : Nat) (o : Oper) (fr : Fr) (objs : Objs) (t : TypeId) (a : Operand) (x : Operand) : Option Eff := match ev T 0 fr a, ev T t fr x with
    | some p, some u => storeEff T objs t u p
    | _, _ => none
def sNilCheck (T : Tbl) (fn : Nat) (o : Oper) (fr : Fr) (objs : Objs) (x : Operand) : Option Eff := match ev T 0 fr x with
    | some (.ptr id i off p) => some { v := .ptr id i off p }
    | some (.pim t y) => some { v := .pim t y }
    | some (.fn f c) => some { v := .fn f c }
    | _ => none
def sBinOp (T : Tbl) (fn : Nat) (o : Oper) (fr : Fr) (objs : Objs) (op : BinOp) (t : TypeId) (x : Operand) (y : Operand) (t' : TypeId) : Option Eff := match ev T t fr x, ev T t' fr y with
    | some a, some b => match a with
      | .pr _ _ => eqEff T t op a b
      | .dat (.pair _ _) _ => eqEff T t op a b
      | .dat .bool _ => match T t with
        | some { d := .bool, .. } => binS op a b
        | _ => none
      | .fn _ _ => match T t with
        | some { d := .func, .. } => binS op a b
        | _ => none
      | .nilfn => match T t with
        | some { d := .func, .. } => binS op a b
        | _ => none
      | .dat (.int _) _ => binS op a b
      | .dat .str _ => binS op a b
      | .nil _ => nilEff T objs t op a b
      | .sl _ => nilEff T objs t op a b
      | .sub _ _ _ => nilEff T objs t op a b
      | _ => none
    | _, _ => none
def sUnOp (T : Tbl) (fn : Nat) (o : Oper) (fr : Fr) (objs : Objs) (op : UnOp) (u0 : TypeId) (x : Operand) : Option Eff := match op, ev T 0 fr x with
    | .not, some (.dat .bool b) => some { v := .dat .bool (Bool.not b) }
    | .neg, some (.dat (.int k) n) => some { v := .dat (.int k) (Int.neg n), conds := [.inR k (Int.neg n)] }
    | _, _ => none
def sConvert (T : Tbl) (fn : Nat) (o : Oper) (fr : Fr) (objs : Objs) (src : TypeId) (dst : TypeId) (x : Operand) : Option Eff := match T dst, T src with
    | some { d := .int k, .. }, some _ => match ev T 0 fr x with
      | some (.dat (.int _) n) => some { v := .dat (.int k) n, conds := [.inR k n] }
      | _ => none
    | some { d := .str, .. }, some { d := .slice e, .. } => match T e, ev T src fr x with
      | some { d := .int .u8, .. }, some v => match readL objs (.int .u8) v with
        | some xs => some { v := .dat .str (mkStr xs), rd := slIds v }
        | none => none
      | _, _ => none
    | _, _ => none
def sMakeFunc (T : Tbl) (fn : Nat) (o : Oper) (fr : Fr) (objs : Objs) (f : Fn) (first : Array Operand) (caps : Array Operand) : Option Eff := match f with
    | .func g => match first.toList with
      | [] => (capsAV T fr caps.toList).map fun c => { v := .fn g c }
      | _ => none
    | _ => none
def sMakeMap (T : Tbl) (fn : Nat) (o : Oper) (fr : Fr) (objs : Objs) (t : TypeId) (r : Option Operand) : Option Eff := match r with
    | some _ => none
    | none => match T t, o.dst with
    | some { d := .map k e, .. }, some d => match T k, T e with
      | some tk, some te => match tk.ty, flatTy te.ty with
        | some kt, some vt => if fresh (newId fn d) objs ∧ kt.flat = true then some { v := .map (newId fn d), upd := [(newId fn d, .map kt vt [])], wr := [newId fn d] } else none
        | some kt, none => if fresh (newId fn d) objs ∧ kt.flat = true then some { v := .map (newId fn d), upd := [(newId fn d, .vmap kt [])], wr := [newId fn d] } else none
        | _, _ => none
      | _, _ => none
    | _, _ => none
def sMakeSlice (T : Tbl) (fn : Nat) (o : Oper) (fr : Fr) (objs : Objs) (t : TypeId) (l : Operand) (c : Operand) : Option Eff := match T t, o.dst with
    | some { d := .slice e, .. }, some d => match T e with
      | some te => match flatTy te.ty with
        | some ty => match ev T 0 fr l, ev T 0 fr c, toDat [] ty te.zero with
          | some (.dat (.int .i64) n), some (.dat (.int .i64) m), some z => if fresh (newId fn d) objs ∧ te.bytes ≠ 0 ∧ te.zero.ok = true then
              some { v := .sl (newId fn d), upd := [(newId fn d, .row e ty (repl n z))], conds := [.make n te.bytes, .same n m], wr := [newId fn d] } else none
          | _, _, _ => none
        | none => match ev T 0 fr l, ev T 0 fr c with
          | some (.dat (.int .i64) n), some (.dat (.int .i64) m) => if fresh (newId fn d) objs ∧ te.bytes ≠ 0 ∧ te.zero.ok = true then
              some { v := .sl (newId fn d), upd := [(newId fn d, .vrow e te.size (repl n te.zero))], conds := [.make n te.bytes, .same n m], wr := [newId fn d] } else none
          | _, _ => none
      | none => none
    | _, _ => none
def sSlice (T : Tbl) (fn : Nat) (o : Oper) (fr : Fr) (objs : Objs) (t : TypeId) (x : Operand) (lo : Option Operand) (hi : Option Operand) (mx : Option Operand) : Option Eff := match mx with
    | none => sliceEff T fr objs t x lo hi
    | some _ => none
def sFieldAddr (T : Tbl) (fn : Nat) (o : Oper) (fr : Fr) (objs : Objs) (s : TypeId) (x : Operand) (f : Nat) : Option Eff := match ev T 0 fr x, T s with
    | some (.ptr id i off p), some { d := .struct fs, .. } => match fs[f]? with
      | some (ft, fo) => match T ft with
        | some tf => if tf.size = 0 then none else some { v := .ptr id i (off + fo) (p ++ [f]) }
        | none => none
      | none => none
    | some (.pim t y), some { d := .struct fs, .. } => match fs[f]?, datGet t y [f], tyOff t [f] with
      | some (ft, fo), some (.dat u z), some o => match T ft with
        | some tf => if fo = o ∧ tf.size ≠ 0 then some { v := .pim u z } else none
        | none => none
      | _, _, _ => none
    | _, _ => none
def sField (T : Tbl) (fn : Nat) (o : Oper) (fr : Fr) (objs : Objs) (t : TypeId) (x : Operand) (f : Nat) : Option Eff := match ev T 0 fr x, T t with
    | some v, some { d := .struct fs, .. } => match fs[f]?, avGet v [f], avOff v [f] with
      | some (ft, fo), some u, some o => match T ft with
        | some ti => if fo = o ∧ v.agg = true ∧ ti.size = u.size ∧ ti.agg = u.agg then some { v := u } else none
        | none => none
      | _, _, _ => none
    | _, _ => none
def sIndexAddr (T : Tbl) (fn : Nat) (o : Oper) (fr : Fr) (objs : Objs) (t : TypeId) (x : Operand) (ix : Operand) : Option Eff := match ev T t fr x, ev T 0 fr ix with
    | some (.dat (.lst ty) xs), some (.dat (.int _) i) => match T t with
      | some { d := .slice e, .. } => match T e with
        | some te => if te.size = ty.size then some { v := .pim ty (List.getD (α := ty.V) xs (Int.toNat i) ty.dflt), conds := [.inRange i (List.length (α := ty.V) xs)] } else none
        | none => none
      | _ => none
    | some (.sl id), some (.dat (.int _) i) => match T t with
      | some { d := .slice e, .. } => match T e, look id objs with
        | some te, some (.row _ ty xs) => if te.size = ty.size then some { v := .ptr id (Int.toNat i) 0 [], conds := [.inRange i xs.length], rd := [id] } else none
        | some te, some (.frz ty xs) => if te.size = ty.size then some { v := .pim ty (xs.getD (Int.toNat i) ty.dflt), conds := [.inRange i xs.length], rd := [id] } else none
        | some te, some (.vrow _ sz xs) => if te.size = sz then some { v := .ptr id (Int.toNat i) 0 [], conds := [.inRange i xs.length], rd := [id] } else none
        | _, _ => none
      | _ => none
    | some (.sub id lo hi), some (.dat (.int _) i) => match T t with
      | some { d := .slice e, .. } => match T e, look id objs with
        | some te, some (.row _ ty _) => if te.size = ty.size then some { v := .ptr id (lo + Int.toNat i) 0 [], conds := [.inRange i (hi - lo)], rd := [id] } else none
        | some te, some (.vrow _ sz _) => if te.size = sz then some { v := .ptr id (lo + Int.toNat i) 0 [], conds := [.inRange i (hi - lo)], rd := [id] } else none
        | _, _ => none
      | _ => none
    | some (.ptr id i off p), some (.dat (.int _) j) => match T t with
      | some { d := .array n e, .. } => match T e with
        | some te => if Int.toNat j < n ∧ eqI (Int.ofNat (Int.toNat j)) j then some { v := .ptr id i (off + Int.toNat j * te.size) (p ++ [Int.toNat j]) } else none
        | none => none
      | _ => none
    | some (.pim u y), some (.dat (.int _) j) => match T t with
      | some { d := .array n e, .. } => match T e, datGet u y [Int.toNat j], tyOff u [Int.toNat j] with
        | some te, some (.dat w z), some o => if Int.toNat j < n ∧ eqI (Int.ofNat (Int.toNat j)) j ∧ o = Int.toNat j * te.size then some { v := .pim w z } else none
        | _, _, _ => none
      | _ => none
    | _, _ => none
def sIndex (T : Tbl) (fn : Nat) (o : Oper) (fr : Fr) (objs : Objs) (t : TypeId) (x : Operand) (ix : Operand) : Option Eff := match T t, ev T t fr x, ev T 0 fr ix with
    | some { d := .str, .. }, some (.dat .str s), some (.dat (.int _) i) => some { v := .dat (.int .u8) (byteAt s i), conds := [.inRange i (ByteArray.size s)] }
    | _, _, _ => none
def sLookup (T : Tbl) (fn : Nat) (o : Oper) (fr : Fr) (objs : Objs) (t : TypeId) (x : Operand) (ix : Operand) (ok : Bool) : Option Eff := match T t with
    | some { d := .map kt0 et, .. } => match T et, ev T 0 fr x with
      | some te, some (.map id) => match look id objs with
        | some (.map kt vt m) => match ev T kt0 fr ix, toDat [] vt te.zero with
          | some kv, some z => match toDat objs kt kv with
            | some k => if chkTy T 20 kt0 kt = true ∧ te.zero.ok = true then
                if ok then some { v := .tup (.pr (.dat vt (mgetD m k z)) (.pr (.dat .bool (mhas m k)) .un)), rd := id :: slIds kv }
                else some { v := .dat vt (mgetD m k z), rd := id :: slIds kv }
              else none
            | none => none
          | _, _ => none
        | some (.vmap kt m) => match ev T kt0 fr ix with
          | some kv => match toDat objs kt kv with
            | some k => if chkTy T 20 kt0 kt = true ∧ te.zero.ok = true then
                if ok then some { v := .tup (.pr (mgetD m k te.zero) (.pr (.dat .bool (mhas m k)) .un)), rd := id :: slIds kv }
                else some { v := mgetD m k te.zero, rd := id :: slIds kv }
              else none
            | none => none
          | none => none
        | _ => none
      | _, _ => none
    | _ => none
def sMapUpdate (T : Tbl) (fn : Nat) (o : Oper) (fr : Fr) (objs : Objs) (t : TypeId) (m : Operand) (k : Operand) (x : Operand) : Option Eff := mapEff T fr objs t m k x
def sInsert (T : Tbl) (fn : Nat) (o : Oper) (fr : Fr) (objs : Objs) (t : TypeId) (m : Operand) (k : Operand) (x : Operand) : Option Eff := mapEff T fr objs t m k x
def sExtract (T : Tbl) (fn : Nat) (o : Oper) (fr : Fr) (objs : Objs) (x : Operand) (i : Nat) : Option Eff := match ev T 0 fr x with
    | some (.tup vs) => (nthAV vs i).map fun v => { v }
    | _ => none
def sCall (T : Tbl) (fn : Nat) (o : Oper) (fr : Fr) (objs : Objs) (b : Builtin) (args : Array Operand) (argTypes : Array TypeId) : Option Eff := match b, o.dst with
    | .len, _ => match argTypes.toList, args.toList with
      | [t], [x] => match T t, ev T t fr x with
        | some ti, some v => if lenOk ti.d v = true then lenEff objs v else none
        | _, _ => none
      | _, _ => none
    | .append, some d => match argTypes.toList, args.toList with
      | [t, t'], [s, x] => if t = t' then match ev T t fr s, ev T t fr x with
          | some s, some x => appendEff T fn d objs t s x
          | _, _ => none
        else match ev T t fr s, ev T t' fr x with
          | some s, some x => appendEff2 T fn d objs t t' s x
          | _, _ => none
      | _, _ => none
    | .cap, _ => match argTypes.toList, args.toList with
      | [t], [x] => match T t, ev T t fr x with
        | some { d := .slice _, .. }, some (.nil _) => some { v := .dat (.int .i64) (0 : Int) }
        | _, _ => none
      | _, _ => none
    | .copy, _ => match argTypes.toList, args.toList with
      | [t, t'], [d, s] => match ev T t fr d, ev T t' fr s with
        | some d, some s => copyEff T objs t d s
        | _, _ => none
      | _, _ => none
    | _, _ => none
def stepS (T : Tbl) (fn : Nat) (o : Oper) (fr : Fr) (objs : Objs) : Option Eff :=
  match o.op with
  | .move x => sMove T fn o fr objs x
  | .assign x => sAssign T fn o fr objs x
  | .pick c a b => sPick T fn o fr objs c a b
  | .alloc t => sAlloc T fn o fr objs t
  | .box t x => sBox T fn o fr objs t x
  | .build t parts => sBuild T fn o fr objs t parts
  | .buildSlice t len parts => sBuildSlice T fn o fr objs t len parts
  | .load t a => sLoad T fn o fr objs t a
  | .store t a x => sStore T fn o fr objs t a x
  | .nilCheck x => sNilCheck T fn o fr objs x
  | .binOp op t x y t' => sBinOp T fn o fr objs op t x y t'
  | .unOp op u0 x => sUnOp T fn o fr objs op u0 x
  | .convert src dst x => sConvert T fn o fr objs src dst x
  | .makeFunc f first caps => sMakeFunc T fn o fr objs f first caps
  | .makeMap t r => sMakeMap T fn o fr objs t r
  | .makeSlice t l c => sMakeSlice T fn o fr objs t l c
  | .slice t x lo hi mx => sSlice T fn o fr objs t x lo hi mx
  | .fieldAddr s x f => sFieldAddr T fn o fr objs s x f
  | .field t x f => sField T fn o fr objs t x f
  | .indexAddr t x ix => sIndexAddr T fn o fr objs t x ix
  | .index t x ix => sIndex T fn o fr objs t x ix
  | .lookup t x ix ok => sLookup T fn o fr objs t x ix ok
  | .mapUpdate t m k x => sMapUpdate T fn o fr objs t m k x
  | .insert t m k x => sInsert T fn o fr objs t m k x
  | .extract x i => sExtract T fn o fr objs x i
  | .call { callee := .builtin b, args, argTypes } => sCall T fn o fr objs b args argTypes
  | _ => none

theorem stepS_eq (T : Tbl) (fn : Nat) (o : Oper) (fr : Fr) (objs : Objs) : stepS T fn o fr objs = step T fn o fr objs := by
  unfold stepS step
  cases o.op with
  | binOp op t x y t' => simp only [sBinOp, binS_eq]; rfl
  | call c => obtain ⟨callee, args, argTypes⟩ := c; cases callee <;> rfl
  | _ => rfl

/-! ### Frames as trees -/
inductive Tr where
  | lf
  | nd (v : Option AV) (l r : Tr)
noncomputable def trGet (t : Tr) : Nat → Option AV :=
  Tr.rec (motive := fun _ => Nat → Option AV) (fun _ => none)
    (fun v _ _ gl gr k => Bool.rec (motive := fun _ => Option AV)
      (Bool.rec (motive := fun _ => Option AV) (gr (Nat.pred (Nat.div k 2))) (gl (Nat.div k 2)) (Nat.beq (Nat.mod k 2) 1)) v (Nat.beq k 0)) t
noncomputable def trOne (v : AV) (f : Nat) : Nat → Tr :=
  Nat.rec (motive := fun _ => Nat → Tr) (fun _ => .nd (some v) .lf .lf)
    (fun _ g k => Bool.rec (motive := fun _ => Tr)
      (Bool.rec (motive := fun _ => Tr) (.nd none .lf (g (Nat.pred (Nat.div k 2)))) (.nd none (g (Nat.div k 2)) .lf) (Nat.beq (Nat.mod k 2) 1)) (.nd (some v) .lf .lf) (Nat.beq k 0)) f
noncomputable def trSet (v : AV) (t : Tr) : Nat → Tr :=
  Tr.rec (motive := fun _ => Nat → Tr) (fun k => trOne v k k)
    (fun u l r sl sr k => Bool.rec (motive := fun _ => Tr)
      (Bool.rec (motive := fun _ => Tr) (.nd u l (sr (Nat.pred (Nat.div k 2)))) (.nd u (sl (Nat.div k 2)) r) (Nat.beq (Nat.mod k 2) 1)) (.nd (some v) l r) (Nat.beq k 0)) t
def optFr : Option AV → Fr
  | some v => [(0, v)]
  | none => []
def trFr : Tr → Fr
  | .lf => []
  | .nd v l r => optFr v ++ ((trFr l).map (fun p => (2 * p.1 + 1, p.2)) ++ (trFr r).map (fun p => (2 * p.1 + 2, p.2)))
noncomputable def trOf : Fr → Tr
  | [] => .lf
  | (k, v) :: r => trSet v (trOf r) k
noncomputable def trArgs (k : Nat) : List AV → Tr
  | [] => .lf
  | v :: r => trSet v (trArgs (k + 1) r) k
noncomputable def trSetD (d : Option Tmp) (v : AV) (t : Tr) : Tr := match d with | some d => trSet v t d | none => t
/-- The temporaries of some operands. -/
noncomputable def sm (t : Tr) : List Operand → Fr
  | [] => []
  | .tmp s :: r => match trGet t s with
    | some v => (s, v) :: sm t r
    | none => sm t r
  | _ :: r => sm t r
def opsOf : Op → List Operand
  | .move x => [x] | .assign x => [x] | .pick c a b => [c, a, b] | .alloc _ => [] | .box _ x => [x] | .load _ a => [a] | .store _ a x => [a, x]
  | .nilCheck x => [x] | .binOp _ _ x y _ => [x, y] | .unOp _ _ x => [x] | .convert _ _ x => [x] | .fieldAddr _ x _ => [x] | .field _ x _ => [x]
  | .indexAddr _ x y => [x, y] | .index _ x y => [x, y] | .lookup _ x y _ => [x, y] | .mapUpdate _ m k x => [m, k, x] | .insert _ m k x => [m, k, x] | .extract x _ => [x]
  | .makeSlice _ l c => [l, c]
  | .call { callee := .builtin _, args, .. } => args.toList
  | o => o.operands.toList
noncomputable def guardT (ops : Array Oper) (t : Tr) : Option (Nat × Bool) → Option Bool
  | none => some true
  | some (j, want) => match (ops[j]?).bind (·.dst) with
    | some d => match trGet t d with
      | some (.dat .bool true) => some want
      | some (.dat .bool false) => some (!want)
      | some (.tup .un) => some false
      | _ => none
    | none => none
/-- The temporaries of results. -/
def resOps : List ResultVar → List Operand
  | [] => []
  | .tmp t :: r => .tmp t :: resOps r
  | .cell a _ :: r => .tmp a :: resOps r

/-! ### The executor -/
inductive XE where
  | nrm | ext (id : Nat) | ret
structure XS where
  fr : Tr
  objs : Objs
  mks : List Nat
  cnt : Nat

noncomputable def setL {α : Type} (k : Nat) (v : α) (l : List (Nat × α)) : List (Nat × α) :=
  List.rec (motive := fun _ => List (Nat × α)) [(k, v)] (fun p r ih => Bool.rec (motive := fun _ => List (Nat × α)) (p :: ih) ((k, v) :: r) (Nat.beq k p.1)) l
noncomputable def setAll {α : Type} : List (Nat × α) → List (Nat × α) → List (Nat × α)
  | [], o => o
  | (k, v) :: r, o => setL k v (setAll r o)
noncomputable def memB (x : Nat) (l : List Nat) : Bool :=
  List.rec (motive := fun _ => Bool) false (fun y _ ih => Bool.rec (motive := fun _ => Bool) ih true (Nat.beq x y)) l

/-- The objects that can be reached. -/
noncomputable def reach : Nat → Objs → List Nat → List Nat → List Nat
  | 0, _, _, seen => seen
  | _ + 1, _, [], seen => seen
  | k + 1, objs, id :: r, seen => match memB id seen with
    | true => reach k objs r seen
    | false => match look id objs with
      | none => reach k objs r seen
      | some o => reach k objs (objIds o ++ r) (id :: seen)
noncomputable def only (kp : List Nat) : Objs → Objs
  | [] => []
  | (k, o) :: r => match memB k kp with
    | true => (k, o) :: only kp r
    | false => only kp r
noncomputable def allIn (kp : List Nat) : List Nat → Bool
  | [] => true
  | x :: r => match memB x kp with
    | true => allIn kp r
    | false => false
noncomputable def closedB (kp : List Nat) : Objs → Bool
  | [] => true
  | (_, o) :: r => match allIn kp (objIds o) with
    | true => closedB kp r
    | false => false
noncomputable def newB (kp : List Nat) (objs : Objs) : Objs → Bool
  | [] => true
  | (k, _) :: r => match memB k kp with
    | true => newB kp objs r
    | false => match look k objs with
      | none => newB kp objs r
      | some _ => false
noncomputable def nodupB : List Nat → Bool
  | [] => true
  | x :: r => match memB x r with
    | true => false
    | false => nodupB r
noncomputable def marksB (objs : Objs) : List Nat → Bool
  | [] => true
  | x :: r => match look x objs with
    | some .mark => marksB objs r
    | _ => false
def reachFuel : Nat := 1000000

/-- What is kept at the end of a walk that saw the objects kp of objs. -/
noncomputable def keepX2 (keep kp : List Nat) (objs : Objs) (v : AV) (objs' : Objs) : Option Objs :=
  match allIn keep kp, allIn keep (avIds v), closedB keep objs', newB kp objs objs' with
  | true, true, true, true => some objs'
  | _, _, _, _ => none
noncomputable def keepX1 (keep kp : List Nat) (objs : Objs) (v : AV) (objsP : Objs) : Option Objs := keepX2 keep kp objs v (only keep objsP)
noncomputable def keepX (kp : List Nat) (objs : Objs) (v : AV) (objsP : Objs) : Option Objs := keepX1 (reach reachFuel objsP (kp ++ avIds v) []) kp objs v objsP

abbrev Ex := Nat → Bool → Code → XS → Option (XE × XS)
abbrev CallR := Option (List Nat × AV × Objs × Nat)

section
variable (T : Tbl) (P : Array Func)

noncomputable def retX (kp : List Nat) (objs : Objs) (cnt : Nat) (objsP : Objs) : Option AV → CallR
  | some v => match keepX kp objs v objsP with
    | some objs' => some (kp, v, objs', cnt)
    | none => none
  | none => none
noncomputable def endX (fn : Func) (kp : List Nat) (objs : Objs) (τ : XS) : CallR :=
  match nodupB τ.mks, marksB τ.objs τ.mks with
  | true, true => retX kp objs τ.cnt (deads τ.mks ++ τ.objs) (resAV T (sm τ.fr (resOps fn.results.toList)) (deads τ.mks ++ τ.objs) fn.results.toList)
  | _, _ => none
noncomputable def leaveX (fn : Func) (kp : List Nat) (objs : Objs) : Option (XE × XS) → CallR
  | some (.nrm, τ) => endX T fn kp objs τ
  | some (.ret, τ) => endX T fn kp objs τ
  | _ => none
noncomputable def enterX (ex : Ex) (fn : Func) (c : Code) (l : List AV) (objs : Objs) (cnt : Nat) (kp : List Nat) (small : Objs) : CallR :=
  match fn.name == "runtime.NumGoroutine", Nat.ble l.length fn.ntmps, closedB kp small, allIn kp (avsIds l) with
  | false, true, true, true => leaveX T fn kp objs (ex fn.ntmps false c { fr := trArgs 0 l, objs := small, mks := [], cnt := cnt })
  | _, _, _, _ => none
noncomputable def enterX1 (ex : Ex) (fn : Func) (c : Code) (l : List AV) (objs : Objs) (cnt : Nat) (kp : List Nat) : CallR := enterX T ex fn c l objs cnt kp (only kp objs)
noncomputable def callX (ex : Ex) (f : FuncId) (l : List AV) (objs : Objs) (cnt : Nat) : CallR :=
  match P[f]? with
  | some fn => match fn.body with
    | some c => enterX1 T ex fn c l objs cnt (reach reachFuel objs (avsIds l) [])
    | none => none
  | none => none

noncomputable def ltAll (n : Nat) : List Tmp → Bool
  | [] => true
  | t :: r => match Nat.blt t n with
    | true => ltAll n r
    | false => false

noncomputable def roundFin (id : Nat) (kp : List Nat) (objs : Objs) (cnt : Nat) (objs2 : Objs) (L2 : LRec) (fr2 : Fr) : XE → CallR
  | .nrm => retX kp objs cnt (setL id (.lp { L2 with st := .ready, pend := none } fr2) objs2) (some (.dat .bool true))
  | .ret => retX kp objs cnt (setL id (.lp { L2 with st := .done, pend := some .ret } fr2) objs2) (some (.dat .bool false))
  | .ext j => retX kp objs cnt (setL id (.lp { L2 with st := .done, pend := some (.exit j) } fr2) objs2) (some (.dat .bool false))
noncomputable def roundBody (id : Nat) (kp : List Nat) (objs : Objs) : Option (XE × XS) → CallR
  | some (e, τ2) => match look id τ2.objs with
    | some (.lp L2 fr2) => roundFin id kp objs τ2.cnt τ2.objs L2 fr2 e
    | _ => none
  | none => none
noncomputable def roundMid (ex : Ex) (n : Nat) (body : Code) (id : Nat) (kp : List Nat) (objs : Objs) : Option (XE × XS) → CallR
  | some (.nrm, τ) => match look id τ.objs with
    | some (.lp L1 fr1) => match L1.st with
      | .ready => roundBody id kp objs (ex n true body { τ with objs := setL id (.lp { L1 with st := .busy } fr1) τ.objs })
      | _ => none
    | _ => none
  | _ => none
noncomputable def roundGo (ex : Ex) (id : Nat) (la : List AV) (objs : Objs) (cnt : Nat) (L : LRec) (fr : Fr) (kp : List Nat) (small : Objs) : CallR :=
  match Nat.beq la.length L.params.size, ltAll L.n L.params.toList, closedB kp small, allIn kp (id :: avsIds la) with
  | true, true, true, true => roundMid ex L.n L.body id kp objs (ex L.n true L.assign { fr := trOf (setPs L.params.toList la fr), objs := small, mks := [], cnt := cnt })
  | _, _, _, _ => none
noncomputable def roundX1 (ex : Ex) (id : Nat) (la : List AV) (objs : Objs) (cnt : Nat) (L : LRec) (fr : Fr) (kp : List Nat) : CallR := roundGo ex id la objs cnt L fr kp (only kp objs)
noncomputable def roundX (ex : Ex) (id : Nat) (la : List AV) (objs : Objs) (cnt : Nat) : CallR :=
  match look id objs with
  | some (.lp L fr) => match L.st with
    | .ready => roundX1 ex id la objs cnt L fr (reach reachFuel objs (id :: avsIds la) [])
    | _ => none
  | _ => none

def chkAll : List Cnd → Bool
  | [] => true
  | c :: r => match c.chk with
    | true => chkAll r
    | false => false

abbrev OpR := Option (Eff × Nat)
def effR : CallR → OpR
  | some (kp, v, objs', cnt) => some (callEff v objs' kp, cnt)
  | none => none
noncomputable def valX (ex : Ex) (σ : XS) (la : List AV) : Option AV → OpR
  | some (.fn f caps) => match unpr caps with
    | some lc => effR (callX T P ex f (la ++ lc) σ.objs σ.cnt)
    | none => none
  | some (.yld id) => effR (roundX ex id la σ.objs σ.cnt)
  | _ => none
noncomputable def valArgs (ex : Ex) (σ : XS) (g : Operand) : Option (List AV) → OpR
  | some la => valX T P ex σ la (ev T 0 (sm σ.fr [g]) g)
  | none => none
def effChk (cnt : Nat) : Option Eff → OpR
  | some e => match chkAll e.conds with
    | true => some (e, cnt)
    | false => none
  | none => none
def valCall : Op → Option (Operand × Array Operand × Array TypeId)
  | .call { callee := .value g, args, argTypes } => some (g, args, argTypes)
  | _ => none
/-- One operation: what it comes to, and the counter behind it. -/
noncomputable def opX (ex : Ex) (o : Oper) (base : Nat) (σ : XS) : OpR :=
  match valCall o.op with
  | some (g, args, argTypes) => match Nat.beq args.size argTypes.size with
    | true => valArgs T P ex σ g (argsAV T (sm σ.fr args.toList) (args.toList.zip argTypes.toList))
    | false => none
  | none => effChk σ.cnt (stepS T base o (sm σ.fr (opsOf o.op)) σ.objs)

def dstB (N : Nat) : Option Tmp → Bool
  | some d => Nat.blt d N
  | none => true
/-- The operations of a region, in the order of the text. -/
noncomputable def oneX (ex : Ex) (ops : Array Oper) (base : Nat) (o : Oper) (σ : XS) : Option Bool → OpR
  | some true => opX T P ex o base σ
  | some false => some ({ v := .tup .un }, σ.cnt)
  | none => none
def consX (e : Eff) : Option (List Eff × XS) → Option (List Eff × XS)
  | some (es, τ) => some (e :: es, τ)
  | none => none
noncomputable def opsX (ex : Ex) (ops : Array Oper) (N base : Nat) : List Oper → XS → Option (List Eff × XS)
  | [], σ => some ([], σ)
  | o :: r, σ => match dstB N o.dst with
    | true => match oneX T P ex ops base o σ (guardT ops σ.fr o.guard) with
      | some (e, cnt) => consX e (opsX ex ops N base r { fr := trSetD o.dst e.v σ.fr, objs := setAll e.upd σ.objs, mks := σ.mks, cnt := cnt })
      | none => none
    | false => none

/-! #### whether a region's order may be drawn -/
def maskOf (acc : List Nat) (o : Oper) : Nat := o.after.toList.foldl (fun s e => if Region.binds .any e = true then s ||| 2 ^ e.on ||| acc.getD e.on 0 else s) 0
def masks : List Oper → List Nat → List Nat
  | [], acc => acc
  | o :: r, acc => masks r (acc ++ [maskOf acc o])
def textB : List Oper → Nat → Bool
  | [], _ => true
  | o :: r, i => o.after.toList.all (fun e => !Region.binds .any e || decide (e.on < i)) && textB r (i + 1)
noncomputable def meetB (a b : List Nat) : Bool := a.any fun x => memB x b
def optMem (m : Nat → Bool) : Option Tmp → Bool
  | some d => m d
  | none => false
/-- The earlier operation i and the later one j have something to do with each other. -/
noncomputable def touchB (ops : Array Oper) (oi oj : Oper) (ei ej : Eff) : Bool :=
  optMem (fun s => memB s (oj.looksAt ops) || optMem (fun t => Nat.beq s t) oj.dst) oi.dst || optMem (fun s => memB s (oi.looksAt ops)) oj.dst || meetB ei.wr ej.rd || meetB ei.wr ej.wr || meetB ei.rd ej.wr
noncomputable def pairsB (ops : Array Oper) (j : Nat) (oj : Oper) (ej : Eff) (m : Nat) : List Oper → List Eff → Nat → Bool
  | oi :: r, ei :: s, i => match Nat.beq i j with
    | true => true
    | false => match m.testBit i || !touchB ops oi oj ei ej with
      | true => pairsB ops j oj ej m r s (i + 1)
      | false => false
  | _, _, _ => true
noncomputable def orderB (ops : Array Oper) (all : List Oper) (es : List Eff) : List Oper → List Eff → List Nat → Nat → Bool
  | oj :: r, ej :: s, m :: ms, j => match pairsB ops j oj ej m all es 0 with
    | true => orderB ops all es r s ms (j + 1)
    | false => false
  | _, _, _, _ => true
noncomputable def drawB (ops : Array Oper) (es : List Eff) : Bool := textB ops.toList 0 && orderB ops ops.toList es ops.toList es (masks ops.toList []) 0

noncomputable def regX (ops : Array Oper) (draw : Bool) : Option (List Eff × XS) → Option (XE × XS)
  | some (es, τ) => match draw with
    | false => some (.nrm, τ)
    | true => match drawB ops es with
      | true => some (.nrm, τ)
      | false => none
  | none => none
noncomputable def rangeEnd (lid mid : Nat) (σ : XS) (cnt : Nat) (objs2 : Objs) : Option AObj → Option (XE × XS)
  | some (.lp L2 _) => match L2.st with
    | .busy => none
    | _ => match L2.pend with
      | none => some (.nrm, { σ with objs := setL lid .dead objs2, mks := mid :: σ.mks, cnt := cnt })
      | some .ret => some (.ret, { σ with objs := setL lid .dead objs2, mks := mid :: σ.mks, cnt := cnt })
      | some (.exit j) => some (.ext j, { σ with objs := setL lid .dead objs2, mks := mid :: σ.mks, cnt := cnt })
      | _ => none
  | _ => none
noncomputable def rangeBack (lid mid : Nat) (σ : XS) (objs1 : Objs) : CallR → Option (XE × XS)
  | some (_, _, objs', cnt) => rangeEnd lid mid σ cnt (setAll objs' objs1) (look lid (setAll objs' objs1))
  | none => none
noncomputable def rangeGo (ex : Ex) (σ : XS) (f : FuncId) (lc : List AV) (lid mid : Nat) (objs1 : Objs) : Option (XE × XS) :=
  rangeBack lid mid σ objs1 (callX T P ex f (.yld lid :: lc) objs1 (σ.cnt + 1))
noncomputable def rangeX (ex : Ex) (N : Nat) (ps : Array Tmp) (assign body : Code) (σ : XS) : Option AV → Option (XE × XS)
  | some (.fn f caps) => match unpr caps, look (newId σ.cnt 1) σ.objs, look (newId σ.cnt 0) σ.objs with
    | some lc, none, none => rangeGo T P ex σ f lc (newId σ.cnt 1) (newId σ.cnt 0)
        ((newId σ.cnt 1, .lp { n := N, params := ps, assign := assign, body := body, st := .ready, pend := none } (trFr σ.fr)) :: (newId σ.cnt 0, .mark) :: σ.objs)
    | _, _, _ => none
  | _ => none
noncomputable def seqX (k : XS → Option (XE × XS)) : Option (XE × XS) → Option (XE × XS)
  | some (.nrm, τ) => k τ
  | some (.ret, τ) => some (.ret, τ)
  | some (.ext j, τ) => some (.ext j, τ)
  | none => none
noncomputable def blockX (id : Nat) : Option (XE × XS) → Option (XE × XS)
  | some (.nrm, τ) => some (.nrm, τ)
  | some (.ret, τ) => some (.ret, τ)
  | some (.ext j, τ) => match Nat.beq j id with
    | true => some (.nrm, τ)
    | false => some (.ext j, τ)
  | none => none
noncomputable def condX (a b : Option (XE × XS)) : Option AV → Option (XE × XS)
  | some (.dat .bool c) => match c with
    | true => a
    | false => b
  | _ => none
noncomputable def execF (ex : Ex) (N : Nat) (rd : Bool) (c : Code) (σ : XS) : Option (XE × XS) :=
  match c with
  | .skip => some (.nrm, σ)
  | .label _ => some (.nrm, σ)
  | .exit id => some (.ext id, σ)
  | .ret => some (.ret, σ)
  | .seq a b => seqX (fun τ => ex N rd b τ) (ex N rd a σ)
  | .cond c a b => condX (ex N rd a σ) (ex N rd b σ) (ev T 0 (sm σ.fr [c]) c)
  | .block id c => blockX id (ex N rd c σ)
  | .loop c => seqX (fun τ => ex N rd (.loop c) τ) (ex N rd c σ)
  | .region _ ops draw => regX ops draw (opsX T P ex ops N σ.cnt ops.toList { fr := σ.fr, objs := σ.objs, mks := σ.mks, cnt := σ.cnt + 1 })
  | .rangeFunc g ps assign body => match rd with
    | true => none
    | false => rangeX T P ex N ps assign body σ (ev T 0 (sm σ.fr [g]) g)
  | _ => none
noncomputable def exec (n : Nat) : Ex := Nat.rec (motive := fun _ => Ex) (fun _ _ _ _ => none) (fun _ ih => execF T P ih) n
end
end
end Go.Ab

namespace Go.Ab
noncomputable section
open Go Go.RowKit

/-! ### The table of types, checked -/
def oneB : Value → Bool
  | .bool _ | .int _ _ | .string _ | .pointer _ | .slice _ _ _ | .map _ | .func _ _ _ | .nilFunc | .nilIface => true
  | _ => false
def repB : AV → List Value → Option (List Value)
  | .dat (.int k) n, .int j m :: r => if ikEq k j && eqI n m then some r else none
  | .dat .bool b, .bool c :: r => if eqB b c then some r else none
  | .dat .str s, .string u :: r => if ByteArray.size s = 0 ∧ ByteArray.size u = 0 then some r else none
  | .nil _, .slice none 0 0 :: r => some r
  | .nilfn, .nilFunc :: r => some r
  | .nilp, .pointer none :: r => some r
  | .nilm, .map none :: r => some r
  | .any, v :: r => if oneB v then some r else none
  | .un, r => some r
  | .pr a b, cs => match repB a cs with
    | some r => repB b r
    | none => none
  | _, _ => none
theorem empty_ba {s u : ByteArray} (h : s.size = 0) (k : u.size = 0) : s = u := by
  have h1 : s.data = #[] := Array.eq_empty_of_size_eq_zero h
  have h2 : u.data = #[] := Array.eq_empty_of_size_eq_zero k
  cases s; cases u
  simp only at h1 h2
  rw [h1, h2]
theorem repB_rep : ∀ {a : AV} {cs r : List Value}, repB a cs = some r → ∃ c, cs = c ++ r ∧ ∀ E, Rep E a false c := by
  intro a
  induction a with
  | pr a b iha ihb =>
    intro cs r h
    simp only [repB] at h
    split at h
    · rename_i r1 h1
      obtain ⟨c1, rfl, h2⟩ := iha h1
      obtain ⟨c2, rfl, h3⟩ := ihb h
      exact ⟨c1 ++ c2, by simp, fun E => ⟨c1, c2, rfl, h2 E, h3 E⟩⟩
    · cases h
  | un => intro cs r h; simp only [repB, Option.some.injEq] at h; exact ⟨[], by simp [h], fun E => rfl⟩
  | dat t x =>
    intro cs r h
    cases cs with
    | nil => cases t <;> simp [repB] at h
    | cons v cs =>
      cases t <;> cases v <;> simp only [repB, reduceCtorEq] at h
      case int.int k j m =>
        split at h
        · rename_i hk
          simp only [Bool.and_eq_true] at hk
          obtain rfl := ikEq_eq hk.1
          have := eqI_eq0 hk.2
          simp only [Option.some.injEq] at h
          exact ⟨[.int k m], by simp [h], fun E => by rw [← this]; rfl⟩
        · cases h
      case bool.bool b =>
        split at h
        · rename_i hk
          have := eqB_eq hk
          simp only [Option.some.injEq] at h
          exact ⟨[.bool b], by simp [h], fun E => by rw [← this]; rfl⟩
        · cases h
      case str.string u =>
        split at h
        · rename_i hk
          have := empty_ba hk.1 hk.2
          simp only [Option.some.injEq] at h
          refine ⟨[.string u], by simp [h], fun E => ?_⟩
          rw [this]
          exact ⟨rfl, by simp [SmallLen, hk.2]⟩
        · cases h
  | nil t =>
    intro cs r h
    cases cs with
    | nil => simp [repB] at h
    | cons v cs =>
      cases v with
      | slice ad n c =>
        cases ad with
        | some ad => simp [repB] at h
        | none =>
          cases n with
          | succ n => simp [repB] at h
          | zero =>
            cases c with
            | succ c => simp [repB] at h
            | zero => simp only [repB, Option.some.injEq] at h; exact ⟨[.slice none 0 0], by simp [h], fun E => rfl⟩
      | _ => simp [repB] at h
  | nilfn =>
    intro cs r h
    cases cs with
    | nil => simp [repB] at h
    | cons v cs =>
      cases v <;> simp only [repB, reduceCtorEq] at h
      simp only [Option.some.injEq] at h
      exact ⟨[.nilFunc], by simp [h], fun E => rfl⟩
  | nilp =>
    intro cs r h
    cases cs with
    | nil => simp [repB] at h
    | cons v cs =>
      cases v with
      | pointer p =>
        cases p with
        | some p => simp [repB] at h
        | none => simp only [repB, Option.some.injEq] at h; exact ⟨[.pointer none], by simp [h], fun E => rfl⟩
      | _ => simp [repB] at h
  | nilm =>
    intro cs r h
    cases cs with
    | nil => simp [repB] at h
    | cons v cs =>
      cases v with
      | map p =>
        cases p with
        | some p => simp [repB] at h
        | none => simp only [repB, Option.some.injEq] at h; exact ⟨[.map none], by simp [h], fun E => rfl⟩
      | _ => simp [repB] at h
  | any =>
    intro cs r h
    cases cs with
    | nil => simp [repB] at h
    | cons v cs =>
      simp only [repB] at h
      split at h
      · rename_i hv
        simp only [Option.some.injEq] at h
        exact ⟨[v], by simp [h], fun E => ⟨v, rfl, by cases v <;> first | rfl | cases hv⟩⟩
      · cases h
  | _ => intro cs r h; cases cs <;> simp [repB] at h

/-- The zero value. -/
def zeroB (a : AV) (z : Value) : Bool :=
  if a.agg then match z with
    | .agg cs => match repB a cs.toList with
      | some [] => true
      | _ => false
    | _ => false
  else match repB a [z] with
    | some [] => true
    | _ => false
theorem zeroB_slot {a : AV} {z : Value} (h : zeroB a z = true) (E : Env) : Slot E a z := by
  unfold zeroB at h
  split at h
  · rename_i ha
    split at h
    · rename_i cs
      split at h
      · rename_i hr
        obtain ⟨c, hc, hE⟩ := repB_rep hr
        have : cs = c.toArray := by apply Array.ext'; simpa using hc
        rw [this]
        exact Slot.ofAgg (hE E) ha
      · cases h
    · cases h
  · rename_i ha
    split at h
    · rename_i hr
      obtain ⟨c, hc, hE⟩ := repB_rep hr
      have : [z] = c := by simpa using hc
      exact Slot.ofCell (by rw [this]; exact hE E) (by simpa using ha)
    · cases h

def fsB : List (TypeId × Nat) → List Field → Bool
  | [], [] => true
  | (t, o) :: r, f :: s => t == f.type && o == f.offset && f.name != "_" && fsB r s
  | _, _ => false
theorem fsB_eq : ∀ {fs : List (TypeId × Nat)} {fields : List Field}, fsB fs fields = true → fs = fields.map (fun f => (f.type, f.offset)) ∧ ∀ f ∈ fields, f.name ≠ "_"
  | [], [], _ => ⟨rfl, by simp⟩
  | [], _ :: _, h => by simp [fsB] at h
  | _ :: _, [], h => by simp [fsB] at h
  | (t, o) :: r, f :: s, h => by
    simp only [fsB, Bool.and_eq_true, beq_iff_eq, bne_iff_ne] at h
    obtain ⟨⟨⟨h1, h2⟩, h3⟩, h4⟩ := h
    obtain ⟨h5, h6⟩ := fsB_eq h4
    refine ⟨by rw [h1, h2, h5]; rfl, fun g hg => ?_⟩
    rcases List.mem_cons.1 hg with rfl | hg
    · exact h3
    · exact h6 g hg
def tdB : TD → TypeDesc → Bool
  | .int k, .int j => ikEq k j
  | .bool, .bool => true
  | .str, .string => true
  | .slice e, .slice e' => e == e'
  | .map k e, .map k' e' => k == k' && e == e'
  | .struct fs, .struct fields => fsB fs fields.toList
  | .array n e, .array n' e' => n == n' && e == e'
  | .func, .func _ _ _ => true
  | .other, _ => true
  | _, _ => false
theorem tdB_ok : ∀ {a : TD} {d : TypeDesc}, tdB a d = true → tdOk a d := by
  intro a d h
  cases a <;> cases d <;> simp only [tdB, tdOk, Bool.and_eq_true, beq_iff_eq] at h ⊢ <;> first | (exact ikEq_eq h) | exact h | (cases h; done) | skip
  obtain ⟨h1, h2⟩ := fsB_eq h
  exact ⟨h1, h2⟩
def tiB (P : Program) (t : TypeId) (ti : TI) : Bool :=
  match P.info? t, P.underlying t with
  | some i, some d => i.size == ti.size && i.bytes == ti.bytes && (match i.zero with | some z => z.cells.size == ti.size && zeroB ti.zero z | none => false) && tdB ti.d d &&
      ((match d with | .struct _ => true | .array _ _ => true | _ => false) == ti.agg) && (match d with | .struct fields => fields.toList.all (fun f => (P.info? f.type).isSome) | _ => true) &&
      (!ti.agg || (!P.stoodInHeld t && !P.eqGuardType P.depth t)) && ti.zero.size == ti.size && ti.zero.agg == ti.agg && (match ti.ty with | some y => y.size == ti.size && y.agg == ti.agg | none => true)
  | _, _ => false
theorem tiB_ok {P : Program} {t : TypeId} {ti : TI} (h : tiB P t ti = true) : TIOk P t ti := by
  unfold tiB at h
  split at h
  · rename_i i d hi hd
    simp only [Bool.and_eq_true, beq_iff_eq] at h
    obtain ⟨⟨⟨⟨⟨⟨⟨⟨⟨h1, h2⟩, h3⟩, h4⟩, h5⟩, h6⟩, h7⟩, h8⟩, h9⟩, h10⟩ := h
    refine ⟨⟨i, hi, h1, h2, ?_⟩, ⟨d, hd, tdB_ok h4, h5⟩, ?_, ?_, ⟨h8, h9⟩, ?_⟩
    · split at h3
      · rename_i z hz
        simp only [Bool.and_eq_true, beq_iff_eq] at h3
        exact ⟨z, hz, h3.1, zeroB_slot h3.2⟩
      · cases h3
    · intro fields hf f hfm
      have : d = .struct fields := by have := hd.symm.trans hf; simpa using this
      subst this
      exact List.all_eq_true.1 h6 f hfm
    · intro ha
      rw [ha] at h7
      simpa using h7
    · intro y hy
      rw [hy] at h10
      simpa using h10
  · cases h
def tblB (P : Program) : List (TypeId × TI) → Bool
  | [] => true
  | (t, ti) :: r => tiB P t ti && tblB P r
theorem tblB_mem {P : Program} : ∀ {l : List (TypeId × TI)}, tblB P l = true → ∀ t ti, (t, ti) ∈ l → TIOk P t ti
  | [], _, _, _, h => by cases h
  | (u, ui) :: r, h, t, ti, hm => by
    simp only [tblB, Bool.and_eq_true] at h
    rcases List.mem_cons.1 hm with hm | hm
    · cases hm; exact tiB_ok h.1
    · exact tblB_mem h.2 t ti hm
/-- Tables in pages of sixteen. -/
def pageGet : Nat → List (List (TypeId × TI)) → List (TypeId × TI)
  | _, [] => []
  | 0, p :: _ => p
  | n + 1, _ :: r => pageGet n r
def tblOf (pages : List (List (TypeId × TI))) (t : TypeId) : Option TI := look t (pageGet (t / 16) pages)
theorem look_mem {α : Type} : ∀ {l : List (Nat × α)} {k : Nat} {v : α}, look k l = some v → (k, v) ∈ l
  | (j, u) :: r, k, v, h => by
    simp only [look_cons] at h
    split at h
    · rename_i hk; cases h; subst hk; simp
    · exact List.mem_cons_of_mem _ (look_mem h)
theorem pageGet_mem : ∀ {n : Nat} {pages : List (List (TypeId × TI))} {x : TypeId × TI}, x ∈ pageGet n pages → x ∈ pages.flatten
  | n, [], x, h => by cases n <;> simp [pageGet] at h
  | 0, p :: r, x, h => by simp only [pageGet] at h; simp [h]
  | n + 1, p :: r, x, h => by simp only [pageGet] at h; have := pageGet_mem h; simp only [List.flatten_cons, List.mem_append]; exact .inr this
theorem tblOf_ok {P : Program} {pages : List (List (TypeId × TI))} (h : tblB P pages.flatten = true) : TblOk P (tblOf pages) :=
  fun t ti ht => tblB_mem h t ti (pageGet_mem (look_mem ht))
end
end Go.Ab
