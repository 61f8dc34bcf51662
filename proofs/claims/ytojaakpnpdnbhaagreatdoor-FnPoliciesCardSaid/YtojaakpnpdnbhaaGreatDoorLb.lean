/- The operations of the symbolic logic: what each does to a symbolic state. -/
import Derived.Test.YtojaakpnpdnbhaaGreatDoorLa
set_option linter.unusedVariables false
namespace Go.Proofs.YtojaakpnpdnbhaaGreatDoor.L
open Go.RowKit

inductive TK where
  | agg (fields : List (Nat × Nat × Bool))
  | slice (e : TypeId)
  | int (k : IntKind)
  | bool
  | str
  | other

structure TI where
  size : Nat
  bytes : Nat
  zero : List Value
  k : TK
  cmp : Bool

def aggD : TypeDesc → Bool
  | .struct _ | .array _ _ => true
  | _ => false

def TKok (P : Program) (d : TypeDesc) (z : Value) (ti : TI) : TK → Prop
  | .agg fl => ∃ fs, d = .struct fs ∧ z = .agg ti.zero.toArray ∧
      fs.toList.map (fun f => (f.offset, (P.info? f.type).map (·.size), (P.underlying f.type).map aggD)) = fl.map fun x => (x.1, some x.2.1, some x.2.2)
  | .slice e => d = .slice e
  | .int k => d = .int k
  | .bool => d = .bool
  | .str => d = .string
  | .other => aggD d = false

/-- a row of whole numbers as cells -/
def intsV (xs : List Int) : Array Value := (xs.map (Value.int .i64)).toArray
/-- structs of whole numbers are compared cell by cell -/
def EqS (P : Program) (t : TypeId) (n : Nat) : Prop := P.eqGuardType P.depth t = false ∧ ∀ (w : World) (xs ys : List Int), xs.length = n → ys.length = n → (Op.equal t (.agg (intsV xs)) (.agg (intsV ys))).run P w = .ok (xs == ys) w

structure TIok (P : Program) (t : TypeId) (ti : TI) : Prop where
  eqs : ti.cmp = true → EqS P t ti.size
  ex : ∃ i d z, P.info? t = some i ∧ P.underlying t = some d ∧ i.zero = some z ∧ i.size = ti.size ∧ i.bytes = ti.bytes ∧ z.cells = ti.zero.toArray ∧ ti.zero.length = ti.size ∧ TKok P d z ti ti.k

abbrev TT := TypeId → Option TI
def TOk (P : Program) (T : TT) : Prop := ∀ t ti, T t = some ti → TIok P t ti

def leval (s : LS) : Operand → LV
  | .tmp t => s.fr t
  | .const v => .d (.v v)
  | .global _ => .bad
  | .func f => .fn f []

def okVal : Value → Bool
  | .agg _ | .tuple _ => false
  | _ => true
def okCell : LV → Bool
  | .d (.v x) => okVal x
  | .d (.l _ _) | .row _ | .ptr _ _ | .eptr _ _ _ _ | .dptr _ | .fn _ _ | .mp _ | .sub _ _ _ _ | .pptr _ => true
  | _ => false
/-- a value's cells -/
def cellsLV : LV → Option (List LV)
  | .agg cs => bif cs.all okCell then some cs else none
  | x => bif okCell x then some [x] else none
def dataOf : LV → Option D
  | .d x => some x
  | _ => none
def splice {α : Type} : List α → Nat → List α → List α
  | [], _, new => new
  | c :: cs, k + 1, new => c :: splice cs k new
  | c :: cs, 0, [] => c :: cs
  | _ :: cs, 0, n :: ns => n :: splice cs 0 ns
theorem splice_eq {α : Type} : ∀ (cs : List α) (off : Nat) (new : List α), splice cs off new = cs.take off ++ (new ++ cs.drop (off + new.length))
  | [], _, new => by simp [splice]
  | c :: cs, k + 1, new => by rw [splice, splice_eq cs k new]; simp [Nat.add_right_comm]
  | c :: cs, 0, [] => by simp [splice]
  | _ :: cs, 0, n :: ns => by rw [splice, splice_eq cs 0 ns]; simp

def loadLV (ti : TI) (cs : List LV) : Option LV := match ti.k with
  | .agg _ => bif Nat.ble ti.size cs.length then some (.agg (cs.take ti.size)) else none
  | _ => cs.head?

def pickLV (t : Bool) (x y : LV) : Option LV := match t with
  | true => some x
  | false => some y

def bin2 (tk : TK) (op : BinOp) (x y : Value) : Option (Prop × Value) := match x, y with
  | .int k a, .int k' b => match op with
    | .shl => some (0 ≤ b, .int k (k.wrap (a * 2 ^ (min b.toNat k.bits))))
    | .shr => some (0 ≤ b, .int k (a.fdiv (2 ^ (min b.toNat k.bits))))
    | op => if k = k' then match op with
      | .add => some (True, .int k (k.wrap (a + b)))
      | .sub => some (True, .int k (k.wrap (a - b)))
      | .mul => some (True, .int k (k.wrap (a * b)))
      | .quo => some (b ≠ 0, .int k (k.wrap (a.tdiv b)))
      | .rem => some (b ≠ 0, .int k (a.tmod b))
      | .and => some (True, .int k (k.wrap (BitVec.ofInt k.bits a &&& BitVec.ofInt k.bits b).toNat))
      | .or => some (True, .int k (k.wrap (BitVec.ofInt k.bits a ||| BitVec.ofInt k.bits b).toNat))
      | .xor => some (True, .int k (k.wrap (BitVec.ofInt k.bits a ^^^ BitVec.ofInt k.bits b).toNat))
      | .andNot => some (True, .int k (k.wrap (BitVec.ofInt k.bits a &&& ~~~BitVec.ofInt k.bits b).toNat))
      | .eql => some (True, .bool (a == b))
      | .neq => some (True, .bool (a != b))
      | .lss => some (True, .bool (decide (a < b)))
      | .leq => some (True, .bool (decide (a ≤ b)))
      | .gtr => some (True, .bool (decide (a > b)))
      | .geq => some (True, .bool (decide (a ≥ b)))
      | _ => none
    else none
  | .string a, .string b => match op with
    | .add => some (((a.size + b.size : Nat) : Int) ≤ 9223372036854775807, .string (a ++ b))
    | .eql => some (True, .bool (a.toList == b.toList))
    | .neq => some (True, .bool (!(a.toList == b.toList)))
    | _ => none
  | .bool a, .bool b => match tk with
    | .bool => match op with
      | .eql => some (True, .bool (a == b))
      | .neq => some (True, .bool (!(a == b)))
      | _ => none
    | _ => none
  | _, _ => none

def atom : LV → Option Value
  | .d (.v x) => some x
  | _ => none
/-- cells that are whole numbers -/
def intsOf : List LV → Option (List Int)
  | [] => some []
  | .d (.v (.int .i64 a)) :: xs => match intsOf xs with
    | some l => some (a :: l)
    | none => none
  | _ => none

def slLen (s : LS) : LV → Option Nat
  | .d (.l n _) => some n
  | .d (.v (.slice none 0 0)) => some 0
  | .row k => match s.hp k with
    | some (.row _ _ n _) => some n
    | _ => none
  | _ => none

/-- a slice's elements, by value -/
def slVal (s : LS) : LV → Option (Nat × (Nat → List D))
  | .d (.l n f) => some (n, f)
  | .d (.v (.slice none 0 0)) => some (0, fun _ => [])
  | .row k => match s.hp k with
    | some (.row _ _ n f) => some (n, f)
    | _ => none
  | _ => none

def strAt (b : ByteArray) (i : Int) : Int := ((b.data.toList.getD i.toNat 0).toNat : Int)

def mapO {α β : Type} (f : α → Option β) : List α → Option (List β)
  | [] => some []
  | x :: xs => match f x with
    | some y => match mapO f xs with
      | some ys => some (y :: ys)
      | none => none
    | none => none

/-- parts of a struct put into its cells -/
def fillF (fl : List (Nat × Nat × Bool)) (s : LS) : List LV → List (Nat × Operand) → Option (List LV)
  | cs, [] => some cs
  | cs, (i, x) :: rest => match fl[i]? with
    | some (off, size, _) => match cellsLV (leval s x) with
      | some new => bif Nat.beq new.length size && Nat.ble (off + size) cs.length then fillF fl s (splice cs off new) rest else none
      | none => none
    | none => none

/-- the elements of a slice literal, in order -/
def litF (s : LS) (size : Nat) : Nat → List (Nat × Operand) → Option (List (List D))
  | _, [] => some []
  | j, (i, x) :: rest => bif Nat.beq i j then
      match cellsLV (leval s x) with
      | some new => match mapO dataOf new with
        | some ds => bif Nat.beq ds.length size then (match litF s size (j + 1) rest with
          | some l => some (ds :: l)
          | none => none) else none
        | none => none
      | none => none
    else none

def optI (s : LS) : Option Operand → Int → Option Int
  | none, d => some d
  | some q, _ => match leval s q with
    | .d (.v (.int _ i)) => some i
    | _ => none
def cutF (lo : Option Operand) (l : Int) (f : Nat → List D) : Nat → List D := match lo with
  | none => f
  | some _ => fun i => f (l.toNat + i)

def upto {α : Type} (n : Nat) (f g : Nat → α) : Nat → α := fun j => if j < n then f j else g (j - n)

def opF (T : TT) (kb : Nat) (o : Oper) (s : LS) : Option (Prop × LS) := match o.op with
  | .move x | .assign x => some (True, s.put o.dst (leval s x))
  | .pick c a b => match leval s c with
    | .d (.v (.bool t)) => match pickLV t (leval s a) (leval s b) with
      | some x => some (True, s.put o.dst x)
      | none => none
    | _ => none
  | .binOp op t x y _ => match T t with
    | some ti => match leval s x, leval s y with
      | .d (.v a), .d (.v b) => match bin2 ti.k op a b with
        | some (p, r) => some (p, s.put o.dst (.d (.v r)))
        | none => none
      | .agg cs, .agg ds => match intsOf cs, intsOf ds with
        | some xs, some ys => bif ti.cmp && Nat.beq xs.length ti.size && Nat.beq ys.length ti.size then (match op with
          | .eql => some (True, s.put o.dst (.d (.v (.bool (xs == ys)))))
          | .neq => some (True, s.put o.dst (.d (.v (.bool (!(xs == ys))))))
          | _ => none) else none
        | _, _ => none
      | _, _ => none
    | none => none
  | .unOp op _ x => match op, leval s x with
    | .not, .d (.v (.bool b)) => some (True, s.put o.dst (.d (.v (.bool (!b)))))
    | .neg, .d (.v (.int k n)) => some (True, s.put o.dst (.d (.v (.int k (k.wrap (0 - n))))))
    | _, _ => none
  | .convert src dst x => match T src, T dst with
    | some a, some b => match a.k, b.k, leval s x with
      | .int _, .int k, .d (.v (.int _ n)) => some (True, s.put o.dst (.d (.v (.int k (k.wrap n)))))
      | _, _, _ => none
    | _, _ => none
  | .load t x => match T t with
    | some ti => match leval s x with
      | .ptr k off => match s.hp k with
        | some (.box _ cs) => match loadLV ti (cs.drop off) with
          | some r => some (True, s.put o.dst r)
          | none => none
        | _ => none
      | .dptr cs => match loadLV ti (cs.map .d) with
        | some r => some (True, s.put o.dst r)
        | none => none
      | .eptr k sz i off => match s.hp k with
        | some (.row _ sz' n f) => bif Nat.beq sz sz' then (match loadLV ti (((f i).drop off).map .d) with
          | some r => some (i < n, s.put o.dst r)
          | none => none) else none
        | _ => none
      | _ => none
    | none => none
  | .store t x y => match T t with
    | some ti => match cellsLV (leval s y) with
      | some new => bif Nat.beq new.length ti.size then (match leval s x with
        | .ptr k off => match s.hp k with
          | some (.box bt cs) => bif Nat.ble (off + new.length) cs.length then some (True, { s with hp := upd s.hp k (some (.box bt (splice cs off new))) }.put o.dst .bad) else none
          | _ => none
        | .eptr k sz i off => match s.hp k, mapO dataOf new with
          | some (.row e sz' n f), some ds => bif Nat.beq sz sz' && Nat.ble (off + ds.length) sz then
              some (i < n, { s with hp := upd s.hp k (some (.row e sz n fun j => if j = i then splice (f j) off ds else f j)) }.put o.dst .bad) else none
          | _, _ => none
        | _ => none) else none
      | none => none
    | none => none
  | .nilCheck x => match leval s x with
    | .ptr k off => some (True, s.put o.dst (.ptr k off))
    | .dptr cs => some (True, s.put o.dst (.dptr cs))
    | .eptr k sz i off => some (True, s.put o.dst (.eptr k sz i off))
    | .fn f cs => some (True, s.put o.dst (.fn f cs))
    | _ => none
  | .fieldAddr t x j => match T t with
    | some ti => match ti.k with
      | .agg fl => match fl[j]? with
        | some (off, size, _) => bif Nat.beq size 0 then none else match leval s x with
          | .ptr k o1 => some (True, s.put o.dst (.ptr k (o1 + off)))
          | .eptr k sz i o1 => some (True, s.put o.dst (.eptr k sz i (o1 + off)))
          | .dptr cs => bif Nat.ble (off + 1) cs.length then some (True, s.put o.dst (.dptr (cs.drop off))) else none
          | _ => none
        | none => none
      | _ => none
    | none => none
  | .field t x j => match T t with
    | some ti => match ti.k with
      | .agg fl => match fl[j]? with
        | some (off, size, ag) => match leval s x with
          | .agg cs => bif Nat.ble (off + size) cs.length && Nat.ble 1 size then (match ag with
            | true => some (True, s.put o.dst (.agg ((cs.drop off).take size)))
            | false => match cs[off]? with
              | some r => some (True, s.put o.dst r)
              | none => none) else none
          | _ => none
        | none => none
      | _ => none
    | none => none
  | .indexAddr t x y => match T t with
    | some ti => match ti.k with
      | .slice e => match T e with
        | some te => match leval s y with
          | .d (.v (.int _ i)) => match leval s x with
            | .d (.l n f) => some (0 ≤ i ∧ i < (n : Int) ∧ (f i.toNat).length = te.size, s.put o.dst (.dptr (f i.toNat)))
            | .row k => match s.hp k with
              | some (.row e' sz n f) => bif Nat.beq sz te.size then some (0 ≤ i ∧ i < (n : Int), s.put o.dst (.eptr k sz i.toNat 0)) else none
              | _ => none
            | _ => none
          | _ => none
        | none => none
      | _ => none
    | none => none
  | .index t x y => match T t with
    | some ti => match ti.k, leval s x, leval s y with
      | .str, .d (.v (.string b)), .d (.v (.int _ i)) => some (0 ≤ i ∧ i < (b.size : Int), s.put o.dst (.d (.v (.int .u8 (strAt b i)))))
      | _, _, _ => none
    | none => none
  | .slice t x lo hi none => match T t with
    | some ti => match ti.k, leval s x with
      | .slice e, .d (.l n f) => match optI s lo 0, optI s hi n, T e with
        | some l, some h, some te => some (0 ≤ l ∧ l ≤ h ∧ h ≤ (n : Int) ∧ (l = 0 ∨ ∀ i, i < n → (f i).length = te.size), s.put o.dst (.d (.l (h - l).toNat (cutF lo l f))))
        | _, _, _ => none
      | .str, .d (.v (.string b)) => match optI s lo 0, optI s hi b.size with
        | some l, some h => some (0 ≤ l ∧ l ≤ h ∧ h ≤ (b.size : Int), s.put o.dst (.d (.v (.string (b.extract l.toNat h.toNat)))))
        | _, _ => none
      | _, _ => none
    | none => none
  | .alloc t => match T t with
    | some ti => some (True, { s with hp := upd s.hp kb (some (.box t (ti.zero.map fun x => .d (.v x)))) }.put o.dst (.ptr kb 0))
    | none => none
  | .box t x => match cellsLV (leval s x) with
    | some cs => some (True, { s with hp := upd s.hp kb (some (.box t cs)) }.put o.dst (.ptr kb 0))
    | none => none
  | .build t parts => match T t with
    | some ti => match ti.k with
      | .agg fl => match fillF fl s (ti.zero.map fun x => .d (.v x)) parts.toList with
        | some cs => some (True, s.put o.dst (.agg cs))
        | none => none
      | _ => none
    | none => none
  | .buildSlice t len parts => match T t with
    | some ti => match ti.k with
      | .slice e => match T e with
        | some te => match litF s te.size 0 parts.toList with
          | some ls => bif Nat.beq ls.length len && Nat.ble 1 te.size && Nat.ble (len * te.size) 16777216 then
              some (True, { s with hp := upd s.hp kb (some (.row e te.size len fun i => ls.getD i [])) }.put o.dst (.row kb)) else none
          | none => none
        | none => none
      | _ => none
    | none => none
  | .makeSlice t x y => match T t with
    | some ti => match ti.k with
      | .slice e => match T e with
        | some te => match leval s x, leval s y with
          | .d (.v (.int _ n)), .d (.v (.int _ m)) => bif Nat.ble 1 te.size && te.zero.all okVal then
              some (m = n ∧ 0 ≤ n ∧ n * te.bytes ≤ 140737488355328 ∧ n ≤ 9223372036854775807, { s with hp := upd s.hp kb (some (.row e te.size n.toNat fun _ => te.zero.map .v)) }.put o.dst (.row kb)) else none
          | _, _ => none
        | none => none
      | _ => none
    | none => none
  | .makeFunc (.func f) first caps => bif Nat.beq first.size 0 then some (True, s.put o.dst (.fn f (caps.toList.map (leval s)))) else none
  | .extract x j => match leval s x with
    | .tup cs => match cs[j]? with
      | some r => some (True, s.put o.dst r)
      | none => none
    | _ => none
  | .call { callee := .builtin .len, args, argTypes } => match args.toList, argTypes.toList with
    | [x], [t] => match T t with
      | some ti => match ti.k, leval s x with
        | .str, .d (.v (.string b)) => some (True, s.put o.dst (.d (.v (.int .i64 (b.size : Int)))))
        | .slice _, y => match slLen s y with
          | some n => some (True, s.put o.dst (.d (.v (.int .i64 (n : Int)))))
          | none => none
        | _, _ => none
      | none => none
    | _, _ => none
  | .call { callee := .builtin .max, args, .. } => match args.toList with
    | [x, y] => match leval s x, leval s y with
      | .d (.v (.int k a)), .d (.v (.int _ b)) => some (True, s.put o.dst (.d (.v (.int k (if b > a then b else a)))))
      | _, _ => none
    | _ => none
  | .call { callee := .builtin .min, args, .. } => match args.toList with
    | [x, y] => match leval s x, leval s y with
      | .d (.v (.int k a)), .d (.v (.int _ b)) => some (True, s.put o.dst (.d (.v (.int k (if b < a then b else a)))))
      | _, _ => none
    | _ => none
  | .call { callee := .builtin .append, args, argTypes } => match args.toList, argTypes.toList with
    | [x, y], [t, t'] => bif Nat.beq t t' then (match T t with
      | some ti => match ti.k with
        | .slice e => match T e with
          | some te => match slVal s (leval s y) with
            | some (m, g) => match leval s x with
              | .row k => match s.hp k with
                | some (.row e' sz n f) => bif Nat.beq e e' && Nat.beq sz te.size && Nat.ble 1 te.size && (match leval s y with | .row k' => !(Nat.beq k k') | _ => true) then
                    some ((n + m) * te.bytes ≤ 140737488355328 ∧ n + m ≤ 9223372036854775807 ∧ ∀ i, i < m → (g i).length = te.size,
                      { s with hp := upd (upd s.hp k none) kb (some (.row e sz (n + m) (upto n f g))) }.put o.dst (.row kb)) else none
                | _ => none
              | .d (.v (.slice none 0 0)) => bif Nat.ble 1 te.size then some (m * te.bytes ≤ 140737488355328 ∧ m ≤ 9223372036854775807 ∧ ∀ i, i < m → (g i).length = te.size,
                      { s with hp := upd s.hp kb (some (.row e te.size m g)) }.put o.dst (.row kb)) else none
              | _ => none
            | none => none
          | none => none
        | _ => none
      | none => none) else none
    | _, _ => none
  | _ => none

end Go.Proofs.YtojaakpnpdnbhaaGreatDoor.L
