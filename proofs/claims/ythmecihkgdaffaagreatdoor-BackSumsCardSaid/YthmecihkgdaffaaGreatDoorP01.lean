/- Part 1 of the proof of BackSums: The abstract machine: plain data, owners, states, and what one operation does to them. What the abstract machine's words mean of a world: cells known for good, plain data, owners; and the basic laws. States over worlds: what a sparse state says of a frame and a world, and how it is kept. No conditions but those that each theorem names. -/
import Derived.Calls
import Derived.Laws.AppendOwn
import Derived.Laws.CopyRow
import Derived.Below
namespace Go.X
open Go

/-- Plain data: a scalar value; a slice of n elements of sz cells each; a place in a gauge with its limit. -/
inductive D where
  | v (x : Value)
  | sf (sz n : Nat) (f : Nat → Nat → D)
  | ga (l : Int) (off : Nat)

/-- One cell: plain, a mutable slice that is owned, a slice with the right to append. -/
inductive C where
  | d (x : D)
  | own (sz n : Nat) (f : Nat → Nat → D)
  | app (sz n : Nat) (f : Nat → Nat → D)

/-- A root: a slot, its version, and, in a box, a cell. -/
structure Root where
  s : Nat
  k : Nat
  c : Option Nat

/-- What is known of a slot. -/
inductive S where
  | one (ag : Bool) (cs : List C)
  | tup (xs : List (Bool × List C))
  | box (t : TypeId) (cs : List C)
  | ref (r : Root)
  | adr (s k off : Nat)
  | elt (r : Root) (j off : Nat)
  | imm (sz off : Nat) (e : Nat → D)
  | ifc (t : TypeId) (ag : Bool) (cs : List C)
  | itr (s : ByteArray) (pos : Nat)
  | bld (t e : TypeId) (l : List Nat)
  | no

abbrev St := List (Nat × Nat × S)
/-- a state as it is asked -/
abbrev Lk := Nat → Option (Nat × S)

def stGet : St → Nat → Option (Nat × S)
  | [], _ => none
  | (t, k, x) :: r, s => bif Nat.beq t s then some (k, x) else stGet r s
def stPut : St → Nat → S → St
  | [], s, x => [(s, 0, x)]
  | (t, k, y) :: r, s, x => bif Nat.beq t s then (t, k + 1, x) :: r else (t, k, y) :: stPut r s x
def stMod : St → Nat → S → St
  | [], _, _ => []
  | (t, k, y) :: r, s, x => bif Nat.beq t s then (t, k, x) :: r else (t, k, y) :: stMod r s x

/-- What the table of types tells. -/
inductive TyK where
  | bool | int (k : IntKind) | str
  | sl (e : TypeId) | arr (n : Nat) (e : TypeId) | strct (fs : List (TypeId × Nat)) | ptr | iface | other
def TyK.isI64 : TyK → Bool
  | .int .i64 => true
  | _ => false
def TyK.isU8 : TyK → Bool
  | .int .u8 => true
  | _ => false
structure TyI where
  k : TyK
  size : Nat
  bytes : Nat
  zero : List C
  eqs : Bool := false
abbrev Tab := TypeId → TyI
def dflt : TyI := { k := .other, size := 0, bytes := 0, zero := [] }
/-- a type that the table tells of -/
def kn (T : Tab) (t : TypeId) : Bool := !Nat.beq (T t).size 0

def nilC : C := .app 0 0 fun _ _ => .v undef
def cst : Value → C
  | .slice none 0 0 => nilC
  | v => .d (.v v)

def oneB : Value → Bool
  | .agg _ | .tuple _ => false
  | _ => true

def C.plain : C → C
  | .app sz n f => .d (.sf sz n f)
  | c => c
def C.isOwn : C → Bool
  | .own .. => true
  | _ => false
def C.isD : C → Bool
  | .d .. => true
  | _ => false

/-- What an operation does: the slots that it reads, the slots that it changes in place, its result, what must hold. -/
structure Eff where
  rd : List Nat
  md : List (Nat × S)
  res : S
  pre : Prop

def eff (rd : List Nat) (res : S) : Option Eff := some { rd, md := [], res, pre := True }
def effp (rd : List Nat) (res : S) (pre : Prop) : Option Eff := some { rd, md := [], res, pre }
def oneD (x : D) : S := .one false [.d x]
def num (k : IntKind) (n : Int) : S := oneD (.v (.int k n))
def bl (b : Bool) : S := oneD (.v (.bool b))

/-- an operand: its slot (if it has one), its version, what is known -/
def src (g : Lk) : Operand → Option (Option Nat × Nat × S)
  | .tmp t => match g t with
    | some (k, x) => some (some t, k, x)
    | none => none
  | .const v => bif oneB v then some (none, 0, .one false [cst v]) else none
  | _ => none
def slots : Option Nat → List Nat
  | some t => [t]
  | none => []

/-- the cell at a root -/
def atRoot (g : Lk) (r : Root) : Option C :=
  match g r.s with
  | some (k, x) => bif Nat.beq k r.k then
      match r.c, x with
      | none, .one false [c] => some c
      | some i, .box _ cs => cs[i]?
      | _, _ => none
    else none
  | none => none
/-- a root's cell is changed -/
def setRoot (g : Lk) (r : Root) (c : C) : Option (Nat × S) :=
  match g r.s with
  | some (_, x) => match r.c, x with
      | none, .one false [_] => some (r.s, .one false [c])
      | some i, .box t cs => some (r.s, .box t (cs.set i c))
      | _, _ => none
  | none => none

/-- an operand's cells as plain data -/
def plainOf (g : Lk) (x : Operand) : Option (List Nat × Bool × List C) :=
  match src g x with
  | some (s, _, .one ag cs) => bif cs.any C.isOwn then none else some (slots s, ag, cs.map C.plain)
  | _ => none
/-- an operand as one scalar -/
def scal (g : Lk) (x : Operand) : Option (List Nat × Value) :=
  match src g x with
  | some (s, _, .one false [.d (.v v)]) => some (slots s, v)
  | _ => none
/-- an operand as a slice that is read: what its cell is; a root, where it is owned -/
def sliceOf (g : Lk) (x : Operand) : Option (List Nat × Option Root × C) :=
  match src g x with
  | some (some t, k, .one false [c]) => some ([t], some ⟨t, k, none⟩, c)
  | some (none, _, .one false [c]) => some ([], none, c)
  | some (s, _, .ref r) => match atRoot g r with
    | some (.own sz n f) => some (r.s :: slots s, some r, .own sz n f)
    | _ => none
  | _ => none
/-- a box, at a slot and a version -/
def boxAt (g : Lk) (s k : Nat) : Option (TypeId × List C) :=
  match g s with
  | some (k', .box t cs) => bif Nat.beq k' k then some (t, cs) else none
  | _ => none

/-- an operand as an address -/
def addrOf (g : Lk) (x : Operand) : Option (List Nat × S) :=
  match src g x with
  | some (some t, k, .box ..) => some ([t], .adr t k 0)
  | some (s, _, .ref r) => match r.c, g r.s with
    | none, some (k, .box ..) => bif Nat.beq k r.k then some (r.s :: slots s, .adr r.s r.k 0) else none
    | _, _ => none
  | some (s, _, .adr t k off) => match boxAt g t k with
    | some _ => some (t :: slots s, .adr t k off)
    | none => none
  | some (s, _, .elt r j off) => match atRoot g r with
    | some (.own ..) => some (r.s :: slots s, .elt r j off)
    | _ => none
  | some (s, _, .imm sz off e) => some (slots s, .imm sz off e)
  | some (s, _, .one false [.d (.ga l off)]) => some (slots s, oneD (.ga l off))
  | _ => none

def aggK : TyK → Bool
  | .arr .. | .strct .. => true
  | _ => false
def cellsF (off n : Nat) (e : Nat → D) : List C := (List.range n).map fun i => .d (e (off + i))
def placeAt (cs : List C) (off : Nat) (xs : List C) : List C := cs.take off ++ xs ++ cs.drop (off + xs.length)

def loadE (T : Tab) (g : Lk) (tk : Bool) (t : TypeId) (a : Operand) : Option Eff :=
  bif !kn T t then none else
  match addrOf g a with
  | some (rd, .adr s k off) => match boxAt g s k with
    | some (bt, cs) => bif aggK (T t).k then
          let xs := (cs.drop off).take (T t).size
          bif Nat.beq xs.length (T t).size && !xs.any C.isOwn then eff rd (.one true (xs.map C.plain)) else none
        else match cs[off]? with
          | some (.d x) => eff rd (oneD x)
          | some (.own ..) => eff rd (.ref ⟨s, k, some off⟩)
          | some (.app sz n f) => bif tk then some { rd, md := [(s, .box bt (cs.set off (.d (.sf sz n f))))], res := .one false [.app sz n f], pre := True }
              else eff rd (oneD (.sf sz n f))
          | none => none
    | none => none
  | some (rd, .elt r j off) => match atRoot g r with
    | some (.own sz _ f) => bif Nat.ble (off + (T t).size) sz then eff rd (.one (aggK (T t).k) (cellsF off (T t).size (f j))) else none
    | _ => none
  | some (rd, .imm sz off e) => bif Nat.ble (off + (T t).size) sz then eff rd (.one (aggK (T t).k) (cellsF off (T t).size e)) else none
  | some (rd, .one false [.d (.ga l off)]) => bif Nat.beq off 2 && (T t).k.isI64 then eff rd (num .i64 l) else none
  | _ => none

def cellD : C → D
  | .d x => x
  | _ => .v undef
def updF (f : Nat → Nat → D) (j off : Nat) (xs : List C) : Nat → Nat → D :=
  fun a i => if a = j ∧ off ≤ i ∧ i < off + xs.length then cellD (xs.getD (i - off) nilC) else f a i

def storeE (T : Tab) (g : Lk) (t : TypeId) (a x : Operand) : Option Eff :=
  bif !kn T t then none else
  match addrOf g a, src g x with
  | some (rd, .adr s k off), some (sx, _, .one ag xs) => match boxAt g s k with
    | some (bt, cs) =>
        bif Nat.beq xs.length (T t).size && (ag == aggK (T t).k) && Nat.ble (off + xs.length) cs.length && !((cs.drop off).take xs.length).any C.isOwn && !xs.any C.isOwn then
          bif xs.all C.isD then
            some { rd := slots sx ++ rd, md := [(s, .box bt (placeAt cs off xs))], res := .no, pre := True }
          else match sx with
            | some q => bif Nat.beq q s then none else some { rd := q :: rd, md := [(s, .box bt (placeAt cs off xs)), (q, .no)], res := .no, pre := True }
            | none => some { rd := rd, md := [(s, .box bt (placeAt cs off xs))], res := .no, pre := True }
        else none
    | none => none
  | some (rd, .elt r j off), some (sx, _, .one ag xs) => match atRoot g r with
    | some (.own sz n f) =>
        bif Nat.beq xs.length (T t).size && (ag == aggK (T t).k) && Nat.ble (off + xs.length) sz && !xs.any C.isOwn then
          match setRoot g r (.own sz n (updF f j off (xs.map C.plain))) with
          | some m => some { rd := slots sx ++ rd, md := [m], res := .no, pre := True }
          | none => none
        else none
    | _ => none
  | _, _ => none

/-! ### arithmetic -/
def inR (k : IntKind) (n : Int) : Prop := k.min ≤ n ∧ n ≤ k.max
def wr (k : IntKind) (n : Int) : Int := n % 2 ^ k.bits
def arith (k : IntKind) (n : Int) : Int × Prop := bif k.signed then (n, inR k n) else (wr k n, True)
def binI (op : BinOp) (k : IntKind) (x y : Int) : Option (Value × Prop) :=
  match op with
  | .add => let r := arith k (x + y); some (.int k r.1, r.2)
  | .sub => let r := arith k (x - y); some (.int k r.1, r.2)
  | .mul => let r := arith k (x * y); some (.int k r.1, r.2)
  | .quo => bif k.signed then some (.int k (x.tdiv y), y ≠ 0 ∧ inR k (x.tdiv y)) else some (.int k (x / y), 0 ≤ x ∧ 0 < y ∧ inR k x)
  | .rem => bif k.signed then some (.int k (x.tmod y), y ≠ 0) else some (.int k (x % y), 0 ≤ x ∧ 0 < y)
  | .and => some (.int k (k.wrap (BitVec.ofInt k.bits x &&& BitVec.ofInt k.bits y).toNat), True)
  | .or => some (.int k (k.wrap (BitVec.ofInt k.bits x ||| BitVec.ofInt k.bits y).toNat), True)
  | .xor => some (.int k (k.wrap (BitVec.ofInt k.bits x ^^^ BitVec.ofInt k.bits y).toNat), True)
  | .andNot => some (.int k (k.wrap (BitVec.ofInt k.bits x &&& ~~~ BitVec.ofInt k.bits y).toNat), True)
  | .eql => some (.bool (x == y), True)
  | .neq => some (.bool (x != y), True)
  | .lss => some (.bool (decide (x < y)), True)
  | .leq => some (.bool (decide (x ≤ y)), True)
  | .gtr => some (.bool (decide (x > y)), True)
  | .geq => some (.bool (decide (x ≥ y)), True)
  | _ => none
def binSh (op : BinOp) (k : IntKind) (x y : Int) : Option (Value × Prop) :=
  match op with
  | .shl => let r := arith k (x * 2 ^ min y.toNat k.bits); some (.int k r.1, 0 ≤ y ∧ r.2)
  | .shr => some (.int k (x / 2 ^ min y.toNat k.bits), 0 ≤ y)
  | _ => none
def ofB (l : List Nat) : ByteArray := ⟨(l.map UInt8.ofNat).toArray⟩
def sb (s : ByteArray) : List Nat := s.data.toList.map UInt8.toNat
def eqL : List Nat → List Nat → Bool
  | [], [] => true
  | a :: l, b :: m => Nat.beq a b && eqL l m
  | _, _ => false
def binS (op : BinOp) (x y : ByteArray) : Option (Value × Prop) :=
  match op with
  | .add => some (.string (x ++ y), x.size + y.size ≤ 9223372036854775807)
  | .eql => some (.bool (eqL (sb x) (sb y)), True)
  | .neq => some (.bool (!eqL (sb x) (sb y)), True)
  | .lss => some (.bool (Op.bytesLess x.toList y.toList), True)
  | _ => none
def binB (op : BinOp) (x y : Bool) : Option (Value × Prop) :=
  match op with
  | .eql => some (.bool (x == y), True)
  | .neq => some (.bool (!(x == y)), True)
  | _ => none
def intC : C → Option (IntKind × Int)
  | .d (.v (.int k x)) => some (k, x)
  | _ => none
def eqCells : List C → List C → Option Bool
  | [], [] => some true
  | c :: xs, d :: ys => match intC c, intC d, eqCells xs ys with
    | some (k, x), some (k', y), some b => bif k == k' then some (x == y && b) else none
    | _, _, _ => none
  | _, _ => none
def isShift : BinOp → Bool
  | .shl | .shr => true
  | _ => false
def binV (kd : TyK) (op : BinOp) (x y : Value) : Option (Value × Prop) :=
  match x, y with
  | .int k a, .int k' b => bif isShift op then binSh op k a b else bif k == k' then binI op k a b else none
  | .string a, .string b => binS op a b
  | .bool a, .bool b => match kd with
    | .bool => binB op a b
    | _ => none
  | _, _ => none
def binE (T : Tab) (g : Lk) (op : BinOp) (t : TypeId) (x y : Operand) : Option Eff :=
  match scal g x, scal g y with
  | some (r1, a), some (r2, b) => match binV (T t).k op a b with
    | some (v, p) => effp (r1 ++ r2) (oneD (.v v)) p
    | none => none
  | _, _ => match plainOf g x, plainOf g y with
    | some (s1, true, xs), some (s2, true, ys) => bif (T t).eqs && Nat.beq xs.length (T t).size then match op, eqCells xs ys with
        | .eql, some b => eff (s1 ++ s2) (bl b)
        | .neq, some b => eff (s1 ++ s2) (bl (!b))
        | _, _ => none
      else none
    | _, _ => none
/-- bytes, as a string -/
def u8D : D → Prop
  | .v (.int .u8 x) => 0 ≤ x ∧ x < 256
  | _ => False
def byD : D → Nat
  | .v (.int _ x) => x.toNat
  | _ => 0
def strF (n : Nat) (f : Nat → Nat → D) : ByteArray := ofB ((List.range n).map fun i => byD (f i 0))
def convE (T : Tab) (g : Lk) (s d : TypeId) (x : Operand) : Option Eff :=
  match scal g x, (T s).k, (T d).k with
  | some (r, .int k n), .int _, .int k' => bif k'.signed then
      (bif k == .u64 then eff r (num k' (k'.wrap n)) else effp r (num k' n) (inR k' n))
    else eff r (num k' (wr k' n))
  | none, .sl e, .str => bif (T e).k.isU8 then match plainOf g x with
      | some (r, false, [.d (.sf 1 n f)]) => effp r (oneD (.v (.string (strF n f)))) (∀ i, i < n → u8D (f i 0))
      | _ => none
    else none
  | _, _, _ => none
def unE (g : Lk) (op : UnOp) (x : Operand) : Option Eff :=
  match op, scal g x with
  | .neg, some (r, .int k n) => effp r (num k (arith k (0 - n)).1) (arith k (0 - n)).2
  | .not, some (r, .bool b) => eff r (bl (!b))
  | _, _ => none

/-! ### the other operations -/
def plainP (p : Bool × List C) : Bool := p.2.all C.isD
/-- tk: the right to append, and what is owned, go over -/
def moveE (g : Lk) (tk : Bool) (x : Operand) : Option Eff :=
  match src g x with
  | some (none, _, y) => eff [] y
  | some (some s, k, .one false [.own sz n f]) => bif tk then some { rd := [s], md := [(s, .no)], res := .one false [.own sz n f], pre := True } else eff [s] (.ref ⟨s, k, none⟩)
  | some (some s, _, .one false [.app sz n f]) => bif tk then some { rd := [s], md := [(s, oneD (.sf sz n f))], res := .one false [.app sz n f], pre := True } else eff [s] (oneD (.sf sz n f))
  | some (some s, _, .one ag cs) => bif cs.all C.isD then eff [s] (.one ag cs) else some { rd := [s], md := [(s, .no)], res := .one ag cs, pre := True }
  | some (some s, _, .tup xs) => bif xs.all plainP then eff [s] (.tup xs) else some { rd := [s], md := [(s, .no)], res := .tup xs, pre := True }
  | some (some s, k, .box ..) => eff [s] (.ref ⟨s, k, none⟩)
  | some (some s, k, .bld ..) => eff [s] (.ref ⟨s, k, none⟩)
  | some (some _, _, .ifc ..) => none
  | some (some _, _, .itr ..) => none
  | some (some s, _, .ref r) => eff [s] (.ref r)
  | some (some s, _, .adr t k o) => eff [s] (.adr t k o)
  | some (some s, _, .elt r j o) => eff [s] (.elt r j o)
  | some (some s, _, .imm sz o e) => eff [s] (.imm sz o e)
  | some (some _, _, .no) => none
  | none => none
def assignE (g : Lk) (x : Operand) : Option Eff :=
  match src g x with
  | some (some s, _, .one false [.own sz n f]) => some { rd := [s], md := [(s, .no)], res := .one false [.own sz n f], pre := True }
  | some (some s, _, .one false [.app sz n f]) => some { rd := [s], md := [(s, oneD (.sf sz n f))], res := .one false [.app sz n f], pre := True }
  | some (some s, _, .box t cs) => some { rd := [s], md := [(s, .no)], res := .box t cs, pre := True }
  | _ => moveE g false x
def pickE (g : Lk) (c a b : Operand) : Option Eff :=
  match scal g c, scal g a, scal g b with
  | some (r, .bool p), some (r1, .bool x), some (r2, .bool y) => eff (r ++ (r1 ++ r2)) (bl (bif p then x else y))
  | some (r, .bool p), some (r1, .bool x), none => match b with
    | .tmp t => effp (t :: (r ++ r1)) (bl x) (p = true)
    | _ => none
  | some (r, .bool p), none, some (r2, .bool y) => match a with
    | .tmp t => effp (t :: (r ++ r2)) (bl y) (p = false)
    | _ => none
  | _, _, _ => none
def allocE (T : Tab) (t : TypeId) : Option Eff := bif kn T t then eff [] (.box t (T t).zero) else none
def boxE (T : Tab) (g : Lk) (t : TypeId) (x : Operand) : Option Eff :=
  match src g x with
  | some (s, _, .one ag cs) => bif !(kn T t && Nat.beq cs.length (T t).size && ag == aggK (T t).k) then none else bif cs.all C.isD then eff (slots s) (.box t cs) else
      match s with
      | some q => some { rd := [q], md := [(q, .no)], res := .box t cs, pre := True }
      | none => bif cs.any C.isOwn then none else eff [] (.box t cs)
  | _ => none
/-- parts laid into cells: owners in parts go over (their slots are emptied) -/
def fillE (pl : Bool) (g : Lk) (place : Nat → Option (Nat × Nat)) : List (Nat × Operand) → List Nat → List (Nat × S) → List C → Option (List Nat × List (Nat × S) × List C)
  | [], rd, md, cs => some (rd, md, cs)
  | (i, x) :: ps, rd, md, cs =>
    match place i, src g x with
    | some (off, n), some (s, _, .one _ xs) => bif Nat.beq xs.length n && Nat.ble (off + n) cs.length then
          bif xs.all C.isD then fillE pl g place ps (slots s ++ rd) md (placeAt cs off xs) else
          bif pl then (bif xs.any C.isOwn then none else fillE pl g place ps (slots s ++ rd) md (placeAt cs off (xs.map C.plain))) else
          match s with
          | some q => bif md.any (fun m => Nat.beq m.1 q) then none else fillE pl g place ps (q :: rd) ((q, .no) :: md) (placeAt cs off xs)
          | none => bif xs.any C.isOwn then none else fillE pl g place ps rd md (placeAt cs off xs)
        else none
    | _, _ => none
def placeT (T : Tab) (t : TypeId) (i : Nat) : Option (Nat × Nat) :=
  match (T t).k with
  | .strct fs => match fs[i]? with
    | some (ft, off) => bif kn T ft then some (off, (T ft).size) else none
    | none => none
  | .arr _ e => bif kn T e then some (i * (T e).size, (T e).size) else none
  | .sl e => bif kn T e then some (i * (T e).size, (T e).size) else none
  | _ => none
def fieldsKn (T : Tab) (t : TypeId) : Bool :=
  match (T t).k with
  | .strct fs => fs.all fun p => kn T p.1
  | .arr _ e => kn T e
  | _ => true
def buildE (T : Tab) (g : Lk) (t : TypeId) (ps : List (Nat × Operand)) : Option Eff :=
  bif aggK (T t).k && kn T t && fieldsKn T t then
    match fillE false g (placeT T t) ps [] [] (T t).zero with
    | some (rd, md, cs) => some { rd, md, res := .one true cs, pre := True }
    | none => none
  else none
def rowF (sz : Nat) (cs : List C) : Nat → Nat → D := fun j i => cellD ((cs.getD (j * sz + i) nilC).plain)
def buildSliceE (T : Tab) (g : Lk) (t : TypeId) (len : Nat) (ps : List (Nat × Operand)) : Option Eff :=
  match (T t).k with
  | .sl e =>
    match fillE true g (placeT T t) ps [] [] (List.flatten (List.replicate len (T e).zero)) with
    | some (rd, [], cs) => bif Nat.ble (len * (T e).size) 1000 && !cs.any C.isOwn && kn T e then
        eff rd (.one false [.app (T e).size len (rowF (T e).size cs)]) else none
    | _ => none
  | _ => none
/-- an empty slice to which is appended at once: a mutable one -/
def emptyE (T : Tab) (t : TypeId) : Option Eff :=
  match (T t).k with
  | .sl e => bif kn T e then eff [] (.one false [.own (T e).size 0 fun _ _ => .v undef]) else none
  | _ => none
def nilCheckE (g : Lk) (x : Operand) : Option Eff :=
  match src g x with
  | some (some s, k, .box ..) => eff [s] (.ref ⟨s, k, none⟩)
  | some (some s, _, .ref r) => match r.c, g r.s with
    | none, some (k, .box ..) => bif Nat.beq k r.k then eff [r.s, s] (.ref r) else none
    | _, _ => none
  | some (some s, _, .one false [.d (.ga l off)]) => eff [s] (oneD (.ga l off))
  | some (some s, _, .adr t k o) => match boxAt g t k with
    | some _ => eff [t, s] (.adr t k o)
    | none => none
  | _ => none
def fieldAddrE (T : Tab) (g : Lk) (t : TypeId) (x : Operand) (i : Nat) : Option Eff :=
  match (T t).k with
  | .strct fs => match fs[i]?, addrOf g x with
    | some (ft, o), some (rd, .adr s k off) => bif !kn T ft then none else eff rd (.adr s k (off + o))
    | some (ft, o), some (rd, .elt r j off) => bif !kn T ft then none else eff rd (.elt r j (off + o))
    | some (ft, o), some (rd, .imm sz off e) => bif !kn T ft then none else eff rd (.imm sz (off + o) e)
    | some (ft, o), some (rd, .one false [.d (.ga l off)]) => bif !kn T ft then none else eff rd (oneD (.ga l (off + o)))
    | _, _ => none
  | _ => none
def idx (n : Nat) (i : Int) : Prop := 0 ≤ i ∧ i < n
def indexAddrE (T : Tab) (g : Lk) (t : TypeId) (x i : Operand) : Option Eff :=
  match scal g i, (T t).k with
  | some (ri, .int _ n), .sl e => bif !kn T e then none else match sliceOf g x with
      | some (rd, _, .d (.sf sz len f)) => bif Nat.beq sz (T e).size then effp (ri ++ rd) (.imm sz 0 (f n.toNat)) (idx len n) else none
      | some (rd, _, .app sz len f) => bif Nat.beq sz (T e).size then effp (ri ++ rd) (.imm sz 0 (f n.toNat)) (idx len n) else none
      | some (rd, some r, .own sz len _) => bif Nat.beq sz (T e).size then effp (ri ++ rd) (.elt r n.toNat 0) (idx len n) else none
      | _ => none
  | some (ri, .int _ n), .arr len e => bif !kn T e then none else match addrOf g x with
      | some (rd, .adr s k off) => effp (ri ++ rd) (.adr s k (off + n.toNat * (T e).size)) (idx len n)
      | _ => none
  | _, _ => none
def indexE (T : Tab) (g : Lk) (t : TypeId) (x i : Operand) : Option Eff :=
  match scal g i, (T t).k with
  | some (ri, .int _ n), .str => match scal g x with
      | some (rd, .string s) => effp (ri ++ rd) (num .u8 ((s.data.getD n.toNat 0).toNat : Int)) (idx s.size n)
      | _ => none
  | some (ri, .int _ n), .arr len e => match plainOf g x with
      | some (rd, true, cs) => bif Nat.beq (T e).size 1 && !aggK (T e).k && Nat.beq cs.length len && cs.all C.isD then
          effp (ri ++ rd) (oneD (cellD (cs.getD n.toNat nilC))) (idx len n) else none
      | _ => none
  | _, _ => none
def extractE (g : Lk) (x : Operand) (i : Nat) : Option Eff :=
  match src g x with
  | some (some s, _, .tup xs) => match xs[i]? with
    | some (ag, cs) => bif cs.isEmpty then none else bif cs.all C.isD then eff [s] (.one ag cs) else
        some { rd := [s], md := [(s, .tup (xs.set i (ag, [])))], res := .one ag cs, pre := True }
    | none => none
  | _ => none
def makeSliceE (T : Tab) (g : Lk) (t : TypeId) (l c : Operand) : Option Eff :=
  match (T t).k, scal g l, scal g c with
  | .sl e, some (r1, .int .i64 n), some (r2, .int .i64 m) => bif !kn T e then none else
    effp (r1 ++ r2) (.one false [.own (T e).size n.toNat fun _ i => cellD (((T e).zero.getD i nilC).plain)]) (n = m ∧ 0 ≤ n ∧ n ≤ 140737488355328 ∧ n * (T e).bytes ≤ 140737488355328)
  | _, _, _ => none
def opt (g : Lk) (o : Option Operand) (dflt : Int) : Option (List Nat × Int) :=
  match o with
  | none => some ([], dflt)
  | some x => match scal g x with
    | some (r, .int _ n) => some (r, n)
    | _ => none
def noO : Option Operand → Bool
  | none => true
  | some _ => false
def noC : Option Nat → Bool
  | none => true
  | some _ => false
/-- a part of a mutable slice: the whole one goes over into it -/
def sliceOwnE (T : Tab) (g : Lk) (e : TypeId) (x : Operand) (lo hi : Option Operand) : Option Eff :=
  match sliceOf g x with
  | some (rd, some r, .own sz n f) => bif noC r.c && Nat.beq sz (T e).size then match opt g lo 0, opt g hi n with
      | some (r1, l), some (r2, h) => some { rd := rd ++ (r1 ++ r2), md := [(r.s, .no)], res := .one false [.own sz (h.toNat - l.toNat) fun j => f (l.toNat + j)], pre := 0 ≤ l ∧ l ≤ h ∧ h ≤ n }
      | _, _ => none
    else none
  | _ => none
/-- an array of its own box, as a slice: nobody writes it any more -/
def sliceArrE (T : Tab) (g : Lk) (n : Nat) (e : TypeId) (x : Operand) : Option Eff :=
  match addrOf g x with
  | some (rd, .adr s k 0) => match boxAt g s k with
    | some (_, cs) => bif kn T e && (Nat.beq cs.length (n * (T e).size) && cs.all C.isD) then
        some { rd, md := [(s, .no)], res := oneD (.sf (T e).size n (rowF (T e).size cs)), pre := True } else none
    | none => none
  | _ => none
def sliceE (T : Tab) (g : Lk) (t : TypeId) (x : Operand) (lo hi : Option Operand) : Option Eff :=
  match (T t).k with
  | .str => match scal g x with
    | some (rd, .string s) => match opt g lo 0, opt g hi s.size with
      | some (r1, l), some (r2, h) => effp (rd ++ (r1 ++ r2)) (oneD (.v (.string (s.extract l.toNat h.toNat)))) (0 ≤ l ∧ l ≤ h ∧ h ≤ s.size)
      | _, _ => none
    | _ => none
  | .sl e => bif !kn T e then none else match plainOf g x with
    | some (rd, false, [.d (.sf sz n f)]) => bif Nat.beq sz (T e).size || Nat.beq n 0 then match opt g lo 0, opt g hi n with
        | some (r1, l), some (r2, h) => effp (rd ++ (r1 ++ r2)) (oneD (.sf sz (h.toNat - l.toNat) fun j => f (l.toNat + j))) (0 ≤ l ∧ l ≤ h ∧ h ≤ n)
        | _, _ => none
      else none
    | _ => sliceOwnE T g e x lo hi
  | .arr n e => bif noO lo && noO hi then sliceArrE T g n e x else none
  | _ => none

/-! ### values behind interfaces; strings gone over -/
def makeIfcE (T : Tab) (g : Lk) (t : TypeId) (x : Operand) : Option Eff :=
  match (T t).k with
  | .iface | .other => none
  | _ => match plainOf g x with
    | some (rd, ag, cs) => eff rd (.ifc t ag cs)
    | none => none
def rangeE (T : Tab) (g : Lk) (t : TypeId) (x : Operand) : Option Eff :=
  match (T t).k, scal g x with
  | .str, some (rd, .string s) => eff rd (.itr s 0)
  | _, _ => none
def oneC (v : Value) : Bool × List C := (false, [.d (.v v)])
def nextE (g : Lk) (x : Operand) (str : Bool) : Option Eff :=
  match str, src g x with
  | true, some (some q, _, .itr s pos) => bif Nat.blt pos s.size then
        some { rd := [q], md := [(q, .itr s (pos + (Utf8.decode s pos).2))], res := .tup [oneC (.bool true), oneC (.int .i64 pos), oneC (.int .i32 (Utf8.decode s pos).1)], pre := True }
      else eff [q] (.tup [oneC (.bool false)])
  | _, _ => none

/-! ### builtins -/
def lenE (T : Tab) (g : Lk) (t : TypeId) (x : Operand) : Option Eff :=
  match (T t).k with
  | .str => match scal g x with
    | some (rd, .string s) => eff rd (num .i64 s.size)
    | _ => none
  | .sl _ => match sliceOf g x with
    | some (rd, _, .d (.sf _ n _)) => eff rd (num .i64 n)
    | some (rd, _, .own _ n _) => eff rd (num .i64 n)
    | some (rd, _, .app _ n _) => eff rd (num .i64 n)
    | _ => none
  | .arr n _ => match plainOf g x with
    | some (rd, _, _) => eff rd (num .i64 n)
    | none => none
  | _ => none
def appF (n : Nat) (f h : Nat → Nat → D) : Nat → Nat → D := fun j i => bif Nat.blt j n then f j i else h (j - n) i
/-- what an append may bear: its bytes, doubled and more, stay below the platform's room -/
def room (n b : Nat) : Prop := n ≤ 17592186044416 ∧ n * b ≤ 17592186044416
def appendE (T : Tab) (g : Lk) (t : TypeId) (x y : Operand) : Option Eff :=
  match (T t).k, src g x, plainOf g y with
  | .sl e, some (sx, _, .one false [c]), some (ry, false, [.d (.sf sz m h)]) =>
      match c with
      | .app sz' n f => bif !kn T e || !(Nat.beq sz (T e).size || Nat.beq m 0) || !(Nat.beq sz' (T e).size || Nat.beq sz' 0) then none else
          match sx with
          | some q => some { rd := q :: ry, md := [(q, .no)], res := .one false [.app (T e).size (n + m) (appF n f h)], pre := room (n + m) (T e).bytes }
          | none => effp ry (.one false [.app (T e).size (n + m) (appF n f h)]) (room (n + m) (T e).bytes)
      | .own sz' n f => bif !kn T e || !(Nat.beq sz (T e).size || Nat.beq m 0) || !Nat.beq sz' (T e).size then none else
          match sx with
          | some q => some { rd := q :: ry, md := [(q, .no)], res := .one false [.own (T e).size (n + m) (appF n f h)], pre := room (n + m) (T e).bytes }
          | none => none
      | _ => none
  | _, _, _ => none
def minMaxE (g : Lk) (mx : Bool) (x y : Operand) : Option Eff :=
  match scal g x, scal g y with
  | some (r1, .int k a), some (r2, .int k' b) => bif k == k' then
      eff (r1 ++ r2) (num k (bif mx then (if b > a then b else a) else (if b < a then b else a))) else none
  | _, _ => none
def cpyF (m : Nat) (h f : Nat → Nat → D) : Nat → Nat → D := fun j i => bif Nat.blt j m then h j i else f j i
/-- copy, into a mutable slice that a slot holds, of elements of one cell -/
def copyE (T : Tab) (g : Lk) (t : TypeId) (x y : Operand) : Option Eff :=
  match (T t).k, sliceOf g x, plainOf g y with
  | .sl e, some (rx, some r, .own sz n f), some (ry, false, [.d (.sf sz' m h)]) =>
      bif kn T e && Nat.beq (T e).size 1 && Nat.beq sz 1 && (Nat.beq sz' 1 || Nat.beq m 0) && noC r.c then
        some { rd := rx ++ ry, md := [(r.s, .one false [.own 1 n (cpyF m h f)])], res := num .i64 (min m n : Nat), pre := True } else none
  | _, _, _ => none
def builtinE (T : Tab) (g : Lk) (b : Builtin) (ts : List TypeId) (xs : List Operand) : Option Eff :=
  match b, ts, xs with
  | .len, [t], [x] => lenE T g t x
  | .append, [t, t'], [x, y] => bif Nat.beq t t' then appendE T g t x y else none
  | .copy, [t, t'], [x, y] => bif Nat.beq t t' then copyE T g t x y else none
  | .min, _, [x, y] => minMaxE g false x y
  | .max, _, [x, y] => minMaxE g true x y
  | _, _, _ => none

/-- an operation that calls no function of Go -/
def core (T : Tab) (g : Lk) (tk : Bool) (o : Op) : Option Eff :=
  match o with
  | .move x => moveE g tk x
  | .assign x => assignE g x
  | .pick c a b => pickE g c a b
  | .alloc t => allocE T t
  | .box t x => boxE T g t x
  | .build t ps => buildE T g t ps.toList
  | .buildSlice t n ps => bif tk && (Nat.beq n 0 && ps.toList.isEmpty) then emptyE T t else buildSliceE T g t n ps.toList
  | .load t a => loadE T g tk t a
  | .store t a x => storeE T g t a x
  | .nilCheck x => nilCheckE g x
  | .binOp op t x y _ => binE T g op t x y
  | .unOp op _ x => unE g op x
  | .convert s d x => convE T g s d x
  | .makeSlice t l c => makeSliceE T g t l c
  | .slice t x lo hi none => sliceE T g t x lo hi
  | .fieldAddr t x i => fieldAddrE T g t x i
  | .indexAddr t x i => indexAddrE T g t x i
  | .index t x i => indexE T g t x i
  | .extract x i => extractE g x i
  | .makeInterface t x => makeIfcE T g t x
  | .range t x => rangeE T g t x
  | .next x str => nextE g x str
  | .call { callee := .builtin b, args, argTypes } => builtinE T g b argTypes.toList args.toList
  | _ => none

def mods (st : St) : List (Nat × S) → St
  | [] => st
  | (s, x) :: r => mods (stMod st s x) r
def dstOf (st : St) : Option Tmp → S → St
  | some d, x => stPut st d x
  | none, _ => st
/-- the slots that are kept behind a region -/
def keepOf : List Nat → St → St
  | [], _ => []
  | s :: r, st => match stGet st s with
    | some (_, .no) => keepOf r st
    | some (k, x) => (s, k, x) :: keepOf r st
    | none => keepOf r st
end Go.X
namespace Go.X
open Go

/-- Cells whose values are known for good; gauges with their limits. -/
structure Hp where
  c : Nat → Nat → Option Value
  g : Nat → Option Int
structure Hp.le (h k : Hp) : Prop where
  c : ∀ b i v, h.c b i = some v → k.c b i = some v
  g : ∀ b l, h.g b = some l → k.g b = some l
structure Hp.holds (h : Hp) (w : World) : Prop where
  c : ∀ b i v, h.c b i = some v → w.cell? ⟨b, i, none⟩ = some v
  g : ∀ b l, h.g b = some l → ∃ x y T, w.heap[b]? = some (.cells #[.int .i64 x, .int .i64 y, .int .i64 l] T (0, 0))
  ap : ∀ b l i, h.g b = some l → h.c b i = none
theorem Hp.le.refl (h : Hp) : h.le h := ⟨fun _ _ _ h => h, fun _ _ h => h⟩
theorem Hp.le.trans {a b c : Hp} (h : a.le b) (k : b.le c) : a.le c := ⟨fun x i v hv => k.c x i v (h.c x i v hv), fun x l hl => k.g x l (h.g x l hl)⟩
theorem Hp.holds.lt {h : Hp} {w : World} (hw : h.holds w) {b i : Nat} {v : Value} (hc : h.c b i = some v) : b < w.heap.size := World.block_lt_of_cell? w ⟨b, i, none⟩ (hw.c b i v hc)
theorem Hp.holds.ltg {h : Hp} {w : World} (hw : h.holds w) {b : Nat} {l : Int} (hc : h.g b = some l) : b < w.heap.size := by
  obtain ⟨x, y, T, he⟩ := hw.g b l hc
  exact (Array.getElem?_eq_some_iff.1 he).1

/-- A value that stands for plain data. -/
def D.rep (h : Hp) : D → Value → Prop
  | .v x, y => y = x ∧ x.oneCell' = true
  | .ga l o, y => ∃ b, y = .pointer (some ⟨b, o, none⟩) ∧ h.g b = some l
  | .sf sz n f, y => ∃ a cap, y = .slice a n cap ∧ n ≤ cap ∧
      (n = 0 ∨ ∃ b o, a = some ⟨b, o, none⟩ ∧ ∀ j i, j < n → i < sz → ∃ u, h.c b (o + (j * sz + i)) = some u ∧ (f j i).rep h u)

theorem D.rep.one {h : Hp} {x : D} {v : Value} (hr : x.rep h v) : v.oneCell' = true := by
  cases x with
  | v y => obtain ⟨rfl, h⟩ := hr; exact h
  | ga l o => obtain ⟨b, rfl, _⟩ := hr; rfl
  | sf sz n f => obtain ⟨a, cap, rfl, _⟩ := hr; rfl

theorem D.rep.mono {h k : Hp} (hk : h.le k) : ∀ {x : D} {v : Value}, x.rep h v → x.rep k v
  | .v _, _, hr => hr
  | .ga .., _, ⟨b, hv, hl⟩ => ⟨b, hv, hk.g _ _ hl⟩
  | .sf _ _ f, _, ⟨a, cap, hv, hc, hr⟩ => ⟨a, cap, hv, hc, hr.imp id fun ⟨b, o, ha, hf⟩ => ⟨b, o, ha, fun j i hj hi =>
      let ⟨u, hu, hru⟩ := hf j i hj hi
      ⟨u, hk.c _ _ _ hu, D.rep.mono (x := f j i) hk hru⟩⟩⟩

/-- Two ways to tell one datum. -/
def D.eqv : D → D → Prop
  | .v x, .v y => x = y
  | .ga l o, .ga m o' => l = m ∧ o = o'
  | .sf sz n f, .sf sz' m g => n = m ∧ (n = 0 ∨ (sz = sz' ∧ ∀ j i, j < n → i < sz → (f j i).eqv (g j i)))
  | _, _ => False
theorem D.eqv.refl : ∀ x : D, x.eqv x
  | .v _ => rfl
  | .ga .. => ⟨rfl, rfl⟩
  | .sf _ _ f => ⟨rfl, .inr ⟨rfl, fun j i _ _ => D.eqv.refl (f j i)⟩⟩
theorem D.rep.eqv {h : Hp} : ∀ {x y : D} {v : Value}, x.rep h v → x.eqv y → y.rep h v
  | .v _, .v _, _, hr, he => by cases he; exact hr
  | .ga .., .ga .., _, hr, he => by obtain ⟨rfl, rfl⟩ := he; exact hr
  | .sf sz n f, .sf sz' m g, _, ⟨a, cap, hv, hc, hr⟩, ⟨hn, he⟩ => by
    subst hn
    refine ⟨a, cap, hv, hc, ?_⟩
    rcases he with h0 | ⟨rfl, he⟩
    · exact .inl h0
    · refine hr.imp id fun ⟨b, o, ha, hf⟩ => ⟨b, o, ha, fun j i hj hi => ?_⟩
      obtain ⟨u, hu, hru⟩ := hf j i hj hi
      exact ⟨u, hu, D.rep.eqv (x := f j i) (y := g j i) hru (he j i hj hi)⟩
  | .v _, .ga .., _, _, he => he.elim
  | .v _, .sf .., _, _, he => he.elim
  | .ga .., .v _, _, _, he => he.elim
  | .ga .., .sf .., _, _, he => he.elim
  | .sf .., .v _, _, _, he => he.elim
  | .sf .., .ga .., _, _, he => he.elim

/-- nothing of a block is known for good, and it is no gauge -/
structure Free (h : Hp) (b : Nat) : Prop where
  c : ∀ i, h.c b i = none
  g : h.g b = none

/-- What a cell's value is, and which blocks it owns. -/
def OwnC (h : Hp) (w : World) : C → Value → List Nat → Prop
  | .d x, v, bs => x.rep h v ∧ bs = []
  | .own sz n f, v, bs => ∃ b p cap cells e, v = .slice (some ⟨b, p, none⟩) n cap ∧ n ≤ cap ∧ w.heap[b]? = some (.cells cells e (0, 0)) ∧
      p + cap * sz ≤ cells.size ∧ (∀ j i, j < n → i < sz → ∃ u, cells[p + (j * sz + i)]? = some u ∧ (f j i).rep h u) ∧ bs = [b] ∧ Free h b
  | .app sz n f, v, bs => (v = .slice none 0 0 ∧ n = 0 ∧ bs = []) ∨
      ∃ b cap cells e, v = .slice (some ⟨b, 0, none⟩) n cap ∧ n ≤ cap ∧ w.heap[b]? = some (.cells cells e (0, 0)) ∧
      cells.size = cap * sz ∧ (∀ j i, j < n → i < sz → ∃ u, h.c b (j * sz + i) = some u ∧ (f j i).rep h u) ∧ (∀ i, n * sz ≤ i → h.c b i = none) ∧ h.g b = none ∧ bs = [b] ∧ 0 < sz
def OwnCs (h : Hp) (w : World) : List C → List Value → List Nat → Prop
  | [], vs, bs => vs = [] ∧ bs = []
  | c :: cs, vs, bs => ∃ v vs' b1 b2, vs = v :: vs' ∧ bs = b1 ++ b2 ∧ OwnC h w c v b1 ∧ OwnCs h w cs vs' b2

theorem OwnC.one {h : Hp} {w : World} {c : C} {v : Value} {bs : List Nat} (hr : OwnC h w c v bs) : v.oneCell' = true := by
  cases c with
  | d x => exact hr.1.one
  | own sz n f => obtain ⟨b, p, cap, cells, e, rfl, _⟩ := hr; rfl
  | app sz n f =>
    rcases hr with ⟨rfl, _⟩ | ⟨b, cap, cells, e, rfl, _⟩ <;> rfl

/-- what stays as it was, of some blocks -/
structure Still (h k : Hp) (w w' : World) (bs : List Nat) : Prop where
  heap : ∀ b ∈ bs, w'.heap[b]? = w.heap[b]?
  c : ∀ b ∈ bs, ∀ i, k.c b i = h.c b i
  g : ∀ b ∈ bs, k.g b = h.g b
theorem Still.sub {h k : Hp} {w w' : World} {bs cs : List Nat} (s : Still h k w w' bs) (hc : ∀ b ∈ cs, b ∈ bs) : Still h k w w' cs :=
  ⟨fun b hb => s.heap b (hc b hb), fun b hb => s.c b (hc b hb), fun b hb => s.g b (hc b hb)⟩
theorem Still.refl (h : Hp) (w : World) (bs : List Nat) : Still h h w w bs := ⟨fun _ _ => rfl, fun _ _ _ => rfl, fun _ _ => rfl⟩

theorem OwnC.keep {h k : Hp} {w w' : World} {c : C} {v : Value} {bs : List Nat} (hr : OwnC h w c v bs) (hk : h.le k) (hs : Still h k w w' bs) : OwnC k w' c v bs := by
  cases c with
  | d x => exact ⟨hr.1.mono hk, hr.2⟩
  | own sz n f =>
    obtain ⟨b, p, cap, cells, e, hv, hn, hh, hz, hf, rfl, hfr⟩ := hr
    refine ⟨b, p, cap, cells, e, hv, hn, by rw [hs.heap b (by simp)]; exact hh, hz, fun j i hj hi => ?_, rfl, ⟨fun i => by rw [hs.c b (by simp)]; exact hfr.c i, by rw [hs.g b (by simp)]; exact hfr.g⟩⟩
    obtain ⟨u, hu, hru⟩ := hf j i hj hi
    exact ⟨u, hu, hru.mono hk⟩
  | app sz n f =>
    rcases hr with ⟨hv, hn, hb⟩ | ⟨b, cap, cells, e, hv, hn, hh, hz, hf, ht, hg, rfl, hpos⟩
    · exact .inl ⟨hv, hn, hb⟩
    · refine .inr ⟨b, cap, cells, e, hv, hn, by rw [hs.heap b (by simp)]; exact hh, hz, fun j i hj hi => ?_, fun i hi => by rw [hs.c b (by simp)]; exact ht i hi, by rw [hs.g b (by simp)]; exact hg, rfl, hpos⟩
      obtain ⟨u, hu, hru⟩ := hf j i hj hi
      exact ⟨u, hk.c _ _ _ hu, hru.mono hk⟩
theorem OwnCs.keep {h k : Hp} {w w' : World} (hk : h.le k) : ∀ {cs : List C} {vs : List Value} {bs : List Nat}, OwnCs h w cs vs bs → Still h k w w' bs → OwnCs k w' cs vs bs
  | [], _, _, hr, _ => hr
  | _ :: _, _, _, ⟨v, vs', b1, b2, hv, hb, h1, h2⟩, hs => ⟨v, vs', b1, b2, hv, hb, h1.keep hk (hs.sub (by subst hb; intro b hb; simp [hb])), OwnCs.keep hk h2 (hs.sub (by subst hb; intro b hb; simp [hb]))⟩

theorem OwnCs.length {h : Hp} {w : World} : ∀ {cs : List C} {vs : List Value} {bs : List Nat}, OwnCs h w cs vs bs → vs.length = cs.length
  | [], _, _, hr => by simp [hr.1]
  | _ :: cs, _, _, ⟨v, vs', b1, b2, hv, _, _, h2⟩ => by subst hv; simp [OwnCs.length h2]
theorem OwnCs.ones {h : Hp} {w : World} : ∀ {cs : List C} {vs : List Value} {bs : List Nat}, OwnCs h w cs vs bs → ∀ v ∈ vs, v.oneCell' = true
  | [], _, _, hr, v, hv => by rw [hr.1] at hv; cases hv
  | _ :: cs, _, _, ⟨u, vs', b1, b2, hu, _, h1, h2⟩, v, hv => by
    subst hu
    rcases List.mem_cons.1 hv with rfl | hv
    · exact h1.one
    · exact OwnCs.ones h2 v hv

/-- a plain view of a cell that owns a right to append -/
theorem OwnC.view {h : Hp} {w : World} {c : C} {v : Value} {bs : List Nat} (hr : OwnC h w c v bs) (ho : c.isOwn = false) : OwnC h w c.plain v [] := by
  cases c with
  | d x => exact ⟨hr.1, rfl⟩
  | own sz n f => cases ho
  | app sz n f =>
    refine ⟨?_, rfl⟩
    rcases hr with ⟨rfl, rfl, _⟩ | ⟨b, cap, cells, e, rfl, hn, _, _, hf, _⟩
    · exact ⟨none, 0, rfl, Nat.le_refl _, .inl rfl⟩
    · exact ⟨_, cap, rfl, hn, .inr ⟨b, 0, rfl, fun j i hj hi => by simpa using hf j i hj hi⟩⟩
theorem OwnCs.view {h : Hp} {w : World} : ∀ {cs : List C} {vs : List Value} {bs : List Nat}, OwnCs h w cs vs bs → cs.any C.isOwn = false → OwnCs h w (cs.map C.plain) vs []
  | [], _, _, hr, _ => ⟨hr.1, rfl⟩
  | c :: cs, _, _, ⟨v, vs', b1, b2, hv, _, h1, h2⟩, ho => by
    simp only [List.any_cons, Bool.or_eq_false_iff] at ho
    exact ⟨v, vs', [], [], hv, rfl, h1.view ho.1, OwnCs.view h2 ho.2⟩
theorem OwnCs.plainBs {h : Hp} {w : World} : ∀ {cs : List C} {vs : List Value} {bs : List Nat}, OwnCs h w cs vs bs → cs.all C.isD = true → bs = []
  | [], _, _, hr, _ => hr.2
  | c :: cs, _, _, ⟨v, vs', b1, b2, hv, hb, h1, h2⟩, ho => by
    simp only [List.all_cons, Bool.and_eq_true] at ho
    cases c with
    | d x => rw [hb, h1.2, OwnCs.plainBs h2 ho.2]; rfl
    | own sz n f => simp [C.isD] at ho
    | app sz n f => simp [C.isD] at ho
theorem OwnCs.append {h : Hp} {w : World} : ∀ {cs ds : List C} {vs us : List Value} {b1 b2 : List Nat}, OwnCs h w cs vs b1 → OwnCs h w ds us b2 → OwnCs h w (cs ++ ds) (vs ++ us) (b1 ++ b2)
  | [], _, _, _, _, _, h1, h2 => by obtain ⟨rfl, rfl⟩ := h1; exact h2
  | _ :: _, _, _, _, _, _, ⟨v, vs', a1, a2, hv, hb, h1, h3⟩, h2 => by
    subst hv; subst hb
    exact ⟨v, _, a1, _, rfl, by simp, h1, OwnCs.append h3 h2⟩
theorem OwnCs.split {h : Hp} {w : World} : ∀ {cs ds : List C} {vs : List Value} {bs : List Nat}, OwnCs h w (cs ++ ds) vs bs → ∃ v1 v2 b1 b2, vs = v1 ++ v2 ∧ bs = b1 ++ b2 ∧ OwnCs h w cs v1 b1 ∧ OwnCs h w ds v2 b2
  | [], _, vs, bs, hr => ⟨[], vs, [], bs, rfl, rfl, ⟨rfl, rfl⟩, hr⟩
  | c :: cs, ds, _, _, ⟨v, vs', a1, a2, hv, hb, h1, h2⟩ => by
    obtain ⟨v1, v2, b1, b2, rfl, rfl, h3, h4⟩ := OwnCs.split h2
    exact ⟨v :: v1, v2, a1 ++ b1, b2, hv, by rw [hb]; simp, ⟨v, v1, a1, b1, rfl, rfl, h1, h3⟩, h4⟩
theorem OwnCs.at {h : Hp} {w : World} : ∀ {cs : List C} {vs : List Value} {bs : List Nat}, OwnCs h w cs vs bs → ∀ {i : Nat} {c : C}, cs[i]? = some c → ∃ v b, vs[i]? = some v ∧ OwnC h w c v b ∧ ∀ x ∈ b, x ∈ bs
  | [], _, _, _, i, c, hc => by simp at hc
  | d :: cs, _, _, ⟨v, vs', a1, a2, hv, hb, h1, h2⟩, i, c, hc => by
    subst hv; subst hb
    cases i with
    | zero => simp only [List.getElem?_cons_zero, Option.some.injEq] at hc; subst hc; exact ⟨v, a1, rfl, h1, fun x hx => by simp [hx]⟩
    | succ i =>
      simp only [List.getElem?_cons_succ] at hc
      obtain ⟨u, b, hu, ho, hb⟩ := OwnCs.at h2 hc
      exact ⟨u, b, by simpa using hu, ho, fun x hx => by simp [hb x hx]⟩
/-- plain cells, one by one -/
theorem OwnCs.of_plain {h : Hp} {w : World} : ∀ {cs : List C} {vs : List Value}, vs.length = cs.length → (∀ (i : Nat) (c : C) (v : Value), cs[i]? = some c → vs[i]? = some v → OwnC h w c v []) → OwnCs h w cs vs []
  | [], vs, hl, _ => ⟨List.eq_nil_of_length_eq_zero (by simpa using hl), rfl⟩
  | c :: cs, [], hl, _ => by simp at hl
  | c :: cs, v :: vs, hl, hc => ⟨v, vs, [], [], rfl, rfl, hc 0 c v rfl rfl, OwnCs.of_plain (by simpa using hl) fun i c' v' h1 h2 => hc (i + 1) c' v' (by simpa using h1) (by simpa using h2)⟩
end Go.X
namespace Go.X
open Go

def mkV (ag : Bool) (vs : List Value) : Value := bif ag then .agg vs.toArray else vs.headD undef
def CompTells (h : Hp) (w : World) (ag : Bool) (cs : List C) (v : Value) (bs : List Nat) : Prop :=
  ∃ vs, OwnCs h w cs vs bs ∧ v = mkV ag vs ∧ (ag = false → cs.length = 1)
/-- a tuple's components; one whose cells were taken away tells nothing -/
def TupTells (h : Hp) (w : World) : List (Bool × List C) → List Value → List Nat → Prop
  | [], vs, bs => vs = [] ∧ bs = []
  | (ag, cs) :: xs, vs, bs => ∃ v vs' b1 b2, vs = v :: vs' ∧ bs = b1 ++ b2 ∧ ((cs = [] ∧ b1 = []) ∨ CompTells h w ag cs v b1) ∧ TupTells h w xs vs' b2

/-- bytes in a buffer of one's own -/
def Buf (w : World) (e : TypeId) (l : List Nat) (u : Value) (bs : List Nat) : Prop :=
  w.ownsRow 0 e 1 u l.length (l.map fun (x : Nat) => Value.int .u8 x) ∧ bs = u.ownBlock.toList
/-- What a slot's value is, and which blocks it owns (references: below). -/
def Tells (h : Hp) (w : World) : S → Value → List Nat → Prop
  | .one ag cs, v, bs => CompTells h w ag cs v bs
  | .tup xs, v, bs => ∃ vs, v = .tuple vs.toArray ∧ TupTells h w xs vs bs
  | .box t cs, v, bs => ∃ b vs bs', v = .pointer (some ⟨b, 0, none⟩) ∧ w.heap[b]? = some (.cells vs.toArray t (0, 0)) ∧ OwnCs h w cs vs bs' ∧ bs = b :: bs' ∧ Free h b
  | .imm sz off e, v, bs => bs = [] ∧ ∃ b o, v = .pointer (some ⟨b, o + off, none⟩) ∧ ∀ i, i < sz → ∃ u, h.c b (o + i) = some u ∧ (e i).rep h u
  | .ifc t ag cs, v, bs => bs = [] ∧ ∃ u, v = .iface t u ∧ CompTells h w ag cs u []
  | .itr s p, v, bs => ∃ b, v = .pointer (some ⟨b, 0, none⟩) ∧ w.heap[b]? = some (.stringIter s p) ∧ bs = [b] ∧ Free h b
  | .bld t e l, v, bs => ∃ b p u bs', v = .pointer (some ⟨b, 0, none⟩) ∧ w.heap[b]? = some (.cells #[p, u] t (0, 0)) ∧ (p = .pointer none ∨ p = v) ∧ Buf w e l u bs' ∧ bs = b :: bs' ∧ ∀ x ∈ bs, Free h x
  | _, _, bs => bs = []

theorem Buf.keep {h k : Hp} {w w' : World} {e : TypeId} {l : List Nat} {u : Value} {bs : List Nat} (hb : Buf w e l u bs) (hs : Still h k w w' bs) : Buf w' e l u bs := by
  obtain ⟨⟨h0, h1⟩, rfl⟩ := hb
  refine ⟨⟨h0, ?_⟩, rfl⟩
  rcases h1 with h1 | ⟨g, cap, cur, rfl, a1, a2, a3⟩
  · exact .inl h1
  · exact .inr ⟨g, cap, cur, rfl, a1, by rw [hs.heap g (by simp [Value.ownBlock])]; exact a2, a3⟩
theorem Free.keep {h k : Hp} {w w' : World} {bs : List Nat} (hs : Still h k w w' bs) {b : Nat} (hb : b ∈ bs) (hf : Free h b) : Free k b :=
  ⟨fun i => by rw [hs.c b hb]; exact hf.c i, by rw [hs.g b hb]; exact hf.g⟩
theorem CompTells.keep {h k : Hp} {w w' : World} {ag : Bool} {cs : List C} {v : Value} {bs : List Nat} (hr : CompTells h w ag cs v bs) (hk : h.le k) (hs : Still h k w w' bs) : CompTells k w' ag cs v bs :=
  let ⟨vs, h1, h2, h3⟩ := hr
  ⟨vs, h1.keep hk hs, h2, h3⟩
theorem TupTells.keep {h k : Hp} {w w' : World} (hk : h.le k) : ∀ {xs : List (Bool × List C)} {vs : List Value} {bs : List Nat}, TupTells h w xs vs bs → Still h k w w' bs → TupTells k w' xs vs bs
  | [], _, _, hr, _ => hr
  | (ag, cs) :: _, _, _, ⟨v, vs', b1, b2, hv, hb, h1, h2⟩, hs =>
    ⟨v, vs', b1, b2, hv, hb, h1.imp id fun h1 => h1.keep hk (hs.sub (by subst hb; intro b hb; simp [hb])), TupTells.keep hk h2 (hs.sub (by subst hb; intro b hb; simp [hb]))⟩
theorem Tells.keep {h k : Hp} {w w' : World} {x : S} {v : Value} {bs : List Nat} (hr : Tells h w x v bs) (hk : h.le k) (hs : Still h k w w' bs) : Tells k w' x v bs := by
  cases x with
  | one ag cs => exact CompTells.keep hr hk hs
  | tup xs => obtain ⟨vs, hv, ht⟩ := hr; exact ⟨vs, hv, ht.keep hk hs⟩
  | box t cs =>
    obtain ⟨b, vs, bs', hv, hh, ho, rfl, hf⟩ := hr
    refine ⟨b, vs, bs', hv, by rw [hs.heap b (by simp)]; exact hh, ho.keep hk (hs.sub fun x hx => by simp [hx]), rfl, ⟨fun i => by rw [hs.c b (by simp)]; exact hf.c i, by rw [hs.g b (by simp)]; exact hf.g⟩⟩
  | imm sz off e =>
    obtain ⟨rfl, b, o, hv, he⟩ := hr
    refine ⟨rfl, b, o, hv, fun i hi => ?_⟩
    obtain ⟨u, hu, hru⟩ := he i hi
    exact ⟨u, hk.c _ _ _ hu, hru.mono hk⟩
  | ifc t ag cs =>
    obtain ⟨rfl, u, hv, hc⟩ := hr
    exact ⟨rfl, u, hv, hc.keep hk hs⟩
  | itr s p =>
    obtain ⟨b, hv, hh, rfl, hf⟩ := hr
    exact ⟨b, hv, by rw [hs.heap b (by simp)]; exact hh, rfl, hf.keep hs (by simp)⟩
  | bld t e l =>
    obtain ⟨b, p, u, bs', hv, hh, hp, hb, rfl, hf⟩ := hr
    exact ⟨b, p, u, bs', hv, by rw [hs.heap b (by simp)]; exact hh, hp, hb.keep (hs.sub fun x hx => by simp [hx]), rfl, fun x hx => (hf x hx).keep hs hx⟩
  | ref r => exact hr
  | adr s k o => exact hr
  | elt r j o => exact hr
  | no => exact hr

/-! ### states as they are asked -/
def lkPut (g : Lk) (s : Nat) (x : S) : Lk := fun t => if t = s then some ((match g s with | some (k, _) => k + 1 | none => 0), x) else g t
def lkMod (g : Lk) (s : Nat) (x : S) : Lk := fun t => if t = s then (g s).map fun p => (p.1, x) else g t
def lkMods (g : Lk) : List (Nat × S) → Lk
  | [] => g
  | (s, x) :: r => lkMods (lkMod g s x) r
def lkDst (g : Lk) : Option Tmp → S → Lk
  | some d, x => lkPut g d x
  | none, _ => g
def upon (g : Lk) (e : Eff) (d : Option Tmp) : Lk := lkDst (lkMods g e.md) d e.res

theorem beq_eq (a b : Nat) : Nat.beq a b = decide (a = b) := by
  by_cases h : a = b
  · subst h; simp
  · rw [decide_eq_false h]
    cases hb : Nat.beq a b with
    | false => rfl
    | true => exact absurd (Nat.eq_of_beq_eq_true hb) h
theorem stGet_put (st : St) (s : Nat) (x : S) : stGet (stPut st s x) = lkPut (stGet st) s x := by
  funext t
  induction st with
  | nil =>
    simp only [stPut, stGet, lkPut, beq_eq]
    by_cases h : t = s
    · simp [h]
    · simp [h, Ne.symm h]
  | cons p r ih =>
    obtain ⟨a, k, y⟩ := p
    simp only [stPut, lkPut, stGet, beq_eq] at ih ⊢
    by_cases has : a = s
    · subst has
      by_cases hta : t = a
      · subst hta; simp [stGet]
      · simp [stGet, hta, Ne.symm hta, beq_eq]
    · by_cases hts : t = s
      · subst hts
        simp only [has, decide_false, cond_false, stGet, beq_eq] at ih ⊢
        simpa using ih
      · simp only [has, decide_false, cond_false, stGet, hts, if_false, beq_eq] at ih ⊢
        by_cases hat : a = t <;> simp [hat, ih]
theorem stGet_mod (st : St) (s : Nat) (x : S) : stGet (stMod st s x) = lkMod (stGet st) s x := by
  funext t
  induction st with
  | nil => simp only [stMod, stGet, lkMod]; by_cases h : t = s <;> simp [h]
  | cons p r ih =>
    obtain ⟨a, k, y⟩ := p
    simp only [stMod, lkMod, stGet, beq_eq] at ih ⊢
    by_cases has : a = s
    · subst has
      by_cases hta : t = a
      · subst hta; simp [stGet]
      · simp [stGet, hta, Ne.symm hta, beq_eq]
    · by_cases hts : t = s
      · subst hts
        simp only [has, decide_false, cond_false, stGet, beq_eq] at ih ⊢
        simpa using ih
      · simp only [has, decide_false, cond_false, stGet, hts, if_false, beq_eq] at ih ⊢
        by_cases hat : a = t <;> simp [hat, ih]
theorem stGet_mods (st : St) (l : List (Nat × S)) : stGet (mods st l) = lkMods (stGet st) l := by
  induction l generalizing st with
  | nil => rfl
  | cons p r ih => obtain ⟨s, x⟩ := p; simp only [mods, lkMods, ih, stGet_mod]
theorem stGet_dst (st : St) (d : Option Tmp) (x : S) : stGet (dstOf st d x) = lkDst (stGet st) d x := by
  cases d with
  | none => rfl
  | some d => exact stGet_put st d x

/-! ### what a state says -/
/-- the call's surroundings -/
structure Cx where
  P : Program
  T : Tab
  n : Nat
  h0 : Hp
  w0 : World
  pin : Nat → Option Value
  lb : List Nat

/-- old memory is as it was, but for some blocks -/
structure Fr (w0 w : World) (ex : Nat → Prop) : Prop where
  os : w.os = w0.os
  tape : w.tape = w0.tape
  output : w.output = w0.output
  size : w0.heap.size ≤ w.heap.size
  block : ∀ b, b < w0.heap.size → ¬ ex b → w.heap[b]? = w0.heap[b]?

/-- the value at a root -/
def rootV (a : Act) (w : World) (r : Root) : Option Value :=
  match r.c with
  | none => a.tmps[r.s]?
  | some i => match a.tmps[r.s]? with
    | some (.pointer (some p)) => w.cell? ⟨p.block, i, none⟩
    | _ => none
def isOwnO : Option C → Bool
  | some (.own ..) => true
  | _ => false

/-- what a reference says: its root is there, at most as new as its version tells; and what its value is, where the version is the root's -/
def Refs (g : Lk) (a : Act) (w : World) : S → Value → Prop
  | .ref r, v => (∃ k y, g r.s = some (k, y) ∧ r.k ≤ k ∧ (k = r.k → (r.c = none ∨ isOwnO (atRoot g r) = true) → rootV a w r = some v))
  | .adr s k off, v => (∃ k' y, g s = some (k', y) ∧ k ≤ k' ∧ (k' = k → ∀ t cs, y = .box t cs → ∃ b, a.tmps[s]? = some (.pointer (some ⟨b, 0, none⟩)) ∧ v = .pointer (some ⟨b, off, none⟩)))
  | .elt r j off, v => (∃ k y, g r.s = some (k, y) ∧ r.k ≤ k ∧ (k = r.k → ∀ sz n f, atRoot g r = some (.own sz n f) →
      ∃ b p len cap, rootV a w r = some (.slice (some ⟨b, p, none⟩) len cap) ∧ v = .pointer (some ⟨b, p + (j * sz + off), none⟩) ∧ j < n))
  | _, _ => True

structure SimW (cx : Cx) (h : Hp) (bs : Nat → List Nat) (g : Lk) (a : Act) (w : World) : Prop where
  le : cx.h0.le h
  newc : ∀ b, b < cx.w0.heap.size → b ∉ cx.lb → ∀ i, h.c b i = cx.h0.c b i
  newg : ∀ b, b < cx.w0.heap.size → h.g b = cx.h0.g b
  holds : h.holds w
  fr : Fr cx.w0 w fun b => b ∈ cx.lb ∨ ∃ l, cx.h0.g b = some l
  defers : a.defers = []
  size : a.tmps.size = cx.n
  slot : ∀ s k x, g s = some (k, x) → ∃ v, a.tmps[s]? = some v ∧ Tells h w x v (bs s) ∧ Refs g a w x v
  nodup : ∀ s, (bs s).Nodup
  disj : ∀ s t, s ≠ t → ∀ b, b ∈ bs s → b ∈ bs t → False
  mine : ∀ s b, b ∈ bs s → cx.w0.heap.size ≤ b ∨ b ∈ cx.lb
  lt : ∀ s b, b ∈ bs s → b < w.heap.size
  pins : ∀ s v, cx.pin s = some v → a.tmps[s]? = some v
def Sim (cx : Cx) (g : Lk) (a : Act) (w : World) : Prop := ∃ h bs, SimW cx h bs g a w

theorem put_tmps (a : Act) (d : Nat) (v : Value) : (a.put (some d) v).tmps = a.tmps.setIfInBounds d v := rfl
theorem put_get (a : Act) (d : Nat) (v : Value) (s : Nat) (hd : d < a.tmps.size) : (a.put (some d) v).tmps[s]? = if s = d then some v else a.tmps[s]? := by
  rw [put_tmps, Array.getElem?_setIfInBounds]
  by_cases h : d = s
  · subst h; simp [hd]
  · simp [h, Ne.symm h]

/-- what changes in the states and slots of a step: 'off' slots are told anew -/
theorem Refs.keep {g g' : Lk} {a a' : Act} {w w' : World} {x : S} {v : Value} (hr : Refs g a w x v)
    (hg : ∀ s k y, g s = some (k, y) → ∃ k' y', g' s = some (k', y') ∧ k ≤ k' ∧ (k' = k → a'.tmps[s]? = a.tmps[s]? ∧ (∀ t cs', y' = .box t cs' → ∃ cs, y = .box t cs)
      ∧ (∀ c k0, isOwnO (atRoot g' ⟨s, k0, c⟩) = true → k0 = k → ∃ sz n f f', atRoot g ⟨s, k0, c⟩ = some (.own sz n f) ∧ atRoot g' ⟨s, k0, c⟩ = some (.own sz n f') ∧ rootV a' w' ⟨s, k0, c⟩ = rootV a w ⟨s, k0, c⟩))) :
    Refs g' a' w' x v := by
  cases x with
  | ref r =>
    obtain ⟨k, y, hy, hk, hv⟩ := hr
    obtain ⟨k', y', hy', hkk, hs⟩ := hg r.s k y hy
    refine ⟨k', y', hy', by omega, fun he hc => ?_⟩
    have hek : k' = k := by omega
    obtain ⟨ht, _, ho⟩ := hs hek
    rcases hc with hc | hc
    · have := hv (by omega) (.inl hc)
      unfold rootV at this ⊢
      rw [hc] at this ⊢
      simpa [ht] using this
    · obtain ⟨sz, n, f, f', h1, h2, h3⟩ := ho r.c r.k hc (by omega)
      have := hv (by omega) (.inr (by show isOwnO (atRoot g ⟨r.s, r.k, r.c⟩) = true; rw [h1]; rfl))
      show rootV a' w' ⟨r.s, r.k, r.c⟩ = _
      rw [h3]; exact this
  | adr s k off =>
    obtain ⟨k1, y, hy, hk, hv⟩ := hr
    obtain ⟨k', y', hy', hkk, hs⟩ := hg s k1 y hy
    refine ⟨k', y', hy', by omega, fun he t cs' hb => ?_⟩
    obtain ⟨ht, hbx, _⟩ := hs (by omega)
    obtain ⟨cs, hcs⟩ := hbx t cs' hb
    obtain ⟨b, h1, h2⟩ := hv (by omega) t cs hcs
    exact ⟨b, by rw [ht]; exact h1, h2⟩
  | elt r j off =>
    obtain ⟨k, y, hy, hk, hv⟩ := hr
    obtain ⟨k', y', hy', hkk, hs⟩ := hg r.s k y hy
    refine ⟨k', y', hy', by omega, fun he sz n f hf => ?_⟩
    obtain ⟨_, _, ho⟩ := hs (by omega)
    obtain ⟨sz', n', f1, f', h1, h2, h3⟩ := ho r.c r.k (by show isOwnO (atRoot g' ⟨r.s, r.k, r.c⟩) = true; rw [hf]; rfl) (by omega)
    have he2 : (C.own sz' n' f') = .own sz n f := by
      have : atRoot g' ⟨r.s, r.k, r.c⟩ = some (.own sz n f) := hf
      rw [h2] at this; simpa using this
    injection he2 with e1 e2 e3
    subst e1; subst e2
    obtain ⟨b, p, len, cap, h4, h5⟩ := hv (by omega) sz' n' f1 h1
    exact ⟨b, p, len, cap, by show rootV a' w' ⟨r.s, r.k, r.c⟩ = _; rw [h3]; exact h4, h5⟩
  | one ag cs => trivial
  | tup xs => trivial
  | box t cs => trivial
  | imm sz o e => trivial
  | ifc t ag cs => trivial
  | itr s p => trivial
  | bld t e l => trivial
  | no => trivial
end Go.X
