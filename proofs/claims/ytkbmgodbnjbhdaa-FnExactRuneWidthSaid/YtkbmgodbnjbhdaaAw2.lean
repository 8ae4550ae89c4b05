/- The abstract calculus, part 2: what the operations and the code do to an abstract state. -/
import Derived.Test.YtkbmgodbnjbhdaaAw1
namespace Go.AW

/-! ### The data's own operations: a variable to whoever evaluates -/
def unB : List DV → UInt8
  | [.s (.int _ c)] => UInt8.ofNat c.toNat
  | _ => 0
structure Ops where
  leI : Int → Int → Bool
  ltI : Int → Int → Bool
  eqI : Int → Int → Bool
  neI : Int → Int → Bool
  addI : IntKind → Int → Int → Int
  subI : IntKind → Int → Int → Int
  mulI : IntKind → Int → Int → Int
  quoI : IntKind → Int → Int → Int
  remI : Int → Int → Int
  bitI : BinOp → IntKind → Int → Int → Int
  shlI : IntKind → Int → Int → Int
  shrI : IntKind → Int → Int → Int
  wrapI : IntKind → Int → Int
  minI : Int → Int → Int
  maxI : Int → Int → Int
  natI : Int → Nat
  ofN : Nat → Int
  addN : Nat → Nat → Nat
  spanN : Int → Int → Nat
  ltN : Nat → Nat → Bool
  leN : Nat → Nat → Bool
  eqN : Nat → Nat → Bool
  roomN : Nat → Nat → Bool
  eqS : ByteArray → ByteArray → Bool
  ltS : ByteArray → ByteArray → Bool
  neS : ByteArray → ByteArray → Bool
  leS : ByteArray → ByteArray → Bool
  gtS : ByteArray → ByteArray → Bool
  geS : ByteArray → ByteArray → Bool
  catS : ByteArray → ByteArray → ByteArray
  lenS : ByteArray → Nat
  byteS : ByteArray → Nat → Int
  cutS : ByteArray → Int → Int → ByteArray
  nthI : List Int → Nat → Int
  nthS : List ByteArray → Nat → ByteArray
  nthB : List Bool → Nat → Bool
  nthV : List Value → Nat → Value
  encR : Int → ByteArray
  strF : Nat → (Nat → List DV) → ByteArray
  catF : Nat → (Nat → List DV) → Nat → (Nat → List DV) → Nat → List DV
  setF : (Nat → List DV) → Nat → List DV → Nat → List DV
  ByteRows : Nat → (Nat → List DV) → Prop
  FlatRows : Nat → (Nat → List DV) → Nat → Prop
  RowsLen : Nat → (Nat → List DV) → Nat → Prop
def std : Ops where
  leI := fun a b => decide (a ≤ b)
  ltI := fun a b => decide (a < b)
  eqI := fun a b => a == b
  neI := fun a b => !(a == b)
  addI := fun k a b => k.wrap (a + b)
  subI := fun k a b => k.wrap (a - b)
  mulI := fun k a b => k.wrap (a * b)
  quoI := fun k a b => k.wrap (a.tdiv b)
  remI := fun a b => a.tmod b
  bitI := fun op k a b => match op with
    | .and => k.wrap ((BitVec.ofInt k.bits a &&& BitVec.ofInt k.bits b).toNat)
    | .or => k.wrap ((BitVec.ofInt k.bits a ||| BitVec.ofInt k.bits b).toNat)
    | .xor => k.wrap ((BitVec.ofInt k.bits a ^^^ BitVec.ofInt k.bits b).toNat)
    | _ => k.wrap ((BitVec.ofInt k.bits a &&& ~~~ BitVec.ofInt k.bits b).toNat)
  shlI := fun k a b => k.wrap (a * 2 ^ min b.toNat k.bits)
  shrI := fun k a b => a.fdiv (2 ^ min b.toNat k.bits)
  wrapI := fun k a => k.wrap a
  minI := fun a b => if b < a then b else a
  maxI := fun a b => if b > a then b else a
  natI := fun a => a.toNat
  ofN := fun n => (n : Int)
  addN := fun a b => a + b
  spanN := fun lo hi => hi.toNat - lo.toNat
  ltN := fun a b => decide (a < b)
  leN := fun a b => decide (a ≤ b)
  eqN := fun a b => a == b
  roomN := fun n bytes => decide (n * bytes ≤ 140737488355328)
  eqS := fun a b => a.toList == b.toList
  ltS := fun a b => Op.bytesLess a.toList b.toList
  neS := fun a b => !(a.toList == b.toList)
  leS := fun a b => Op.bytesLess a.toList b.toList || a.toList == b.toList
  gtS := fun a b => !(Op.bytesLess a.toList b.toList || a.toList == b.toList)
  geS := fun a b => !(Op.bytesLess a.toList b.toList)
  catS := fun a b => a ++ b
  lenS := fun a => a.size
  byteS := fun a i => ((a.data.toList.getD i 0).toNat : Int)
  cutS := fun a lo hi => a.extract lo.toNat hi.toNat
  nthI := fun l i => l.getD i 0
  nthS := fun l i => l.getD i ByteArray.empty
  nthB := fun l i => l.getD i false
  nthV := fun l i => l.getD i undef
  encR := fun n => Utf8.encode n
  strF := fun n f => ⟨((List.range n).map fun i => unB (f i)).toArray⟩
  catF := fun n f m g i => if n ≤ i ∧ i < n + m then g (i - n) else f i
  setF := fun f i row k => if k = i then row else f k
  ByteRows := fun n f => ∀ i, i < n → ∃ c : Int, f i = [.s (.int .u8 c)]
  RowsLen := fun n f sz => ∀ i, i < n → (f i).length = sz
  FlatRows := fun n f sz => ∀ i, i < n → (f i).length = sz ∧ ∀ d, d ∈ f i → ∃ v, d = .s v

def need (c : Bool) (P : Prop) : Prop := c = true ∧ P
def condP (c : Bool) (x y : Unit → Prop) : Prop :=
  match c with
  | true => x ()
  | false => y ()

/-! ### Types -/
inductive K where
  | bool | int (k : IntKind) | str | ptr (e : Nat) | sl (e : Nat) | arr (n e : Nat) | st (fs : List (Nat × Nat)) | fn | mp (k e : Nat) | other
structure TI where
  k : K
  size : Nat
  bytes : Nat
  zero : List Value
abbrev Env := Nat → TI
def noTI : TI := ⟨.other, 0, 0, []⟩

def isAg : K → Bool
  | .arr _ _ | .st _ => true
  | _ => false

/-! ### Reading -/
def leafOfValue : Value → Leaf
  | .slice none 0 0 => .nil
  | v => .s v
def vOfValue : Value → V
  | .agg cs => match cs.toList.all (·.oneCell') with
    | true => .one (.ag (cs.toList.map leafOfValue))
    | false => .bad
  | .tuple _ => .bad
  | v => .one (.lf (leafOfValue v))
def evA (σ : St) : Operand → V
  | .tmp t => getN undefV σ.slots t
  | .const v => vOfValue v
  | .func f => .one (.lf (.fn f []))
  | .global _ => .bad
def roLeaf : DV → Leaf
  | .s v => .s v
  | .l _ n f => .r n f
def snLeaf (id : Nat) : DV → Leaf
  | .s v => .s v
  | .l _ n f => .sn id n f
def cutL {α : Type} : List α → Nat → Nat → Option (List α)
  | l, 0, n => takeL l n
  | [], _ + 1, _ => none
  | _ :: l, j + 1, n => cutL l j n
  where
  takeL : List α → Nat → Option (List α)
  | _, 0 => some []
  | [], _ + 1 => none
  | a :: l, n + 1 => match takeL l n with
    | some t => some (a :: t)
    | none => none
/-- The cells that are read at an address. -/
def readAt (σ : St) : Leaf → Nat → Option (List Leaf)
  | .p id j, n => match look σ.store id with
    | some (.vars cs) => cutL cs j n
    | _ => none
  | .pr id i j, n => match look σ.store id with
    | some (.deep _ _ f) => match cutL (f i) j n with
      | some l => some (l.map (snLeaf id))
      | none => none
    | _ => none
  | .rp row, n => match cutL row 0 n with
    | some l => some (l.map roLeaf)
    | none => none
  | .sp id row, n => match cutL row 0 n with
    | some l => some (l.map (snLeaf id))
    | none => none
  | _, _ => none
def packV (ag : Bool) (cs : List Leaf) : Option V :=
  match ag, cs with
  | true, cs => some (.one (.ag cs))
  | false, [c] => some (.one (.lf c))
  | false, _ => none

/-! ### Forgetting -/
def mapV1 (h : Leaf → Leaf) : V1 → V1
  | .lf l => .lf (h l)
  | .ag cs => .ag (cs.map h)
def mapV (h : Leaf → Leaf) : V → V
  | .one v => .one (mapV1 h v)
  | .tup vs => .tup (vs.map (mapV1 h))
  | .bad => .bad
def mapObj (h : Leaf → Leaf) : Obj → Obj
  | .vars cs => .vars (cs.map h)
  | o => o
def mapSt (h : Leaf → Leaf) (σ : St) : St := { σ with slots := σ.slots.map (mapV h), store := σ.store.map fun x => (x.1, mapObj h x.2) }
/-- What was read out of an object that is written now. -/
def killS (id : Nat) : Leaf → Leaf
  | .sn i n f => bif Nat.beq i id then .un else .sn i n f
  | .sp i row => bif Nat.beq i id then .un else .sp i row
  | l => l
/-- All that names an object. -/
def killA (id : Nat) : Leaf → Leaf
  | .sn i n f => bif Nat.beq i id then .un else .sn i n f
  | .sp i row => bif Nat.beq i id then .un else .sp i row
  | .o i a b => bif Nat.beq i id then .un else .o i a b
  | .p i a => bif Nat.beq i id then .un else .p i a
  | .pr i a b => bif Nat.beq i id then .un else .pr i a b
  | .q i a b => bif Nat.beq i id then .un else .q i a b
  | .pq i a b c d => bif Nat.beq i id then .un else .pq i a b c d
  | .fn f caps => bif caps.any (fun c => Nat.beq c.1 id) then .un else .fn f caps
  | l => l

/-- Rows from a place on. -/
def shF (D : Ops) (off : Nat) (f : Nat → List DV) : Nat → List DV :=
  match off with
  | 0 => f
  | o => fun i => f (D.addN o i)

/-! ### Owned data out of leaves -/
/-- A cell's datum, if it can be owned; the objects that are taken. -/
def ownC (D : Ops) (st : List (Nat × Obj)) : Leaf → Option (DV × List Nat)
  | .s v => some (.s v, [])
  | .nil => some (.l 0 0 (fun _ => []), [])
  | .o id off len => match look st id with
    | some (.deep sz _ f) => some (.l sz len (shF D off f), [id])
    | _ => none
  | _ => none
def ownCs (D : Ops) (st : List (Nat × Obj)) : List Leaf → Option (List DV × List Nat)
  | [] => some ([], [])
  | l :: t => match ownC D st l with
    | some (d, ids) => match ownCs D (ids.foldl drop st) t with
      | some (ds, ids') => some (d :: ds, ids ++ ids')
      | none => none
    | none => none

/-- Deep data out of a leaf, to be read. -/
def roD (D : Ops) (st : List (Nat × Obj)) : Leaf → Option DV
  | .s v => some (.s v)
  | .nil => some (.l 0 0 (fun _ => []))
  | .r n f => some (.l 0 n f)
  | .sn _ n f => some (.l 0 n f)
  | .o id off len => match look st id with
    | some (.deep sz _ f) => some (.l sz len (shF D off f))
    | _ => none
  | _ => none
def allS {α β : Type} (h : α → Option β) : List α → Option (List β)
  | [] => some []
  | l :: t => match h l with
    | some d => match allS h t with
      | some ds => some (d :: ds)
      | none => none
    | none => none
def roC (D : Ops) (st : List (Nat × Obj)) : Leaf → Option DV
  | .o id off len => match look st id with
    | some (.deep sz _ f) => some (.l sz len (shF D off f))
    | some (.vars cs) => match len, off, allS (roD D st) cs with
      | 1, 0, some ds => some (.l cs.length 1 (fun _ => ds))
      | _, _, _ => none
    | _ => none
  | l => roD D st l
inductive DA where
  | c (d : DV)
  | a (ds : List DV)
def roA (D : Ops) (st : List (Nat × Obj)) : V → Option DA
  | .one (.lf l) => match roC D st l with
    | some d => some (.c d)
    | none => none
  | .one (.ag cs) => match allS (roC D st) cs with
    | some ds => some (.a ds)
    | none => none
  | _ => none

/-! ### Tables: a literal's rows by its columns -/
def sameK : IntKind → IntKind → Bool
  | .i8, .i8 | .i16, .i16 | .i32, .i32 | .i64, .i64 | .u8, .u8 | .u16, .u16 | .u32, .u32 | .u64, .u64 => true
  | _, _ => false

def intsOf (k : IntKind) : List Leaf → Option (List Int)
  | [] => some []
  | .s (.int k' n) :: t => match sameK k k', intsOf k t with
    | true, some l => some (n :: l)
    | _, _ => none
  | _ => none
def strsOf : List Leaf → Option (List ByteArray)
  | [] => some []
  | .s (.string n) :: t => match strsOf t with
    | some l => some (n :: l)
    | _ => none
  | _ => none
/-- A column at row i. -/
def colAt (D : Ops) (col : List Leaf) : Option (Nat → DV) :=
  match col with
  | .s (.int k n) :: t => match intsOf k t with
    | some l => some fun i => .s (.int k (D.nthI (n :: l) i))
    | none => none
  | .s (.string n) :: t => match strsOf t with
    | some l => some fun i => .s (.string (D.nthS (n :: l) i))
    | none => none
  | _ => none
def colsFrom (D : Ops) (rows : List (List Leaf)) (sz : Nat) : Nat → Option (List (Nat → DV))
  | 0 => some []
  | c + 1 => match colAt D (rows.map fun r => getN .un r (sz - (c + 1))), colsFrom D rows sz c with
    | some f, some l => some (f :: l)
    | _, _ => none
/-- The rows of a literal: parts laid over zero rows. -/
def layRows (_ : Nat) (zero : List Leaf) (len : Nat) (parts : List (Nat × List Leaf)) : List (List Leaf) :=
  parts.foldl (fun rows p => setN rows p.1 p.2) (List.replicate len zero)

def cellsOf : V → Option (List Leaf)
  | .one (.lf l) => some [l]
  | .one (.ag cs) => some cs
  | _ => none

end Go.AW
