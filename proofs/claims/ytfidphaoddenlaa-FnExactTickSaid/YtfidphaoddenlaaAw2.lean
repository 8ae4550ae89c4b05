/- The abstract calculus, part 2: what the operations and the code do to an abstract state. -/
import Derived.Test.YtfidphaoddenlaaAw1
set_option linter.unusedSimpArgs false
set_option linter.unusedVariables false
namespace Go.AW

/-! ### The data's own operations: a variable to whoever evaluates -/
def unB : List DV → UInt8
  | [.s (.int _ c)] => UInt8.ofNat c.toNat
  | _ => 0
structure Ops where
  leI : Int → Int → Bool
  ltI : Int → Int → Bool
  eqI : Int → Int → Bool
  neI : Int → Int → Bool
  addI : IntKind → Int → Int → Int
  subI : IntKind → Int → Int → Int
  mulI : IntKind → Int → Int → Int
  quoI : IntKind → Int → Int → Int
  remI : Int → Int → Int
  bitI : BinOp → IntKind → Int → Int → Int
  shlI : IntKind → Int → Int → Int
  shrI : IntKind → Int → Int → Int
  wrapI : IntKind → Int → Int
  minI : Int → Int → Int
  maxI : Int → Int → Int
  natI : Int → Nat
  ofN : Nat → Int
  addN : Nat → Nat → Nat
  spanN : Int → Int → Nat
  ltN : Nat → Nat → Bool
  leN : Nat → Nat → Bool
  eqN : Nat → Nat → Bool
  roomN : Nat → Nat → Bool
  eqS : ByteArray → ByteArray → Bool
  ltS : ByteArray → ByteArray → Bool
  neS : ByteArray → ByteArray → Bool
  leS : ByteArray → ByteArray → Bool
  gtS : ByteArray → ByteArray → Bool
  geS : ByteArray → ByteArray → Bool
  catS : ByteArray → ByteArray → ByteArray
  lenS : ByteArray → Nat
  byteS : ByteArray → Nat → Int
  cutS : ByteArray → Int → Int → ByteArray
  nthI : List Int → Nat → Int
  nthS : List ByteArray → Nat → ByteArray
  nthB : List Bool → Nat → Bool
  nthV : List Value → Nat → Value
  encR : Int → ByteArray
  strF : Nat → (Nat → List DV) → ByteArray
  catF : Nat → (Nat → List DV) → Nat → (Nat → List DV) → Nat → List DV
  zapF : (Nat → List DV) → Nat → Nat → List DV → Nat → List DV
  cpF : (Nat → List DV) → Nat → Nat → (Nat → List DV) → Nat → List DV
  minN : Nat → Nat → Nat
  decR : ByteArray → Nat → Int
  decW : ByteArray → Nat → Nat
  setF : (Nat → List DV) → Nat → List DV → Nat → List DV
  ByteRows : Nat → (Nat → List DV) → Prop
  FlatRows : Nat → (Nat → List DV) → Nat → Prop
  RowsLen : Nat → (Nat → List DV) → Nat → Prop
  cnd : Bool → (Unit → Prop) → (Unit → Prop) → Prop
  stp : (Unit → Prop) → Prop
def condP (c : Bool) (x y : Unit → Prop) : Prop :=
  match c with
  | true => x ()
  | false => y ()

def std : Ops where
  cnd := condP
  stp := fun P => P ()
  leI := fun a b => decide (a ≤ b)
  ltI := fun a b => decide (a < b)
  eqI := fun a b => a == b
  neI := fun a b => !(a == b)
  addI := fun k a b => k.wrap (a + b)
  subI := fun k a b => k.wrap (a - b)
  mulI := fun k a b => k.wrap (a * b)
  quoI := fun k a b => k.wrap (a.tdiv b)
  remI := fun a b => a.tmod b
  bitI := fun op k a b => match op with
    | .and => k.wrap ((BitVec.ofInt k.bits a &&& BitVec.ofInt k.bits b).toNat)
    | .or => k.wrap ((BitVec.ofInt k.bits a ||| BitVec.ofInt k.bits b).toNat)
    | .xor => k.wrap ((BitVec.ofInt k.bits a ^^^ BitVec.ofInt k.bits b).toNat)
    | _ => k.wrap ((BitVec.ofInt k.bits a &&& ~~~ BitVec.ofInt k.bits b).toNat)
  shlI := fun k a b => k.wrap (a * 2 ^ min b.toNat k.bits)
  shrI := fun k a b => a.fdiv (2 ^ min b.toNat k.bits)
  wrapI := fun k a => k.wrap a
  minI := fun a b => if b < a then b else a
  maxI := fun a b => if b > a then b else a
  natI := fun a => a.toNat
  ofN := fun n => (n : Int)
  addN := fun a b => a + b
  spanN := fun lo hi => hi.toNat - lo.toNat
  ltN := fun a b => decide (a < b)
  leN := fun a b => decide (a ≤ b)
  eqN := fun a b => a == b
  roomN := fun n bytes => decide (n * bytes ≤ 140737488355328)
  eqS := fun a b => a.toList == b.toList
  ltS := fun a b => Op.bytesLess a.toList b.toList
  neS := fun a b => !(a.toList == b.toList)
  leS := fun a b => Op.bytesLess a.toList b.toList || a.toList == b.toList
  gtS := fun a b => !(Op.bytesLess a.toList b.toList || a.toList == b.toList)
  geS := fun a b => !(Op.bytesLess a.toList b.toList)
  catS := fun a b => a ++ b
  lenS := fun a => a.size
  byteS := fun a i => ((a.data.toList.getD i 0).toNat : Int)
  cutS := fun a lo hi => a.extract lo.toNat hi.toNat
  nthI := fun l i => l.getD i 0
  nthS := fun l i => l.getD i ByteArray.empty
  nthB := fun l i => l.getD i false
  nthV := fun l i => l.getD i undef
  encR := fun n => Utf8.encode n
  strF := fun n f => ⟨((List.range n).map fun i => unB (f i)).toArray⟩
  catF := fun n f m g i => if n ≤ i ∧ i < n + m then g (i - n) else f i
  zapF := fun f off n ds i => if off ≤ i ∧ i < off + n then ds else f i
  cpF := fun f off n g i => if off ≤ i ∧ i < off + n then g (i - off) else f i
  minN := fun a b => min a b
  decR := fun s p => (Utf8.decode s p).1
  decW := fun s p => (Utf8.decode s p).2
  setF := fun f i row k => if k = i then row else f k
  ByteRows := fun n f => ∀ i, i < n → ∃ c : Int, f i = [.s (.int .u8 c)]
  RowsLen := fun n f sz => ∀ i, i < n → (f i).length = sz
  FlatRows := fun n f sz => ∀ i, i < n → (f i).length = sz ∧ ∀ d, d ∈ f i → ∃ v, d = .s v

def need (c : Bool) (P : Prop) : Prop := c = true ∧ P
/-! ### Types -/
inductive K where
  | bool | int (k : IntKind) | str | ptr (e : Nat) | sl (e : Nat) | arr (n e : Nat) | st (fs : List (Nat × Nat)) | fn | mp (k e : Nat) | other
structure TI where
  k : K
  size : Nat
  bytes : Nat
  zero : List Value
abbrev Env := Nat → TI
def noTI : TI := ⟨.other, 0, 0, []⟩

def isAg : K → Bool
  | .arr _ _ | .st _ => true
  | _ => false

/-! ### Reading -/
def leafOfValue : Value → Leaf
  | .slice none 0 0 => .nil
  | v => .s v
def vOfValue : Value → V
  | .agg cs => match cs.toList.all (·.oneCell') with
    | true => .one (.ag (cs.toList.map leafOfValue))
    | false => .bad
  | .tuple _ => .bad
  | v => .one (.lf (leafOfValue v))
def evA (σ : St) : Operand → V
  | .tmp t => getN undefV σ.slots t
  | .const v => vOfValue v
  | .func f => .one (.lf (.fn f []))
  | .global _ => .bad
def nthO {α : Type} : List α → Nat → Option α
  | [], _ => none
  | a :: _, 0 => some a
  | _ :: l, n + 1 => nthO l n
def roLeaf : DV → Leaf
  | .s v => .s v
  | .l _ n f => .r n f
  | .x => .un
def snLeaf (id : Nat) : DV → Leaf
  | .s v => .s v
  | .l _ n f => .sn id n f
  | .x => .un
def qLeaf (id i j : Nat) : DV → Leaf
  | .s v => .s v
  | .l _ n _ => .q id i j none n
  | .x => .un
def qLeaves (id i : Nat) : Nat → List DV → List Leaf
  | _, [] => []
  | j, d :: t => qLeaf id i j d :: qLeaves id i (j + 1) t
def cutL {α : Type} : List α → Nat → Nat → Option (List α)
  | l, 0, n => takeL l n
  | [], _ + 1, _ => none
  | _ :: l, j + 1, n => cutL l j n
  where
  takeL : List α → Nat → Option (List α)
  | _, 0 => some []
  | [], _ + 1 => none
  | a :: l, n + 1 => match takeL l n with
    | some t => some (a :: t)
    | none => none
/-- The cells that are read at an address. -/
def readAt (σ : St) : Leaf → Nat → Option (List Leaf)
  | .p id j, n => match look σ.store id with
    | some (.vars cs) => cutL cs j n
    | _ => none
  | .pr id i j, n => match look σ.store id with
    | some (.deep _ _ f) => match cutL (f i) j n with
      | some l => some (qLeaves id i j l)
      | none => none
    | _ => none
  | .qp id i j k l sz, n => match look σ.store id with
    | some (.deep _ _ F) => match nthO (F i) j with
      | some (.l sz' _ f) => match Nat.beq sz' sz, cutL (f k) l n with
        | true, some l => some (l.map (snLeaf id))
        | _, _ => none
      | _ => none
    | _ => none
  | .rp row, n => match cutL row 0 n with
    | some l => some (l.map roLeaf)
    | none => none
  | .sp id row, n => match cutL row 0 n with
    | some l => some (l.map (snLeaf id))
    | none => none
  | _, _ => none
def packV (ag : Bool) (cs : List Leaf) : Option V :=
  match ag, cs with
  | true, cs => some (.one (.ag cs))
  | false, [c] => some (.one (.lf c))
  | false, _ => none

/-! ### Forgetting -/
def mapV1 (h : Leaf → Leaf) : V1 → V1
  | .lf l => .lf (h l)
  | .ag cs => .ag (cs.map h)
def mapV (h : Leaf → Leaf) : V → V
  | .one v => .one (mapV1 h v)
  | .tup vs => .tup (vs.map (mapV1 h))
  | .bad => .bad
def mapObj (h : Leaf → Leaf) : Obj → Obj
  | .vars cs => .vars (cs.map h)
  | .mp es => .mp (es.map fun e => (e.1, h e.2))
  | o => o
def mapSt (h : Leaf → Leaf) (σ : St) : St := { σ with slots := σ.slots.map (mapV h), store := σ.store.map fun x => (x.1, mapObj h x.2) }
/-- What was read out of an object that is written now. -/
def killS (id : Nat) : Leaf → Leaf
  | .sn i n f => bif Nat.beq i id then .un else .sn i n f
  | .sp i row => bif Nat.beq i id then .un else .sp i row
  | l => l
/-- And what views its rows. -/
def killQ (id : Nat) : Leaf → Leaf
  | .sn i n f => bif Nat.beq i id then .un else .sn i n f
  | .sp i row => bif Nat.beq i id then .un else .sp i row
  | .q i a b c d => bif Nat.beq i id then .un else .q i a b c d
  | .qp i a b c d e => bif Nat.beq i id then .un else .qp i a b c d e
  | l => l
/-- All that names an object. -/
def killA (id : Nat) : Leaf → Leaf
  | .sn i n f => bif Nat.beq i id then .un else .sn i n f
  | .sp i row => bif Nat.beq i id then .un else .sp i row
  | .o i a b => bif Nat.beq i id then .un else .o i a b
  | .p i a => bif Nat.beq i id then .un else .p i a
  | .pr i a b => bif Nat.beq i id then .un else .pr i a b
  | .q i a b c d => bif Nat.beq i id then .un else .q i a b c d
  | .qp i a b c d e => bif Nat.beq i id then .un else .qp i a b c d e
  | .m i => bif Nat.beq i id then .un else .m i
  | .fn f caps => bif caps.any (fun c => Nat.beq c.1 id) then .un else .fn f caps
  | l => l

/-- Rows from a place on. -/
def shF (D : Ops) (off : Nat) (f : Nat → List DV) : Nat → List DV :=
  match off with
  | 0 => f
  | o => fun i => f (D.addN o i)

/-! ### Owned data out of leaves -/
def forget1 (σ : St) (d : Nat) : St := { (mapSt (killA d) σ) with store := drop (mapSt (killA d) σ).store d }
def mkObj (σ : St) (o : Obj) : St := { σ with store := (σ.next, o) :: σ.store, next := σ.next + 1 }
def putObj (σ : St) (id : Nat) (o : Obj) : St := { σ with store := put σ.store id o }
def setD1 : List DV → Nat → DV → List DV
  | [], _, _ => []
  | _ :: l, 0, d => d :: l
  | a :: l, j + 1, d => a :: setD1 l j d
def flatC : Leaf → Option DV
  | .s v => some (.s v)
  | .nil => some (.l 0 0 (fun _ => []))
  | _ => none
def flatCs : List Leaf → Option (List DV)
  | [] => some []
  | l :: t => match flatC l, flatCs t with
    | some d, some ds => some (d :: ds)
    | _, _ => none
/-- A cell's datum, taken to be owned elsewhere; the state behind it, and what has become of leaves. -/
def takeC (D : Ops) (σ : St) : Leaf → Option (DV × St × (Leaf → Leaf))
  | .s v => some (.s v, σ, fun l => l)
  | .nil => some (.l 0 0 (fun _ => []), σ, fun l => l)
  | .o id off len => match look σ.store id with
    | some (.deep sz _ f) => some (.l sz len (shF D off f), forget1 σ id, killA id)
    | some (.vars cs) => match off, len, cs with
      | 0, 1, l :: t => match flatCs (l :: t) with
        | some ds => some (.l (l :: t).length 1 (fun _ => ds), forget1 σ id, killA id)
        | none => none
      | _, _, _ => none
    | _ => none
  | .q id i j none _ => match look σ.store id with
    | some (.deep sz m F) => match nthO (F i) j with
      | some (.l sz' n' f) => some (.l sz' n' f, mapSt (killS id) (putObj σ id (.deep sz m (D.setF F i (setD1 (F i) j .x)))), killS id)
      | _ => none
    | _ => none
  | _ => none
def takeCs (D : Ops) : List Leaf → St → (Leaf → Leaf) → Option (List DV × St × (Leaf → Leaf))
  | [], σ, h => some ([], σ, h)
  | l :: t, σ, h => match takeC D σ (h l) with
    | some (d, σ', h1) => match takeCs D t σ' (fun l => h1 (h l)) with
      | some (ds, σ'', h2) => some (d :: ds, σ'', h2)
      | none => none
    | none => none

/-- A view with what it shows. -/
def see (D : Ops) (st : List (Nat × Obj)) : Leaf → Leaf
  | .q id i j v n => match look st id with
    | some (.deep _ _ F) => match nthO (F i) j with
      | some (.l sz' _ f) => match v with
        | none => .sn id n f
        | some (off, sz) => match Nat.beq sz' sz with
          | true => .sn id n (shF D off f)
          | false => .un
      | _ => .un
    | _ => .un
  | l => l

/-- Deep data out of a leaf, to be read. -/
def roD (D : Ops) (st : List (Nat × Obj)) (l : Leaf) : Option DV :=
  match see D st l with
  | .s v => some (.s v)
  | .nil => some (.l 0 0 (fun _ => []))
  | .r n f => some (.l 0 n f)
  | .sn _ n f => some (.l 0 n f)
  | .o id off len => match look st id with
    | some (.deep sz _ f) => some (.l sz len (shF D off f))
    | some (.vars (c :: cs)) => match off, len with
      | 0, 1 => match flatCs (c :: cs) with
        | some ds => some (.l (c :: cs).length 1 (fun _ => ds))
        | none => none
      | _, _ => none
    | _ => none
  | _ => none
def allS {α β : Type} (h : α → Option β) : List α → Option (List β)
  | [] => some []
  | l :: t => match h l with
    | some d => match allS h t with
      | some ds => some (d :: ds)
      | none => none
    | none => none
/-! ### Tables: a literal's rows by its columns -/
def sameK : IntKind → IntKind → Bool
  | .i8, .i8 | .i16, .i16 | .i32, .i32 | .i64, .i64 | .u8, .u8 | .u16, .u16 | .u32, .u32 | .u64, .u64 => true
  | _, _ => false

def intsOf (k : IntKind) : List Leaf → Option (List Int)
  | [] => some []
  | .s (.int k' n) :: t => match sameK k k', intsOf k t with
    | true, some l => some (n :: l)
    | _, _ => none
  | _ => none
def strsOf : List Leaf → Option (List ByteArray)
  | [] => some []
  | .s (.string n) :: t => match strsOf t with
    | some l => some (n :: l)
    | _ => none
  | _ => none
/-- A column at row i. -/
def colAt (D : Ops) (col : List Leaf) : Option (Nat → DV) :=
  match col with
  | .s (.int k n) :: t => match intsOf k t with
    | some l => some fun i => .s (.int k (D.nthI (n :: l) i))
    | none => none
  | .s (.string n) :: t => match strsOf t with
    | some l => some fun i => .s (.string (D.nthS (n :: l) i))
    | none => none
  | _ => none
def colsFrom (D : Ops) (rows : List (List Leaf)) (sz : Nat) : Nat → Option (List (Nat → DV))
  | 0 => some []
  | c + 1 => match colAt D (rows.map fun r => getN .un r (sz - (c + 1))), colsFrom D rows sz c with
    | some f, some l => some (f :: l)
    | _, _ => none
/-- The rows of a literal: parts laid over zero rows. -/
def eqK : Value → Value → Option (Ops → Bool)
  | .int _ a, .int _ b => some fun D => D.eqI a b
  | .string a, .string b => some fun D => D.eqS a b
  | _, _ => none
def layRows (_ : Nat) (zero : List Leaf) (len : Nat) (parts : List (Nat × List Leaf)) : List (List Leaf) :=
  parts.foldl (fun rows p => setN rows p.1 p.2) (List.replicate len zero)

def cellsOf : V → Option (List Leaf)
  | .one (.lf l) => some [l]
  | .one (.ag cs) => some cs
  | _ => none

end Go.AW
