/- The abstract calculus, part 3: the operations and the code. -/
import Derived.Test.YtfidphaoddenlaaAw2
set_option linter.unusedSimpArgs false
set_option linter.unusedVariables false
namespace Go.AW

def okK : K → Bool
  | .other => false
  | _ => true
theorem okK_ne {k : K} (h : okK k = true) : k ≠ .other := by
  rintro rfl
  simp [okK] at h
def intP (D : Ops) (op : BinOp) (kx : IntKind) (a b : Int) (k : Value → Prop) : Prop :=
  match op with
    | .add => k (.int kx (D.addI kx a b))
    | .sub => k (.int kx (D.subI kx a b))
    | .mul => k (.int kx (D.mulI kx a b))
    | .quo => need (D.neI b 0) (k (.int kx (D.quoI kx a b)))
    | .rem => need (D.neI b 0) (k (.int kx (D.remI a b)))
    | .and => k (.int kx (D.bitI .and kx a b))
    | .or => k (.int kx (D.bitI .or kx a b))
    | .xor => k (.int kx (D.bitI .xor kx a b))
    | .andNot => k (.int kx (D.bitI .andNot kx a b))
    | .shl => need (D.leI 0 b) (k (.int kx (D.shlI kx a b)))
    | .shr => need (D.leI 0 b) (k (.int kx (D.shrI kx a b)))
    | .eql => k (.bool (D.eqI a b))
    | .neq => k (.bool (D.neI a b))
    | .lss => k (.bool (D.ltI a b))
    | .leq => k (.bool (D.leI a b))
    | .gtr => k (.bool (D.ltI b a))
    | .geq => k (.bool (D.leI b a))
def isShift : BinOp → Bool
  | .shl | .shr => true
  | _ => false
def binP (D : Ops) (op : BinOp) (x y : Value) (k : Value → Prop) : Prop :=
  match x, y with
  | .int kx a, .int ky b => match isShift op, sameK kx ky with
    | false, false => False
    | _, _ => intP D op kx a b k
  | .string a, .string b => match op with
    | .add => need (D.leN (D.addN (D.lenS a) (D.lenS b)) 9223372036854775807) (k (.string (D.catS a b)))
    | .eql => k (.bool (D.eqS a b))
    | .neq => k (.bool (D.neS a b))
    | .lss => k (.bool (D.ltS a b))
    | .leq => k (.bool (D.leS a b))
    | .gtr => k (.bool (D.gtS a b))
    | .geq => k (.bool (D.geS a b))
    | _ => False
  | _, _ => False
/-- Bools told apart. -/
def eqBP (D : Ops) (op : BinOp) (a b : Bool) (k : Value → Prop) : Prop :=
  match op with
  | .eql => D.cnd a (fun _ => k (.bool b)) (fun _ => D.cnd b (fun _ => k (.bool false)) (fun _ => k (.bool true)))
  | .neq => D.cnd a (fun _ => D.cnd b (fun _ => k (.bool false)) (fun _ => k (.bool true))) (fun _ => k (.bool b))
  | _ => False
def isBo : K → Bool
  | .bool => true
  | _ => false
def binB (D : Ops) (kd : K) (op : BinOp) (x y : Value) (k : Value → Prop) : Prop :=
  match x, y with
  | .bool a, .bool b => need (isBo kd) (eqBP D op a b k)
  | x, y => binP D op x y k

def unP (D : Ops) (op : UnOp) (x : Value) (k : Value → Prop) : Prop :=
  match op, x with
  | .neg, .int kx a => k (.int kx (D.subI kx 0 a))
  | .not, .bool b => D.cnd b (fun _ => k (.bool false)) (fun _ => k (.bool true))
  | _, _ => False

/-- Is it a kind whose values are told apart by one cell? -/
def setCells : List Leaf → Nat → List Leaf → Option (List Leaf)
  | l, 0, vs => go l vs
  | [], _ + 1, _ => none
  | a :: l, j + 1, vs => match setCells l j vs with
    | some t => some (a :: t)
    | none => none
  where
  go : List Leaf → List Leaf → Option (List Leaf)
  | l, [] => some l
  | [], _ :: _ => none
  | _ :: l, v :: vs => match go l vs with
    | some t => some (v :: t)
    | none => none
def setDs : List DV → Nat → List DV → Option (List DV)
  | l, 0, vs => go l vs
  | [], _ + 1, _ => none
  | a :: l, j + 1, vs => match setDs l j vs with
    | some t => some (a :: t)
    | none => none
  where
  go : List DV → List DV → Option (List DV)
  | l, [] => some l
  | [], _ :: _ => none
  | _ :: l, v :: vs => match go l vs with
    | some t => some (v :: t)
    | none => none
/-- Owned data put into a row. -/
def stowP (D : Ops) (σ : St) (ds : List DV) (a : Leaf) (k : St → Prop) : Prop :=
  match a with
  | .pr id i j => match look σ.store id with
    | some (.deep sz n f) => match setDs (f i) j ds with
      | some row => k (mapSt (killQ id) (putObj σ id (.deep sz n (D.setF f i row))))
      | none => False
    | _ => False
  | .qp id i j kk l sz2 => match look σ.store id with
    | some (.deep sz n F) => match nthO (F i) j with
      | some (.l sz' n' f) => match Nat.beq sz' sz2, setDs (f kk) l ds with
        | true, some row => k (mapSt (killS id) (putObj σ id (.deep sz n (D.setF F i (setD1 (F i) j (.l sz' n' (D.setF f kk row)))))))
        | _, _ => False
      | _ => False
    | _ => False
  | _ => False
def storeP (D : Ops) (σ : St) (a : Leaf) (cs : List Leaf) (k : St → Prop) : Prop :=
  match a with
  | .p id j => match look σ.store id with
    | some (.vars cells) => match setCells cells j cs with
      | some cells' => k (mapSt (killQ id) (putObj σ id (.vars cells')))
      | none => False
    | _ => False
  | a => match takeCs D cs σ (fun l => l) with
    | some (ds, σ', h) => stowP D σ' ds (h a) k
    | none => False

/-- Rows without slices? -/
def flatTI (i : TI) : Bool := i.zero.all fun | .slice _ _ _ => false | _ => true
/-- The rows of what is appended: their number, the rows, the state behind, what has become of leaves. -/
def rowsIn (D : Ops) (fl : Bool) (sz : Nat) (σ : St) (x : V) (k : Nat → (Nat → List DV) → St → (Leaf → Leaf) → Prop) : Prop :=
  match x with
  | .one (.lf l) => match l, fl with
    | .o id off len, fl => match look σ.store id, fl with
      | some (.deep _ _ f), true => D.FlatRows len (shF D off f) sz ∧ k len (shF D off f) σ (fun l => l)
      | some (.deep _ _ _), false => match takeC D σ (.o id off len) with
        | some (.l sz' n f, σ', h) => need (Nat.beq sz' sz) (k n f σ' h)
        | _ => False
      | some (.vars cs), _ => match off, len with
        | 0, 1 => need (Nat.beq cs.length sz) (match takeCs D cs (forget1 σ id) (killA id) with
          | some (ds, σ', h) => k 1 (fun _ => ds) σ' h
          | none => False)
        | _, _ => False
      | _, _ => False
    | .q id i j v n, false => match takeC D σ (.q id i j v n) with
      | some (.l sz' n f, σ', h) => need (Nat.beq sz' sz) (k n f σ' h)
      | _ => False
    | l, _ => match see D σ.store l with
      | .nil => k 0 (fun _ => []) σ (fun l => l)
      | .r n f => D.FlatRows n f sz ∧ k n f σ (fun l => l)
      | .sn _ n f => D.FlatRows n f sz ∧ k n f σ (fun l => l)
      | .s (.string s) => need (Nat.beq sz 1) (k (D.lenS s) (fun i => [.s (.int .u8 (D.byteS s i))]) σ (fun l => l))
      | _ => False
  | _ => False

def fixSz (sz : Nat) : Nat → Nat
  | 0 => sz
  | z => z
/-- What is appended to, as an object of its own. -/
def ontoP (D : Ops) (sz : Nat) (σ : St) (s : V) (k : Leaf → St → Prop) : Prop :=
  match s with
  | .one (.lf .nil) => k .nil σ
  | .one (.lf (.o id off len)) => match look σ.store id, off, len with
    | some (.vars (l :: t)), 0, 1 => match flatCs (l :: t) with
      | some ds => k (.o id 0 1) (mapSt (killQ id) (putObj σ id (.deep (l :: t).length 1 (fun _ => ds))))
      | none => False
    | _, _, _ => k (.o id off len) σ
  | .one (.lf (.q id i j none n)) => match takeC D σ (.q id i j none n) with
    | some (.l sz' n' f, σ', _) => k (.o σ'.next 0 n') (mkObj σ' (.deep (fixSz sz sz') n' f))
    | _ => False
  | _ => False

def appendP (D : Ops) (E : Env) (σ : St) (t : Nat) (s x : V) (k : V → St → Prop) : Prop :=
  match (E t).k with
  | .sl e => match okK (E e).k, (E e).size with
    | true, sz + 1 => need (Nat.ble 1 (E e).bytes) (rowsIn D (flatTI (E e)) (sz + 1) σ x fun m g σ1 h => ontoP D (sz + 1) σ1 (mapV h s) fun s σ2 => match s with
      | .nil => need (D.roomN m (E e).bytes) (k (.one (.lf (.o σ2.next 0 m))) (mkObj σ2 (.deep (sz + 1) m g)))
      | .o id off len => match look σ2.store id with
        | some (.deep sz' n f) => need (Nat.beq sz' (sz + 1)) (need (D.leN (D.addN off len) n) (need (D.roomN (D.addN len m) (E e).bytes)
            (k (.one (.lf (.o id 0 (D.addN len m)))) (mapSt (killA id) (putObj σ2 id (.deep sz' (D.addN len m) (D.catF len (shF D off f) m g)))))))
        | _ => False
      | _ => False)
    | _, _ => False
  | _ => False

def clearP (D : Ops) (ds : List DV) (σ : St) (v : V) (k : St → Prop) : Prop :=
  match v with
  | .one (.lf .nil) => k σ
  | .one (.lf (.o id off len)) => match look σ.store id with
    | some (.deep sz n f) => need (Nat.beq sz ds.length) (k (mapSt (killQ id) (putObj σ id (.deep sz n (D.zapF f off len ds)))))
    | _ => False
  | .one (.lf (.q id i j v len)) => match look σ.store id with
    | some (.deep sz n F) => match nthO (F i) j with
      | some (.l sz' n' f) => need (Nat.beq sz' ds.length) (match v with
        | none => k (mapSt (killS id) (putObj σ id (.deep sz n (D.setF F i (setD1 (F i) j (.l sz' n' (D.zapF f 0 len ds)))))))
        | some (off, sz2) => need (Nat.beq sz2 sz') (k (mapSt (killS id) (putObj σ id (.deep sz n (D.setF F i (setD1 (F i) j (.l sz' n' (D.zapF f off len ds))))))))) 
      | _ => False
    | _ => False
  | _ => False

def isSl : K → Bool
  | .sl _ => true
  | _ => false
/-- Is it nil? With elements it is not; without, it may be. -/
def nilN (D : Ops) (n : Nat) (k : Bool → Prop) : Prop := D.cnd (D.eqN n 0) (fun _ => k true ∧ k false) (fun _ => k false)
def nilP (D : Ops) (v : V) (k : Bool → Prop) : Prop :=
  match v with
  | .one (.lf .nil) => k true
  | .one (.lf (.r n _)) => nilN D n k
  | .one (.lf (.sn _ n _)) => nilN D n k
  | .one (.lf (.q _ _ _ _ n)) => nilN D n k
  | .one (.lf (.o _ _ n)) => nilN D n k
  | _ => False
def lenP (D : Ops) (ty : K) (v : V) (k : V → Prop) : Prop :=
  match ty, v with
  | .str, .one (.lf (.s (.string s))) => k (.one (.lf (.s (.int .i64 (D.ofN (D.lenS s))))))
  | .sl _, .one (.lf .nil) => k (.one (.lf (.s (.int .i64 (D.ofN 0)))))
  | .sl _, .one (.lf (.r n _)) => k (.one (.lf (.s (.int .i64 (D.ofN n)))))
  | .sl _, .one (.lf (.sn _ n _)) => k (.one (.lf (.s (.int .i64 (D.ofN n)))))
  | .sl _, .one (.lf (.q _ _ _ _ n)) => k (.one (.lf (.s (.int .i64 (D.ofN n)))))
  | .sl _, .one (.lf (.o _ _ n)) => k (.one (.lf (.s (.int .i64 (D.ofN n)))))
  | _, _ => False

def idxP (D : Ops) (i : Int) (n : Nat) (P : Prop) : Prop := need (D.leI 0 i) (need (D.ltI i (D.ofN n)) P)

def rowN (D : Ops) (off : Nat) (i : Int) : Nat :=
  match off with
  | 0 => D.natI i
  | o => D.addN o (D.natI i)
def rowO (D : Ops) (v : Option (Nat × Nat)) (i : Int) : Nat :=
  match v with
  | none => D.natI i
  | some (off, _) => rowN D off i
def viewSz (sz : Nat) : Option (Nat × Nat) → Bool
  | none => true
  | some (_, z) => Nat.beq z sz
def indexAddrP (D : Ops) (sz : Nat) (v : V) (i : Int) (σ : St) (k : V → Prop) : Prop :=
  match v with
  | .one (.lf (.r n f)) => idxP D i n (need (Nat.beq (f (D.natI i)).length sz) (k (.one (.lf (.rp (f (D.natI i)))))))
  | .one (.lf (.sn id n f)) => idxP D i n (need (Nat.beq (f (D.natI i)).length sz) (k (.one (.lf (.sp id (f (D.natI i)))))))
  | .one (.lf (.q id i' j v n)) => idxP D i n (need (viewSz sz v) (k (.one (.lf (.qp id i' j (rowO D v i) 0 sz)))))
  | .one (.lf (.o id off len)) => match look σ.store id with
    | some (.deep _ _ f) => idxP D i len (need (Nat.beq (f (rowN D off i)).length sz) (k (.one (.lf (.pr id (rowN D off i) 0)))))
    | _ => False
  | _ => False

def boundsP (D : Ops) (lo hi : Option Int) (n : Nat) (k : Option Nat → Nat → Prop) : Prop :=
  match lo, hi with
  | some l, some h => need (D.leI 0 l) (need (D.leI l h) (need (D.leI h (D.ofN n)) (k (some (D.natI l)) (D.spanN l h))))
  | some l, none => need (D.leI 0 l) (need (D.leI l (D.ofN n)) (k (some (D.natI l)) (D.spanN l (D.ofN n))))
  | none, some h => need (D.leI 0 h) (need (D.leI h (D.ofN n)) (k none (D.natI h)))
  | none, none => k none n
def shO (D : Ops) (lo : Option Nat) (f : Nat → List DV) : Nat → List DV :=
  match lo with
  | none => f
  | some a => fun i => f (D.addN a i)
def offO (D : Ops) (lo : Option Nat) (off : Nat) : Nat :=
  match lo, off with
  | none, o => o
  | some a, 0 => a
  | some a, o => D.addN o a
def subV (D : Ops) (sz : Nat) (lo : Option Nat) : Option (Nat × Nat) → Option (Nat × Nat)
  | none => some (offO D lo 0, sz)
  | some (off, _) => some (offO D lo off, sz)
def cutP (D : Ops) (s : ByteArray) (lo hi : Option Int) (k : ByteArray → Prop) : Prop :=
  match lo, hi with
  | some l, some h => need (D.leI 0 l) (need (D.leI l h) (need (D.leI h (D.ofN (D.lenS s))) (k (D.cutS s l h))))
  | some l, none => need (D.leI 0 l) (need (D.leI l (D.ofN (D.lenS s))) (k (D.cutS s l (D.ofN (D.lenS s)))))
  | none, some h => need (D.leI 0 h) (need (D.leI h (D.ofN (D.lenS s))) (k (D.cutS s 0 h)))
  | none, none => k s
def sliceP (D : Ops) (sz : Nat) (σ : St) (v : V) (lo hi : Option Int) (k : V → Prop) : Prop :=
  match v with
  | .one (.lf .nil) => boundsP D lo hi 0 fun _ _ => k (.one (.lf .nil))
  | .one (.lf (.r n f)) => boundsP D lo hi n fun l m => D.RowsLen n f sz ∧ k (.one (.lf (.r m (shO D l f))))
  | .one (.lf (.sn id n f)) => boundsP D lo hi n fun l m => D.RowsLen n f sz ∧ k (.one (.lf (.sn id m (shO D l f))))
  | .one (.lf (.q id i j v n)) => need (viewSz sz v) (boundsP D lo hi n fun l m => k (.one (.lf (.q id i j (subV D sz l v) m))))
  | .one (.lf (.o id off n)) => match look σ.store id with
    | some (.deep sz' _ _) => need (Nat.beq sz' sz) (boundsP D lo hi n fun l m => k (.one (.lf (.o id (offO D l off) m))))
    | _ => False
  | _ => False

def convP (D : Ops) (E : Env) (src dst : Nat) (v : V) (σ : St) (k : V → St → Prop) : Prop :=
  match okK (E src).k with
  | false => False
  | true => match (E dst).k, v with
  | .int kd, .one (.lf (.s (.int _ n))) => k (.one (.lf (.s (.int kd (D.wrapI kd n))))) σ
  | .str, .one (.lf (.s (.string s))) => k (.one (.lf (.s (.string s)))) σ
  | .str, .one (.lf (.s (.int _ n))) => k (.one (.lf (.s (.string (D.encR n))))) σ
  | .str, .one (.lf l) => match (E src).k with
    | .sl e => match (E e).k, roD D σ.store l with
      | .int .u8, some (.l _ n f) => D.ByteRows n f ∧ k (.one (.lf (.s (.string (D.strF n f))))) σ
      | _, _ => False
    | _ => False
  | .sl e, .one (.lf (.s (.string s))) => match (E e).k with
    | .int .u8 => k (.one (.lf (.o σ.next 0 (D.lenS s)))) (mkObj σ (.deep 1 (D.lenS s) (fun i => [.s (.int .u8 (D.byteS s i))])))
    | _ => False
  | _, _ => False

def scalarV : V → Option Value
  | .one (.lf (.s v)) => some v
  | _ => none
def intV : V → Option Int
  | .one (.lf (.s (.int _ n))) => some n
  | _ => none
def intO (σ : St) : Option Operand → Option (Option Int)
  | none => some none
  | some x => match intV (evA σ x) with
    | some n => some (some n)
    | none => none

def partsV (σ : St) : List (Nat × Operand) → Option (List (Nat × List Leaf))
  | [] => some []
  | (i, x) :: t => match cellsOf (evA σ x), partsV σ t with
    | some cs, some l => some ((i, cs) :: l)
    | _, _ => none

/-- What a call of function g comes to: told by its meaning (part 5). -/
abbrev CallT := Nat → List V → St → (V → St → Prop) → Prop

def zeroC : Value → Option DV
  | .slice none 0 0 => some (.l 0 0 (fun _ => []))
  | .int k n => some (.s (.int k n))
  | .bool b => some (.s (.bool b))
  | .string s => some (.s (.string s))
  | _ => none

/-- A struct's cells with some fields filled. -/
def buildC (fs : List (Nat × Nat)) (cells : List Leaf) : List (Nat × List Leaf) → Option (List Leaf)
  | [] => some cells
  | (i, cs) :: t => match nthO fs i with
    | some (off, sz) => match Nat.beq cs.length sz, setCells cells off cs with
      | true, some cells' => buildC fs cells' t
      | _, _ => none
    | none => none

def oneRow (len : Nat) : List (Nat × List Leaf) → Option (List Leaf)
  | [(i, cs)] => match Nat.beq len 1, Nat.beq i 0 with
    | true, true => some cs
    | _, _ => none
  | _ => none
def noRow (len : Nat) : List (Nat × List Leaf) → Bool
  | [] => Nat.beq len 0
  | _ => false
def buildSliceP (D : Ops) (i : TI) (σ : St) (len : Nat) (ps : List (Nat × List Leaf)) (k : V → St → Prop) : Prop :=
  match noRow len ps with
  | true => k (.one (.lf (.o σ.next 0 0))) (mkObj σ (.deep i.size 0 (fun _ => [])))
  | false => match oneRow len ps with
    | some cs => need (Nat.beq cs.length i.size && Nat.ble i.size 16777216) (k (.one (.lf (.o σ.next 0 1))) (mkObj σ (.vars cs)))
    | none => match colsFrom D (layRows i.size (i.zero.map leafOfValue) len ps) i.size i.size with
      | some cols => need (ps.all fun p => Nat.blt p.1 len && Nat.beq p.2.length i.size) (need (Nat.ble (len * i.size) 16777216) (k (.one (.lf (.o σ.next 0 len))) (mkObj σ (.deep i.size len (fun j => cols.map fun c => c j)))))
      | none => False
def opP (D : Ops) (E : Env) (C : CallT) (σ : St) (o : Oper) (k : V → St → Prop) : Prop :=
  match o.op with
  | .move x | .assign x => k (evA σ x) σ
  | .pick c a b => match scalarV (evA σ c) with
    | some (.bool t) => D.cnd t (fun _ => k (evA σ a) σ) (fun _ => k (evA σ b) σ)
    | _ => False
  | .binOp op xt x y _ => match scalarV (evA σ x), scalarV (evA σ y) with
    | some a, some b => binB D (E xt).k op a b fun v => k (.one (.lf (.s v))) σ
    | _, _ => match op, evA σ y with
      | .eql, .one (.lf .nil) => need (isSl (E xt).k) (nilP D (evA σ x) fun b => k (.one (.lf (.s (.bool b)))) σ)
      | .neq, .one (.lf .nil) => need (isSl (E xt).k) (nilP D (evA σ x) fun b => k (.one (.lf (.s (.bool (!b))))) σ)
      | _, _ => False
  | .unOp op _ x => match scalarV (evA σ x) with
    | some a => unP D op a fun v => k (.one (.lf (.s v))) σ
    | _ => False
  | .nilCheck x => match evA σ x with
    | .one (.lf (.p a b)) => k (.one (.lf (.p a b))) σ
    | .one (.lf (.pr a b c)) => k (.one (.lf (.pr a b c))) σ
    | .one (.lf (.rp r)) => k (.one (.lf (.rp r))) σ
    | .one (.lf (.sp a r)) => k (.one (.lf (.sp a r))) σ
    | .one (.lf (.qp a b c d e f)) => k (.one (.lf (.qp a b c d e f))) σ
    | .one (.lf (.fn a r)) => k (.one (.lf (.fn a r))) σ
    | .one (.lf (.fr a r)) => k (.one (.lf (.fr a r))) σ
    | _ => False
  | .extract x i => match evA σ x with
    | .tup vs => match nthO vs i with
      | some v => k (.one v) σ
      | none => False
    | _ => False
  | .fieldAddr s x f => match (E s).k with
    | .st fs => match nthO fs f with
      | some (off, _ + 1) => match evA σ x with
        | .one (.lf (.p id j)) => k (.one (.lf (.p id (j + off)))) σ
        | .one (.lf (.pr id i j)) => k (.one (.lf (.pr id i (j + off)))) σ
        | .one (.lf (.qp id i j kk l sz)) => k (.one (.lf (.qp id i j kk (l + off) sz))) σ
        | .one (.lf (.rp row)) => k (.one (.lf (.rp (row.drop off)))) σ
        | .one (.lf (.sp id row)) => k (.one (.lf (.sp id (row.drop off)))) σ
        | _ => False
      | _ => False
    | _ => False
  | .indexAddr t x i => match (E t).k, intV (evA σ i) with
    | .sl e, some n => match okK (E e).k with
      | true => indexAddrP D (E e).size (evA σ x) n σ fun v => k v σ
      | false => False
    | _, _ => False
  | .index t x i => match (E t).k, evA σ x, intV (evA σ i) with
    | .str, .one (.lf (.s (.string s))), some n => idxP D n (D.lenS s) (k (.one (.lf (.s (.int .u8 (D.byteS s (D.natI n)))))) σ)
    | _, _, _ => False
  | .load t a => match okK (E t).k, evA σ a with
    | true, .one (.lf l) => match readAt σ l (E t).size with
      | some cs => match packV (isAg (E t).k) cs with
        | some v => k v σ
        | none => False
      | none => False
    | _, _ => False
  | .store t a x => match okK (E t).k, evA σ a, cellsOf (evA σ x) with
    | true, .one (.lf l), some cs => need (decide (cs.length = (E t).size)) (storeP D σ l cs fun σ' => k undefV σ')
    | _, _, _ => False
  | .slice t x lo hi none => match intO σ lo, intO σ hi with
    | some l, some h => match (E t).k with
      | .sl e => match okK (E e).k with
        | true => sliceP D (E e).size σ (evA σ x) l h fun v => k v σ
        | false => False
      | .str => match evA σ x with
        | .one (.lf (.s (.string s))) => cutP D s l h fun s' => k (.one (.lf (.s (.string s')))) σ
        | _ => False
      | _ => False
    | _, _ => False
  | .convert src dst x => convP D E src dst (evA σ x) σ k
  | .alloc t => need (okK (E t).k) (k (.one (.lf (.p σ.next 0))) (mkObj σ (.vars ((E t).zero.map leafOfValue))))
  | .box _ x => match cellsOf (evA σ x) with
    | some cs => k (.one (.lf (.p σ.next 0))) (mkObj σ (.vars cs))
    | none => False
  | .build t parts => match (E t).k, partsV σ parts.toList with
    | .st fs, some ps => match buildC fs ((E t).zero.map leafOfValue) ps with
      | some cs => k (.one (.ag cs)) σ
      | none => False
    | _, _ => False
  | .buildSlice t len parts => match (E t).k, partsV σ parts.toList with
    | .sl e, some ps => match okK (E e).k with
      | true => need (Nat.ble 1 (E e).size) (buildSliceP D (E e) σ len ps k)
      | false => False
    | _, _ => False
  | .makeSlice t l c => match (E t).k, intV (evA σ l), intV (evA σ c) with
    | .sl e, some n, some m => match okK (E e).k with
      | true => need (Nat.ble 1 (E e).size) (need (D.leI 0 n) (need (D.leI n m) (need (Nat.ble 1 (E e).bytes) (need (D.roomN (D.natI m) (E e).bytes)
        (match allS zeroC (E e).zero with
        | some ds => k (.one (.lf (.o σ.next 0 (D.natI n)))) (mkObj σ (.deep (E e).size (D.natI n) (fun _ => ds)))
        | none => False)))))
      | false => False
    | _, _, _ => False
  | .range t x => match (E t).k, evA σ x with
    | .str, .one (.lf (.s (.string s))) => k (.one (.lf (.p σ.next 0))) (mkObj σ (.it s 0))
    | _, _ => False
  | .next x true => match evA σ x with
    | .one (.lf (.p id 0)) => match look σ.store id with
      | some (.it s pos) => D.cnd (D.ltN pos (D.lenS s))
        (fun _ => k (.tup [.lf (.s (.bool true)), .lf (.s (.int .i64 (D.ofN pos))), .lf (.s (.int .i32 (D.decR s pos)))]) (mapSt (killQ id) (putObj σ id (.it s (D.addN pos (D.decW s pos))))))
        (fun _ => k (.tup [.lf (.s (.bool false))]) σ)
      | _ => False
    | _ => False
  | .makeFunc (.func f) first caps => match first.toList, allS (fun x => match evA σ x with | .one (.lf (.p id j)) => some (id, j) | _ => none) caps.toList with
    | [], some cs => k (.one (.lf (.fn f cs))) σ
    | _, _ => False
  | .call c => match c.callee with
    | .value f => match evA σ f with
      | .one (.lf (.fr g rows)) => C g ((c.args.map (evA σ)).toList ++ rows.map fun p => .one (.lf (.rp p))) σ k
      | .one (.lf (.fn g caps)) => C g ((c.args.map (evA σ)).toList ++ caps.map fun p => .one (.lf (.p p.1 p.2))) σ k
      | _ => False
    | .builtin .len => match c.args.toList, c.argTypes.toList with
      | [x], [ty] => match okK (E ty).k with
        | true => lenP D (E ty).k (evA σ x) fun v => k v σ
        | false => False
      | _, _ => False
    | .builtin .append => match c.args.toList, c.argTypes.toList with
      | [s, x], [t, t2] => match (E t2).k with
        | .sl _ | .str => appendP D E σ t (evA σ s) (evA σ x) k
        | _ => False
      | _, _ => False
    | .builtin .min => match c.args.toList with
      | [x, y] => match evA σ x, evA σ y with
        | .one (.lf (.s (.int kk a))), .one (.lf (.s (.int _ b))) => k (.one (.lf (.s (.int kk (D.minI a b))))) σ
        | _, _ => False
      | _ => False
    | .builtin .max => match c.args.toList with
      | [x, y] => match evA σ x, evA σ y with
        | .one (.lf (.s (.int kk a))), .one (.lf (.s (.int _ b))) => k (.one (.lf (.s (.int kk (D.maxI a b))))) σ
        | _, _ => False
      | _ => False
    | _ => False
  | _ => False

def setD (σ : St) (d : Option Tmp) (v : V) : St :=
  match d with
  | some t => { σ with slots := setN σ.slots t v }
  | none => σ

/-- One operation under its guard. -/
def stepP (D : Ops) (E : Env) (C : CallT) (ops : List Oper) (σ : St) (o : Oper) (k : V → St → Prop) : Prop :=
  match o.guard with
  | none => opP D E C σ o k
  | some (j, want) =>
    match nthO ops j with
    | some oj => match oj.dst with
      | some d => match getN undefV σ.slots d with
        | .one (.lf (.s (.bool b))) =>
          D.cnd b
            (fun _ => match want with
              | true => opP D E C { σ with slots := setN σ.slots d (.one (.lf (.s (.bool true)))) } o k
              | false => k undefV { σ with slots := setN σ.slots d (.one (.lf (.s (.bool true)))) })
            (fun _ => match want with
              | true => k undefV { σ with slots := setN σ.slots d (.one (.lf (.s (.bool false)))) }
              | false => opP D E C { σ with slots := setN σ.slots d (.one (.lf (.s (.bool false)))) } o k)
        | .tup [] => k undefV σ
        | _ => False
      | none => False
    | none => False

/-- The operations of a region in the text's order. -/
def opsP (D : Ops) (E : Env) (C : CallT) (ops : List Oper) : List Oper → St → (St → Prop) → Prop
  | [], σ, K => K σ
  | o :: os, σ, K => stepP D E C ops σ o fun v σ' => opsP D E C ops os (setD σ' o.dst v) K

/-! ### Regions that draw their order -/
def bindsB : Ground → Bool
  | .textOnly _ | .gcOnly _ => false
  | _ => true
def afterL (o : Oper) : List Nat := (o.after.toList.filter fun e => bindsB e.ground).map (·.on)
def memN : List Nat → Nat → Bool
  | [], _ => false
  | a :: l, n => bif Nat.beq a n then true else memN l n
def quietOp (E : Env) : Op → Bool
  | .move _ | .pick .. | .binOp .. | .unOp .. | .nilCheck _ | .extract .. | .fieldAddr .. | .indexAddr .. | .index .. | .load .. | .slice .. | .build .. | .makeFunc .. => true
  | .convert _ dst _ => match (E dst).k with
    | .sl _ => false
    | _ => true
  | .call c => match c.callee with
    | .builtin .len | .builtin .min | .builtin .max => true
    | _ => false
  | _ => false
/-- All that lies before: by the edges. -/
def befL : List Oper → List (List Nat) → List (List Nat)
  | [], acc => acc
  | o :: os, acc => befL os (acc ++ [(afterL o).foldl (fun s j => j :: (getN [] acc j ++ s)) []])
def tmpsOf (xs : List Operand) : List Nat := xs.filterMap fun | .tmp t => some t | _ => none
def readsL (ops : List Oper) (o : Oper) : List Nat :=
  tmpsOf o.op.operands.toList ++ (match o.guard with
    | some (j, _) => match nthO ops j with
      | some oj => match oj.dst with
        | some d => [d]
        | none => []
      | none => []
    | none => [])
/-- The next operation, the quiet ones first. -/
def nextQ (E : Env) (q : Bool) (done : List Nat) : List Oper → Nat → Option Nat
  | [], _ => none
  | o :: os, i => match memN done i, (quietOp E o.op == q) && (afterL o).all (memN done) with
    | false, true => some i
    | _, _ => nextQ E q done os (i + 1)
def schedL (E : Env) (ops : List Oper) : Nat → List Nat → List Nat
  | 0, _ => []
  | n + 1, done => match nextQ E true done ops 0 with
    | some i => i :: schedL E ops n (i :: done)
    | none => match nextQ E false done ops 0 with
      | some i => i :: schedL E ops n (i :: done)
      | none => []
/-- What the order of a draw must keep: pairs of the schedule, the earlier first. -/
def pairOk (E : Env) (ops : List Oper) (bef : List (List Nat)) (i j : Nat) (oi oj : Oper) : Bool :=
  -- i comes before j in the schedule
  !(memN (getN [] bef i) j) &&
  (match oj.dst with
   | some d => match quietOp E oj.op with
     | true => !(memN (readsL ops oi) d) && (match oi.dst with | some e => !(Nat.beq e d) | none => true)
     | false => match quietOp E oi.op with
       | true => memN (getN [] bef j) i || (!(memN (readsL ops oi) d) && (match oi.dst with | some e => !(Nat.beq e d) | none => true))
       | false => true
   | none => true) &&
  (match oi.dst with
   | some d => match quietOp E oi.op with
     | true => !(memN (readsL ops oj) d) || memN (getN [] bef j) i
     | false => true
   | none => true) &&
  (quietOp E oi.op || memN (getN [] bef j) i)
def pairsOk (E : Env) (ops : List Oper) (bef : List (List Nat)) : List Nat → Bool
  | [] => true
  | i :: l => l.all (fun j => match nthO ops i, nthO ops j with | some oi, some oj => pairOk E ops bef i j oi oj | _, _ => false) && pairsOk E ops bef l
def isSelect : Op → Bool
  | .select _ _ => true
  | _ => false
def selfOk (E : Env) (ops : List Oper) (n : Nat) : List Oper → Nat → Bool
  | [], _ => true
  | o :: os, i => (afterL o).all (fun j => Nat.blt j i) && !(isSelect o.op) && (match o.dst with | some d => Nat.blt d n && (!(quietOp E o.op) || !(memN (readsL ops o) d)) | none => !(quietOp E o.op)) && selfOk E ops n os (i + 1)
def allIn (l : List Nat) : Nat → Bool
  | 0 => true
  | n + 1 => memN l n && allIn l n

/-- Quiet ones that may come behind: they must read as before. -/
def recheckP (D : Ops) (E : Env) (C : CallT) (ops : List Oper) (σ : St) : List Nat → Prop → Prop
  | [], P => P
  | j :: js, P => match nthO ops j with
    | some oj => (match oj.dst with
      | some d => stepP D E C ops σ oj fun v _ => v = getN undefV σ.slots d
      | none => False) ∧ recheckP D E C ops σ js P
    | none => False
def opsG (D : Ops) (E : Env) (C : CallT) (ops : List Oper) (bef : List (List Nat)) : List Nat → List Nat → St → (St → Prop) → Prop
  | [], _, σ, K => K σ
  | i :: rest, q, σ, K => match nthO ops i with
    | some o => stepP D E C ops σ o fun v σ' => match quietOp E o.op with
      | true => opsG D E C ops bef rest (q ++ [i]) (setD σ' o.dst v) K
      | false => recheckP D E C ops (setD σ' o.dst v) (q.filter fun j => !(memN (getN [] bef i) j)) (opsG D E C ops bef rest q (setD σ' o.dst v) K)
    | none => False
def drawP (D : Ops) (E : Env) (C : CallT) (ops : List Oper) (σ : St) (K : St → Prop) : Prop :=
  let bef := befL ops []
  let sched := schedL E ops ops.length []
  need (pairsOk E ops bef sched && (selfOk E ops σ.slots.length ops 0 && allIn sched ops.length)) (opsG D E C ops bef sched [] σ K)

/-- What a loop comes to, told by its body's meaning. -/
abbrev LoopT := Code → (St → (Exit → St → Prop) → Prop) → St → (Exit → St → Prop) → Prop

def AWP (D : Ops) (E : Env) (C : CallT) (L : LoopT) : Code → St → (Exit → St → Prop) → Prop
  | .skip, σ, K => K .normal σ
  | .label _, σ, K => K .normal σ
  | .region _ ops false, σ, K => opsP D E C ops.toList ops.toList σ (fun σ' => D.stp fun _ => K .normal σ')
  | .region _ ops true, σ, K => drawP D E C ops.toList σ (fun σ' => D.stp fun _ => K .normal σ')
  | .seq a b, σ, K => AWP D E C L a σ fun e σ' => match e with
    | .normal => AWP D E C L b σ' K
    | e => K e σ'
  | .cond c x y, σ, K => match scalarV (evA σ c) with
    | some (.bool t) => D.cnd t (fun _ => AWP D E C L x σ K) (fun _ => AWP D E C L y σ K)
    | _ => False
  | .block id c, σ, K => AWP D E C L c σ fun e σ' => match e with
    | .exit id' => match Nat.beq id' id with
      | true => K .normal σ'
      | false => K (.exit id') σ'
    | e => K e σ'
  | .loop c, σ, K => L c (fun σ K => AWP D E C L c σ K) σ K
  | .exit id, σ, K => K (.exit id) σ
  | .ret, σ, K => K .ret σ
  | _, _, _ => False

end Go.AW
