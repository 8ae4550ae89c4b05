/- The tables of the seat's program (whole-number cells of package-level variables). -/
import Derived.Calls
import Derived.Lib.ItoaNum
import Derived.WalkKit
import Derived.Below
import Derived.Lib.FrozenHead
import Derived.ChangeKeysEq
import Derived.IntWalk
import Derived.Laws.CopyRow
import Derived.Laws.Append
set_option linter.unusedVariables false
set_option linter.unusedSimpArgs false
namespace Go.AW
def tabZ : Nat → Option (IntKind × List Int)
  | 3 => some (.u64, Go.Lib.pow10Tab)
  | _ => none
end Go.AW
/- The abstract calculus, part 1: deep data, the abstract state, how it lies in the machine's world. -/
namespace Go.AW

/-- Deep data: a scalar, or a slice by its length and its rows (a row: the cells of one element). -/
inductive DV where
  | s (v : Value)
  | l (sz n : Nat) (f : Nat → List DV)
  | x

abbrev FP := Nat → Prop

/-- What a temporary or a cell of a local variable holds. -/
inductive Leaf where
  | s (v : Value)
  | nil
  | r (n : Nat) (f : Nat → List DV)
  | sn (id n : Nat) (f : Nat → List DV)
  | o (id off len : Nat)
  | q (id i j : Nat) (v : Option (Nat × Nat)) (n : Nat)
  | p (id j : Nat)
  | pr (id i j : Nat)
  | qp (id i j k l sz : Nat)
  | m (id : Nat)
  | rp (row : List DV)
  | sp (id : Nat) (row : List DV)
  | fn (f : Nat) (caps : List (Nat × Nat))
  | fr (f : Nat) (rows : List (List DV))
  | fb (f id j : Nat)
  | gt (g r c sz : Nat)
  | ln (n : Nat)
  | un

inductive V1 where
  | lf (l : Leaf)
  | ag (cs : List Leaf)
inductive V where
  | one (v : V1)
  | tup (vs : List V1)
  | bad

inductive Obj where
  | deep (sz n : Nat) (f : Nat → List DV)
  | lent (sz n : Nat)
  | lentV (n : Nat)
  | it (s : ByteArray) (pos : Nat)
  | mp (es : List (Value × Leaf))
  | arr (n : Nat) (f : Nat → List DV) (ws : List Value)
  | vars (cells : List Leaf)
  | frame (us : List Value) (vs : List V)

structure St where
  slots : List V
  store : List (Nat × Obj)
  next : Nat

def getN {α : Type} (d : α) : List α → Nat → α
  | [], _ => d
  | a :: _, 0 => a
  | _ :: l, n + 1 => getN d l n
def setN {α : Type} : List α → Nat → α → List α
  | [], _, _ => []
  | _ :: l, 0, v => v :: l
  | a :: l, n + 1, v => a :: setN l n v
def look {α : Type} : List (Nat × α) → Nat → Option α
  | [], _ => none
  | (i, o) :: t, j => bif Nat.beq i j then some o else look t j
def put {α : Type} : List (Nat × α) → Nat → α → List (Nat × α)
  | [], _, _ => []
  | (i, o) :: t, j, v => bif Nat.beq i j then (i, v) :: t else (i, o) :: put t j v
def drop {α : Type} : List (Nat × α) → Nat → List (Nat × α)
  | [], _ => []
  | (i, o) :: t, j => bif Nat.beq i j then drop t j else (i, o) :: drop t j

abbrev undefV : V := .tup []

/-! ### How deep data lies in a world -/

/-- Nothing of the first n cells is frozen. -/
def Unfrozen (fr : Nat × Nat) (n : Nat) : Prop := fr.2 ≤ fr.1 ∨ n ≤ fr.1

/-- Read-only: v reads as the datum; every block that is looked at is in F. -/
inductive RoT (w : World) (F : FP) : Value → DV → Prop where
  | x (v : Value) (h1 : v.oneCell' = true) : RoT w F v .x
  | s (v : Value) (h1 : v.oneCell' = true) : RoT w F v (.s v)
  | nl (z : Nat) (a : Option Addr) (cap : Nat) (g : Nat → List DV) : RoT w F (.slice a 0 cap) (.l z 0 g)
  | bl (z b off n cap sz : Nat) (g : Nat → List DV) (cs : Array Value) (t : TypeId) (fr : Nat × Nat) (vs : Nat → Nat → Value) (hF : F b)
      (hb : w.heap[b]? = some (.cells cs t fr)) (hn : n ≤ cap) (hsz : ∀ i, i < n → (g i).length = sz)
      (hv : ∀ i j d, i < n → (g i)[j]? = some d → cs[off + i * sz + j]? = some (vs i j)) (hd : ∀ i j d, i < n → (g i)[j]? = some d → RoT w F (vs i j) d) :
      RoT w F (.slice (some ⟨b, off, none⟩) n cap) (.l z n g)

theorem RoT.resz {w : World} {F : FP} {u : Value} {z n : Nat} {f : Nat → List DV} (h : RoT w F u (.l z n f)) (z' : Nat) : RoT w F u (.l z' n f) := by
  cases h with
  | nl z a cap g => exact .nl _ _ _ _
  | bl z b off n cap sz g cs t fr vs hF hb hn hsz hv hd => exact .bl _ b off n cap sz _ cs t fr vs hF hb hn hsz hv hd

/-- Owned: as above; the blocks are in F, each met once; nothing is frozen. -/
inductive OwnT (w : World) : FP → Value → DV → Prop where
  | x (F : FP) (v : Value) (h1 : v.oneCell' = true) : OwnT w F v .x
  | s (F : FP) (v : Value) (h1 : v.oneCell' = true) : OwnT w F v (.s v)
  | nl (z : Nat) (F : FP) (a : Option Addr) (g : Nat → List DV) : OwnT w F (.slice a 0 0) (.l z 0 g)
  | bl (F : FP) (b off n cap sz : Nat) (g : Nat → List DV) (cs : Array Value) (t : TypeId) (fr : Nat × Nat) (vs : Nat → Nat → Value) (G : Nat → Nat → FP) (hF : F b)
      (hs : 0 < sz) (hb : w.heap[b]? = some (.cells cs t fr)) (hu : Unfrozen fr cs.size) (hn : n ≤ cap) (htot : off + cap * sz ≤ cs.size) (hsz : ∀ i, i < n → (g i).length = sz)
      (hG : ∀ i j x, G i j x → F x ∧ x ≠ b) (hGd : ∀ i j i' j' x, G i j x → G i' j' x → i = i' ∧ j = j')
      (hv : ∀ i j d, i < n → (g i)[j]? = some d → cs[off + i * sz + j]? = some (vs i j)) (hd : ∀ i j d, i < n → (g i)[j]? = some d → OwnT w (G i j) (vs i j) d) :
      OwnT w F (.slice (some ⟨b, off, none⟩) n cap) (.l sz n g)

/-- What lay in F lies there still. -/
def Ext (F : FP) (w w' : World) : Prop := ∀ b o, F b → w.heap[b]? = some o → w'.heap[b]? = some o
theorem Ext.refl (F : FP) (w : World) : Ext F w w := fun _ _ _ h => h
theorem Ext.sub {F F' : FP} {w w' : World} (h : Ext F' w w') (hF : ∀ b, F b → F' b) : Ext F w w' := fun b o hb => h b o (hF b hb)
theorem Ext.trans {F : FP} {w w' w'' : World} (h : Ext F w w') (h' : Ext F w' w'') : Ext F w w'' := fun b o hb ho => h' b o hb (h b o hb ho)

theorem RoT.mono {w w' : World} {F F' : FP} {v : Value} {d : DV} (h : RoT w F v d) (hF : ∀ b, F b → F' b) (hw : Ext F w w') : RoT w' F' v d := by
  induction h with
  | x v h1 => exact .x _ h1
  | s v h1 => exact .s _ h1
  | nl z a cap g => exact .nl _ _ _ _
  | bl z b off n cap sz g cs t fr vs hb0 hb hn hsz hv hd ih =>
    exact .bl z b off n cap sz g cs t fr vs (hF b hb0) (hw b _ hb0 hb) hn hsz hv fun i j d hi hj => ih i j d hi hj

theorem OwnT.mono {w w' : World} {F F' : FP} {v : Value} {d : DV} (h : OwnT w F v d) (hF : ∀ b, F b → F' b) (hw : Ext F w w') : OwnT w' F' v d := by
  induction h generalizing F' with
  | x F v h1 => exact .x _ _ h1
  | s F v h1 => exact .s _ _ h1
  | nl z F a g => exact .nl _ _ _ _
  | bl F b off n cap sz g cs t fr vs G hb0 hs hb hu hn htot hsz hG hGd hv hd ih =>
    exact .bl _ b off n cap sz g cs t fr vs G (hF b hb0) hs (hw b _ hb0 hb) hu hn htot hsz (fun i j x hx => ⟨hF x (hG i j x hx).1, (hG i j x hx).2⟩) hGd hv
      fun i j d hi hj => ih i j d hi hj (fun b hb => hb) (hw.sub fun b hb => (hG i j b hb).1)

theorem OwnT.ro {w : World} {F : FP} {v : Value} {d : DV} (h : OwnT w F v d) : RoT w F v d := by
  induction h with
  | x F v h1 => exact .x _ h1
  | s F v h1 => exact .s _ h1
  | nl z F a g => exact .nl _ _ _ _
  | bl F b off n cap sz g cs t fr vs G hb0 hs hb hu hn htot hsz hG hGd hv hd ih =>
    exact .bl sz b off n cap sz g cs t fr vs hb0 hb hn hsz hv fun i j d hi hj => (ih i j d hi hj).mono (fun x hx => (hG i j x hx).1) (Ext.refl _ _)

/-! ### The ghost, and the relation of an abstract state to the machine's -/

/-- Where an object lies: its block (none: a nil slice), its first cell, the cells of a row, all cells that are its own behind the first. -/
structure G1 where
  blk : Option Nat
  base : Nat
  sz : Nat
  tot : Nat
  n : Nat

structure Ghost where
  g : Nat → Option G1
  fp : Nat → FP
  ro : FP

/-- A pointer's value at a row: b, off; the row's cells are read-only in F. -/
def RRow (w : World) (F : FP) (v : Value) (row : List DV) : Prop :=
  ∃ b off cs t fr, v = .pointer (some ⟨b, off, none⟩) ∧ F b ∧ w.heap[b]? = some (.cells cs t fr) ∧ ∀ j d, row[j]? = some d → ∃ u, cs[off + j]? = some u ∧ RoT w F u d

/-- What lies in cell j of row i of an object. -/
def AtCell (γ : Ghost) (w : World) (id i j : Nat) (c : Value) : Prop :=
  ∃ g b cs t fr, γ.g id = some g ∧ g.blk = some b ∧ i < g.n ∧ γ.fp id b ∧ w.heap[b]? = some (.cells cs t fr) ∧ cs[g.base + i * g.sz + j]? = some c
def ViewOf (v : Option (Nat × Nat)) (n : Nat) (c u : Value) : Prop :=
  match v with
  | none => u = c ∧ ∃ A cap, c = .slice A n cap ∧ n ≤ cap ∧ (0 < n → ∃ b o, A = some ⟨b, o, none⟩)
  | some (off, sz) => (n = 0 ∧ ∃ A cap, u = .slice A 0 cap) ∨ ∃ b o N cap cap', c = .slice (some ⟨b, o, none⟩) N cap ∧ u = .slice (some ⟨b, o + off * sz, none⟩) n cap' ∧ n ≤ cap' ∧ off + n ≤ N

def RLeafC (γ : Ghost) (w : World) : Leaf → Value → Prop
  | .s v, u => u = v
  | .nil, u => u = .slice none 0 0
  | .r n f, u => RoT w γ.ro u (.l 0 n f)
  | .sn id n f, u => (∃ g, γ.g id = some g) ∧ RoT w (γ.fp id) u (.l 0 n f)
  | .o id off len, u => ∃ g a cap, γ.g id = some g ∧ u = .slice a len cap ∧ len ≤ cap ∧ off + len ≤ g.n ∧ (off + cap) * g.sz = g.tot ∧
      (0 < cap → ∃ b, g.blk = some b ∧ a = some ⟨b, g.base + off * g.sz, none⟩)
  | .q id i j v n, u => ∃ c, AtCell γ w id i j c ∧ ViewOf v n c u
  | .p id j, u => ∃ g b, γ.g id = some g ∧ g.blk = some b ∧ u = .pointer (some ⟨b, g.base + j, none⟩)
  | .pr id i j, u => ∃ g b, γ.g id = some g ∧ g.blk = some b ∧ i < g.n ∧ u = .pointer (some ⟨b, g.base + i * g.sz + j, none⟩)
  | .qp id i j k l sz, u => ∃ c b o N cap, AtCell γ w id i j c ∧ c = .slice (some ⟨b, o, none⟩) N cap ∧ k < N ∧ u = .pointer (some ⟨b, o + k * sz + l, none⟩)
  | .m id, u => ∃ g b, γ.g id = some g ∧ g.blk = some b ∧ u = .map (some b)
  | .rp row, u => RRow w γ.ro u row
  | .sp id row, u => (∃ g, γ.g id = some g) ∧ RRow w (γ.fp id) u row
  | .fn f caps, u => ∃ vs : List Value, u = .func (.func f) #[] vs.toArray ∧ vs.length = caps.length ∧
      ∀ (k : Nat) (c : Nat × Nat), caps[k]? = some c → ∃ (g : G1) (b : Nat), γ.g c.1 = some g ∧ g.blk = some b ∧ vs[k]? = some (.pointer (some ⟨b, g.base + c.2, none⟩))
  | .fr f rows, u => ∃ vs : List Value, u = .func (.func f) #[] vs.toArray ∧ vs.length = rows.length ∧ ∀ (k : Nat) (row : List DV), rows[k]? = some row → ∃ v, vs[k]? = some v ∧ RRow w γ.ro v row
  | .fb f id j, u => ∃ g b, γ.g id = some g ∧ g.blk = some b ∧ u = .func (.func f) #[.pointer (some ⟨b, g.base + j, none⟩)] #[]
  | .gt g r c sz, u => u = .pointer (some ⟨g, r * sz + c, none⟩)
  | .ln n, u => ∃ a cap, u = .slice a n cap
  | .un, _ => True

def RLeaf (γ : Ghost) (w : World) (l : Leaf) (u : Value) : Prop := u.oneCell' = true ∧ RLeafC γ w l u

def RCells (γ : Ghost) (w : World) (cs : List Leaf) (us : List Value) : Prop :=
  us.length = cs.length ∧ ∀ (j : Nat) (l : Leaf), cs[j]? = some l → ∃ u, us[j]? = some u ∧ RLeaf γ w l u

def RV1 (γ : Ghost) (w : World) : V1 → Value → Prop
  | .lf l, u => RLeaf γ w l u
  | .ag cs, u => ∃ us : List Value, u = .agg us.toArray ∧ RCells γ w cs us

def RV (γ : Ghost) (w : World) : V → Value → Prop
  | .one v, u => RV1 γ w v u
  | .tup vs, u => ∃ us : List Value, u = .tuple us.toArray ∧ us.length = vs.length ∧ ∀ (j : Nat) (l : V1), vs[j]? = some l → ∃ u, us[j]? = some u ∧ RV1 γ w l u
  | .bad, _ => True

def RObj (γ : Ghost) (w : World) (id : Nat) (g : G1) : Obj → Prop
  | .deep sz n f => g.n = n ∧ g.sz = sz ∧ match g.blk with
      | none => n = 0
      | some b => 0 < sz ∧ ∃ cs t fr vs G, γ.fp id b ∧ w.heap[b]? = some (.cells cs t fr) ∧ Unfrozen fr cs.size ∧ g.base + g.tot ≤ cs.size ∧ n * g.sz ≤ g.tot ∧
          (∀ i, i < n → (f i).length = g.sz) ∧ (∀ i j x, (G : Nat → Nat → FP) i j x → γ.fp id x ∧ x ≠ b) ∧ (∀ i j i' j' x, G i j x → G i' j' x → i = i' ∧ j = j') ∧
          ∀ i j d, i < n → (f i)[j]? = some d → cs[g.base + i * g.sz + j]? = some ((vs : Nat → Nat → Value) i j) ∧ OwnT w (G i j) (vs i j) d
  | .lent sz n => g.sz = sz ∧ g.n = n ∧ 0 < sz ∧ (g.blk = none → n = 0) ∧ (g.tot = 0 → n = 0 ∧ match g.blk with
      | none => True
      | some b => ∃ cs t fr, γ.fp id b ∧ w.heap[b]? = some (.cells cs t fr) ∧ Unfrozen fr cs.size ∧ g.base ≤ cs.size)
  | .lentV n => ∃ b, g.blk = some b ∧ g.base = 0 ∧ g.tot = n ∧ (g.sz = 0 ∨ g.sz = n) ∧ g.n = 1
  | .arr n f ws => ∃ b cs t fr, g.blk = some b ∧ γ.fp id b ∧ w.heap[b]? = some (.cells cs t fr) ∧ Unfrozen fr cs.size ∧ g.base = 0 ∧ g.sz = 1 ∧ g.n = n ∧ g.tot = n + ws.length ∧ cs.size = n + ws.length ∧
      (∀ i, i < n → (f i).length = 1 ∧ ∃ v, cs[i]? = some v ∧ ∀ d, (f i)[0]? = some d → OwnT w (fun _ => False) v d) ∧ ∀ (j : Nat) (v : Value), ws[j]? = some v → cs[n + j]? = some v ∧ v.oneCell' = true
  | .it s pos => ∃ b, g.blk = some b ∧ g.base = 0 ∧ γ.fp id b ∧ w.heap[b]? = some (.stringIter s pos)
  | .mp es => ∃ b ents clock, g.blk = some b ∧ γ.fp id b ∧ w.heap[b]? = some (.map ents clock) ∧ ents.size = es.length ∧ ∀ (k : Nat) (e : Value × Leaf), es[k]? = some e → ∃ en : MapEntry, ents[k]? = some en ∧ en.key = e.1 ∧ RLeaf γ w e.2 en.val
  | .frame us vs => g.blk = none ∧ g.n = 0 ∧ us.length = vs.length ∧ ∀ i, RV γ w (getN undefV vs i) (us.getD i undef)
  | .vars cells => ∃ b cs t fr, g.blk = some b ∧ γ.fp id b ∧ w.heap[b]? = some (.cells cs t fr) ∧ Unfrozen fr cs.size ∧ g.base = 0 ∧ g.tot = cells.length ∧ cs.size = cells.length ∧ ((g.sz = 0 ∨ g.sz = cells.length) ∧ g.n = 1) ∧ RCells γ w cells cs.toList

/-- The tables lie in a world, and out of what may be changed. -/
def TabsOk (w0 : World) (mine : FP) : Prop := ∀ g k l, tabZ g = some (k, l) → g < w0.heap.size ∧ ¬ mine g ∧ ∃ t fr, w0.heap[g]? = some (.cells (l.map fun z => Value.int k z).toArray t fr)
/-- What is kept of the world in which the call began: all but the blocks in 'mine'. -/
structure Keep (w0 : World) (mine : FP) (w : World) : Prop where
  size : w0.heap.size ≤ w.heap.size
  os : w.os = w0.os
  tape : w.tape = w0.tape
  output : w.output = w0.output
  old : ∀ b, b < w0.heap.size → ¬ mine b → w.heap[b]? = w0.heap[b]?
  tabs : TabsOk w0 mine

structure RelS (w0 : World) (mine : FP) (γ : Ghost) (st : List (Nat × Obj)) (next : Nat) (w : World) : Prop where
  objs : ∀ id o, look st id = some o → ∃ g, γ.g id = some g ∧ RObj γ w id g o
  disj : ∀ id id' o o', look st id = some o → look st id' = some o' → id ≠ id' → ∀ b, γ.fp id b → ¬ γ.fp id' b
  ro : ∀ id o, look st id = some o → ∀ b, γ.fp id b → ¬ γ.ro b
  lt : ∀ id g, γ.g id = some g → id < next
  dom : ∀ id g, γ.g id = some g → ∃ o, look st id = some o
  fp : ∀ id o, look st id = some o → ∀ b, γ.fp id b → b < w.heap.size ∧ (w0.heap.size ≤ b ∨ mine b)
  rolt : ∀ b, γ.ro b → b < w.heap.size
  keep : Keep w0 mine w

structure Rel (w0 : World) (mine : FP) (γ : Ghost) (σ : St) (a : Act) (w : World) : Prop where
  size : a.tmps.size = σ.slots.length
  slots : ∀ i, RV γ w (getN undefV σ.slots i) (a.tmps.getD i undef)
  st : RelS w0 mine γ σ.store σ.next w

end Go.AW
/- The abstract calculus, part 2: what the operations and the code do to an abstract state. -/
namespace Go.AW

/-! ### The data's own operations: a variable to whoever evaluates -/
def unB : List DV → UInt8
  | [.s (.int _ c)] => UInt8.ofNat c.toNat
  | _ => 0
structure Ops where
  leI : Int → Int → Bool
  ltI : Int → Int → Bool
  eqI : Int → Int → Bool
  neI : Int → Int → Bool
  addI : IntKind → Int → Int → Int
  subI : IntKind → Int → Int → Int
  mulI : IntKind → Int → Int → Int
  quoI : IntKind → Int → Int → Int
  remI : Int → Int → Int
  bitI : BinOp → IntKind → Int → Int → Int
  shlI : IntKind → Int → Int → Int
  shrI : IntKind → Int → Int → Int
  wrapI : IntKind → Int → Int
  minI : Int → Int → Int
  maxI : Int → Int → Int
  natI : Int → Nat
  ofN : Nat → Int
  addN : Nat → Nat → Nat
  spanN : Int → Int → Nat
  ltN : Nat → Nat → Bool
  leN : Nat → Nat → Bool
  eqN : Nat → Nat → Bool
  roomN : Nat → Nat → Bool
  eqS : ByteArray → ByteArray → Bool
  ltS : ByteArray → ByteArray → Bool
  neS : ByteArray → ByteArray → Bool
  leS : ByteArray → ByteArray → Bool
  gtS : ByteArray → ByteArray → Bool
  geS : ByteArray → ByteArray → Bool
  catS : ByteArray → ByteArray → ByteArray
  lenS : ByteArray → Nat
  byteS : ByteArray → Nat → Int
  cutS : ByteArray → Int → Int → ByteArray
  nthI : List Int → Nat → Int
  nthS : List ByteArray → Nat → ByteArray
  nthB : List Bool → Nat → Bool
  nthV : List Value → Nat → Value
  encR : Int → ByteArray
  strF : Nat → (Nat → List DV) → ByteArray
  catF : Nat → (Nat → List DV) → Nat → (Nat → List DV) → Nat → List DV
  zapF : (Nat → List DV) → Nat → Nat → List DV → Nat → List DV
  cpF : (Nat → List DV) → Nat → Nat → (Nat → List DV) → Nat → List DV
  minN : Nat → Nat → Nat
  decR : ByteArray → Nat → Int
  decW : ByteArray → Nat → Nat
  setF : (Nat → List DV) → Nat → List DV → Nat → List DV
  lenL : (α : Type) → List α → Nat
  nthL : (α : Type) → α → List α → Nat → α
  u8I : UInt8 → Int
  strB : List UInt8 → ByteArray
  tabI : Nat → Nat → Nat → Nat → Int
  mapI : List (Value × Int) → Value → Int
  mapB : List (Value × Int) → Value → Bool
  ByteRows : Nat → (Nat → List DV) → Prop
  FlatRows : Nat → (Nat → List DV) → Nat → Prop
  RowsLen : Nat → (Nat → List DV) → Nat → Prop
  cnd : Bool → (Unit → Prop) → (Unit → Prop) → Prop
  stp : (Unit → Prop) → Prop
  chk : (Unit → Bool) → Prop
def condP (c : Bool) (x y : Unit → Prop) : Prop :=
  match c with
  | true => x ()
  | false => y ()

/-- Keys alike. -/
def keyEq : Value → Value → Bool
  | .int _ a, .int _ b => a == b
  | .string a, .string b => a.toList == b.toList
  | _, _ => false
def tabQ (g r sz c : Nat) : Int :=
  match tabZ g with
  | some (_, l) => l.getD (r * sz + c) 0
  | none => 0
def mapIR (t : List (Value × Int)) (x : Value) : Int :=
  match t.find? fun e => keyEq x e.1 with
  | some e => e.2
  | none => 0
def catR (n : Nat) (f : Nat → List DV) (m : Nat) (g : Nat → List DV) (i : Nat) : List DV := if n ≤ i ∧ i < n + m then g (i - n) else f i
def zapR (f : Nat → List DV) (off n : Nat) (ds : List DV) (i : Nat) : List DV := if off ≤ i ∧ i < off + n then ds else f i
def cpR (f : Nat → List DV) (off n : Nat) (g : Nat → List DV) (i : Nat) : List DV := if off ≤ i ∧ i < off + n then g (i - off) else f i
def std : Ops where
  cnd := condP
  stp := fun P => P ()
  chk := fun f => f () = true
  leI := fun a b => decide (a ≤ b)
  ltI := fun a b => decide (a < b)
  eqI := fun a b => a == b
  neI := fun a b => !(a == b)
  addI := fun k a b => k.wrap (a + b)
  subI := fun k a b => k.wrap (a - b)
  mulI := fun k a b => k.wrap (a * b)
  quoI := fun k a b => k.wrap (a.tdiv b)
  remI := fun a b => a.tmod b
  bitI := fun op k a b => match op with
    | .and => k.wrap ((BitVec.ofInt k.bits a &&& BitVec.ofInt k.bits b).toNat)
    | .or => k.wrap ((BitVec.ofInt k.bits a ||| BitVec.ofInt k.bits b).toNat)
    | .xor => k.wrap ((BitVec.ofInt k.bits a ^^^ BitVec.ofInt k.bits b).toNat)
    | _ => k.wrap ((BitVec.ofInt k.bits a &&& ~~~ BitVec.ofInt k.bits b).toNat)
  shlI := fun k a b => k.wrap (a * 2 ^ min b.toNat k.bits)
  shrI := fun k a b => a.fdiv (2 ^ min b.toNat k.bits)
  wrapI := fun k a => k.wrap a
  minI := fun a b => if b < a then b else a
  maxI := fun a b => if b > a then b else a
  natI := fun a => a.toNat
  ofN := fun n => (n : Int)
  addN := fun a b => a + b
  spanN := fun lo hi => hi.toNat - lo.toNat
  ltN := fun a b => decide (a < b)
  leN := fun a b => decide (a ≤ b)
  eqN := fun a b => a == b
  roomN := fun n bytes => decide (n * bytes ≤ 140737488355328)
  eqS := fun a b => a.toList == b.toList
  ltS := fun a b => Op.bytesLess a.toList b.toList
  neS := fun a b => !(a.toList == b.toList)
  leS := fun a b => Op.bytesLess a.toList b.toList || a.toList == b.toList
  gtS := fun a b => !(Op.bytesLess a.toList b.toList || a.toList == b.toList)
  geS := fun a b => !(Op.bytesLess a.toList b.toList)
  catS := fun a b => a ++ b
  lenS := fun a => a.size
  byteS := fun a i => ((a.data.toList.getD i 0).toNat : Int)
  cutS := fun a lo hi => a.extract lo.toNat hi.toNat
  nthI := fun l i => l.getD i 0
  nthS := fun l i => l.getD i ByteArray.empty
  nthB := fun l i => l.getD i false
  nthV := fun l i => l.getD i undef
  encR := fun n => Utf8.encode n
  strF := fun n f => ⟨((List.range n).map fun i => unB (f i)).toArray⟩
  catF := catR
  zapF := zapR
  cpF := cpR
  minN := fun a b => min a b
  decR := fun s p => (Utf8.decode s p).1
  decW := fun s p => (Utf8.decode s p).2
  setF := fun f i row k => if k = i then row else f k
  lenL := fun _ l => l.length
  nthL := fun _ d l i => l.getD i d
  u8I := fun b => (b.toNat : Int)
  strB := fun l => ⟨l.toArray⟩
  tabI := tabQ
  mapI := mapIR
  mapB := fun t x => t.any fun e => keyEq x e.1
  ByteRows := fun n f => ∀ i, i < n → ∃ c : Int, f i = [.s (.int .u8 c)]
  RowsLen := fun n f sz => ∀ i, i < n → (f i).length = sz
  FlatRows := fun n f sz => ∀ i, i < n → (f i).length = sz ∧ ∀ d, d ∈ f i → ∃ v, d = .s v

def need (c : Bool) (P : Prop) : Prop := c = true ∧ P
/-! ### Types -/
inductive K where
  | bool | int (k : IntKind) | str | ptr (e : Nat) | sl (e : Nat) | arr (n e : Nat) | st (fs : List (Nat × Nat)) | fn | mp (k e : Nat) | other
structure TI where
  k : K
  size : Nat
  bytes : Nat
  zero : List Value
abbrev Env := Nat → TI
def noTI : TI := ⟨.other, 0, 0, []⟩

def isAg : K → Bool
  | .arr _ _ | .st _ => true
  | _ => false

/-! ### Reading -/
def leafOfValue : Value → Leaf
  | .slice none 0 0 => .nil
  | v => .s v
def vOfValue : Value → V
  | .agg cs => match cs.toList.all (·.oneCell') with
    | true => .one (.ag (cs.toList.map leafOfValue))
    | false => .bad
  | .tuple _ => .bad
  | v => .one (.lf (leafOfValue v))
def evA (σ : St) : Operand → V
  | .tmp t => getN undefV σ.slots t
  | .const v => vOfValue v
  | .func f => .one (.lf (.fn f []))
  | .global g => match tabZ g with
    | some _ => .one (.lf (.gt g 0 0 0))
    | none => .bad
def nthO {α : Type} : List α → Nat → Option α
  | [], _ => none
  | a :: _, 0 => some a
  | _ :: l, n + 1 => nthO l n
def roLeaf : DV → Leaf
  | .s v => .s v
  | .l _ n f => .r n f
  | .x => .un
def snLeaf (id : Nat) : DV → Leaf
  | .s v => .s v
  | .l _ n f => .sn id n f
  | .x => .un
def qLeaf (id i j : Nat) : DV → Leaf
  | .s v => .s v
  | .l _ n _ => .q id i j none n
  | .x => .un
def qLeaves (id i : Nat) : Nat → List DV → List Leaf
  | _, [] => []
  | j, d :: t => qLeaf id i j d :: qLeaves id i (j + 1) t
def cutL {α : Type} : List α → Nat → Nat → Option (List α)
  | l, 0, n => takeL l n
  | [], _ + 1, _ => none
  | _ :: l, j + 1, n => cutL l j n
  where
  takeL : List α → Nat → Option (List α)
  | _, 0 => some []
  | [], _ + 1 => none
  | a :: l, n + 1 => match takeL l n with
    | some t => some (a :: t)
    | none => none
/-- The cells that are read at an address. -/
def readAt (σ : St) : Leaf → Nat → Option (List Leaf)
  | .p id j, n => match look σ.store id with
    | some (.vars cs) => cutL cs j n
    | some (.arr m _ ws) => match Nat.ble m j, cutL ws (j - m) n with
      | true, some l => some (l.map .s)
      | _, _ => none
    | _ => none
  | .pr id i j, n => match look σ.store id with
    | some (.deep _ _ f) => match cutL (f i) j n with
      | some l => some (qLeaves id i j l)
      | none => none
    | some (.arr _ f _) => match j, n, f i with
      | 0, 1, [d] => some [qLeaf id i 0 d]
      | _, _, _ => none
    | _ => none
  | .qp id i j k l sz, n => match look σ.store id with
    | some (.deep _ _ F) => match nthO (F i) j with
      | some (.l sz' _ f) => match Nat.beq sz' sz, cutL (f k) l n with
        | true, some l => some (l.map (snLeaf id))
        | _, _ => none
      | _ => none
    | _ => none
  | .rp row, n => match cutL row 0 n with
    | some l => some (l.map roLeaf)
    | none => none
  | .sp id row, n => match cutL row 0 n with
    | some l => some (l.map (snLeaf id))
    | none => none
  | _, _ => none
def packV (ag : Bool) (cs : List Leaf) : Option V :=
  match ag, cs with
  | true, cs => some (.one (.ag cs))
  | false, [c] => some (.one (.lf c))
  | false, _ => none

/-! ### Forgetting -/
def mapV1 (h : Leaf → Leaf) : V1 → V1
  | .lf l => .lf (h l)
  | .ag cs => .ag (cs.map h)
def mapV (h : Leaf → Leaf) : V → V
  | .one v => .one (mapV1 h v)
  | .tup vs => .tup (vs.map (mapV1 h))
  | .bad => .bad
def mapObj (h : Leaf → Leaf) : Obj → Obj
  | .vars cs => .vars (cs.map h)
  | .mp es => .mp (es.map fun e => (e.1, h e.2))
  | .frame us vs => .frame us (vs.map (mapV h))
  | o => o
def mapSt (h : Leaf → Leaf) (σ : St) : St := { σ with slots := σ.slots.map (mapV h), store := σ.store.map fun x => (x.1, mapObj h x.2) }
/-- What was read out of an object that is written now. -/
def killS (id : Nat) : Leaf → Leaf
  | .sn i n f => bif Nat.beq i id then .ln n else .sn i n f
  | .sp i row => bif Nat.beq i id then .un else .sp i row
  | l => l
/-- And what views its rows. -/
def killQ (id : Nat) : Leaf → Leaf
  | .sn i n f => bif Nat.beq i id then .ln n else .sn i n f
  | .sp i row => bif Nat.beq i id then .un else .sp i row
  | .q i a b c d => bif Nat.beq i id then .ln d else .q i a b c d
  | .qp i a b c d e => bif Nat.beq i id then .un else .qp i a b c d e
  | l => l
/-- All that names an object. -/
def killA (id : Nat) : Leaf → Leaf
  | .sn i n f => bif Nat.beq i id then .ln n else .sn i n f
  | .sp i row => bif Nat.beq i id then .un else .sp i row
  | .o i a b => bif Nat.beq i id then .ln b else .o i a b
  | .p i a => bif Nat.beq i id then .un else .p i a
  | .pr i a b => bif Nat.beq i id then .un else .pr i a b
  | .q i a b c d => bif Nat.beq i id then .ln d else .q i a b c d
  | .qp i a b c d e => bif Nat.beq i id then .un else .qp i a b c d e
  | .m i => bif Nat.beq i id then .un else .m i
  | .fn f caps => bif caps.any (fun c => Nat.beq c.1 id) then .un else .fn f caps
  | .fb f i j => bif Nat.beq i id then .un else .fb f i j
  | l => l

/-- Rows from a place on. -/
def shF (D : Ops) (off : Nat) (f : Nat → List DV) : Nat → List DV :=
  match off with
  | 0 => f
  | o => fun i => f (D.addN o i)

/-! ### Owned data out of leaves -/
def forget1 (σ : St) (d : Nat) : St := { (mapSt (killA d) σ) with store := drop (mapSt (killA d) σ).store d }
def mkObj (σ : St) (o : Obj) : St := { σ with store := (σ.next, o) :: σ.store, next := σ.next + 1 }
def putObj (σ : St) (id : Nat) (o : Obj) : St := { σ with store := put σ.store id o }
def setD1 : List DV → Nat → DV → List DV
  | [], _, _ => []
  | _ :: l, 0, d => d :: l
  | a :: l, j + 1, d => a :: setD1 l j d
def flatC : Leaf → Option DV
  | .s v => some (.s v)
  | .nil => some (.l 0 0 (fun _ => []))
  | _ => none
def flatCs : List Leaf → Option (List DV)
  | [] => some []
  | l :: t => match flatC l, flatCs t with
    | some d, some ds => some (d :: ds)
    | _, _ => none
/-- A cell's datum, taken to be owned elsewhere; the state behind it, and what has become of leaves. -/
def takeC (D : Ops) (σ : St) : Leaf → Option (DV × St × (Leaf → Leaf))
  | .s v => some (.s v, σ, fun l => l)
  | .nil => some (.l 0 0 (fun _ => []), σ, fun l => l)
  | .o id off len => match look σ.store id with
    | some (.deep sz _ f) => some (.l sz len (shF D off f), forget1 σ id, killA id)
    | some (.vars cs) => match off, len, cs with
      | 0, 1, l :: t => match flatCs (l :: t) with
        | some ds => some (.l (l :: t).length 1 (fun _ => ds), forget1 σ id, killA id)
        | none => none
      | _, _, _ => none
    | _ => none
  | .q id i j none _ => match look σ.store id with
    | some (.deep sz m F) => match nthO (F i) j with
      | some (.l sz' n' f) => some (.l sz' n' f, mapSt (killS id) (putObj σ id (.deep sz m (D.setF F i (setD1 (F i) j .x)))), killS id)
      | _ => none
    | _ => none
  | _ => none
def takeCs (D : Ops) : List Leaf → St → (Leaf → Leaf) → Option (List DV × St × (Leaf → Leaf))
  | [], σ, h => some ([], σ, h)
  | l :: t, σ, h => match takeC D σ (h l) with
    | some (d, σ', h1) => match takeCs D t σ' (fun l => h1 (h l)) with
      | some (ds, σ'', h2) => some (d :: ds, σ'', h2)
      | none => none
    | none => none

/-- A view with what it shows. -/
def see (D : Ops) (st : List (Nat × Obj)) : Leaf → Leaf
  | .q id i j v n => match look st id with
    | some (.deep _ _ F) => match nthO (F i) j with
      | some (.l sz' _ f) => match v with
        | none => .sn id n f
        | some (off, sz) => match Nat.beq sz' sz with
          | true => .sn id n (shF D off f)
          | false => .un
      | _ => .un
    | _ => .un
  | l => l

/-- Deep data out of a leaf, to be read. -/
def roD (D : Ops) (st : List (Nat × Obj)) (l : Leaf) : Option DV :=
  match see D st l with
  | .s v => some (.s v)
  | .nil => some (.l 0 0 (fun _ => []))
  | .r n f => some (.l 0 n f)
  | .sn _ n f => some (.l 0 n f)
  | .o id off len => match look st id with
    | some (.deep sz _ f) => some (.l sz len (shF D off f))
    | some (.vars (c :: cs)) => match off, len with
      | 0, 1 => match flatCs (c :: cs) with
        | some ds => some (.l (c :: cs).length 1 (fun _ => ds))
        | none => none
      | _, _ => none
    | _ => none
  | _ => none
def allS {α β : Type} (h : α → Option β) : List α → Option (List β)
  | [] => some []
  | l :: t => match h l with
    | some d => match allS h t with
      | some ds => some (d :: ds)
      | none => none
    | none => none
/-! ### Tables: a literal's rows by its columns -/
def sameK : IntKind → IntKind → Bool
  | .i8, .i8 | .i16, .i16 | .i32, .i32 | .i64, .i64 | .u8, .u8 | .u16, .u16 | .u32, .u32 | .u64, .u64 => true
  | _, _ => false

def intsOf (k : IntKind) : List Leaf → Option (List Int)
  | [] => some []
  | .s (.int k' n) :: t => match sameK k k', intsOf k t with
    | true, some l => some (n :: l)
    | _, _ => none
  | _ => none
def strsOf : List Leaf → Option (List ByteArray)
  | [] => some []
  | .s (.string n) :: t => match strsOf t with
    | some l => some (n :: l)
    | _ => none
  | _ => none
/-- A column at row i. -/
def colAt (D : Ops) (col : List Leaf) : Option (Nat → DV) :=
  match col with
  | .s (.int k n) :: t => match intsOf k t with
    | some l => some fun i => .s (.int k (D.nthI (n :: l) i))
    | none => none
  | .s (.string n) :: t => match strsOf t with
    | some l => some fun i => .s (.string (D.nthS (n :: l) i))
    | none => none
  | _ => none
def colsFrom (D : Ops) (rows : List (List Leaf)) (sz : Nat) : Nat → Option (List (Nat → DV))
  | 0 => some []
  | c + 1 => match colAt D (rows.map fun r => getN .un r (sz - (c + 1))), colsFrom D rows sz c with
    | some f, some l => some (f :: l)
    | _, _ => none
/-- The rows of a literal: parts laid over zero rows. -/
def eqK : Value → Value → Option (Ops → Bool)
  | .int _ a, .int _ b => some fun D => D.eqI a b
  | .string a, .string b => some fun D => D.eqS a b
  | _, _ => none
def layRows (_ : Nat) (zero : List Leaf) (len : Nat) (parts : List (Nat × List Leaf)) : List (List Leaf) :=
  parts.foldl (fun rows p => setN rows p.1 p.2) (List.replicate len zero)

def cellsOf : V → Option (List Leaf)
  | .one (.lf l) => some [l]
  | .one (.ag cs) => some cs
  | _ => none

end Go.AW
/- The abstract calculus, part 3: the operations and the code. -/
namespace Go.AW

def okK : K → Bool
  | .other => false
  | _ => true
theorem okK_ne {k : K} (h : okK k = true) : k ≠ .other := by
  rintro rfl
  simp [okK] at h
def intP (D : Ops) (op : BinOp) (kx : IntKind) (a b : Int) (k : Value → Prop) : Prop :=
  match op with
    | .add => k (.int kx (D.addI kx a b))
    | .sub => k (.int kx (D.subI kx a b))
    | .mul => k (.int kx (D.mulI kx a b))
    | .quo => need (D.neI b 0) (k (.int kx (D.quoI kx a b)))
    | .rem => need (D.neI b 0) (k (.int kx (D.remI a b)))
    | .and => k (.int kx (D.bitI .and kx a b))
    | .or => k (.int kx (D.bitI .or kx a b))
    | .xor => k (.int kx (D.bitI .xor kx a b))
    | .andNot => k (.int kx (D.bitI .andNot kx a b))
    | .shl => need (D.leI 0 b) (k (.int kx (D.shlI kx a b)))
    | .shr => need (D.leI 0 b) (k (.int kx (D.shrI kx a b)))
    | .eql => k (.bool (D.eqI a b))
    | .neq => k (.bool (D.neI a b))
    | .lss => k (.bool (D.ltI a b))
    | .leq => k (.bool (D.leI a b))
    | .gtr => k (.bool (D.ltI b a))
    | .geq => k (.bool (D.leI b a))
def isShift : BinOp → Bool
  | .shl | .shr => true
  | _ => false
def binP (D : Ops) (op : BinOp) (x y : Value) (k : Value → Prop) : Prop :=
  match x, y with
  | .int kx a, .int ky b => match isShift op, sameK kx ky with
    | false, false => False
    | _, _ => intP D op kx a b k
  | .string a, .string b => match op with
    | .add => need (D.leN (D.addN (D.lenS a) (D.lenS b)) 9223372036854775807) (k (.string (D.catS a b)))
    | .eql => k (.bool (D.eqS a b))
    | .neq => k (.bool (D.neS a b))
    | .lss => k (.bool (D.ltS a b))
    | .leq => k (.bool (D.leS a b))
    | .gtr => k (.bool (D.gtS a b))
    | .geq => k (.bool (D.geS a b))
    | _ => False
  | _, _ => False
/-- Bools told apart. -/
def eqBP (D : Ops) (op : BinOp) (a b : Bool) (k : Value → Prop) : Prop :=
  match op with
  | .eql => D.cnd a (fun _ => k (.bool b)) (fun _ => D.cnd b (fun _ => k (.bool false)) (fun _ => k (.bool true)))
  | .neq => D.cnd a (fun _ => D.cnd b (fun _ => k (.bool false)) (fun _ => k (.bool true))) (fun _ => k (.bool b))
  | _ => False
def isBo : K → Bool
  | .bool => true
  | _ => false
def binB (D : Ops) (kd : K) (op : BinOp) (x y : Value) (k : Value → Prop) : Prop :=
  match x, y with
  | .bool a, .bool b => need (isBo kd) (eqBP D op a b k)
  | x, y => binP D op x y k

def unP (D : Ops) (op : UnOp) (x : Value) (k : Value → Prop) : Prop :=
  match op, x with
  | .neg, .int kx a => k (.int kx (D.subI kx 0 a))
  | .not, .bool b => D.cnd b (fun _ => k (.bool false)) (fun _ => k (.bool true))
  | _, _ => False

/-- Is it a kind whose values are told apart by one cell? -/
def setCells : List Leaf → Nat → List Leaf → Option (List Leaf)
  | l, 0, vs => go l vs
  | [], _ + 1, _ => none
  | a :: l, j + 1, vs => match setCells l j vs with
    | some t => some (a :: t)
    | none => none
  where
  go : List Leaf → List Leaf → Option (List Leaf)
  | l, [] => some l
  | [], _ :: _ => none
  | _ :: l, v :: vs => match go l vs with
    | some t => some (v :: t)
    | none => none
def setDs : List DV → Nat → List DV → Option (List DV)
  | l, 0, vs => go l vs
  | [], _ + 1, _ => none
  | a :: l, j + 1, vs => match setDs l j vs with
    | some t => some (a :: t)
    | none => none
  where
  go : List DV → List DV → Option (List DV)
  | l, [] => some l
  | [], _ :: _ => none
  | _ :: l, v :: vs => match go l vs with
    | some t => some (v :: t)
    | none => none
/-- Owned data put into a row. -/
def scal : List Leaf → Option (List Value)
  | [] => some []
  | .s v :: t => match scal t with
    | some l => some (v :: l)
    | none => none
  | _ :: _ => none
/-- A struct that begins with a long array: its length. -/
def arrOf : K → Option Nat
  | .st ((0, n) :: _) => bif Nat.ble 32 n then some n else none
  | _ => none
def stowP (D : Ops) (σ : St) (ds : List DV) (a : Leaf) (k : St → Prop) : Prop :=
  match a with
  | .pr id i j => match look σ.store id with
    | some (.deep sz n f) => match setDs (f i) j ds with
      | some row => k (mapSt (killQ id) (putObj σ id (.deep sz n (D.setF f i row))))
      | none => False
    | some (.arr m f ws) => match j, ds with
      | 0, [.s v] => k (mapSt (killQ id) (putObj σ id (.arr m (D.setF f i [.s v]) ws)))
      | _, _ => False
    | _ => False
  | .qp id i j kk l sz2 => match look σ.store id with
    | some (.deep sz n F) => match nthO (F i) j with
      | some (.l sz' n' f) => match Nat.beq sz' sz2, setDs (f kk) l ds with
        | true, some row => k (mapSt (killS id) (putObj σ id (.deep sz n (D.setF F i (setD1 (F i) j (.l sz' n' (D.setF f kk row)))))))
        | _, _ => False
      | _ => False
    | _ => False
  | _ => False
def storeP (D : Ops) (σ : St) (a : Leaf) (cs : List Leaf) (k : St → Prop) : Prop :=
  match a with
  | .p id j => match look σ.store id with
    | some (.vars cells) => match setCells cells j cs with
      | some cells' => k (mapSt (killQ id) (putObj σ id (.vars cells')))
      | none => False
    | some (.arr m f ws) => match cs, Nat.ble m j, Nat.blt (j - m) ws.length with
      | [.s v], true, true => k (mapSt (killQ id) (putObj σ id (.arr m f (setN ws (j - m) v))))
      | _, _, _ => False
    | _ => False
  | a => match takeCs D cs σ (fun l => l) with
    | some (ds, σ', h) => stowP D σ' ds (h a) k
    | none => False

/-- Rows without slices? -/
def flatTI (i : TI) : Bool := i.zero.all fun | .slice _ _ _ => false | _ => true
/-- The rows of what is appended: their number, the rows, the state behind, what has become of leaves. -/
def rowsIn (D : Ops) (fl : Bool) (sz : Nat) (σ : St) (x : V) (k : Nat → (Nat → List DV) → St → (Leaf → Leaf) → Prop) : Prop :=
  match x with
  | .one (.lf l) => match l, fl with
    | .o id off len, fl => match look σ.store id, fl with
      | some (.deep _ _ f), true => D.FlatRows len (shF D off f) sz ∧ k len (shF D off f) σ (fun l => l)
      | some (.deep _ _ _), false => match takeC D σ (.o id off len) with
        | some (.l sz' n f, σ', h) => need (Nat.beq sz' sz) (k n f σ' h)
        | _ => False
      | some (.vars cs), _ => match off, len with
        | 0, 1 => need (Nat.beq cs.length sz) (match takeCs D cs (forget1 σ id) (killA id) with
          | some (ds, σ', h) => k 1 (fun _ => ds) σ' h
          | none => False)
        | _, _ => False
      | _, _ => False
    | .q id i j v n, false => match takeC D σ (.q id i j v n) with
      | some (.l sz' n f, σ', h) => need (Nat.beq sz' sz) (k n f σ' h)
      | _ => False
    | l, _ => match see D σ.store l with
      | .nil => k 0 (fun _ => []) σ (fun l => l)
      | .r n f => D.FlatRows n f sz ∧ k n f σ (fun l => l)
      | .sn _ n f => D.FlatRows n f sz ∧ k n f σ (fun l => l)
      | .s (.string s) => need (Nat.beq sz 1) (k (D.lenS s) (fun i => [.s (.int .u8 (D.byteS s i))]) σ (fun l => l))
      | _ => False
  | _ => False

def fixSz (sz : Nat) : Nat → Nat
  | 0 => sz
  | z => z
/-- What is appended to, as an object of its own. -/
def ontoP (D : Ops) (sz : Nat) (σ : St) (s : V) (k : Leaf → St → Prop) : Prop :=
  match s with
  | .one (.lf .nil) => k .nil σ
  | .one (.lf (.o id off len)) => match look σ.store id, off, len with
    | some (.vars (l :: t)), 0, 1 => match flatCs (l :: t) with
      | some ds => k (.o id 0 1) (mapSt (killQ id) (putObj σ id (.deep (l :: t).length 1 (fun _ => ds))))
      | none => False
    | _, _, _ => k (.o id off len) σ
  | .one (.lf (.q id i j none n)) => match takeC D σ (.q id i j none n) with
    | some (.l sz' n' f, σ', _) => k (.o σ'.next 0 n') (mkObj σ' (.deep (fixSz sz sz') n' f))
    | _ => False
  | _ => False

def appendP (D : Ops) (E : Env) (σ : St) (t : Nat) (s x : V) (k : V → St → Prop) : Prop :=
  match (E t).k with
  | .sl e => match okK (E e).k, (E e).size with
    | true, sz + 1 => need (Nat.ble 1 (E e).bytes) (rowsIn D (flatTI (E e)) (sz + 1) σ x fun m g σ1 h => ontoP D (sz + 1) σ1 (mapV h s) fun s σ2 => match s with
      | .nil => need (D.roomN m (E e).bytes) (k (.one (.lf (.o σ2.next 0 m))) (mkObj σ2 (.deep (sz + 1) m g)))
      | .o id off len => match look σ2.store id with
        | some (.deep sz' n f) => need (Nat.beq sz' (sz + 1)) (need (D.leN (D.addN off len) n) (need (D.roomN (D.addN len m) (E e).bytes)
            (k (.one (.lf (.o id 0 (D.addN len m)))) (mapSt (killA id) (putObj σ2 id (.deep sz' (D.addN len m) (D.catF len (shF D off f) m g)))))))
        | _ => False
      | _ => False)
    | _, _ => False
  | _ => False

def clearP (D : Ops) (ds : List DV) (σ : St) (v : V) (k : St → Prop) : Prop :=
  match v with
  | .one (.lf .nil) => k σ
  | .one (.lf (.o id off len)) => match look σ.store id with
    | some (.deep sz n f) => need (Nat.beq sz ds.length) (k (mapSt (killQ id) (putObj σ id (.deep sz n (D.zapF f off len ds)))))
    | _ => False
  | .one (.lf (.q id i j v len)) => match look σ.store id with
    | some (.deep sz n F) => match nthO (F i) j with
      | some (.l sz' n' f) => need (Nat.beq sz' ds.length) (match v with
        | none => k (mapSt (killS id) (putObj σ id (.deep sz n (D.setF F i (setD1 (F i) j (.l sz' n' (D.zapF f 0 len ds)))))))
        | some (off, sz2) => need (Nat.beq sz2 sz') (k (mapSt (killS id) (putObj σ id (.deep sz n (D.setF F i (setD1 (F i) j (.l sz' n' (D.zapF f off len ds))))))))) 
      | _ => False
    | _ => False
  | _ => False

def isSl : K → Bool
  | .sl _ => true
  | _ => false
/-- Is it nil? With elements it is not; without, it may be. -/
def nilN (D : Ops) (n : Nat) (k : Bool → Prop) : Prop := D.cnd (D.eqN n 0) (fun _ => k true ∧ k false) (fun _ => k false)
def nilP (D : Ops) (v : V) (k : Bool → Prop) : Prop :=
  match v with
  | .one (.lf .nil) => k true
  | .one (.lf (.r n _)) => nilN D n k
  | .one (.lf (.sn _ n _)) => nilN D n k
  | .one (.lf (.q _ _ _ _ n)) => nilN D n k
  | .one (.lf (.o _ _ n)) => nilN D n k
  | _ => False
def lenP (D : Ops) (ty : K) (v : V) (k : V → Prop) : Prop :=
  match ty, v with
  | .str, .one (.lf (.s (.string s))) => k (.one (.lf (.s (.int .i64 (D.ofN (D.lenS s))))))
  | .sl _, .one (.lf .nil) => k (.one (.lf (.s (.int .i64 (D.ofN 0)))))
  | .sl _, .one (.lf (.r n _)) => k (.one (.lf (.s (.int .i64 (D.ofN n)))))
  | .sl _, .one (.lf (.sn _ n _)) => k (.one (.lf (.s (.int .i64 (D.ofN n)))))
  | .sl _, .one (.lf (.q _ _ _ _ n)) => k (.one (.lf (.s (.int .i64 (D.ofN n)))))
  | .sl _, .one (.lf (.o _ _ n)) => k (.one (.lf (.s (.int .i64 (D.ofN n)))))
  | .sl _, .one (.lf (.ln n)) => k (.one (.lf (.s (.int .i64 (D.ofN n)))))
  | _, _ => False

def idxP (D : Ops) (i : Int) (n : Nat) (P : Prop) : Prop := need (D.leI 0 i) (need (D.ltI i (D.ofN n)) P)

/-- A row at a place that is told first. -/
def at1 (f : Nat → List DV) (i : Nat) : List DV := f i
def rowN (D : Ops) (off : Nat) (i : Int) : Nat :=
  match off with
  | 0 => D.natI i
  | o => D.addN o (D.natI i)
def rowO (D : Ops) (v : Option (Nat × Nat)) (i : Int) : Nat :=
  match v with
  | none => D.natI i
  | some (off, _) => rowN D off i
def viewSz (sz : Nat) : Option (Nat × Nat) → Bool
  | none => true
  | some (_, z) => Nat.beq z sz
def indexAddrP (D : Ops) (sz : Nat) (v : V) (i : Int) (σ : St) (k : V → Prop) : Prop :=
  match v with
  | .one (.lf (.r n f)) => idxP D i n (need (Nat.beq (f (D.natI i)).length sz) (k (.one (.lf (.rp (f (D.natI i)))))))
  | .one (.lf (.sn id n f)) => idxP D i n (need (Nat.beq (f (D.natI i)).length sz) (k (.one (.lf (.sp id (f (D.natI i)))))))
  | .one (.lf (.q id i' j v n)) => idxP D i n (need (viewSz sz v) (k (.one (.lf (.qp id i' j (rowO D v i) 0 sz)))))
  | .one (.lf (.o id off len)) => match look σ.store id with
    | some (.deep _ _ f) => idxP D i len (need (Nat.beq (at1 f (rowN D off i)).length sz) (k (.one (.lf (.pr id (rowN D off i) 0)))))
    | _ => False
  | _ => False

def boundsP (D : Ops) (lo hi : Option Int) (n : Nat) (k : Option Nat → Nat → Prop) : Prop :=
  match lo, hi with
  | some l, some h => need (D.leI 0 l) (need (D.leI l h) (need (D.leI h (D.ofN n)) (k (some (D.natI l)) (D.spanN l h))))
  | some l, none => need (D.leI 0 l) (need (D.leI l (D.ofN n)) (k (some (D.natI l)) (D.spanN l (D.ofN n))))
  | none, some h => need (D.leI 0 h) (need (D.leI h (D.ofN n)) (k none (D.natI h)))
  | none, none => k none n
def shO (D : Ops) (lo : Option Nat) (f : Nat → List DV) : Nat → List DV :=
  match lo with
  | none => f
  | some a => fun i => f (D.addN a i)
def offO (D : Ops) (lo : Option Nat) (off : Nat) : Nat :=
  match lo, off with
  | none, o => o
  | some a, 0 => a
  | some a, o => D.addN o a
def subV (D : Ops) (sz : Nat) (lo : Option Nat) : Option (Nat × Nat) → Option (Nat × Nat)
  | none => some (offO D lo 0, sz)
  | some (off, _) => some (offO D lo off, sz)
def cutP (D : Ops) (s : ByteArray) (lo hi : Option Int) (k : ByteArray → Prop) : Prop :=
  match lo, hi with
  | some l, some h => need (D.leI 0 l) (need (D.leI l h) (need (D.leI h (D.ofN (D.lenS s))) (k (D.cutS s l h))))
  | some l, none => need (D.leI 0 l) (need (D.leI l (D.ofN (D.lenS s))) (k (D.cutS s l (D.ofN (D.lenS s)))))
  | none, some h => need (D.leI 0 h) (need (D.leI h (D.ofN (D.lenS s))) (k (D.cutS s 0 h)))
  | none, none => k s
def sliceP (D : Ops) (sz : Nat) (σ : St) (v : V) (lo hi : Option Int) (k : V → Prop) : Prop :=
  match v with
  | .one (.lf .nil) => boundsP D lo hi 0 fun _ _ => k (.one (.lf .nil))
  | .one (.lf (.r n f)) => boundsP D lo hi n fun l m => D.RowsLen n f sz ∧ k (.one (.lf (.r m (shO D l f))))
  | .one (.lf (.sn id n f)) => boundsP D lo hi n fun l m => D.RowsLen n f sz ∧ k (.one (.lf (.sn id m (shO D l f))))
  | .one (.lf (.q id i j v n)) => need (viewSz sz v) (boundsP D lo hi n fun l m => k (.one (.lf (.q id i j (subV D sz l v) m))))
  | .one (.lf (.o id off n)) => match look σ.store id with
    | some (.deep sz' _ _) => need (Nat.beq sz' sz) (boundsP D lo hi n fun l m => k (.one (.lf (.o id (offO D l off) m))))
    | _ => False
  | _ => False

def convP (D : Ops) (E : Env) (src dst : Nat) (v : V) (σ : St) (k : V → St → Prop) : Prop :=
  match okK (E src).k with
  | false => False
  | true => match (E dst).k, v with
  | .int kd, .one (.lf (.s (.int _ n))) => k (.one (.lf (.s (.int kd (D.wrapI kd n))))) σ
  | .str, .one (.lf (.s (.string s))) => k (.one (.lf (.s (.string s)))) σ
  | .str, .one (.lf (.s (.int _ n))) => k (.one (.lf (.s (.string (D.encR n))))) σ
  | .str, .one (.lf l) => match (E src).k with
    | .sl e => match (E e).k, roD D σ.store l with
      | .int .u8, some (.l _ n f) => D.ByteRows n f ∧ k (.one (.lf (.s (.string (D.strF n f))))) σ
      | _, _ => False
    | _ => False
  | .sl e, .one (.lf (.s (.string s))) => match (E e).k with
    | .int .u8 => k (.one (.lf (.o σ.next 0 (D.lenS s)))) (mkObj σ (.deep 1 (D.lenS s) (fun i => [.s (.int .u8 (D.byteS s i))])))
    | _ => False
  | _, _ => False

def scalarV : V → Option Value
  | .one (.lf (.s v)) => some v
  | _ => none
def intV : V → Option Int
  | .one (.lf (.s (.int _ n))) => some n
  | _ => none
def intO (σ : St) : Option Operand → Option (Option Int)
  | none => some none
  | some x => match intV (evA σ x) with
    | some n => some (some n)
    | none => none

def partsV (σ : St) : List (Nat × Operand) → Option (List (Nat × List Leaf))
  | [] => some []
  | (i, x) :: t => match cellsOf (evA σ x), partsV σ t with
    | some cs, some l => some ((i, cs) :: l)
    | _, _ => none

/-- What a call of function g comes to: told by its meaning (part 5). -/
abbrev CallT := Nat → List V → St → (V → St → Prop) → Prop

def zeroC : Value → Option DV
  | .slice none 0 0 => some (.l 0 0 (fun _ => []))
  | .int k n => some (.s (.int k n))
  | .bool b => some (.s (.bool b))
  | .string s => some (.s (.string s))
  | _ => none

/-- A struct's cells with some fields filled. -/
def buildC (fs : List (Nat × Nat)) (cells : List Leaf) : List (Nat × List Leaf) → Option (List Leaf)
  | [] => some cells
  | (i, cs) :: t => match nthO fs i with
    | some (off, sz) => match Nat.beq cs.length sz, setCells cells off cs with
      | true, some cells' => buildC fs cells' t
      | _, _ => none
    | none => none

def oneRow (len : Nat) : List (Nat × List Leaf) → Option (List Leaf)
  | [(i, cs)] => match Nat.beq len 1, Nat.beq i 0 with
    | true, true => some cs
    | _, _ => none
  | _ => none
def noRow (len : Nat) : List (Nat × List Leaf) → Bool
  | [] => Nat.beq len 0
  | _ => false
def hasO : List Leaf → Bool
  | [] => false
  | .o _ _ _ :: _ => true
  | _ :: t => hasO t
def heads1 : List (List Leaf) → Option (List Leaf)
  | [] => some []
  | [l] :: t => match heads1 t with
    | some ls => some (l :: ls)
    | none => none
  | _ => none
def buildSliceP (D : Ops) (i : TI) (σ : St) (len : Nat) (ps : List (Nat × List Leaf)) (k : V → St → Prop) : Prop :=
  match noRow len ps with
  | true => k (.one (.lf (.o σ.next 0 0))) (mkObj σ (.deep i.size 0 (fun _ => [])))
  | false => match oneRow len ps with
    | some cs => need (Nat.beq cs.length i.size && Nat.ble i.size 16777216) (match hasO cs with
      | true => match takeCs D cs σ (fun l => l) with
        | some (ds, σ', _) => k (.one (.lf (.o σ'.next 0 1))) (mkObj σ' (.deep i.size 1 (fun _ => ds)))
        | none => k (.one (.lf (.o σ.next 0 1))) (mkObj σ (.vars cs))
      | false => k (.one (.lf (.o σ.next 0 1))) (mkObj σ (.vars cs)))
    | none => match colsFrom D (layRows i.size (i.zero.map leafOfValue) len ps) i.size i.size with
      | some cols => need (ps.all fun p => Nat.blt p.1 len && Nat.beq p.2.length i.size) (need (Nat.ble (len * i.size) 16777216) (k (.one (.lf (.o σ.next 0 len))) (mkObj σ (.deep i.size len (fun j => cols.map fun c => c j)))))
      | none => match heads1 (layRows i.size (i.zero.map leafOfValue) len ps), Nat.beq i.size 1 with
        | some cs, true => match takeCs D cs σ (fun l => l) with
          | some (ds, σ', _) => need (ps.all fun p => Nat.blt p.1 len && Nat.beq p.2.length i.size) (need (Nat.ble (len * i.size) 16777216) (k (.one (.lf (.o σ'.next 0 len))) (mkObj σ' (.deep 1 len (fun j => [getN .x ds j])))))
          | none => False
        | _, _ => False
/-- Pointers told apart, where it can be told. -/
def isPtr : Leaf → Bool
  | .p _ _ | .pr _ _ _ | .qp _ _ _ _ _ _ | .rp _ | .sp _ _ => true
  | _ => false
def ptrSame : V → V → Option Bool
  | .one (.lf (.s (.pointer none))), .one (.lf (.s (.pointer none))) => some true
  | .one (.lf (.p i j)), .one (.lf (.p i' j')) => bif Nat.beq i i' && Nat.beq j j' then some true else none
  | .one (.lf l), .one (.lf (.s (.pointer none))) => bif isPtr l then some false else none
  | _, _ => none
def ptrP (op : BinOp) (x y : V) (k : V → Prop) : Prop :=
  match op, ptrSame x y with
  | .eql, some b => k (.one (.lf (.s (.bool b))))
  | .neq, some b => k (.one (.lf (.s (.bool (!b)))))
  | _, _ => False
def isPt (E : Env) : K → Bool
  | .ptr e => okK (E e).k
  | _ => false
def isMp : K → Bool
  | .mp _ _ => true
  | _ => false
/-- Is it a key of the kind? -/
def keyIs : K → Value → Bool
  | .int k, .int k' _ => sameK k k'
  | .str, .string _ => true
  | _, _ => false
def keyNew (kd : K) (x : Value) (es : List (Value × Leaf)) : Bool := keyIs kd x && es.all fun e => keyIs kd e.1 && !(keyEq x e.1)
def keysAre (kd : K) (es : List (Value × Leaf)) : Bool := es.all fun e => keyIs kd e.1
def zeroIs (i : TI) : Bool :=
  match i.k, i.zero with
  | .int k, [.int k' n] => sameK k k' && n == 0
  | .fn, [_] => true
  | _, _ => false
/-- A map of whole numbers, as a list. -/
def intTab (kk : IntKind) : List (Value × Leaf) → Option (List (Value × Int))
  | [] => some []
  | (x, .s (.int k n)) :: t => match sameK kk k, intTab kk t with
    | true, some l => some ((x, n) :: l)
    | _, _ => none
  | _ => none
def intMap (kd : K) (es : List (Value × Leaf)) : Option (IntKind × List (Value × Int)) :=
  match kd with
  | .int kk => match intTab kk es with
    | some l => some (kk, l)
    | none => none
  | _ => none
def eqKD (D : Ops) : Value → Value → Bool
  | .int _ a, .int _ b => D.eqI a b
  | .string a, .string b => D.eqS a b
  | _, _ => false
def lookP (D : Ops) (x : Value) : List (Value × Leaf) → (Option Leaf → Prop) → Prop
  | [], K => K none
  | (y, l) :: t, K => D.cnd (eqKD D x y) (fun _ => K (some l)) (fun _ => lookP D x t K)
def foundV (ok : Bool) (l : Leaf) (b : Bool) : V :=
  match ok with
  | true => .tup [.lf l, .lf (.s (.bool b))]
  | false => .one (.lf l)
def tabCells (D : Ops) (kk : IntKind) (g r c sz : Nat) (n : Nat) : List Leaf := (List.range n).map fun q => .s (.int kk (D.tabI g r sz (c + q)))
def opP (D : Ops) (E : Env) (C : CallT) (σ : St) (o : Oper) (k : V → St → Prop) : Prop :=
  match o.op with
  | .move x | .assign x => k (evA σ x) σ
  | .pick c a b => match scalarV (evA σ c) with
    | some (.bool t) => D.cnd t (fun _ => k (evA σ a) σ) (fun _ => k (evA σ b) σ)
    | _ => False
  | .binOp op xt x y _ => match isPt E (E xt).k with
    | true => ptrP op (evA σ x) (evA σ y) fun v => k v σ
    | false => match scalarV (evA σ x), scalarV (evA σ y) with
      | some a, some b => binB D (E xt).k op a b fun v => k (.one (.lf (.s v))) σ
      | _, _ => match op, evA σ y with
        | .eql, .one (.lf .nil) => need (isSl (E xt).k) (nilP D (evA σ x) fun b => k (.one (.lf (.s (.bool b)))) σ)
        | .neq, .one (.lf .nil) => need (isSl (E xt).k) (nilP D (evA σ x) fun b => k (.one (.lf (.s (.bool (!b))))) σ)
        | _, _ => False
  | .unOp op _ x => match scalarV (evA σ x) with
    | some a => unP D op a fun v => k (.one (.lf (.s v))) σ
    | _ => False
  | .nilCheck x => match evA σ x with
    | .one (.lf (.p a b)) => k (.one (.lf (.p a b))) σ
    | .one (.lf (.pr a b c)) => k (.one (.lf (.pr a b c))) σ
    | .one (.lf (.rp r)) => k (.one (.lf (.rp r))) σ
    | .one (.lf (.sp a r)) => k (.one (.lf (.sp a r))) σ
    | .one (.lf (.qp a b c d e f)) => k (.one (.lf (.qp a b c d e f))) σ
    | .one (.lf (.fn a r)) => k (.one (.lf (.fn a r))) σ
    | .one (.lf (.fr a r)) => k (.one (.lf (.fr a r))) σ
    | _ => False
  | .extract x i => match evA σ x with
    | .tup vs => match nthO vs i with
      | some v => k (.one v) σ
      | none => False
    | _ => False
  | .fieldAddr s x f => match (E s).k with
    | .st fs => match nthO fs f with
      | some (off, _ + 1) => match evA σ x with
        | .one (.lf (.p id j)) => k (.one (.lf (.p id (j + off)))) σ
        | .one (.lf (.pr id i j)) => k (.one (.lf (.pr id i (j + off)))) σ
        | .one (.lf (.qp id i j kk l sz)) => k (.one (.lf (.qp id i j kk (l + off) sz))) σ
        | .one (.lf (.rp row)) => k (.one (.lf (.rp (row.drop off)))) σ
        | .one (.lf (.sp id row)) => k (.one (.lf (.sp id (row.drop off)))) σ
        | .one (.lf (.gt g r c sz)) => k (.one (.lf (.gt g r (c + off) sz))) σ
        | _ => False
      | _ => False
    | _ => False
  | .indexAddr t x i => match (E t).k, intV (evA σ i) with
    | .sl e, some n => match okK (E e).k with
      | true => indexAddrP D (E e).size (evA σ x) n σ fun v => k v σ
      | false => False
    | .arr m e, some n => match okK (E e).k, evA σ x with
      | true, .one (.lf (.p id 0)) => match look σ.store id with
        | some (.arr m' _ _) => need (Nat.beq m m') (need (Nat.beq (E e).size 1) (idxP D n m (k (.one (.lf (.pr id (D.natI n) 0))) σ)))
        | _ => False
      | true, .one (.lf (.gt g 0 0 0)) => need (Nat.ble 1 (E e).size) (idxP D n m (k (.one (.lf (.gt g (D.natI n) 0 (E e).size))) σ))
      | _, _ => False
    | _, _ => False
  | .index t x i => match (E t).k, evA σ x, intV (evA σ i) with
    | .str, .one (.lf (.s (.string s))), some n => idxP D n (D.lenS s) (k (.one (.lf (.s (.int .u8 (D.byteS s (D.natI n)))))) σ)
    | _, _, _ => False
  | .load t a => match okK (E t).k, evA σ a with
    | true, .one (.lf (.gt g r c sz)) => match tabZ g with
      | some (kk, l) => need (D.ltN r (l.length / sz)) (need (Nat.ble (c + (E t).size) sz) (match packV (isAg (E t).k) (tabCells D kk g r c sz (E t).size) with
        | some v => k v σ
        | none => False))
      | none => False
    | true, .one (.lf l) => match readAt σ l (E t).size with
      | some cs => match packV (isAg (E t).k) cs with
        | some v => k v σ
        | none => False
      | none => False
    | _, _ => False
  | .store t a x => match okK (E t).k, evA σ a, cellsOf (evA σ x) with
    | true, .one (.lf l), some cs => need (decide (cs.length = (E t).size)) (storeP D σ l cs fun σ' => k undefV σ')
    | _, _, _ => False
  | .slice t x lo hi none => match intO σ lo, intO σ hi with
    | some l, some h => match (E t).k with
      | .sl e => match okK (E e).k with
        | true => sliceP D (E e).size σ (evA σ x) l h fun v => k v σ
        | false => False
      | .str => match evA σ x with
        | .one (.lf (.s (.string s))) => cutP D s l h fun s' => k (.one (.lf (.s (.string s')))) σ
        | _ => False
      | _ => False
    | _, _ => False
  | .convert src dst x => convP D E src dst (evA σ x) σ k
  | .alloc t => need (okK (E t).k) (k (.one (.lf (.p σ.next 0))) (mkObj σ (.vars ((E t).zero.map leafOfValue))))
  | .box bt x => match cellsOf (evA σ x) with
    | some cs => match arrOf (E bt).k, scal cs with
      | some n, some (v :: vs) => need (Nat.ble n (v :: vs).length) (k (.one (.lf (.p σ.next 0))) (mkObj σ (.arr n (fun i => [.s (getN v (v :: vs) i)]) ((v :: vs).drop n))))
      | _, _ => k (.one (.lf (.p σ.next 0))) (mkObj σ (.vars cs))
    | none => False
  | .build t parts => match (E t).k, partsV σ parts.toList with
    | .st fs, some ps => match buildC fs ((E t).zero.map leafOfValue) ps with
      | some cs => k (.one (.ag cs)) σ
      | none => False
    | _, _ => False
  | .buildSlice t len parts => match (E t).k, partsV σ parts.toList with
    | .sl e, some ps => match okK (E e).k with
      | true => need (Nat.ble 1 (E e).size) (buildSliceP D (E e) σ len ps k)
      | false => False
    | _, _ => False
  | .makeSlice t l c => match (E t).k, intV (evA σ l), intV (evA σ c) with
    | .sl e, some n, some m => match okK (E e).k with
      | true => need (Nat.ble 1 (E e).size) (need (D.leI 0 n) (need (D.leI n m) (need (Nat.ble 1 (E e).bytes) (need (D.roomN (D.natI m) (E e).bytes)
        (match allS zeroC (E e).zero with
        | some ds => k (.one (.lf (.o σ.next 0 (D.natI n)))) (mkObj σ (.deep (E e).size (D.natI n) (fun _ => ds)))
        | none => False)))))
      | false => False
    | _, _, _ => False
  | .range t x => match (E t).k, evA σ x with
    | .str, .one (.lf (.s (.string s))) => k (.one (.lf (.p σ.next 0))) (mkObj σ (.it s 0))
    | _, _ => False
  | .next x true => match evA σ x with
    | .one (.lf (.p id 0)) => match look σ.store id with
      | some (.it s pos) => D.cnd (D.ltN pos (D.lenS s))
        (fun _ => k (.tup [.lf (.s (.bool true)), .lf (.s (.int .i64 (D.ofN pos))), .lf (.s (.int .i32 (D.decR s pos)))]) (mapSt (killQ id) (putObj σ id (.it s (D.addN pos (D.decW s pos))))))
        (fun _ => k (.tup [.lf (.s (.bool false))]) σ)
      | _ => False
    | _ => False
  | .makeFunc (.func f) first caps => match first.toList, allS (fun x => match evA σ x with | .one (.lf (.p id j)) => some (id, j) | _ => none) caps.toList with
    | [], some cs => k (.one (.lf (.fn f cs))) σ
    | [x], some [] => match evA σ x with
      | .one (.lf (.p id j)) => k (.one (.lf (.fb f id j))) σ
      | _ => False
    | _, _ => False
  | .makeMap t none => need (isMp (E t).k) (k (.one (.lf (.m σ.next))) (mkObj σ (.mp [])))
  | .insert t m x y => match (E t).k, evA σ m, scalarV (evA σ x), evA σ y with
    | .mp kt _, .one (.lf (.m id)), some kv, .one (.lf l) => match look σ.store id with
      | some (.mp es) => D.chk (fun _ => keyNew (E kt).k kv es) ∧ k undefV (mapSt (killQ id) (putObj σ id (.mp (es ++ [(kv, l)]))))
      | _ => False
    | _, _, _, _ => False
  | .lookup t m x ok => match (E t).k, evA σ m, scalarV (evA σ x) with
    | .mp kt et, .one (.lf (.m id)), some xv => match look σ.store id with
      | some (.mp es) => D.chk (fun _ => keysAre (E kt).k es && zeroIs (E et)) ∧ need (keyIs (E kt).k xv) (match intMap (E et).k es with
        | some (kk, tb) => k (foundV ok (.s (.int kk (D.mapI tb xv))) (D.mapB tb xv)) σ
        | none => match (E et).k, (E et).zero with
          | .fn, [z] => lookP D xv es fun r => match r with
            | some l => k (foundV ok l true) σ
            | none => k (foundV ok (leafOfValue z) false) σ
          | _, _ => False)
      | _ => False
    | _, _, _ => False
  | .call c => match c.callee with
    | .value f => match evA σ f with
      | .one (.lf (.fr g rows)) => C g ((c.args.map (evA σ)).toList ++ rows.map fun p => .one (.lf (.rp p))) σ k
      | .one (.lf (.fn g caps)) => C g ((c.args.map (evA σ)).toList ++ caps.map fun p => .one (.lf (.p p.1 p.2))) σ k
      | .one (.lf (.fb g id j)) => C g (.one (.lf (.p id j)) :: (c.args.map (evA σ)).toList) σ k
      | _ => False
    | .builtin .len => match c.args.toList, c.argTypes.toList with
      | [x], [ty] => match okK (E ty).k with
        | true => lenP D (E ty).k (evA σ x) fun v => k v σ
        | false => False
      | _, _ => False
    | .builtin .cap => match c.args.toList, c.argTypes.toList with
      | [x], [ty] => match (E ty).k, evA σ x with
        | .sl _, .one (.lf .nil) => k (.one (.lf (.s (.int .i64 (D.ofN 0))))) σ
        | _, _ => False
      | _, _ => False
    | .builtin .append => match c.args.toList, c.argTypes.toList with
      | [s, x], [t, t2] => match (E t2).k with
        | .sl _ | .str => appendP D E σ t (evA σ s) (evA σ x) k
        | .int _ => match evA σ s, intV (evA σ x), (E t).k with
          | .one (.lf .nil), some n, .sl e => match okK (E e).k with
            | true => need (Nat.ble 1 (E e).size) (need (D.leI 0 n) (need (Nat.ble 1 (E e).bytes) (need (D.roomN (D.natI n) (E e).bytes) (match allS zeroC (E e).zero with
              | some ds => k (.one (.lf (.o σ.next 0 (D.natI n)))) (mkObj σ (.deep (E e).size (D.natI n) (fun _ => ds)))
              | none => False))))
            | false => False
          | _, _, _ => False
        | _ => False
      | _, _ => False
    | .builtin .min => match c.args.toList with
      | [x, y] => match evA σ x, evA σ y with
        | .one (.lf (.s (.int kk a))), .one (.lf (.s (.int _ b))) => k (.one (.lf (.s (.int kk (D.minI a b))))) σ
        | _, _ => False
      | _ => False
    | .builtin .max => match c.args.toList with
      | [x, y] => match evA σ x, evA σ y with
        | .one (.lf (.s (.int kk a))), .one (.lf (.s (.int _ b))) => k (.one (.lf (.s (.int kk (D.maxI a b))))) σ
        | _, _ => False
      | _ => False
    | _ => False
  | _ => False

def setD (σ : St) (d : Option Tmp) (v : V) : St :=
  match d with
  | some t => { σ with slots := setN σ.slots t v }
  | none => σ

/-- One operation under its guard. -/
def stepP (D : Ops) (E : Env) (C : CallT) (ops : List Oper) (σ : St) (o : Oper) (k : V → St → Prop) : Prop :=
  match o.guard with
  | none => opP D E C σ o k
  | some (j, want) =>
    match nthO ops j with
    | some oj => match oj.dst with
      | some d => match getN undefV σ.slots d with
        | .one (.lf (.s (.bool b))) =>
          D.cnd b
            (fun _ => match want with
              | true => opP D E C { σ with slots := setN σ.slots d (.one (.lf (.s (.bool true)))) } o k
              | false => k undefV { σ with slots := setN σ.slots d (.one (.lf (.s (.bool true)))) })
            (fun _ => match want with
              | true => k undefV { σ with slots := setN σ.slots d (.one (.lf (.s (.bool false)))) }
              | false => opP D E C { σ with slots := setN σ.slots d (.one (.lf (.s (.bool false)))) } o k)
        | .tup [] => k undefV σ
        | _ => False
      | none => False
    | none => False

/-- The operations of a region in the text's order. -/
def opsP (D : Ops) (E : Env) (C : CallT) (ops : List Oper) : List Oper → St → (St → Prop) → Prop
  | [], σ, K => K σ
  | o :: os, σ, K => stepP D E C ops σ o fun v σ' => opsP D E C ops os (setD σ' o.dst v) K

/-! ### Regions that draw their order -/
def bindsB : Ground → Bool
  | .textOnly _ | .gcOnly _ => false
  | _ => true
def afterL (o : Oper) : List Nat := (o.after.toList.filter fun e => bindsB e.ground).map (·.on)
def memN : List Nat → Nat → Bool
  | [], _ => false
  | a :: l, n => bif Nat.beq a n then true else memN l n
def quietOp (E : Env) : Op → Bool
  | .move _ | .pick .. | .binOp .. | .unOp .. | .nilCheck _ | .extract .. | .fieldAddr .. | .indexAddr .. | .index .. | .load .. | .slice .. | .build .. | .makeFunc .. | .lookup .. => true
  | .convert _ dst _ => match (E dst).k with
    | .sl _ => false
    | _ => true
  | .call c => match c.callee with
    | .builtin .len | .builtin .min | .builtin .max => true
    | _ => false
  | _ => false
def uniN : List Nat → List Nat → List Nat
  | [], s => s
  | x :: l, s => match memN s x with
    | true => uniN l s
    | false => uniN l (x :: s)
/-- All that lies before: by the edges. -/
def befL : List Oper → List (List Nat) → List (List Nat)
  | [], acc => acc
  | o :: os, acc => befL os (acc ++ [(afterL o).foldl (fun s j => uniN (j :: getN [] acc j) s) []])
def tmpsOf (xs : List Operand) : List Nat := xs.filterMap fun | .tmp t => some t | _ => none
def readsL (ops : List Oper) (o : Oper) : List Nat :=
  tmpsOf o.op.operands.toList ++ (match o.guard with
    | some (j, _) => match nthO ops j with
      | some oj => match oj.dst with
        | some d => [d]
        | none => []
      | none => []
    | none => [])
/-- The next quiet operation that is ready. -/
def nextQ (E : Env) (done : List Nat) : List Oper → Nat → Option Nat
  | [], _ => none
  | o :: os, i => match memN done i, quietOp E o.op && (afterL o).all (memN done) with
    | false, true => some i
    | _, _ => nextQ E done os (i + 1)
/-- The loud ones that are ready. -/
def readyL (E : Env) (done : List Nat) : List Oper → Nat → List Nat
  | [], _ => []
  | o :: os, i => match memN done i, !(quietOp E o.op) && (afterL o).all (memN done) with
    | false, true => i :: readyL E done os (i + 1)
    | _, _ => readyL E done os (i + 1)
/-- What the order of a draw must keep: pairs of the schedule, the earlier first. -/
def pairOk (E : Env) (ops : List Oper) (bef : List (List Nat)) (i j : Nat) (oi oj : Oper) : Bool :=
  -- i comes before j in the schedule
  !(memN (getN [] bef i) j) &&
  (match oj.dst with
   | some d => match quietOp E oj.op with
     | true => !(memN (readsL ops oi) d) && (match oi.dst with | some e => !(Nat.beq e d) | none => true)
     | false => match quietOp E oi.op with
       | true => memN (getN [] bef j) i || (!(memN (readsL ops oi) d) && (match oi.dst with | some e => !(Nat.beq e d) | none => true))
       | false => true
   | none => true) &&
  (match oi.dst with
   | some d => match quietOp E oi.op with
     | true => !(memN (readsL ops oj) d) || memN (getN [] bef j) i
     | false => true
   | none => true)
/-- i comes now: all that is not done comes later. -/
def restOk (E : Env) (ops : List Oper) (bef : List (List Nat)) (i : Nat) (oi : Oper) (done : List Nat) : List Oper → Nat → Bool
  | [], _ => true
  | oj :: os, j => (memN done j || Nat.beq i j || pairOk E ops bef i j oi oj) && restOk E ops bef i oi done os (j + 1)
def addOk (E : Env) (ops : List Oper) (bef : List (List Nat)) (i : Nat) (done : List Nat) : Bool :=
  match nthO ops i with
  | some oi => restOk E ops bef i oi done ops 0
  | none => false
def isSelect : Op → Bool
  | .select _ _ => true
  | _ => false
def selfOk (E : Env) (ops : List Oper) (n : Nat) : List Oper → Nat → Bool
  | [], _ => true
  | o :: os, i => (afterL o).all (fun j => Nat.blt j i) && !(isSelect o.op) && (match o.dst with | some d => Nat.blt d n && (!(quietOp E o.op) || !(memN (readsL ops o) d)) | none => !(quietOp E o.op)) && selfOk E ops n os (i + 1)
def allIn (l : List Nat) : Nat → Bool
  | 0 => true
  | n + 1 => memN l n && allIn l n

/-- Quiet ones that may come behind: they must read as before. -/
def recheckP (D : Ops) (E : Env) (C : CallT) (ops : List Oper) (σ : St) : List Nat → Prop → Prop
  | [], P => P
  | j :: js, P => match nthO ops j with
    | some oj => (match oj.dst with
      | some d => stepP D E C ops σ oj fun v _ => v = getN undefV σ.slots d
      | none => False) ∧ D.stp fun _ => recheckP D E C ops σ js P
    | none => False
/-- Every order of the loud ones is right. -/
def chkX (E : Env) (ops : List Oper) (bef : List (List Nat)) : Nat → List Nat → Bool
  | 0, done => allIn done ops.length
  | n + 1, done => match nextQ E done ops 0 with
    | some i => addOk E ops bef i done && chkX E ops bef n (i :: done)
    | none => match readyL E done ops 0 with
      | [] => allIn done ops.length
      | i :: l => (i :: l).all fun i => addOk E ops bef i done && chkX E ops bef n (i :: done)
def eachL (F : Nat → Prop) : Nat → List Nat → Prop
  | i, [] => F i
  | i, j :: l => F i ∧ eachL F j l
def opsX (D : Ops) (E : Env) (C : CallT) (ops : List Oper) (bef : List (List Nat)) : Nat → List Nat → List Nat → St → (St → Prop) → Prop
  | 0, _, _, σ, K => K σ
  | n + 1, done, q, σ, K => D.stp fun _ => match nextQ E done ops 0 with
    | some i => match nthO ops i with
      | some o => stepP D E C ops σ o fun v σ' => opsX D E C ops bef n (i :: done) (q ++ [i]) (setD σ' o.dst v) K
      | none => False
    | none => match readyL E done ops 0 with
      | [] => K σ
      | i :: l => eachL (fun i => match nthO ops i with
        | some o => stepP D E C ops σ o fun v σ' => recheckP D E C ops (setD σ' o.dst v) (q.filter fun j => !(memN (getN [] bef i) j)) (opsX D E C ops bef n (i :: done) q (setD σ' o.dst v) K)
        | none => False) i l
theorem stp_std (A : Unit → Prop) : std.stp A = A () := rfl
def drawP (D : Ops) (E : Env) (C : CallT) (ops : List Oper) (σ : St) (K : St → Prop) : Prop :=
  let bef := befL ops []
  D.chk (fun _ => chkX E ops bef ops.length [] && selfOk E ops σ.slots.length ops 0) ∧ opsX D E C ops bef ops.length [] [] σ K

/-- What a loop comes to, told by its body's meaning. -/
abbrev LoopT := Bool → Code → (St → (Exit → St → Prop) → Prop) → St → (Exit → St → Prop) → Prop

/-- May it end behind its last word? -/
def falls : Code → Bool
  | .ret => false
  | .exit _ => false
  | .loop _ => false
  | .seq a b => falls a && falls b
  | .cond _ x y => falls x || falls y
  | _ => true
def isSkip : Code → Bool
  | .skip => true
  | _ => false
/-- Do roads meet behind it? -/
def meets : Code → Bool
  | .cond _ x y => falls x && falls y
  | .region _ ops true => ops.toList.any fun o => match o.op with | .alloc _ => true | _ => false
  | .block _ _ => true
  | .seq _ b => meets b
  | _ => false

def AWP (D : Ops) (E : Env) (C : CallT) (L : LoopT) : Code → St → (Exit → St → Prop) → Prop
  | .skip, σ, K => K .normal σ
  | .label _, σ, K => K .normal σ
  | .region _ ops false, σ, K => opsP D E C ops.toList ops.toList σ (fun σ' => D.stp fun _ => K .normal σ')
  | .region _ ops true, σ, K => drawP D E C ops.toList σ (fun σ' => D.stp fun _ => K .normal σ')
  | .seq a b, σ, K => match meets a with
    | true => L true a (fun σ K => AWP D E C L a σ K) σ fun e σ' => match e with
      | .normal => AWP D E C L b σ' K
      | e => K e σ'
    | false => AWP D E C L a σ fun e σ' => match e with
      | .normal => AWP D E C L b σ' K
      | e => K e σ'
  | .cond c x y, σ, K => match scalarV (evA σ c) with
    | some (.bool t) => D.cnd t (fun _ => AWP D E C L x σ K) (fun _ => AWP D E C L y σ K)
    | _ => False
  | .block id c, σ, K => AWP D E C L c σ fun e σ' => match e with
    | .exit id' => match Nat.beq id' id with
      | true => K .normal σ'
      | false => K (.exit id') σ'
    | e => K e σ'
  | .loop c, σ, K => L false c (fun σ K => AWP D E C L c σ K) σ K
  | .exit id, σ, K => K (.exit id) σ
  | .ret, σ, K => K .ret σ
  | _, _, _ => False

end Go.AW
/- The abstract calculus, part 4: what is read is so; values that turn no state. -/
set_option linter.unusedVariables false
set_option linter.unusedSimpArgs false
namespace Go.AW

def Kok (P : Program) : K → TypeDesc → Prop
  | .bool, .bool => True
  | .int k, .int k' => k' = k
  | .str, .string => True
  | .ptr e, .pointer e' => e' = e
  | .sl e, .slice e' => e' = e
  | .arr n e, .array n' e' => n' = n ∧ e' = e
  | .st fs, .struct gs => gs.size = fs.length ∧ ∀ (i : Nat) (x : Nat × Nat), fs[i]? = some x → ∃ g : Field, gs[i]? = some g ∧ g.offset = x.1 ∧ (P.info? g.type).map (·.size) = some x.2
  | .fn, .func _ _ _ => True
  | .mp k e, .map k' e' => k' = k ∧ e' = e
  | _, _ => False

structure TIok (P : Program) (t : TypeId) (i : TI) : Prop where
  und : ∃ d, P.underlying t = some d ∧ Kok P i.k d
  size : (P.info? t).map (·.size) = some i.size
  bytes : (P.info? t).map (·.bytes) = some i.bytes
  zero : ∃ z, (P.info? t).map (·.zero) = some (some z) ∧ z.cells.toList = i.zero
  one : i.zero.all (·.oneCell') = true
  zone : isAg i.k = false → ∀ z, (P.info? t).map (·.zero) = some (some z) → z.oneCell' = true
  len : i.zero.length = i.size

def EnvOk (P : Program) (E : Env) : Prop := ∀ t, (E t).k ≠ .other → TIok P t (E t)

section
variable {P : Program} {t : TypeId} {i : TI} (w : World)
theorem TIok.run_size (h : TIok P t i) : (sizeOf t).run P w = .ok i.size w := by
  have := h.size
  cases hi : P.info? t with
  | none => simp [hi] at this
  | some x => simp [sizeOf, typeInfo, hi] at this ⊢; rw [this]
theorem TIok.run_info (h : TIok P t i) : ∃ x, P.info? t = some x ∧ x.size = i.size ∧ x.bytes = i.bytes ∧ ∃ z, x.zero = some z ∧ z.cells.toList = i.zero := by
  obtain ⟨z, hz, hc⟩ := h.zero
  have h1 := h.size; have h2 := h.bytes
  cases hi : P.info? t with
  | none => simp [hi] at h1
  | some x => simp [hi] at h1 h2 hz; exact ⟨x, rfl, h1, h2, z, hz, hc⟩
theorem TIok.run_isAgg (h : TIok P t i) : (isAgg t).run P w = .ok (isAg i.k) w := by
  obtain ⟨d, hd, hk⟩ := h.und
  simp only [isAgg, Sem.run_bind, run_underlying hd, Result.andThen_ok]
  cases hK : i.k <;> cases d <;> simp [Kok, hK, isAg] at hk ⊢
theorem TIok.sl (h : TIok P t i) {e : Nat} (hk : i.k = .sl e) : P.underlying t = some (.slice e) := by
  obtain ⟨d, hd, hK⟩ := h.und
  cases d <;> simp [Kok, hk] at hK
  rw [hd, hK]
theorem TIok.str (h : TIok P t i) (hk : i.k = .str) : P.underlying t = some .string := by
  obtain ⟨d, hd, hK⟩ := h.und
  cases d <;> simp [Kok, hk] at hK
  exact hd
theorem TIok.int (h : TIok P t i) {k : IntKind} (hk : i.k = .int k) : P.underlying t = some (.int k) := by
  obtain ⟨d, hd, hK⟩ := h.und
  cases d <;> simp [Kok, hk] at hK
  rw [hd, hK]
theorem TIok.st (h : TIok P t i) {fs : List (Nat × Nat)} (hk : i.k = .st fs) : ∃ gs, P.underlying t = some (.struct gs) ∧ gs.size = fs.length ∧
    ∀ (i : Nat) (x : Nat × Nat), fs[i]? = some x → ∃ g : Field, gs[i]? = some g ∧ g.offset = x.1 ∧ (P.info? g.type).map (·.size) = some x.2 := by
  obtain ⟨d, hd, hK⟩ := h.und
  rw [hk] at hK
  cases d <;> simp only [Kok] at hK
  exact ⟨_, hd, hK⟩
end

theorem nthO_getElem? {α : Type} : ∀ (l : List α) (n : Nat), nthO l n = l[n]?
  | [], n => by simp [nthO]
  | a :: l, 0 => by simp [nthO]
  | a :: l, n + 1 => by simp [nthO, nthO_getElem? l n]
theorem getN_getD {α : Type} (d : α) : ∀ (l : List α) (n : Nat), getN d l n = l.getD n d
  | [], n => by simp [getN]
  | a :: l, 0 => by simp [getN]
  | a :: l, n + 1 => by simp [getN, getN_getD d l n]
theorem setN_length {α : Type} (v : α) : ∀ (l : List α) (n : Nat), (setN l n v).length = l.length
  | [], n => by simp [setN]
  | a :: l, 0 => by simp [setN]
  | a :: l, n + 1 => by simp [setN, setN_length v l n]
theorem getN_setN {α : Type} (d v : α) : ∀ (l : List α) (n m : Nat), getN d (setN l n v) m = if m = n ∧ n < l.length then v else getN d l m
  | [], n, m => by simp [setN, getN]
  | a :: l, 0, 0 => by simp [setN, getN]
  | a :: l, 0, m + 1 => by simp [setN, getN]
  | a :: l, n + 1, 0 => by simp [setN, getN]
  | a :: l, n + 1, m + 1 => by simp [setN, getN, getN_setN d v l n m]

/-! ### Leaves -/
theorem rleaf_ofValue (γ : Ghost) (w : World) (v : Value) (h : v.oneCell' = true) : RLeaf γ w (leafOfValue v) v := by
  refine ⟨h, ?_⟩
  unfold leafOfValue
  split
  · rfl
  · rfl

theorem rv_ofValue (γ : Ghost) (w : World) (v : Value) : RV γ w (vOfValue v) v := by
  unfold vOfValue
  split
  · rename_i cs
    split
    · rename_i hall
      refine ⟨cs.toList, by simp, by simp, ?_⟩
      intro j l hl
      simp only [List.getElem?_map, Option.map_eq_some_iff] at hl
      obtain ⟨u, hu, rfl⟩ := hl
      exact ⟨u, hu, rleaf_ofValue γ w u (by
        have := List.all_eq_true.mp hall u (List.mem_of_getElem? hu)
        exact this)⟩
    · trivial
  · trivial
  · rename_i hag htu
    exact rleaf_ofValue γ w v (by cases v <;> simp_all [Value.oneCell'])

section
variable {w0 w : World} {mine : FP} {γ : Ghost} {σ : St} {a : Act}

theorem Rel.ev (R : Rel w0 mine γ σ a w) (x : Operand) : RV γ w (evA σ x) (a.eval x) := by
  cases x with
  | tmp t => exact R.slots t
  | const v => exact rv_ofValue γ w v
  | func f => exact ⟨rfl, [], rfl, rfl, by simp⟩
  | global g =>
    simp only [evA]
    split
    · exact ⟨rfl, by simp [Act.eval, RLeafC]⟩
    · trivial

/-- The state as it is, another value in a temporary. -/
theorem Rel.set (R : Rel w0 mine γ σ a w) (d : Option Tmp) (v : V) (u : Value) (hv : RV γ w v u) : Rel w0 mine γ (setD σ d v) (a.put d u) w := by
  cases d with
  | none => exact R
  | some t =>
    refine ⟨?_, ?_, R.st⟩
    · show (a.tmps.setIfInBounds t u).size = (setN σ.slots t v).length
      simp [setN_length, R.size]
    · intro i
      show RV γ w (getN undefV (setN σ.slots t v) i) ((a.tmps.setIfInBounds t u).getD i undef)
      rw [getN_setN]
      by_cases hi : i = t ∧ t < σ.slots.length
      · obtain ⟨rfl, hlt⟩ := hi
        rw [if_pos ⟨rfl, hlt⟩]
        have : i < a.tmps.size := by rw [R.size]; exact hlt
        simpa [Array.getD, this] using hv
      · rw [if_neg hi]
        have hR := R.slots i
        have : (a.tmps.setIfInBounds t u).getD i undef = a.tmps.getD i undef := by
          by_cases hit : i = t
          · subst hit
            have : ¬ i < a.tmps.size := by rw [R.size]; exact fun h => hi ⟨rfl, h⟩
            simp [Array.getD, this]
          · simp only [Array.getD_eq_getD_getElem?, Array.getElem?_setIfInBounds]
            rw [if_neg (by omega)]
        rw [this]
        exact hR

theorem scalarV_some {V : V} {v : Value} (h : scalarV V = some v) : V = .one (.lf (.s v)) := by
  unfold scalarV at h
  split at h
  · simp at h; rw [h]
  · simp at h
theorem intV_some {V : V} {n : Int} (h : intV V = some n) : ∃ k, V = .one (.lf (.s (.int k n))) := by
  unfold intV at h
  split at h
  · rename_i k m; simp at h; exact ⟨k, by rw [h]⟩
  · simp at h
theorem Rel.scalar (R : Rel w0 mine γ σ a w) {x : Operand} {v : Value} (h : scalarV (evA σ x) = some v) : a.eval x = v := by
  have := R.ev x
  rw [scalarV_some h] at this
  exact this.2
theorem Rel.int (R : Rel w0 mine γ σ a w) {x : Operand} {n : Int} (h : intV (evA σ x) = some n) : ∃ k, a.eval x = .int k n := by
  obtain ⟨k, hk⟩ := intV_some h
  have := R.ev x
  rw [hk] at this
  exact ⟨k, this.2⟩
end

/-- What an operation has come to: the value that goes into its temporary, and a state that fits. -/
def Post (w0 : World) (mine : FP) (a : Act) (k : V → St → Prop) (u : Value) (w : World) : Prop :=
  ∃ V σ γ, k V σ ∧ Rel w0 mine γ σ a w ∧ RV γ w V u

def Does (P : Program) (w0 : World) (mine : FP) (a : Act) (w : World) (o : Oper) (k : V → St → Prop) : Prop :=
  (∃ u w', (execOp a.eval o).run P w = .ok (.value u) w' ∧ Post w0 mine a k u w') ∨
  (∃ w', (execOp a.eval o).run P w = .ok .skip w' ∧ Post w0 mine a k undef w') ∨
  (∃ f args, (execOp a.eval o).run P w = .ok (.enter f args) w ∧ Calls P f args w fun e w' => ∃ u, e = .returned u ∧ Post w0 mine a k u w')

section
variable {P : Program} {w0 w : World} {mine : FP} {γ : Ghost} {σ : St} {a : Act} {k : V → St → Prop}
theorem Does.value {o : Oper} (R : Rel w0 mine γ σ a w) {V : V} {u : Value} (hk : k V σ) (hv : RV γ w V u) (hr : (execOp a.eval o).run P w = .ok (.value u) w) : Does P w0 mine a w o k :=
  .inl ⟨u, w, hr, V, σ, γ, hk, R, hv⟩

/-- It comes to a value and turns nothing. -/
def DoesQ (P : Program) (γ : Ghost) (σ : St) (a : Act) (w : World) (o : Oper) (k : V → St → Prop) : Prop :=
  ∃ V u, k V σ ∧ RV γ w V u ∧ (execOp a.eval o).run P w = .ok (.value u) w
theorem DoesQ.value {o : Oper} (R : Rel w0 mine γ σ a w) {V : V} {u : Value} (hk : k V σ) (hv : RV γ w V u) (hr : (execOp a.eval o).run P w = .ok (.value u) w) : DoesQ P γ σ a w o k :=
  ⟨V, u, hk, hv, hr⟩
theorem DoesQ.does {o : Oper} (h : DoesQ P γ σ a w o k) (R : Rel w0 mine γ σ a w) : Does P w0 mine a w o k :=
  let ⟨V, u, hk, hv, hr⟩ := h
  .inl ⟨u, w, hr, V, σ, γ, hk, R, hv⟩

theorem does_move (R : Rel w0 mine γ σ a w) {d t p af g} {x : Operand} (h : k (evA σ x) σ) : DoesQ P γ σ a w ⟨d, .move x, t, p, af, g⟩ k :=
  .value R h (R.ev x) (by simp [execOp])
theorem does_assign (R : Rel w0 mine γ σ a w) {d t p af g} {x : Operand} (h : k (evA σ x) σ) : DoesQ P γ σ a w ⟨d, .assign x, t, p, af, g⟩ k :=
  .value R h (R.ev x) (by simp [execOp])

theorem rv_s {v : Value} (h : v.oneCell' = true) : RV γ w (.one (.lf (.s v))) v := ⟨h, rfl⟩
theorem rv_bool (b : Bool) : RV γ w (.one (.lf (.s (.bool b)))) (.bool b) := rv_s rfl
theorem rv_int (kk : IntKind) (n : Int) : RV γ w (.one (.lf (.s (.int kk n)))) (.int kk n) := rv_s rfl

theorem does_pick (R : Rel w0 mine γ σ a w) {d t p af g} {c x y : Operand} {b : Bool} (hb : scalarV (evA σ c) = some (.bool b)) (h : condP b (fun _ => k (evA σ x) σ) (fun _ => k (evA σ y) σ)) :
    DoesQ P γ σ a w ⟨d, .pick c x y, t, p, af, g⟩ k := by
  have hc := R.scalar hb
  cases b with
  | true => exact .value R h (R.ev x) (by simp [execOp, hc, asBool])
  | false => exact .value R h (R.ev y) (by simp [execOp, hc, asBool])

theorem binP_sound (op : BinOp) (x y : Value) (t : TypeId) (ox oy : Operand) {K : Value → Prop} (h : binP std op x y K) :
    ∃ v, K v ∧ v.oneCell' = true ∧ (do eqGuard op t ox oy x y; binOp op t x y : Sem Value).run P w = .ok v w := by
  have hg : (x.oneCell' = true ∧ x ≠ .nilIface) → (eqGuard op t ox oy x y).run P w = .ok () w := by
    intro hx
    unfold eqGuard
    cases op <;> cases x <;> simp_all [Value.oneCell']
  unfold binP at h
  split at h
  · rename_i kx a ky b
    have hg' := hg ⟨rfl, by simp⟩
    simp only [Sem.run_bind, hg', Result.andThen_ok]
    have hk : isShift op = true ∨ kx = ky := by
      split at h
      · exact h.elim
      · rename_i hn
        cases hs : isShift op with
        | true => exact .inl rfl
        | false =>
          right
          cases kx <;> cases ky <;> first | rfl | (exfalso; exact hn hs rfl)
    have h' : intP std op kx a b K := by
      split at h
      · exact h.elim
      · exact h
    clear h
    cases op <;> simp only [need, intP] at h'
    all_goals first
      | (refine ⟨_, h', rfl, ?_⟩)
      | (refine ⟨_, h'.2, rfl, ?_⟩)
    all_goals first
      | (have h1 := h'.1; simp [std] at h1; first | (simp [binOp, Op.shift, std, h1, Int.not_lt.mpr h1]; done) | (obtain rfl := hk.resolve_left (by simp [isShift]); simp [binOp, Op.intDiv, std, h1]; done))
      | (obtain rfl := hk.resolve_left (by simp [isShift]); simp [binOp, Op.intArith, Op.intCmp, Op.intBits, std, bne]; done)
  · rename_i s1 s2
    have hg' := hg ⟨rfl, by simp⟩
    simp only [Sem.run_bind, hg', Result.andThen_ok]
    cases op <;> simp only [need] at h
    all_goals first
      | exact h.elim
      | (refine ⟨_, h, rfl, ?_⟩)
      | (refine ⟨_, h.2, rfl, ?_⟩)
    all_goals first
      | (simp [binOp, Op.stringOp, std, bne]; done)
      | (have h1 := h.1; simp [std] at h1; have hm : IntKind.max .i64 = 9223372036854775807 := by decide +kernel
         simp only [binOp, Op.stringOp, std, hm]; rw [if_neg (by omega)]; rfl)
  · exact h.elim

theorem does_binOp (R : Rel w0 mine γ σ a w) {d t p af g op xt yt} {x y : Operand} {vx vy : Value} (hx : scalarV (evA σ x) = some vx) (hy : scalarV (evA σ y) = some vy)
    (h : binP std op vx vy fun v => k (.one (.lf (.s v))) σ) : DoesQ P γ σ a w ⟨d, .binOp op xt x y yt, t, p, af, g⟩ k := by
  obtain ⟨v, hk, h1, hr⟩ := binP_sound (P := P) (w := w) op vx vy xt x y h
  refine .value R hk (rv_s h1) ?_
  simp only [execOp, R.scalar hx, R.scalar hy]
  rw [Sem.run_bind, hr]
  rfl

theorem does_unOp (R : Rel w0 mine γ σ a w) {d t p af g op xt} {x : Operand} {vx : Value} (hx : scalarV (evA σ x) = some vx)
    (h : unP std op vx fun v => k (.one (.lf (.s v))) σ) : DoesQ P γ σ a w ⟨d, .unOp op xt x, t, p, af, g⟩ k := by
  unfold unP at h
  split at h
  · exact .value R h (rv_int _ _) (by simp [execOp, R.scalar hx, Op.unary, Op.intArith, std])
  · rename_i b
    cases b with
    | true => exact .value R h (rv_bool _) (by simp [execOp, R.scalar hx, Op.unary])
    | false => exact .value R h (rv_bool _) (by simp [execOp, R.scalar hx, Op.unary])
  · exact h.elim

theorem does_extract (R : Rel w0 mine γ σ a w) {d t p af g} {x : Operand} {i : Nat} {vs : List V1} {v : V1} (hx : evA σ x = .tup vs) (hv : nthO vs i = some v) (h : k (.one v) σ) :
    DoesQ P γ σ a w ⟨d, .extract x i, t, p, af, g⟩ k := by
  have hr := R.ev x
  rw [hx] at hr
  obtain ⟨us, he, hl, hj⟩ := hr
  rw [nthO_getElem?] at hv
  obtain ⟨u, hu, hru⟩ := hj i v hv
  exact .value R h hru (by simp [execOp, he, Instr.extract, hu])

theorem does_nilCheck (R : Rel w0 mine γ σ a w) {d t p af g} {x : Operand} {l : Leaf} (hx : evA σ x = .one (.lf l)) (hl : match l with | .p _ _ | .pr _ _ _ | .qp _ _ _ _ _ _ | .rp _ | .sp _ _ | .fn _ _ | .fr _ _ => True | _ => False) (h : k (.one (.lf l)) σ) :
    DoesQ P γ σ a w ⟨d, .nilCheck x, t, p, af, g⟩ k := by
  have hr := R.ev x
  rw [hx] at hr
  refine .value R h hr ?_
  have h2 := hr.2
  cases l <;> simp only [RLeafC, RRow] at h2 hl
  · obtain ⟨g', b, _, _, he⟩ := h2; simp [execOp, he]
  · obtain ⟨g', b, _, _, _, he⟩ := h2; simp [execOp, he]
  · obtain ⟨c, b, o, N, cap, _, _, _, he⟩ := h2; simp [execOp, he]
  · obtain ⟨b, off, cs, t', fr, he, _⟩ := h2; simp [execOp, he]
  · obtain ⟨_, b, off, cs, t', fr, he, _⟩ := h2; simp [execOp, he]
  · obtain ⟨vs, he, _⟩ := h2; simp [execOp, he]
  · obtain ⟨vs, he, _⟩ := h2; simp [execOp, he]
end
end Go.AW
/- The abstract calculus, part 5: reading memory. -/
set_option linter.unusedVariables false
set_option linter.unusedSimpArgs false
namespace Go.AW

theorem add_at (b o j : Nat) : (⟨b, o, none⟩ : Addr).add j = ⟨b, o + j, none⟩ := by unfold Addr.add; split <;> simp_all
theorem cell_at {w : World} {b : Nat} {cs : Array Value} {t : TypeId} {fr : Nat × Nat} (h : w.heap[b]? = some (.cells cs t fr)) (o : Nat) : w.cell? ⟨b, o, none⟩ = cs[o]? := by
  simp [World.cell?, h]

theorem takeL_spec {α : Type} : ∀ (l : List α) (n : Nat) (r : List α), cutL.takeL l n = some r → r.length = n ∧ ∀ k, k < n → r[k]? = l[k]?
  | l, 0, r, h => by simp [cutL.takeL] at h; subst h; simp
  | [], n + 1, r, h => by simp [cutL.takeL] at h
  | a :: l, n + 1, r, h => by
    simp only [cutL.takeL] at h
    split at h
    · rename_i t ht
      simp at h
      subst h
      obtain ⟨h1, h2⟩ := takeL_spec l n t ht
      refine ⟨by simp [h1], fun k hk => ?_⟩
      cases k with
      | zero => simp
      | succ k => simpa using h2 k (by omega)
    · simp at h
theorem cutL_spec {α : Type} : ∀ (l : List α) (j n : Nat) (r : List α), cutL l j n = some r → r.length = n ∧ ∀ k, k < n → r[k]? = l[j + k]?
  | l, 0, n, r, h => by
    have := takeL_spec l n r (by cases l <;> simpa [cutL] using h)
    simpa using this
  | [], j + 1, n, r, h => by simp [cutL] at h
  | a :: l, j + 1, n, r, h => by
    obtain ⟨h1, h2⟩ := cutL_spec l j n r (by simpa [cutL] using h)
    refine ⟨h1, fun k hk => ?_⟩
    rw [h2 k hk, show j + 1 + k = (j + k) + 1 by omega]
    simp

section
variable {P : Program} {w0 w : World} {mine : FP} {γ : Ghost} {σ : St} {a : Act} {k : V → St → Prop} {E : Env}

theorem RoT.one {F : FP} {v : Value} {d : DV} (h : RoT w F v d) : v.oneCell' = true := by
  cases h with
  | x v h1 => exact h1
  | s v h1 => exact h1
  | nl => rfl
  | bl => rfl
theorem OwnT.one {F : FP} {v : Value} {d : DV} (h : OwnT w F v d) : v.oneCell' = true := h.ro.one

theorem rleaf_ro {u : Value} {d : DV} (h : RoT w γ.ro u d) : RLeaf γ w (roLeaf d) u := by
  refine ⟨h.one, ?_⟩
  cases d with
  | s v => cases h; rfl
  | l z n f => exact h.resz 0
  | x => trivial
theorem rleaf_sn {u : Value} {d : DV} {id : Nat} {g : G1} (hg : γ.g id = some g) (h : RoT w (γ.fp id) u d) : RLeaf γ w (snLeaf id d) u := by
  refine ⟨h.one, ?_⟩
  cases d with
  | s v => cases h; rfl
  | l z n f => exact ⟨⟨g, hg⟩, h.resz 0⟩
  | x => trivial

/-- What lies in a cell is owned as the object tells. -/
theorem at_own {st : List (Nat × Obj)} {nx : Nat} (R : RelS w0 mine γ st nx w) {id i j sz m : Nat} {F : Nat → List DV} {c : Value} {d : DV} (ho : look st id = some (.deep sz m F)) (hc : AtCell γ w id i j c) (hd : (F i)[j]? = some d) :
    ∃ G : FP, OwnT w G c d ∧ ∀ x, G x → γ.fp id x := by
  obtain ⟨g, b, cs, t, fr, hg, hb, hlt, hfp, hh, hcell⟩ := hc
  obtain ⟨g', hg', hr⟩ := R.objs id _ ho
  rw [hg] at hg'; cases hg'
  simp only [RObj, hb] at hr
  obtain ⟨rfl, _, _, cs', t', fr', vs, G, hfp', hh', hun, htot, hn, hlen, hG, hGd, hv⟩ := hr
  rw [hh] at hh'; cases hh'
  obtain ⟨h1, h2⟩ := hv i j d hlt hd
  rw [hcell] at h1; cases h1
  exact ⟨G i j, h2, fun x hx => (hG i j x hx).1⟩
theorem own_view {F : FP} {c : Value} {sz n : Nat} {f : Nat → List DV} (h : OwnT w F c (.l sz n f)) : ∃ A cap, c = .slice A n cap ∧ n ≤ cap ∧ (0 < n → ∃ b o, A = some ⟨b, o, none⟩) := by
  cases h with
  | nl => exact ⟨_, _, rfl, Nat.le_refl _, fun h => absurd h (Nat.lt_irrefl 0)⟩
  | bl _ b off _ cap _ _ cs t fr vs G hF hs hb hu hn => exact ⟨_, _, rfl, hn, fun _ => ⟨_, _, rfl⟩⟩
theorem qLeaves_spec (id i : Nat) : ∀ (l : List DV) (j : Nat), (qLeaves id i j l).length = l.length ∧ ∀ q, (qLeaves id i j l)[q]? = (l[q]?).map (qLeaf id i (j + q))
  | [], j => by simp [qLeaves]
  | d :: l, j => by
    obtain ⟨h1, h2⟩ := qLeaves_spec id i l (j + 1)
    refine ⟨by simp [qLeaves, h1], fun q => ?_⟩
    cases q with
    | zero => simp [qLeaves]
    | succ q => simp only [qLeaves, List.getElem?_cons_succ, h2 q]; rw [show j + 1 + q = j + (q + 1) by omega]
theorem rleaf_q {c : Value} {d : DV} {id i j : Nat} {F : FP} (h : OwnT w F c d) (hc : AtCell γ w id i j c) : RLeaf γ w (qLeaf id i j d) c := by
  refine ⟨h.one, ?_⟩
  cases d with
  | s v => cases h; rfl
  | l z n f => exact ⟨c, hc, rfl, own_view h⟩
  | x => trivial

/-- What 'readAt' tells lies there. -/
theorem readAt_sound (R : RelS w0 mine γ σ.store σ.next w) {l : Leaf} {u : Value} (hl : RLeaf γ w l u) {n : Nat} {cs : List Leaf} (h : readAt σ l n = some cs) :
    ∃ b off us, u = .pointer (some ⟨b, off, none⟩) ∧ cs.length = n ∧ RCells γ w cs us ∧ ∀ j, j < n → w.cell? ⟨b, off + j, none⟩ = us[j]? := by
  cases l <;> simp only [readAt] at h <;> try (simp at h; done)
  case p id j =>
    split at h
    · rename_i cells hs
      obtain ⟨h1, h2⟩ := cutL_spec _ _ _ _ h
      obtain ⟨g, b, hg, hb, hu⟩ := hl.2
      obtain ⟨g', hg', b', cs', t, fr, hb', hfp, hh, hun, hbase, htot, hsz, hgz, hrc⟩ := R.objs id _ hs
      rw [hg] at hg'; cases hg'
      rw [hb] at hb'; cases hb'
      refine ⟨b, j, (cs'.toList.drop j).take n, by rw [hu, hbase, Nat.zero_add], h1, ⟨?_, ?_⟩, ?_⟩
      · rw [h1, List.length_take, List.length_drop]
        have : n = 0 ∨ j + n ≤ cells.length := by
          rcases Nat.eq_zero_or_pos n with h0 | h0
          · exact .inl h0
          · right
            have := h2 (n - 1) (by omega)
            rw [List.getElem?_eq_getElem (by omega)] at this
            have := (List.getElem?_eq_some_iff.mp this.symm).1
            omega
        have h3 : cs'.toList.length = cells.length := by simpa using hsz
        omega
      · intro i x hx
        have hi : i < n := by rw [← h1]; exact (List.getElem?_eq_some_iff.mp hx).1
        rw [h2 i hi] at hx
        obtain ⟨v, hv, hrv⟩ := hrc.2 _ _ hx
        exact ⟨v, by rw [List.getElem?_take, if_pos hi, List.getElem?_drop]; exact hv, hrv⟩
      · intro i hi
        rw [cell_at hh, List.getElem?_take, if_pos hi, List.getElem?_drop]
        simp
    · rename_i m f ws hs
      split at h
      · rename_i r hm hr
        simp at h
        subst h
        have hm := Nat.le_of_ble_eq_true hm
        obtain ⟨h1, h2⟩ := cutL_spec _ _ _ _ hr
        obtain ⟨g, b, hg, hb, hu⟩ := hl.2
        obtain ⟨g', hg', b', cs', t, fr, hb', hfp, hh, hun, hbase, hgz, hgn, htot, hsz, hrows, hws⟩ := R.objs id _ hs
        rw [hg] at hg'; cases hg'
        rw [hb] at hb'; cases hb'
        have hcell : ∀ q v, r[q]? = some v → cs'[j + q]? = some v ∧ v.oneCell' = true := fun q v hq => by
          have hqn : q < n := by rw [← h1]; exact (List.getElem?_eq_some_iff.mp hq).1
          rw [h2 q hqn] at hq
          have := hws _ _ hq
          rw [show m + (j - m + q) = j + q by omega] at this
          exact this
        refine ⟨b, j, r, by rw [hu, hbase, Nat.zero_add], by rw [List.length_map, h1], ⟨by simp, fun q x hx => ?_⟩, fun q hq => ?_⟩
        · simp only [List.getElem?_map, Option.map_eq_some_iff] at hx
          obtain ⟨v, hv, rfl⟩ := hx
          exact ⟨v, hv, (hcell q v hv).2, rfl⟩
        · have hlt : q < r.length := by omega
          rw [cell_at hh, (hcell q _ (List.getElem?_eq_getElem hlt)).1, List.getElem?_eq_getElem hlt]
      · simp at h
    · simp at h
  case pr id i j =>
    split at h
    · rename_i m f hs
      split at h
      · rename_i r hr
        simp at h
        subst h
        obtain ⟨h1, h2⟩ := cutL_spec _ _ _ _ hr
        obtain ⟨g, b, hg, hb, hlt, hu⟩ := hl.2
        obtain ⟨g', hg', ho⟩ := R.objs id _ hs
        rw [hg] at hg'; cases hg'
        simp only [RObj, hb] at ho
        obtain ⟨rfl, _, _, cs', t, fr, vs, G, hfp, hh, hun, htot, hn, hlen, hG, hGd, hv⟩ := ho
        obtain ⟨q1, q2⟩ := qLeaves_spec id i r j
        refine ⟨b, g.base + i * g.sz + j, (List.range n).map fun q => vs i (j + q), hu, by rw [q1, h1], ⟨by rw [q1, h1]; simp, ?_⟩, ?_⟩
        · intro q x hx
          rw [q2 q] at hx
          simp only [Option.map_eq_some_iff] at hx
          obtain ⟨d, hd, rfl⟩ := hx
          have hq : q < n := by rw [← h1]; exact (List.getElem?_eq_some_iff.mp hd).1
          rw [h2 q hq] at hd
          obtain ⟨hcell, hown⟩ := hv i (j + q) d hlt hd
          exact ⟨vs i (j + q), by simp [hq], rleaf_q hown ⟨g, b, cs', t, fr, hg, hb, hlt, hfp, hh, hcell⟩⟩
        · intro q hq
          have hd : ∃ d, (f i)[j + q]? = some d := by
            rw [← h2 q hq, List.getElem?_eq_getElem (by omega)]
            exact ⟨_, rfl⟩
          obtain ⟨d, hd⟩ := hd
          rw [cell_at hh, show g.base + i * g.sz + j + q = g.base + i * g.sz + (j + q) by omega, (hv i (j + q) d hlt hd).1]
          simp [hq]
      · simp at h
    · rename_i m f ws hs
      split at h
      · rename_i d hd
        simp at h
        subst h
        obtain ⟨g, b, hg, hb, hlt, hu⟩ := hl.2
        obtain ⟨g', hg', b', cs', t, fr, hb', hfp, hh, hun, hbase, hgz, hgn, htot, hsz, hrows, hws⟩ := R.objs id _ hs
        rw [hg] at hg'; cases hg'
        rw [hb] at hb'; cases hb'
        obtain ⟨hl1, v, hv, hown⟩ := hrows i (by omega)
        have hv' : cs'[g.base + i * g.sz + 0]? = some v := by rw [hbase, hgz]; simpa using hv
        refine ⟨b, g.base + i * g.sz + 0, [v], hu, rfl, ⟨rfl, fun q x hx => ?_⟩, fun q hq => ?_⟩
        · match q, hx with
          | 0, hx =>
            simp at hx
            subst hx
            exact ⟨v, rfl, rleaf_q (hown d (by rw [hd]; rfl)) ⟨g, b, cs', t, fr, hg, hb, hlt, hfp, hh, hv'⟩⟩
        · rw [show q = 0 by omega, cell_at hh]
          exact hv'
      · simp at h
    · simp at h
  case qp id i j kk l sz =>
    split at h
    · rename_i sz0 m F hs
      split at h
      · rename_i sz' n' f hf
        split at h
        · rename_i r hz hr
          simp at h
          subst h
          have hz := Nat.eq_of_beq_eq_true hz
          subst hz
          rw [nthO_getElem?] at hf
          obtain ⟨h1, h2⟩ := cutL_spec _ _ _ _ hr
          obtain ⟨c, b0, o0, N, cap0, hc, hce, hkN, hu⟩ := hl.2
          obtain ⟨G, hG, hGs⟩ := at_own R hs hc hf
          obtain ⟨g, bb, _, _, _, hg, _⟩ := hc
          cases hG with
          | nl => cases hce; omega
          | bl _ b off n1 cap _ _ cs' t fr vs G' hF hs0 hb hun hn htot hsz hG' hGd hv hd =>
            cases hce
            have hrow : ∀ q, q < n → ∃ d, (f kk)[l + q]? = some d ∧ r[q]? = some d := fun q hq => by
              have := h2 q hq
              refine ⟨r[q]'(by omega), ?_, List.getElem?_eq_getElem (by omega)⟩
              rw [← this]; exact List.getElem?_eq_getElem (by omega)
            refine ⟨b0, o0 + kk * sz' + l, (List.range n).map fun q => vs kk (l + q), hu, by simp [h1], ⟨by simp [h1], ?_⟩, ?_⟩
            · intro q x hx
              simp only [List.getElem?_map, Option.map_eq_some_iff] at hx
              obtain ⟨d, hd', rfl⟩ := hx
              have hq : q < n := by rw [← h1]; exact (List.getElem?_eq_some_iff.mp hd').1
              rw [h2 q hq] at hd'
              refine ⟨_, by simp only [List.getElem?_map, List.getElem?_range hq, Option.map_some], rleaf_sn hg ((hd kk (l + q) d hkN hd').ro.mono (fun x hx => hGs x (hG' _ _ x hx).1) (Ext.refl _ _))⟩
            · intro q hq
              obtain ⟨d, hd', _⟩ := hrow q hq
              rw [cell_at hb, show o0 + kk * sz' + l + q = o0 + kk * sz' + (l + q) by omega, hv kk (l + q) d hkN hd']
              simp only [List.getElem?_map, List.getElem?_range hq, Option.map_some]
        · simp at h
      · simp at h
    · simp at h
  case rp row =>
    split at h
    · rename_i r hr
      simp at h
      subst h
      obtain ⟨h1, h2⟩ := cutL_spec _ _ _ _ hr
      obtain ⟨b, off, cs', t, fr, hu, hF, hh, hv⟩ := hl.2
      have hv' : ∀ j d, row[j]? = some d → RoT w γ.ro ((cs'.toList.drop off).getD j undef) d ∧ cs'[off + j]? = some ((cs'.toList.drop off).getD j undef) := by
        intro j d hd
        obtain ⟨v, h3, h4⟩ := hv j d hd
        have : (cs'.toList.drop off).getD j undef = v := by simp [List.getD, List.getElem?_drop, h3]
        rw [this]; exact ⟨h4, h3⟩
      refine ⟨b, off, (List.range n).map fun q => (cs'.toList.drop off).getD q undef, hu, by simp [h1], ⟨by simp [h1], ?_⟩, ?_⟩
      · intro q x hx
        simp only [List.getElem?_map, Option.map_eq_some_iff] at hx
        obtain ⟨d, hd, rfl⟩ := hx
        have hq : q < n := by rw [← h1]; exact (List.getElem?_eq_some_iff.mp hd).1
        rw [h2 q hq, Nat.zero_add] at hd
        exact ⟨_, by simp only [List.getElem?_map, List.getElem?_range hq, Option.map_some], rleaf_ro (hv' q d hd).1⟩
      · intro q hq
        have hd : ∃ d, row[q]? = some d := by
          have := h2 q hq
          rw [Nat.zero_add] at this
          rw [← this, List.getElem?_eq_getElem (by omega)]
          exact ⟨_, rfl⟩
        obtain ⟨d, hd⟩ := hd
        rw [cell_at hh, (hv' q d hd).2]
        simp only [List.getElem?_map, List.getElem?_range hq, Option.map_some]
    · simp at h
  case sp id row =>
    split at h
    · rename_i r hr
      simp at h
      subst h
      obtain ⟨h1, h2⟩ := cutL_spec _ _ _ _ hr
      obtain ⟨⟨g, hg⟩, b, off, cs', t, fr, hu, hF, hh, hv⟩ := hl.2
      have hv' : ∀ j d, row[j]? = some d → RoT w (γ.fp id) ((cs'.toList.drop off).getD j undef) d ∧ cs'[off + j]? = some ((cs'.toList.drop off).getD j undef) := by
        intro j d hd
        obtain ⟨v, h3, h4⟩ := hv j d hd
        have : (cs'.toList.drop off).getD j undef = v := by simp [List.getD, List.getElem?_drop, h3]
        rw [this]; exact ⟨h4, h3⟩
      refine ⟨b, off, (List.range n).map fun q => (cs'.toList.drop off).getD q undef, hu, by simp [h1], ⟨by simp [h1], ?_⟩, ?_⟩
      · intro q x hx
        simp only [List.getElem?_map, Option.map_eq_some_iff] at hx
        obtain ⟨d, hd, rfl⟩ := hx
        have hq : q < n := by rw [← h1]; exact (List.getElem?_eq_some_iff.mp hd).1
        rw [h2 q hq, Nat.zero_add] at hd
        exact ⟨_, by simp only [List.getElem?_map, List.getElem?_range hq, Option.map_some], rleaf_sn hg (hv' q d hd).1⟩
      · intro q hq
        have hd : ∃ d, row[q]? = some d := by
          have := h2 q hq
          rw [Nat.zero_add] at this
          rw [← this, List.getElem?_eq_getElem (by omega)]
          exact ⟨_, rfl⟩
        obtain ⟨d, hd⟩ := hd
        rw [cell_at hh, (hv' q d hd).2]
        simp only [List.getElem?_map, List.getElem?_range hq, Option.map_some]
    · simp at h

theorem run_loadAt {t : TypeId} {i : TI} (h : TIok P t i) {b off : Nat} {us : List Value} (hn : us.length = i.size) (hc : ∀ j, j < i.size → w.cell? ⟨b, off + j, none⟩ = us[j]?) :
    (isAg i.k = true → (Instr.loadAt t (.pointer (some ⟨b, off, none⟩))).run P w = .ok (.agg us.toArray) w) ∧
    (isAg i.k = false → ∀ u, us = [u] → (Instr.loadAt t (.pointer (some ⟨b, off, none⟩))).run P w = .ok u w) := by
  have hl := run_loadCells_list (P := P) w ⟨b, off, none⟩ us (fun j v hj => by
    have : j < i.size := by rw [← hn]; exact (List.getElem?_eq_some_iff.mp hj).1
    rw [add_at, hc j this, hj])
  rw [hn] at hl
  constructor
  · intro hk
    simp [Instr.loadAt, Instr.sureAddr, loadVar, h.run_isAgg, hk, h.run_size, hl]
  · rintro hk u rfl
    have h0 := hc 0 (by simp at hn; omega)
    simp at h0
    simp [Instr.loadAt, Instr.sureAddr, loadVar, h.run_isAgg, hk, h0]

theorem packV_sound {ag : Bool} {cs : List Leaf} {v : V} {us : List Value} (h : packV ag cs = some v) (hr : RCells γ w cs us) :
    (ag = true ∧ RV γ w v (.agg us.toArray)) ∨ (ag = false ∧ ∃ u, us = [u] ∧ RV γ w v u) := by
  unfold packV at h
  split at h
  · simp at h; subst h; exact .inl ⟨rfl, us, rfl, hr⟩
  · rename_i c
    simp at h; subst h
    right
    refine ⟨rfl, ?_⟩
    obtain ⟨h1, h2⟩ := hr
    match us, h1 with
    | [u], _ =>
      obtain ⟨u', hu', hl⟩ := h2 0 c rfl
      simp at hu'; subst hu'
      exact ⟨u, rfl, hl⟩
  · simp at h

theorem does_load (hE : EnvOk P E) (R : Rel w0 mine γ σ a w) {d t p af g lt} {x : Operand} (hk : (E lt).k ≠ .other) {l : Leaf} {cs : List Leaf} {v : V} (hx : evA σ x = .one (.lf l)) (hr : readAt σ l (E lt).size = some cs)
    (hv : packV (isAg (E lt).k) cs = some v) (h : k v σ) : DoesQ P γ σ a w ⟨d, .load lt x, t, p, af, g⟩ k := by
  have hl := R.ev x
  rw [hx] at hl
  obtain ⟨b, off, us, hu, hn, hcs, hcell⟩ := readAt_sound R.st hl hr
  have hi := hE lt hk
  have hus : us.length = (E lt).size := by rw [hcs.1, hn]
  obtain ⟨h1, h2⟩ := run_loadAt (w := w) hi hus hcell
  rcases packV_sound hv hcs with ⟨ha, hrv⟩ | ⟨ha, u, rfl, hrv⟩
  · exact .value R h hrv (by simp [execOp, hu, h1 ha])
  · exact .value R h hrv (by simp [execOp, hu, h2 ha u rfl])
end
end Go.AW
/- The abstract calculus, part 6: lengths, places, pieces, conversions. -/
set_option linter.unusedVariables false
set_option linter.unusedSimpArgs false
namespace Go.AW
section
variable {P : Program} {w0 w : World} {mine : FP} {γ : Ghost} {σ : St} {a : Act} {k : V → St → Prop} {E : Env}

/-- A slice's value as its reading tells it. -/
theorem ro_slice {F : FP} {n : Nat} {f : Nat → List DV} {u : Value} {z : Nat} (h : RoT w F u (.l z n f)) : ∃ a cap, u = .slice a n cap ∧ n ≤ cap := by
  cases h with
  | nl z a cap g => exact ⟨a, cap, rfl, Nat.zero_le _⟩
  | bl z b off n cap sz g cs t fr vs _ _ hn => exact ⟨_, _, rfl, hn⟩

theorem ro_row {F : FP} {n : Nat} {f : Nat → List DV} {u : Value} {z : Nat} (h : RoT w F u (.l z n f)) (i : Nat) (hi : i < n) :
    ∃ b off cap sz cs t fr, u = .slice (some ⟨b, off, none⟩) n cap ∧ (f i).length = sz ∧ F b ∧ w.heap[b]? = some (.cells cs t fr) ∧
      ∀ j d, (f i)[j]? = some d → ∃ v, cs[off + i * sz + j]? = some v ∧ RoT w F v d := by
  cases h with
  | nl z a cap g => omega
  | bl z b off n cap sz g cs t fr vs hF hb hn hsz hv hd => exact ⟨b, off, cap, sz, cs, t, fr, rfl, hsz i hi, hF, hb, fun j d hj => ⟨vs i j, hv i j d hi hj, hd i j d hi hj⟩⟩

theorem ro_shift {F : FP} {n : Nat} {f : Nat → List DV} {u : Value} {A : Option Addr} {cap : Nat} {z : Nat} (h : RoT w F (.slice A n cap) (.l z n f)) (lo m : Nat) (hlo : lo + m ≤ n) (hm : 0 < m) :
    ∃ sz ad, A = some ad ∧ RoT w F (.slice (some (ad.add (lo * sz))) m (cap - lo)) (.l z m fun i => f (lo + i)) ∧ (f 0).length = sz := by
  cases h with
  | nl z a cap g => omega
  | bl z b off n cap sz g cs t fr vs hF hb hn hsz hv hd =>
    refine ⟨sz, _, rfl, ?_, hsz 0 (by omega)⟩
    rw [add_at]
    refine .bl _ b (off + lo * sz) m (cap - lo) sz _ cs t fr (fun i j => vs (lo + i) j) hF hb (by omega) (fun i hi => hsz _ (by omega)) (fun i j d hi hj => ?_) (fun i j d hi hj => hd _ _ _ (by omega) hj)
    have := hv (lo + i) j d (by omega) hj
    rw [← this]
    congr 1
    rw [Nat.add_mul]
    omega

theorem view_slice {v : Option (Nat × Nat)} {n : Nat} {c u : Value} (h : ViewOf v n c u) : ∃ A cap, u = .slice A n cap ∧ n ≤ cap := by
  unfold ViewOf at h
  split at h
  · obtain ⟨rfl, A, cap, he, hn, _⟩ := h
    exact ⟨A, cap, he, hn⟩
  · rcases h with ⟨rfl, A, cap, he⟩ | ⟨b, o, N, cap, cap', _, he, hn, _⟩
    · exact ⟨A, cap, he, Nat.zero_le _⟩
    · exact ⟨_, _, he, hn⟩
/-- A view's cells, told from the value in the cell. -/
theorem view_at {v : Option (Nat × Nat)} {n sz : Nat} {c u : Value} (h : ViewOf v n c u) (hz : viewSz sz v = true) (h0 : 0 < n) :
    ∃ b o N cap cap', c = .slice (some ⟨b, o, none⟩) N cap ∧ u = .slice (some ⟨b, o + (v.map (·.1)).getD 0 * sz, none⟩) n cap' ∧ n ≤ cap' ∧ (v.map (·.1)).getD 0 + n ≤ N := by
  unfold ViewOf at h
  split at h
  · obtain ⟨rfl, A, cap, he, hn, ha⟩ := h
    obtain ⟨b, o, rfl⟩ := ha h0
    exact ⟨b, o, n, cap, cap, he, by simp [he], hn, by simp⟩
  · rename_i off sz'
    have hz := Nat.eq_of_beq_eq_true hz
    subst hz
    rcases h with ⟨rfl, _⟩ | ⟨b, o, N, cap, cap', h1, h2, h3, h4⟩
    · omega
    · exact ⟨b, o, N, cap, cap', h1, by simp [h2], h3, by simpa using h4⟩
theorem rowO_std (v : Option (Nat × Nat)) (i : Int) : rowO std v i = (v.map (·.1)).getD 0 + i.toNat := by
  rcases v with _ | ⟨off, z⟩
  · simp [rowO, std]
  · cases off <;> simp [rowO, rowN, std]

theorem does_len (hE : EnvOk P E) (R : Rel w0 mine γ σ a w) {d t p af g} {x : Operand} {ty : TypeId} (hk : okK (E ty).k = true) (h : lenP std (E ty).k (evA σ x) fun v => k v σ) :
    DoesQ P γ σ a w ⟨d, .call { callee := .builtin .len, args := #[x], argTypes := #[ty] }, t, p, af, g⟩ k := by
  have hi := hE ty (okK_ne hk)
  have hx := R.ev x
  unfold lenP at h
  have hsl : ∀ {e}, (E ty).k = .sl e → ∀ A n c, (Builtin.len_ #[ty] t #[.slice A n c]).run P w = .ok (goInt n) w := by
    intro e he A n c
    simp [Builtin.len_, run_underlying (hi.sl he)]
  have fin : ∀ {u : Value} {n : Nat}, (Builtin.len_ #[ty] t #[u]).run P w = .ok (goInt n) w → a.eval x = u → k (.one (.lf (.s (.int .i64 (std.ofN n))))) σ →
      DoesQ P γ σ a w ⟨d, .call { callee := .builtin .len, args := #[x], argTypes := #[ty] }, t, p, af, g⟩ k := by
    intro u n hr he hk'
    refine .value R hk' (rv_int _ _) ?_
    simp [execOp, resolve, invoke, builtin, he, hr, goInt, std]
  split at h
  · rename_i s hv hx0
    rw [hx0] at hx
    exact fin (u := .string s) (n := s.size) (by simp [Builtin.len_, run_underlying (hi.str hv)]) hx.2 h
  · rename_i e hv hx0
    rw [hx0] at hx
    exact fin (n := 0) (hsl hv _ _ _) hx.2 h
  · rename_i e n f hv hx0
    rw [hx0] at hx
    obtain ⟨A, c, he, _⟩ := ro_slice hx.2
    exact fin (hsl hv _ _ _) he h
  · rename_i e id n f hv hx0
    rw [hx0] at hx
    obtain ⟨A, c, he, _⟩ := ro_slice hx.2.2
    exact fin (hsl hv _ _ _) he h
  · rename_i e id i j v n hv hx0
    rw [hx0] at hx
    obtain ⟨c, hc, hw⟩ := hx.2
    obtain ⟨A, cap, he, _⟩ := view_slice hw
    exact fin (hsl hv _ _ _) he h
  · rename_i e id off n hv hx0
    rw [hx0] at hx
    obtain ⟨g', A, c, _, he, _⟩ := hx.2
    exact fin (hsl hv _ _ _) he h
  · rename_i e n hv hx0
    rw [hx0] at hx
    obtain ⟨A, c, he⟩ := hx.2
    exact fin (hsl hv _ _ _) he h
  · exact h.elim

theorem does_cap (hE : EnvOk P E) (R : Rel w0 mine γ σ a w) {d t p af g} {x : Operand} {ty e : TypeId} (hk : (E ty).k = .sl e) (hx : evA σ x = .one (.lf .nil)) (h : k (.one (.lf (.s (.int .i64 (std.ofN 0))))) σ) :
    Does P w0 mine a w ⟨d, .call { callee := .builtin .cap, args := #[x], argTypes := #[ty] }, t, p, af, g⟩ k := by
  have hi := hE ty (by rw [hk]; simp)
  have hv := R.ev x
  rw [hx] at hv
  have he : a.eval x = .slice none 0 0 := hv.2
  refine Does.value R h (rv_int _ _) ?_
  simp [execOp, resolve, invoke, builtin, he, Builtin.cap_, run_underlying (hi.sl hk), goInt, std]
theorem does_index (hE : EnvOk P E) (R : Rel w0 mine γ σ a w) {d t p af g} {x i : Operand} {ty : TypeId} {s : ByteArray} {n : Int} (hk : (E ty).k = .str) (hx : evA σ x = .one (.lf (.s (.string s)))) (hi : intV (evA σ i) = some n)
    (h : idxP std n (std.lenS s) (k (.one (.lf (.s (.int .u8 (std.byteS s (std.natI n)))))) σ)) : DoesQ P γ σ a w ⟨d, .index ty x i, t, p, af, g⟩ k := by
  have hT := hE ty (by rw [hk]; simp)
  have hxv := R.ev x
  rw [hx] at hxv
  have hx' := hxv.2
  obtain ⟨kk, hi'⟩ := R.int hi
  obtain ⟨h0, h1, h2⟩ := h
  simp only [std, decide_eq_true_eq] at h0 h1 h2
  have hlt : n.toNat < s.size := by omega
  refine .value R h2 (rv_int _ _) ?_
  have hx2 : a.eval x = .string s := hx'
  simp only [execOp, hx2, hi', Instr.index, asIntOf, Sem.run_bind, Sem.run_pure, Result.andThen_ok, run_underlying (hT.str hk), if_pos h0]
  have : s[n.toNat]? = some s[n.toNat] := getElem?_pos s n.toNat hlt
  rw [this]
  simp only [Sem.run_pure, Result.andThen_ok]
  congr 3
  have h3 : s.data.toList[n.toNat]? = some s[n.toNat] := by
    have h4 : n.toNat < s.data.toList.length := by simpa using hlt
    rw [List.getElem?_eq_getElem h4]
    rfl
  simp [List.getD, h3]

theorem run_sizeOf_elem (hE : EnvOk P E) {e : Nat} (hk : okK (E e).k = true) : (sizeOf e).run P w = .ok (E e).size w := (hE e (okK_ne hk)).run_size w

theorem does_indexAddr (hE : EnvOk P E) (R : Rel w0 mine γ σ a w) {d t p af g} {x i : Operand} {ty e : TypeId} {n : Int} (hk : (E ty).k = .sl e) (hke : okK (E e).k = true) (hi : intV (evA σ i) = some n)
    (h : indexAddrP std (E e).size (evA σ x) n σ fun v => k v σ) : DoesQ P γ σ a w ⟨d, .indexAddr ty x i, t, p, af, g⟩ k := by
  have hT := hE ty (by rw [hk]; simp)
  have hs := run_sizeOf_elem (w := w) hE hke
  have hx := R.ev x
  obtain ⟨kk, hi'⟩ := R.int hi
  unfold indexAddrP at h
  have run : ∀ {ad : Addr} {len cap : Nat}, a.eval x = .slice (some ad) len cap → 0 ≤ n → n < (len : Int) →
      (execOp a.eval ⟨d, .indexAddr ty x i, t, p, af, g⟩).run P w = .ok (.value (.pointer (some (ad.add (n.toNat * (E e).size))))) w := by
    intro ad len cap he h0 h1
    simp [execOp, he, hi', Instr.indexAt, asIntOf, run_underlying (hT.sl hk), hs, h0, h1]
  split at h
  · rename_i m f hx0
    rw [hx0] at hx
    obtain ⟨h0, h1, h2, h3⟩ := h
    simp only [std, decide_eq_true_eq] at h0 h1 h2 h3
    have hlt : n.toNat < m := by omega
    obtain ⟨b, off, cap, sz, cs, t', fr, hu, hlen, hF, hh, hrow⟩ := ro_row hx.2 n.toNat hlt
    refine .value R h3 ⟨rfl, ?_⟩ (run hu h0 h1)
    have hsz : (E e).size = sz := by rw [← hlen]; exact (Nat.eq_of_beq_eq_true h2).symm
    exact ⟨b, off + n.toNat * sz, cs, t', fr, by rw [add_at, hsz], hF, hh, hrow⟩
  · rename_i id m f hx0
    rw [hx0] at hx
    obtain ⟨h0, h1, h2, h3⟩ := h
    simp only [std, decide_eq_true_eq] at h0 h1 h2 h3
    have hlt : n.toNat < m := by omega
    obtain ⟨b, off, cap, sz, cs, t', fr, hu, hlen, hF, hh, hrow⟩ := ro_row hx.2.2 n.toNat hlt
    refine .value R h3 ⟨rfl, ?_⟩ (run hu h0 h1)
    have hsz : (E e).size = sz := by rw [← hlen]; exact (Nat.eq_of_beq_eq_true h2).symm
    exact ⟨hx.2.1, b, off + n.toNat * sz, cs, t', fr, by rw [add_at, hsz], hF, hh, hrow⟩
  · rename_i id i' j v m hx0
    rw [hx0] at hx
    obtain ⟨h0, h1, h2, h3⟩ := h
    simp only [std, decide_eq_true_eq] at h0 h1
    obtain ⟨c, hc, hw⟩ := hx.2
    obtain ⟨b, o, N, cap, cap', hce, hu, hn, hN⟩ := view_at hw h2 (by omega)
    refine .value R h3 ⟨rfl, c, b, o, N, cap, hc, hce, ?_, ?_⟩ (run hu h0 h1)
    · rw [rowO_std]; omega
    · rw [add_at, rowO_std, Nat.add_mul, Nat.add_zero, Nat.add_assoc]
  · rename_i id off len hx0
    rw [hx0] at hx
    split at h
    · rename_i m f hs'
      obtain ⟨h0, h1, h2, h3⟩ := h
      simp only [std, decide_eq_true_eq] at h0 h1
      have hr : rowN std off n = off + n.toNat := by cases off <;> simp [rowN, std]
      unfold at1 at h2
      rw [hr] at h2 h3
      obtain ⟨g1, A, cap, hg, hu, hle, hgn, htot, had⟩ := hx.2
      obtain ⟨b, hb, hA⟩ := had (by omega)
      subst hA
      obtain ⟨g2, hg2, ho⟩ := R.st.objs id _ hs'
      rw [hg] at hg2; cases hg2
      simp only [RObj, hb] at ho
      obtain ⟨hnn, _, _, cs', t'', fr, vs, G, hfp, hh, hun, htot', hn, hlen, hG, hGd, hv⟩ := ho
      have hm : off + n.toNat < m := by omega
      have hsz : g1.sz = (E e).size := by
        have := Nat.eq_of_beq_eq_true h2
        rw [hlen _ hm] at this
        exact this
      refine .value R h3 ⟨rfl, g1, b, hg, hb, by omega, ?_⟩ (run hu h0 h1)
      rw [add_at, ← hsz, Nat.add_mul, Nat.add_zero, Nat.add_assoc]
    · exact h.elim
  · exact h.elim

theorem does_indexArr (hE : EnvOk P E) (R : Rel w0 mine γ σ a w) {d t p af g} {x i : Operand} {ty e m m' id : Nat} {f : Nat → List DV} {ws : List Value} {n : Int} (hk : (E ty).k = .arr m e) (hke : okK (E e).k = true) (hi : intV (evA σ i) = some n) (hx0 : evA σ x = .one (.lf (.p id 0))) (ho : look σ.store id = some (.arr m' f ws))
    (h : need (Nat.beq m m') (need (Nat.beq (E e).size 1) (idxP std n m (k (.one (.lf (.pr id (std.natI n) 0))) σ)))) : DoesQ P γ σ a w ⟨d, .indexAddr ty x i, t, p, af, g⟩ k := by
  have hT := hE ty (by rw [hk]; simp)
  have hs := run_sizeOf_elem (w := w) hE hke
  have hx := R.ev x
  obtain ⟨kk, hi'⟩ := R.int hi
  obtain ⟨hm, h1, h2, h3, h4⟩ := h
  have hm := Nat.eq_of_beq_eq_true hm
  have h1 := Nat.eq_of_beq_eq_true h1
  subst hm
  simp only [std, decide_eq_true_eq] at h2 h3
  rw [hx0] at hx
  obtain ⟨g1, b, hg, hb, hu⟩ := hx.2
  obtain ⟨g1', hg', b', cur, et, fr, hb', hfp, hh, hun, hbase, hgz, hgn, htot, hsz, hrows, hws⟩ := R.st.objs id _ ho
  rw [hg] at hg'; cases hg'
  rw [hb] at hb'; cases hb'
  have hund : P.underlying ty = some (.array m e) := by
    obtain ⟨d, hd, hK⟩ := hT.und
    cases d <;> simp [Kok, hk] at hK
    rw [hd, hK.1, hK.2]
  refine .value R h4 ⟨rfl, g1, b, hg, hb, by rw [hgn]; simp only [std]; omega, rfl⟩ ?_
  simp only [hbase, hgz] at hu ⊢
  simp [execOp, hu, hi', Instr.indexAt, asIntOf, run_underlying hund, hs, h2, h3, Instr.sureAddr, h1, std, add_at]
theorem drop_getElem? {α : Type} (l : List α) (i j : Nat) : (l.drop i)[j]? = l[i + j]? := by simp

theorem rrow_drop {F : FP} {u : Value} {row : List DV} (h : RRow w F u row) (off : Nat) : ∃ b o, u = .pointer (some ⟨b, o, none⟩) ∧ RRow w F (.pointer (some ⟨b, o + off, none⟩)) (row.drop off) := by
  obtain ⟨b, o, cs, t, fr, hu, hF, hh, hv⟩ := h
  refine ⟨b, o, hu, b, o + off, cs, t, fr, rfl, hF, hh, fun j d hj => ?_⟩
  rw [drop_getElem?] at hj
  obtain ⟨v, h1, h2⟩ := hv _ _ hj
  exact ⟨v, by rw [← h1, Nat.add_assoc], h2⟩

theorem does_fieldAddr (hE : EnvOk P E) (R : Rel w0 mine γ σ a w) {d t p af g s f} {x : Operand} {fs : List (Nat × Nat)} {off sz : Nat} (hk : (E s).k = .st fs) (hf : nthO fs f = some (off, sz + 1)) {l l' : Leaf} (hx : evA σ x = .one (.lf l))
    (hl : match l, l' with
      | .p id j, .p id' j' => id' = id ∧ j' = j + off
      | .pr id i j, .pr id' i' j' => id' = id ∧ i' = i ∧ j' = j + off
      | .qp id i j kk l sz, .qp id' i' j' kk' l' sz' => id' = id ∧ i' = i ∧ j' = j ∧ kk' = kk ∧ l' = l + off ∧ sz' = sz
      | .rp row, .rp row' => row' = row.drop off
      | .sp id row, .sp id' row' => id' = id ∧ row' = row.drop off
      | .gt g r c sz, .gt g' r' c' sz' => g' = g ∧ r' = r ∧ c' = c + off ∧ sz' = sz
      | _, _ => False)
    (h : k (.one (.lf l')) σ) : DoesQ P γ σ a w ⟨d, .fieldAddr s x f, t, p, af, g⟩ k := by
  have hT := hE s (by rw [hk]; simp)
  obtain ⟨gs, hu, hsz, hfs⟩ := hT.st hk
  rw [nthO_getElem?] at hf
  obtain ⟨fld, hg, ho, hsize⟩ := hfs f _ hf
  have hfld : gs.toList[f]? = some fld := by simpa using hg
  have hx' := R.ev x
  rw [hx] at hx'
  have run : ∀ {b o : Nat}, a.eval x = .pointer (some ⟨b, o, none⟩) → (execOp a.eval ⟨d, .fieldAddr s x f, t, p, af, g⟩).run P w = .ok (.value (.pointer (some ⟨b, o + off, none⟩))) w := by
    intro b o he
    have hs : (sizeOf fld.type).run P w = .ok (sz + 1) w := by
      cases hi : P.info? fld.type with
      | none => simp [hi] at hsize
      | some i => simp [hi] at hsize; simp [sizeOf, typeInfo, hi, hsize]
    simp only [execOp, Instr.fieldAt, he, Sem.run_bind, run_underlying hu, Result.andThen_ok, hg, Instr.sureAddr, Sem.run_pure, fieldPlace, hs]
    rw [if_neg (by omega)]
    simp only [Sem.run_pure, Result.andThen_ok, add_at, ho]
  cases l <;> cases l' <;> simp only at hl <;> try exact hl.elim
  · obtain ⟨rfl, rfl⟩ := hl
    obtain ⟨g1, b, hg1, hb, he⟩ := hx'.2
    exact .value R h ⟨rfl, g1, b, hg1, hb, by rw [Nat.add_assoc]⟩ (run he)
  · obtain ⟨rfl, rfl, rfl⟩ := hl
    obtain ⟨g1, b, hg1, hb, hlt, he⟩ := hx'.2
    exact .value R h ⟨rfl, g1, b, hg1, hb, hlt, by simp only [Nat.add_assoc]⟩ (run he)
  · obtain ⟨rfl, rfl, rfl, rfl, rfl, rfl⟩ := hl
    obtain ⟨c, b, o, N, cap, hc, hce, hN, he⟩ := hx'.2
    exact .value R h ⟨rfl, c, b, o, N, cap, hc, hce, hN, by simp only [Nat.add_assoc]⟩ (run he)
  · subst hl
    obtain ⟨b, o, he, hr⟩ := rrow_drop hx'.2 off
    exact .value R h ⟨rfl, hr⟩ (run he)
  · obtain ⟨rfl, rfl⟩ := hl
    obtain ⟨b, o, he, hr⟩ := rrow_drop hx'.2.2 off
    exact .value R h ⟨rfl, hx'.2.1, hr⟩ (run he)
  · obtain ⟨rfl, rfl, rfl, rfl⟩ := hl
    exact .value R h ⟨rfl, by simp only [RLeafC, Nat.add_assoc]⟩ (run hx'.2)

theorem does_convert (hE : EnvOk P E) (R : Rel w0 mine γ σ a w) {d t p af g src dst} {x : Operand} {kd : IntKind} {n : Int} {ks : IntKind} (hsrc : okK (E src).k = true) (hk : (E dst).k = .int kd) (hx : evA σ x = .one (.lf (.s (.int ks n))))
    (h : k (.one (.lf (.s (.int kd (std.wrapI kd n))))) σ) : DoesQ P γ σ a w ⟨d, .convert src dst x, t, p, af, g⟩ k := by
  have hT := hE dst (by rw [hk]; simp)
  obtain ⟨ds, hds, _⟩ := (hE src (okK_ne hsrc)).und
  have hx' := R.ev x
  rw [hx] at hx'
  have hx2 : a.eval x = .int ks n := hx'.2
  refine .value R h (rv_int _ _) ?_
  simp [execOp, convert, hx2, run_underlying hds, run_underlying (hT.int hk), Conv.intToInt, std]
end
end Go.AW
/- The abstract calculus, part 7: what stays when memory turns. -/
set_option linter.unusedVariables false
set_option linter.unusedSimpArgs false
namespace Go.AW

def leafIds : Leaf → List Nat
  | .o id _ _ | .q id _ _ _ _ | .p id _ | .pr id _ _ | .qp id _ _ _ _ _ | .m id | .sn id _ _ | .sp id _ => [id]
  | .fn _ caps => caps.map (·.1)
  | .fb _ id _ => [id]
  | _ => []
def snIds : Leaf → List Nat
  | .sn id _ _ | .sp id _ => [id]
  | _ => []

def qIds : Leaf → List Nat
  | .q id _ _ _ _ | .qp id _ _ _ _ _ => [id]
  | _ => []

/-- How a world and its ghost go on: objects in 'dead' lie elsewhere or nowhere; of those in 'rd' the own cells, of those in 'sd' any cells may have turned. -/
structure Step (γ γ' : Ghost) (w w' : World) (dead rd sd : Nat → Prop) : Prop where
  g : ∀ id g, γ.g id = some g → ¬ dead id → γ'.g id = some g
  fp : ∀ id g, γ.g id = some g → ¬ sd id → ∀ b, γ.fp id b → γ'.fp id b
  ext : ∀ id g, γ.g id = some g → ¬ sd id → Ext (γ.fp id) w w'
  root : ∀ id g b o, γ.g id = some g → g.blk = some b → ¬ rd id → γ.fp id b → w.heap[b]? = some o → γ'.fp id b ∧ w'.heap[b]? = some o
  ro : ∀ b, γ.ro b → γ'.ro b
  rext : Ext γ.ro w w'

def Alive (dead rd sd : Nat → Prop) (l : Leaf) : Prop := (∀ id, id ∈ leafIds l → ¬ dead id) ∧ (∀ id, id ∈ qIds l → ¬ rd id) ∧ ∀ id, id ∈ snIds l → ¬ sd id

section
variable {γ γ' : Ghost} {w w' : World} {dead rd sd : Nat → Prop}
theorem RRow.mono {F F' : FP} {u : Value} {row : List DV} (h : RRow w F u row) (hF : ∀ b, F b → F' b) (hw : Ext F w w') : RRow w' F' u row := by
  obtain ⟨b, off, cs, t, fr, hu, hb, hh, hv⟩ := h
  exact ⟨b, off, cs, t, fr, hu, hF b hb, hw b _ hb hh, fun j d hd => let ⟨v, h1, h2⟩ := hv j d hd; ⟨v, h1, h2.mono hF hw⟩⟩

theorem AtCell.step (S : Step γ γ' w w' dead rd sd) {id i j : Nat} {c : Value} (h : AtCell γ w id i j c) (hd : ¬ dead id) (hr : ¬ rd id) : AtCell γ' w' id i j c := by
  obtain ⟨g, b, cs, t, fr, hg, hb, hi, hfp, hh, hc⟩ := h
  obtain ⟨h1, h2⟩ := S.root id g b _ hg hb hr hfp hh
  exact ⟨g, b, cs, t, fr, S.g id g hg hd, hb, hi, h1, h2, hc⟩
theorem RLeaf.step (S : Step γ γ' w w' dead rd sd) {l : Leaf} {u : Value} (h : RLeaf γ w l u) (ha : Alive dead rd sd l) : RLeaf γ' w' l u := by
  obtain ⟨h1, h2⟩ := h
  refine ⟨h1, ?_⟩
  obtain ⟨a1, a3, a2⟩ := ha
  cases l <;> simp only [RLeafC, leafIds, snIds, qIds] at h2 a1 a2 a3 ⊢ <;> try exact h2
  case r n f => exact h2.mono S.ro S.rext
  case sn id n f =>
    obtain ⟨⟨g, hg⟩, h2⟩ := h2
    exact ⟨⟨g, S.g id g hg (a1 id (by simp))⟩, h2.mono (S.fp id g hg (a2 id (by simp))) (S.ext id g hg (a2 id (by simp)))⟩
  case o id off len =>
    obtain ⟨g, A, cap, hg, h3⟩ := h2
    exact ⟨g, A, cap, S.g id g hg (a1 id (by simp)), h3⟩
  case p id j =>
    obtain ⟨g, b, hg, h3⟩ := h2
    exact ⟨g, b, S.g id g hg (a1 id (by simp)), h3⟩
  case pr id i j =>
    obtain ⟨g, b, hg, h3⟩ := h2
    exact ⟨g, b, S.g id g hg (a1 id (by simp)), h3⟩
  case q id i j v n =>
    obtain ⟨c, hc, h3⟩ := h2
    exact ⟨c, hc.step S (a1 id (by simp)) (a3 id (by simp)), h3⟩
  case qp id i j kk l sz =>
    obtain ⟨c, b, o, N, cap, hc, h3⟩ := h2
    exact ⟨c, b, o, N, cap, hc.step S (a1 id (by simp)) (a3 id (by simp)), h3⟩
  case m id =>
    obtain ⟨g, b, hg, h3⟩ := h2
    exact ⟨g, b, S.g id g hg (a1 id (by simp)), h3⟩
  case rp row => exact h2.mono S.ro S.rext
  case sp id row =>
    obtain ⟨⟨g, hg⟩, h2⟩ := h2
    exact ⟨⟨g, S.g id g hg (a1 id (by simp))⟩, h2.mono (S.fp id g hg (a2 id (by simp))) (S.ext id g hg (a2 id (by simp)))⟩
  case fr f rows =>
    obtain ⟨vs, hu, hl, hk⟩ := h2
    exact ⟨vs, hu, hl, fun k row hr => let ⟨v, h3, h4⟩ := hk k row hr; ⟨v, h3, h4.mono S.ro S.rext⟩⟩
  case fb f id j =>
    obtain ⟨g, b, hg, h3⟩ := h2
    exact ⟨g, b, S.g id g hg (a1 id (by simp)), h3⟩
  case fn f caps =>
    obtain ⟨vs, hu, hl, hk⟩ := h2
    refine ⟨vs, hu, hl, fun k c hc => ?_⟩
    obtain ⟨g, b, hg, h3⟩ := hk k c hc
    exact ⟨g, b, S.g c.1 g hg (a1 c.1 (List.mem_map.mpr ⟨c, List.mem_of_getElem? hc, rfl⟩)), h3⟩

/-- A leaf's change that forgets what has died. -/
def lnOf : Leaf → Option Nat
  | .o _ _ n | .sn _ n _ | .q _ _ _ _ n | .r n _ | .ln n => some n
  | _ => none
theorem lnOf_sound {γ : Ghost} {w : World} {l : Leaf} {u : Value} {n : Nat} (h : RLeaf γ w l u) (hl : lnOf l = some n) : ∃ a cap, u = .slice a n cap := by
  obtain ⟨_, h⟩ := h
  cases l <;> simp only [lnOf, Option.some.injEq] at hl <;> try (cases hl; done)
  all_goals (subst hl; simp only [RLeafC] at h)
  case r n f => obtain ⟨a, cap, hu, _⟩ := ro_slice h; exact ⟨a, cap, hu⟩
  case sn id n f => obtain ⟨a, cap, hu, _⟩ := ro_slice h.2; exact ⟨a, cap, hu⟩
  case o id off n => obtain ⟨g, a, cap, _, hu, _⟩ := h; exact ⟨a, cap, hu⟩
  case q id i j v n => obtain ⟨c, _, hv⟩ := h; obtain ⟨a, cap, hu, _⟩ := view_slice hv; exact ⟨a, cap, hu⟩
  case ln n => exact h
def Kills (dead rd sd : Nat → Prop) (h : Leaf → Leaf) : Prop := ∀ l, h l = .un ∨ (h l = l ∧ Alive dead rd sd l) ∨ ∃ n, lnOf l = some n ∧ h l = .ln n

theorem RLeaf.kill (S : Step γ γ' w w' dead rd sd) {h : Leaf → Leaf} (hk : Kills dead rd sd h) {l : Leaf} {u : Value} (hr : RLeaf γ w l u) : RLeaf γ' w' (h l) u := by
  rcases hk l with e | ⟨e, ha⟩ | ⟨n, hn, e⟩
  · rw [e]; exact ⟨hr.1, trivial⟩
  · rw [e]; exact hr.step S ha
  · rw [e]; exact ⟨hr.1, lnOf_sound hr hn⟩
theorem RCells.kill (S : Step γ γ' w w' dead rd sd) {h : Leaf → Leaf} (hk : Kills dead rd sd h) {cs : List Leaf} {us : List Value} (hr : RCells γ w cs us) : RCells γ' w' (cs.map h) us := by
  refine ⟨by simp [hr.1], fun j l hl => ?_⟩
  simp only [List.getElem?_map, Option.map_eq_some_iff] at hl
  obtain ⟨l0, hl0, rfl⟩ := hl
  obtain ⟨u, hu, hru⟩ := hr.2 j l0 hl0
  exact ⟨u, hu, hru.kill S hk⟩
theorem RV1.kill (S : Step γ γ' w w' dead rd sd) {h : Leaf → Leaf} (hk : Kills dead rd sd h) {v : V1} {u : Value} (hr : RV1 γ w v u) : RV1 γ' w' (mapV1 h v) u := by
  cases v with
  | lf l => exact RLeaf.kill S hk hr
  | ag cs =>
    obtain ⟨us, hu, hc⟩ := hr
    exact ⟨us, hu, hc.kill S hk⟩
theorem RV.kill (S : Step γ γ' w w' dead rd sd) {h : Leaf → Leaf} (hk : Kills dead rd sd h) {v : V} {u : Value} (hr : RV γ w v u) : RV γ' w' (mapV h v) u := by
  cases v with
  | one v => exact RV1.kill S hk hr
  | tup vs =>
    obtain ⟨us, hu, hl, hc⟩ := hr
    refine ⟨us, hu, by simp [hl], fun j l hj => ?_⟩
    simp only [List.getElem?_map, Option.map_eq_some_iff] at hj
    obtain ⟨l0, hl0, rfl⟩ := hj
    obtain ⟨u, hu, hru⟩ := hc j l0 hl0
    exact ⟨u, hu, RV1.kill S hk hru⟩
  | bad => trivial

theorem kills_id (h : ∀ id, ¬ dead id) (h1 : ∀ id, ¬ rd id) (h' : ∀ id, ¬ sd id) : Kills dead rd sd id := fun l => .inr (.inl ⟨rfl, fun id _ => h id, fun id _ => h1 id, fun id _ => h' id⟩)
theorem mapV1_id (v : V1) : mapV1 id v = v := by cases v <;> simp [mapV1]
theorem mapV_id (v : V) : mapV id v = v := by cases v <;> simp [mapV, mapV1_id, funext mapV1_id]
theorem RV.step0 (S : Step γ γ' w w' (fun _ => False) (fun _ => False) (fun _ => False)) {v : V} {u : Value} (hr : RV γ w v u) : RV γ' w' v u := by
  have := RV.kill S (h := id) (kills_id (by simp) (by simp) (by simp)) hr
  rwa [mapV_id] at this

theorem kill_ite (i id : Nat) (l : Leaf) (h : i ≠ id → Alive dead rd sd l) : (bif Nat.beq i id then Leaf.un else l) = .un ∨ ((bif Nat.beq i id then Leaf.un else l) = l ∧ Alive dead rd sd l) ∨ ∃ n, lnOf l = some n ∧ (bif Nat.beq i id then Leaf.un else l) = .ln n := by
  cases hb : Nat.beq i id with
  | true => exact .inl rfl
  | false => exact .inr (.inl ⟨rfl, h (Nat.ne_of_beq_eq_false hb)⟩)
theorem kill_itl (i id n : Nat) (l : Leaf) (hl : lnOf l = some n) (h : i ≠ id → Alive dead rd sd l) : (bif Nat.beq i id then Leaf.ln n else l) = .un ∨ ((bif Nat.beq i id then Leaf.ln n else l) = l ∧ Alive dead rd sd l) ∨ ∃ n', lnOf l = some n' ∧ (bif Nat.beq i id then Leaf.ln n else l) = .ln n' := by
  cases hb : Nat.beq i id with
  | true => exact .inr (.inr ⟨n, hl, rfl⟩)
  | false => exact .inr (.inl ⟨rfl, h (Nat.ne_of_beq_eq_false hb)⟩)
theorem kills_S (id : Nat) : Kills (fun _ => False) (fun _ => False) (fun i => i = id) (killS id) := by
  intro l
  cases l <;> simp only [killS]
  case sn i n f => exact kill_itl i id _ _ rfl fun h => ⟨by simp, by simp, by simpa [snIds] using h⟩
  case sp i row => exact kill_ite i id _ fun h => ⟨by simp, by simp, by simpa [snIds] using h⟩
  all_goals exact .inr (.inl ⟨by first | rfl | trivial, by simp, by simp, by simp [snIds]⟩)
theorem kills_Q (id : Nat) : Kills (fun _ => False) (fun i => i = id) (fun i => i = id) (killQ id) := by
  intro l
  cases l <;> simp only [killQ]
  case sn i n f => exact kill_itl i id _ _ rfl fun h => ⟨by simp, by simp [qIds], by simpa [snIds] using h⟩
  case sp i row => exact kill_ite i id _ fun h => ⟨by simp, by simp [qIds], by simpa [snIds] using h⟩
  case q i a b c d => exact kill_itl i id _ _ rfl fun h => ⟨by simp, by simpa [qIds] using h, by simp [snIds]⟩
  case qp i a b c d e => exact kill_ite i id _ fun h => ⟨by simp, by simpa [qIds] using h, by simp [snIds]⟩
  all_goals exact .inr (.inl ⟨by first | rfl | trivial, by simp, by simp [qIds], by simp [snIds]⟩)

/-- An object as it lies, its own cells unturned. -/
theorem RObj.step (S : Step γ γ' w w' dead rd sd) {h : Leaf → Leaf} (hk : Kills dead rd sd h) {id : Nat} {g : G1} {o : Obj} (hg : γ.g id = some g) (hr : RObj γ w id g o) (hfp : ∀ b, γ.fp id b → γ'.fp id b) (hext : Ext (γ.fp id) w w') : RObj γ' w' id g (mapObj h o) := by
  cases o with
  | deep sz n f =>
    simp only [RObj, mapObj] at hr ⊢
    obtain ⟨hn, hz, hr⟩ := hr
    refine ⟨hn, hz, ?_⟩
    split at hr
    · exact hr
    · obtain ⟨h0, cs, t, fr, vs, G, h1, h2, h3, h4, h5, h6, h7, h8, h9⟩ := hr
      exact ⟨h0, cs, t, fr, vs, G, hfp _ h1, hext _ _ h1 h2, h3, h4, h5, h6, fun i j x hx => ⟨hfp _ (h7 i j x hx).1, (h7 i j x hx).2⟩, h8,
        fun i j d hi hj => ⟨(h9 i j d hi hj).1, (h9 i j d hi hj).2.mono (fun _ hb => hb) (hext.sub fun b hb => (h7 i j b hb).1)⟩⟩
  | lent sz n =>
    obtain ⟨h1, h2, h4, h9, h3⟩ := hr
    refine ⟨h1, h2, h4, h9, fun h => ⟨(h3 h).1, ?_⟩⟩
    have h5 := (h3 h).2
    split
    · trivial
    · rename_i b hb
      rw [hb] at h5
      obtain ⟨cs, t, fr, h6, h7, h8⟩ := h5
      exact ⟨cs, t, fr, hfp _ h6, hext _ _ h6 h7, h8⟩
  | lentV n => exact hr
  | arr n f ws =>
    obtain ⟨b, cs, t, fr, h1, h2, h3, h4, h5, h6, h7, h8, h9, h10, h11⟩ := hr
    exact ⟨b, cs, t, fr, h1, hfp _ h2, hext _ _ h2 h3, h4, h5, h6, h7, h8, h9, fun i hi => ⟨(h10 i hi).1, (h10 i hi).2.imp fun v hv => ⟨hv.1, fun d hd => (hv.2 d hd).mono (fun _ hb => hb.elim) (fun b _ hb => hb.elim)⟩⟩, h11⟩
  | it s pos =>
    obtain ⟨b, h1, h2, h3, h4⟩ := hr
    exact ⟨b, h1, h2, hfp _ h3, hext _ _ h3 h4⟩
  | mp es =>
    obtain ⟨b, ents, clock, h1, h2, h3, h4, h5⟩ := hr
    refine ⟨b, ents, clock, h1, hfp _ h2, hext _ _ h2 h3, by simp [h4], fun k e hk' => ?_⟩
    simp only [List.getElem?_map, Option.map_eq_some_iff] at hk'
    obtain ⟨e0, he0, rfl⟩ := hk'
    obtain ⟨en, h6, h7, h8⟩ := h5 k e0 he0
    exact ⟨en, h6, h7, h8.kill S hk⟩
  | vars cells =>
    obtain ⟨b, cs, t, fr, h1, h2, h3, h4, h5, h6, h7, h9, h8⟩ := hr
    exact ⟨b, cs, t, fr, h1, hfp _ h2, hext _ _ h2 h3, h4, h5, by simp [h6], by simp [h7], by simpa using h9, h8.kill S hk⟩
  | frame us vs =>
    obtain ⟨h1, h2, h3, h4⟩ := hr
    refine ⟨h1, h2, by simp [h3], fun i => ?_⟩
    have e : getN undefV (vs.map (mapV h)) i = mapV h (getN undefV vs i) := by
      have : ∀ (l : List V) (i : Nat), getN undefV (l.map (mapV h)) i = mapV h (getN undefV l i) := fun l => by
        induction l with
        | nil => intro i; simp [getN, mapV]
        | cons v l ih => intro i; cases i with
          | zero => rfl
          | succ i => exact ih i
      exact this vs i
    rw [e]
    exact (h4 i).kill S hk
end

theorem look_map {α β : Type} (h : α → β) : ∀ (st : List (Nat × α)) (id : Nat), look (st.map fun x => (x.1, h x.2)) id = (look st id).map h
  | [], id => rfl
  | (i, o) :: t, id => by
    simp only [List.map_cons, look]
    cases Nat.beq i id with
    | true => rfl
    | false => exact look_map h t id
theorem look_cons {α : Type} (i : Nat) (o : α) (t : List (Nat × α)) (j : Nat) : look ((i, o) :: t) j = if i = j then some o else look t j := by
  simp only [look]
  by_cases h : i = j
  · subst h; simp
  · have : Nat.beq i j = false := by
      cases hb : Nat.beq i j with
      | false => rfl
      | true => exact absurd (Nat.eq_of_beq_eq_true hb) h
    simp [this, h]
theorem look_put {α : Type} (v : α) : ∀ (st : List (Nat × α)) (i j : Nat), look (put st i v) j = if j = i ∧ (look st i).isSome then some v else look st j
  | [], i, j => by simp [put, look]
  | (k, o) :: t, i, j => by
    simp only [put]
    cases hb : Nat.beq k i with
    | true =>
      have hk := Nat.eq_of_beq_eq_true hb
      subst hk
      simp only [cond_true, look_cons]
      by_cases h : j = k
      · subst h; simp
      · have h' : ¬ k = j := fun e => h e.symm
        simp [h, h']
    | false =>
      have hk := Nat.ne_of_beq_eq_false hb
      simp only [cond_false, look_cons, look_put v t i j, hk, if_false]
      by_cases h : k = j
      · subst h; simp [hk]
      · simp [h]
theorem look_drop {α : Type} : ∀ (st : List (Nat × α)) (i j : Nat), look (drop st i) j = if j = i then none else look st j
  | [], i, j => by simp [drop, look]
  | (k, o) :: t, i, j => by
    simp only [drop]
    cases hb : Nat.beq k i with
    | true =>
      have hk := Nat.eq_of_beq_eq_true hb
      subst hk
      simp only [cond_true, look_drop t k j, look_cons]
      by_cases h : j = k
      · simp [h]
      · have h' : ¬ k = j := fun e => h e.symm
        simp [h, h']
    | false =>
      have hk := Nat.ne_of_beq_eq_false hb
      simp only [cond_false, look_cons, look_drop t i j]
      by_cases h : k = j
      · subst h; simp [hk]
      · simp [h]

theorem getN_map {α β : Type} (h : α → β) (d : α) (d' : β) (hd : h d = d') : ∀ (l : List α) (i : Nat), getN d' (l.map h) i = h (getN d l i)
  | [], i => by simp [getN, hd]
  | a :: l, 0 => by simp [getN]
  | a :: l, n + 1 => by simp [getN, getN_map h d d' hd l n]

end Go.AW
/- The abstract calculus, part 8: new objects. -/
set_option linter.unusedVariables false
set_option linter.unusedSimpArgs false
namespace Go.AW

def Ghost.add (γ : Ghost) (id : Nat) (g : G1) (F : FP) : Ghost :=
  { g := fun i => if i = id then some g else γ.g i, fp := fun i => if i = id then F else γ.fp i, ro := γ.ro }

def WExt (w w' : World) : Prop := ∀ (b : Nat) (o : Go.Obj), w.heap[b]? = some o → w'.heap[b]? = some o
theorem mapObj_id (o : Obj) : mapObj (fun l => l) o = o := by
  have e : ∀ v, mapV (fun l => l) v = v := fun v => mapV_id v
  cases o <;> simp [mapObj, funext e]

section
variable {P : Program} {w0 w w' : World} {mine : FP} {γ : Ghost} {σ : St} {a : Act} {k : V → St → Prop} {E : Env}

theorem Keep.later (h : Keep w0 mine w) (hs : w.heap.size ≤ w'.heap.size) (hos : w'.os = w.os) (ht : w'.tape = w.tape) (ho : w'.output = w.output) (hb : ∀ b, b < w.heap.size → w'.heap[b]? = w.heap[b]?) : Keep w0 mine w' :=
  ⟨Nat.le_trans h.size hs, hos.trans h.os, ht.trans h.tape, ho.trans h.output, fun b hb' hm => (hb b (Nat.lt_of_lt_of_le hb' h.size)).trans (h.old b hb' hm), h.tabs⟩

theorem step_add {n : Nat} (lt : ∀ id g, γ.g id = some g → id < n) (g : G1) (F : FP) (hext : WExt w w') : Step γ (γ.add n g F) w w' (fun _ => False) (fun _ => False) (fun _ => False) where
  root := fun id g' b o h _ _ hb ho => ⟨by simp only [Ghost.add]; rw [if_neg (Nat.ne_of_lt (lt id g' h))]; exact hb, hext b o ho⟩
  g := fun id g' h _ => by simp only [Ghost.add]; rw [if_neg (Nat.ne_of_lt (lt id g' h))]; exact h
  fp := fun id g' h _ b hb => by simp only [Ghost.add]; rw [if_neg (Nat.ne_of_lt (lt id g' h))]; exact hb
  ext := fun id g' h _ b o _ ho => hext b o ho
  ro := fun b hb => hb
  rext := fun b o _ ho => hext b o ho

theorem Rel.fresh (R : Rel w0 mine γ σ a w) (hext : WExt w w') (hk : Keep w0 mine w') (hs : w.heap.size ≤ w'.heap.size) (g : G1) (F : FP) (o : Obj)
    (hobj : RObj (γ.add σ.next g F) w' σ.next g o) (hF : ∀ b, F b → w.heap.size ≤ b ∧ b < w'.heap.size) : Rel w0 mine (γ.add σ.next g F) (mkObj σ o) a w' := by
  have S := step_add (w := w) (w' := w') R.st.lt g F hext
  have hne : ∀ id o', look σ.store id = some o' → id ≠ σ.next := fun id o' h => by
    obtain ⟨g', hg', _⟩ := R.st.objs id o' h
    exact Nat.ne_of_lt (R.st.lt id g' hg')
  have hfp : ∀ id, id ≠ σ.next → (γ.add σ.next g F).fp id = γ.fp id := fun id h => by simp [Ghost.add, h]
  have hfpn : (γ.add σ.next g F).fp σ.next = F := by simp [Ghost.add]
  have hsz := R.st.keep.size
  refine ⟨R.size, fun i => RV.step0 S (R.slots i), ?_, ?_, ?_, ?_, ?_, ?_, ?_, hk⟩
  · intro id o' h
    simp only [mkObj, look_cons] at h
    by_cases hid : σ.next = id
    · rw [if_pos hid] at h
      cases h
      subst hid
      exact ⟨g, by simp [Ghost.add], hobj⟩
    · rw [if_neg hid] at h
      obtain ⟨g', hg', ho⟩ := R.st.objs id o' h
      have := RObj.step S (h := fun l => l) (kills_id (by simp) (by simp) (by simp)) hg' ho (fun b hb => by rw [hfp _ (Ne.symm hid)]; exact hb) (fun b o _ ho => hext b o ho)
      rw [mapObj_id] at this
      exact ⟨g', by simp [Ghost.add, Ne.symm hid, hg'], this⟩
  · intro id id' o1 o2 h1 h2 hne' b hb hb'
    simp only [mkObj, look_cons] at h1 h2
    by_cases e1 : σ.next = id
    · subst e1
      rw [if_neg hne'] at h2
      rw [hfpn] at hb
      rw [hfp _ (Ne.symm hne')] at hb'
      have := (R.st.fp id' o2 h2 b hb').1
      have := (hF b hb).1
      omega
    · rw [if_neg e1] at h1
      rw [hfp _ (Ne.symm e1)] at hb
      by_cases e2 : σ.next = id'
      · subst e2
        rw [hfpn] at hb'
        have := (R.st.fp id o1 h1 b hb).1
        have := (hF b hb').1
        omega
      · rw [if_neg e2] at h2
        rw [hfp _ (Ne.symm e2)] at hb'
        exact R.st.disj id id' o1 o2 h1 h2 hne' b hb hb'
  · intro id o' h b hb hro
    simp only [mkObj, look_cons] at h
    by_cases hid : σ.next = id
    · subst hid
      rw [hfpn] at hb
      have := (hF b hb).1
      have := R.st.rolt b hro
      omega
    · rw [if_neg hid] at h
      rw [hfp _ (Ne.symm hid)] at hb
      exact R.st.ro id o' h b hb hro
  · intro id g' h
    show id < σ.next + 1
    simp only [Ghost.add] at h
    by_cases hid : id = σ.next
    · omega
    · rw [if_neg hid] at h
      have := R.st.lt id g' h
      omega
  · intro id g' h
    show ∃ o', look ((σ.next, o) :: σ.store) id = some o'
    simp only [Ghost.add] at h
    rw [look_cons]
    by_cases hid : id = σ.next
    · rw [if_pos hid.symm]; exact ⟨_, rfl⟩
    · rw [if_neg hid] at h
      rw [if_neg (Ne.symm hid)]
      exact R.st.dom id g' h
  · intro id o' h b hb
    simp only [mkObj, look_cons] at h
    by_cases hid : σ.next = id
    · subst hid
      rw [hfpn] at hb
      have := hF b hb
      exact ⟨this.2, .inl (by omega)⟩
    · rw [if_neg hid] at h
      rw [hfp _ (Ne.symm hid)] at hb
      have := R.st.fp id o' h b hb
      exact ⟨by omega, this.2⟩
  · intro b hb
    have := R.st.rolt b hb
    omega

/-- A block laid behind the others. -/
theorem wext_push (w : World) (o : Go.Obj) : WExt w { w with heap := w.heap.push o } := by
  intro b x h
  have hb : b < w.heap.size := (Array.getElem?_eq_some_iff.mp h).1
  show (w.heap.push o)[b]? = some x
  rw [Array.getElem?_push, if_neg (by omega)]
  exact h
theorem keep_push (h : Keep w0 mine w) (o : Go.Obj) : Keep w0 mine { w with heap := w.heap.push o } :=
  h.later (by simp) rfl rfl rfl (fun b hb => by show (w.heap.push o)[b]? = _; rw [Array.getElem?_push, if_neg (by omega)])

theorem rcells_fresh (R : RelS w0 mine γ σ.store σ.next w) {g : G1} {F : FP} (hext : WExt w w') {cs : List Leaf} {us : List Value} (h : RCells γ w cs us) : RCells (γ.add σ.next g F) w' cs us := by
  have := RCells.kill (step_add (w := w) (w' := w') R.lt g F hext) (h := fun l => l) (kills_id (by simp) (by simp) (by simp)) h
  simpa using this

/-- A variable's cells, laid anew. -/
theorem Rel.newVars (R : Rel w0 mine γ σ a w) {cs : List Leaf} {us : List Value} (t : TypeId) (sz : Nat) (hz : sz = 0 ∨ sz = cs.length) (hc : RCells γ w cs us) :
    Rel w0 mine (γ.add σ.next ⟨some w.heap.size, 0, sz, cs.length, 1⟩ (fun b => b = w.heap.size)) (mkObj σ (.vars cs)) a { w with heap := w.heap.push (.cells us.toArray t) } := by
  refine R.fresh (wext_push w _) (keep_push R.st.keep _) (by simp) _ _ _ ?_ (fun b hb => by subst hb; simp)
  refine ⟨w.heap.size, us.toArray, t, (0, 0), rfl, by simp [Ghost.add], by simp, .inl (Nat.le_refl _), rfl, rfl, by simp [hc.1], ⟨hz, rfl⟩, ?_⟩
  simpa using rcells_fresh R.st (wext_push w _) hc

theorem cellsOf_sound {v : V} {u : Value} {cs : List Leaf} (h : RV γ w v u) (hc : cellsOf v = some cs) : RCells γ w cs u.cells.toList ∧ u.cells.toList.all (·.oneCell') = true := by
  unfold cellsOf at hc
  split at hc
  · rename_i l
    simp at hc; subst hc
    have h1 : RLeaf γ w l u := h
    have hu : u.cells = #[u] := by
      have := h1.1
      cases u <;> simp_all [Value.cells, Value.oneCell']
    rw [hu]
    exact ⟨⟨rfl, fun j x hj => by
      cases j with
      | zero => simp at hj; subst hj; exact ⟨u, rfl, h1⟩
      | succ j => simp at hj⟩, by simp [h1.1]⟩
  · rename_i cs'
    simp at hc; subst hc
    obtain ⟨us, hu, hr⟩ := h
    subst hu
    have e : (Value.agg us.toArray).cells.toList = us := by simp [Value.cells]
    rw [e]
    refine ⟨hr, ?_⟩
    rw [List.all_eq_true]
    intro x hx
    obtain ⟨j, hj⟩ := List.mem_iff_getElem?.mp hx
    have hlt : j < cs'.length := by rw [← hr.1]; exact (List.getElem?_eq_some_iff.mp hj).1
    obtain ⟨v, hv, hl⟩ := hr.2 j _ (List.getElem?_eq_getElem hlt)
    rw [hj] at hv
    cases hv
    exact hl.1
  · simp at hc

theorem does_box (hE : EnvOk P E) (R : Rel w0 mine γ σ a w) {d t p af g bt} {x : Operand} {cs : List Leaf} (hx : cellsOf (evA σ x) = some cs)
    (h : k (.one (.lf (.p σ.next 0))) (mkObj σ (.vars cs))) : Does P w0 mine a w ⟨d, .box bt x, t, p, af, g⟩ k := by
  obtain ⟨hc, _⟩ := cellsOf_sound (R.ev x) hx
  have R' := R.newVars bt 0 (.inl rfl) hc
  refine .inl ⟨.pointer (some ⟨w.heap.size, 0, none⟩), _, ?_, _, _, _, h, R', ⟨rfl, ⟨some w.heap.size, 0, 0, cs.length, 1⟩, w.heap.size, by simp [Ghost.add], rfl, rfl⟩⟩
  simp [execOp, Instr.box, newVar, newRow]

theorem scal_spec : ∀ (cs : List Leaf) (vs : List Value), scal cs = some vs → cs = vs.map .s
  | [], vs, h => by simp [scal] at h; subst h; rfl
  | c :: t, vs, h => by
    cases c with
    | s v =>
      simp only [scal] at h
      split at h
      · rename_i l hl
        simp at h; subst h
        rw [scal_spec t l hl]
        rfl
      · simp at h
    | _ => simp [scal] at h
theorem getN_lt {α : Type} (d : α) : ∀ (l : List α) (i : Nat), i < l.length → l[i]? = some (getN d l i)
  | [], i, h => by simp at h
  | a :: l, 0, _ => rfl
  | a :: l, i + 1, h => by
    rw [List.getElem?_cons_succ]
    exact getN_lt d l i (by simpa using h)
theorem does_boxArr (hE : EnvOk P E) (R : Rel w0 mine γ σ a w) {d t p af g bt} {x : Operand} {cs : List Leaf} {n : Nat} {v : Value} {vs : List Value} (hx : cellsOf (evA σ x) = some cs) (hv : scal cs = some (v :: vs)) (hn : Nat.ble n (v :: vs).length = true)
    (h : k (.one (.lf (.p σ.next 0))) (mkObj σ (.arr n (fun i => [.s (getN v (v :: vs) i)]) ((v :: vs).drop n)))) : Does P w0 mine a w ⟨d, .box bt x, t, p, af, g⟩ k := by
  obtain ⟨hc, h1⟩ := cellsOf_sound (R.ev x) hx
  have hn := Nat.le_of_ble_eq_true hn
  have hcs := scal_spec _ _ hv
  generalize v :: vs = l at *
  subst hcs
  have hus : ∀ i, i < l.length → (a.eval x).cells.toList[i]? = l[i]? ∧ ∀ y, l[i]? = some y → y.oneCell' = true := fun i hi => by
    obtain ⟨u, hu, hl⟩ := hc.2 i (.s (l[i])) (by simp [hi])
    have := hl.2
    simp only [RLeafC] at this
    subst this
    rw [hu, List.getElem?_eq_getElem hi]
    exact ⟨rfl, fun y hy => by cases hy; exact hl.1⟩
  have hlen : (a.eval x).cells.toList.length = l.length := by rw [hc.1]; simp
  have R' : Rel w0 mine (γ.add σ.next ⟨some w.heap.size, 0, 1, l.length, n⟩ (fun b => b = w.heap.size)) (mkObj σ (.arr n (fun i => [.s (getN v l i)]) (l.drop n))) a { w with heap := w.heap.push (.cells (a.eval x).cells.toList.toArray bt) } := by
    refine R.fresh (wext_push w _) (keep_push R.st.keep _) (by simp) _ _ _ ?_ (fun b hb => by subst hb; simp)
    refine ⟨w.heap.size, (a.eval x).cells.toList.toArray, bt, (0, 0), rfl, by simp [Ghost.add], by simp, .inl (Nat.le_refl _), rfl, rfl, rfl, by simp; omega, by rw [List.size_toArray, hlen, List.length_drop]; omega, fun i hi => ⟨rfl, getN v l i, ?_, fun d hd => ?_⟩, fun j y hy => ?_⟩
    · rw [List.getElem?_toArray, (hus i (by omega)).1, getN_lt v l i (by omega)]
    · simp at hd
      subst hd
      exact .s _ _ ((hus i (by omega)).2 _ (getN_lt v l i (by omega)))
    · rw [List.getElem?_drop] at hy
      have hlt : n + j < l.length := (List.getElem?_eq_some_iff.mp hy).1
      rw [List.getElem?_toArray, (hus _ hlt).1, hy]
      exact ⟨rfl, (hus _ hlt).2 _ hy⟩
  refine .inl ⟨.pointer (some ⟨w.heap.size, 0, none⟩), _, ?_, _, _, _, h, R', ⟨rfl, ⟨some w.heap.size, 0, 1, l.length, n⟩, w.heap.size, by simp [Ghost.add], rfl, rfl⟩⟩
  simp [execOp, Instr.box, newVar, newRow]

theorem rcells_zero {γ : Ghost} {w : World} {l : List Value} (h : l.all (·.oneCell') = true) : RCells γ w (l.map leafOfValue) l := by
  refine ⟨by simp, fun j x hj => ?_⟩
  simp only [List.getElem?_map, Option.map_eq_some_iff] at hj
  obtain ⟨u, hu, rfl⟩ := hj
  exact ⟨u, hu, rleaf_ofValue γ w u (List.all_eq_true.mp h u (List.mem_of_getElem? hu))⟩

theorem TIok.run_zero {t : TypeId} {i : TI} (h : TIok P t i) : ∃ z : Value, (zeroValue t).run P w = .ok z w ∧ z.cells.toList = i.zero := by
  obtain ⟨x, hx, _, _, z, hz, hc⟩ := h.run_info
  exact ⟨z, by simp [zeroValue, typeInfo, hx, hz], hc⟩

theorem does_alloc (hE : EnvOk P E) (R : Rel w0 mine γ σ a w) {d t p af g bt} (hk : okK (E bt).k = true)
    (h : k (.one (.lf (.p σ.next 0))) (mkObj σ (.vars ((E bt).zero.map leafOfValue)))) : Does P w0 mine a w ⟨d, .alloc bt, t, p, af, g⟩ k := by
  have hT := hE bt (okK_ne hk)
  obtain ⟨z, hz, hc⟩ := hT.run_zero (w := w)
  have R' := R.newVars bt 0 (.inl rfl) (rcells_zero (γ := γ) (w := w) hT.one)
  refine .inl ⟨.pointer (some ⟨w.heap.size, 0, none⟩), _, ?_, _, _, _, h, R', ⟨rfl, ⟨some w.heap.size, 0, 0, _, 1⟩, w.heap.size, by simp [Ghost.add]; rfl, rfl, rfl⟩⟩
  simp [execOp, Instr.alloc, hz, newVar, newRow, ← hc]

/-- An owned slice, laid anew: its rows are scalars that lie in a block of their own. -/
theorem Rel.newDeep (R : Rel w0 mine γ σ a w) {n sz cap : Nat} {f : Nat → List DV} {vs : Nat → Nat → Value} {cs : Array Value} {t : TypeId} {fr : Nat × Nat} {w' : World} (hext : WExt w w') (hk : Keep w0 mine w') (hs : w'.heap.size = w.heap.size + 1)
    (hb : w'.heap[w.heap.size]? = some (.cells cs t fr)) (hu : Unfrozen fr cs.size) (hs0 : 0 < sz) (hn : n ≤ cap) (htot : cap * sz ≤ cs.size) (hlen : ∀ i, i < n → (f i).length = sz)
    (hv : ∀ i j d, i < n → (f i)[j]? = some d → cs[i * sz + j]? = some (vs i j) ∧ OwnT w' (fun _ => False) (vs i j) d) :
    Rel w0 mine (γ.add σ.next ⟨some w.heap.size, 0, sz, cap * sz, n⟩ (fun b => b = w.heap.size)) (mkObj σ (.deep sz n f)) a w' ∧
      RV (γ.add σ.next ⟨some w.heap.size, 0, sz, cap * sz, n⟩ (fun b => b = w.heap.size)) w' (.one (.lf (.o σ.next 0 n))) (.slice (some ⟨w.heap.size, 0, none⟩) n cap) := by
  constructor
  · refine R.fresh hext hk (by omega) _ _ _ ?_ (fun b hb => by subst hb; omega)
    simp only [RObj]
    exact ⟨trivial, trivial, hs0, cs, t, fr, vs, fun _ _ _ => False, by simp [Ghost.add], hb, hu, by simpa using htot, Nat.mul_le_mul_right _ hn, hlen, fun i j x hx => hx.elim, fun i j i' j' x hx => hx.elim,
      fun i j d hi hj => by have := hv i j d hi hj; simpa using this⟩
  · exact ⟨rfl, ⟨some w.heap.size, 0, sz, cap * sz, n⟩, _, cap, by simp [Ghost.add], rfl, hn, by simp, by simp, fun _ => ⟨w.heap.size, rfl, by simp⟩⟩

theorem does_bytes (hE : EnvOk P E) (R : Rel w0 mine γ σ a w) {d t p af g src dst e} {x : Operand} {s : ByteArray} (hsrc : okK (E src).k = true) (hk : (E dst).k = .sl e) (hke : (E e).k = .int .u8) (hx : evA σ x = .one (.lf (.s (.string s))))
    (h : k (.one (.lf (.o σ.next 0 (std.lenS s)))) (mkObj σ (.deep 1 (std.lenS s) (fun i => [.s (.int .u8 (std.byteS s i))])))) : Does P w0 mine a w ⟨d, .convert src dst x, t, p, af, g⟩ k := by
  have hT := hE dst (by rw [hk]; simp)
  obtain ⟨ds, hds, _⟩ := (hE src (okK_ne hsrc)).und
  have hTe := hE e (by rw [hke]; simp)
  have hxv := R.ev x
  rw [hx] at hxv
  have hx2 : a.eval x = .string s := hxv.2
  -- the new block's capacity
  obtain ⟨cap, w1, hch, hcap, hw1⟩ : ∃ cap w1, (choose (.appendCap s.size 0 e)).run P w = .ok cap w1 ∧ s.size ≤ cap ∧ w1 = { w with drawn := w.drawn + 1 } := by
    refine ⟨_, _, by rw [run_choose]; simp only [Question.forced]; rfl, ?_, rfl⟩
    simp only [Question.cut]
    omega
  let cs : Array Value := (s.data.map fun b => Value.int .u8 b.toNat) ++ Array.replicate (cap - s.size) (.int .u8 0)
  have hcs : cs.size = cap := by
    simp only [cs, Array.size_append, Array.size_map, Array.size_replicate]
    have : s.data.size = s.size := rfl
    omega
  let w2 : World := { w1 with heap := w1.heap.push (.cells cs e) }
  let w' : World := w2.freeze ⟨w1.heap.size, cs.size, none⟩ 1
  have hrun : (execOp a.eval ⟨d, .convert src dst x, t, p, af, g⟩).run P w = .ok (.value (.slice (some ⟨w1.heap.size, 0, none⟩) s.size cap)) w' := by
    have hsh : w2.shape? w1.heap.size = some (e, cs.size) := by simp [w2, World.shape?]
    simp only [execOp, convert, hx2, Sem.run_bind, run_underlying hds, run_underlying (hT.sl hk), Result.andThen_ok]
    cases ds <;> simp only [run_underlying (hTe.int hke), Sem.run_bind, Result.andThen_ok, Conv.stringToBytes, hch, newRow, run_newObj, Sem.run_pure, markStringish, run_shape]
    all_goals (simp only [w2, cs] at hsh; rw [hsh]; rfl)
  have hheap : w'.heap[w.heap.size]? = some (.cells cs e (cs.size, cs.size + 1)) := by
    simp only [w', World.freeze, w2, hw1]
    rw [if_neg (by omega), Array.getElem?_modify, if_pos rfl, Array.getElem?_push, if_pos rfl]
    simp
  have hold : ∀ b, b < w.heap.size → w'.heap[b]? = w.heap[b]? := by
    intro b hb
    simp only [w', World.freeze, w2, hw1]
    rw [if_neg (by omega)]
    simp only [Array.getElem?_modify]
    rw [if_neg (by omega), Array.getElem?_push, if_neg (by omega)]
  have hsz : w'.heap.size = w.heap.size + 1 := by
    simp only [w', World.freeze, w2, hw1]
    rw [if_neg (by omega)]
    simp
  have hos : w'.os = w.os ∧ w'.tape = w.tape ∧ w'.output = w.output := by
    simp only [w', World.freeze, w2, hw1]
    rw [if_neg (by omega)]
    exact ⟨rfl, rfl, rfl⟩
  have hext : WExt w w' := fun b o ho => by
    have hb : b < w.heap.size := (Array.getElem?_eq_some_iff.mp ho).1
    rw [hold b hb]; exact ho
  obtain ⟨R', hv⟩ := R.newDeep (n := s.size) (sz := 1) (cap := cap) (f := fun i => [.s (.int .u8 (std.byteS s i))]) (vs := fun i _ => .int .u8 (std.byteS s i)) (w' := w') hext
    (R.st.keep.later (by omega) hos.1 hos.2.1 hos.2.2 hold) hsz hheap (.inr (Nat.le_refl _)) (by omega) hcap (by omega) (fun i hi => rfl) (by
      intro i j d hi hj
      cases j with
      | succ j => simp at hj
      | zero =>
        simp at hj
        subst hj
        refine ⟨?_, .s _ _ rfl⟩
        have hi' : i < s.data.size := hi
        simp only [cs, Nat.mul_one, Nat.add_zero]
        rw [Array.getElem?_append_left (by simpa using hi')]
        simp [std, hi', List.getD, Array.getElem?_eq_getElem hi'])
  exact .inl ⟨_, _, hrun, _, _, _, h, R', by have : w1.heap.size = w.heap.size := by rw [hw1]
                                             rw [this]; exact hv⟩
end
end Go.AW
/- The abstract calculus, part 9: slices made. -/
set_option linter.unusedVariables false
set_option linter.unusedSimpArgs false
namespace Go.AW

theorem foldset : ∀ (l : List Value) (s off : Nat) (cells : Array Value) (j : Nat),
    ((l.zipIdx s).foldl (fun cs x => cs.setIfInBounds (off + x.2) x.1) cells).size = cells.size ∧
    ((l.zipIdx s).foldl (fun cs x => cs.setIfInBounds (off + x.2) x.1) cells)[j]? = if off + s ≤ j ∧ j < off + s + l.length ∧ j < cells.size then l[j - off - s]? else cells[j]?
  | [], s, off, cells, j => by
    refine ⟨rfl, ?_⟩
    simp only [List.zipIdx_nil, List.foldl_nil, List.length_nil]
    rw [if_neg (by omega)]
  | v :: l, s, off, cells, j => by
    simp only [List.zipIdx_cons, List.foldl_cons]
    obtain ⟨h1, h2⟩ := foldset l (s + 1) off (cells.setIfInBounds (off + s) v) j
    refine ⟨by rw [h1]; simp, ?_⟩
    rw [h2]
    simp only [Array.size_setIfInBounds, Array.getElem?_setIfInBounds, List.length_cons]
    by_cases hj : j = off + s
    · subst hj
      rw [if_neg (by omega), if_pos rfl]
      by_cases hlt : off + s < cells.size
      · rw [if_pos hlt, if_pos (by omega)]; simp
      · rw [if_neg hlt, if_neg (by omega), Array.getElem?_eq_none (by omega)]
    · by_cases hr : off + (s + 1) ≤ j ∧ j < off + (s + 1) + l.length ∧ j < cells.size
      · rw [if_pos hr, if_pos (by omega), show j - off - s = (j - off - (s + 1)) + 1 by omega]; simp
      · rw [if_neg hr, if_neg (by omega), if_neg (by omega)]

theorem fill_one (place : Nat → Option (Nat × Nat)) (cells : Array Value) (i off : Nat) (v : Value) (rest : List (Nat × Value)) (hp : place i = some (off, v.cells.size)) (hfit : off + v.cells.size ≤ cells.size) :
    ∃ cells', Instr.fill place cells ((i, v) :: rest) = Instr.fill place cells' rest ∧ cells'.size = cells.size ∧
      ∀ j, cells'[j]? = if off ≤ j ∧ j < off + v.cells.size then v.cells[j - off]? else cells[j]? := by
  refine ⟨v.cells.zipIdx.foldl (fun cs (c, j) => cs.setIfInBounds (off + j) c) cells, ?_, ?_, ?_⟩
  · have h1 : (decide (v.cells.size ≠ v.cells.size) || decide (off + v.cells.size > cells.size)) = false := by simp; omega
    simp only [Instr.fill, hp, h1]
    rfl
  · have h := foldset v.cells.toList 0 off cells 0
    rw [← Array.foldl_toList, Array.toList_zipIdx]
    exact h.1
  · intro j
    have h := (foldset v.cells.toList 0 off cells j).2
    rw [← Array.foldl_toList, Array.toList_zipIdx]
    rw [show (List.foldl (fun (cs : Array Value) (x : Value × Nat) => match x with | (c, j) => cs.setIfInBounds (off + j) c) cells (v.cells.toList.zipIdx)) = (List.foldl (fun cs x => cs.setIfInBounds (off + x.2) x.1) cells (v.cells.toList.zipIdx 0)) from rfl, h]
    simp only [Nat.add_zero, Nat.sub_zero, Array.length_toList, Array.getElem?_toList]
    by_cases hr : off ≤ j ∧ j < off + v.cells.size
    · rw [if_pos hr, if_pos (by omega)]
    · rw [if_neg hr, if_neg (by omega)]

section
variable {P : Program} {w0 w w' : World} {mine : FP} {γ : Ghost} {σ : St} {a : Act} {k : V → St → Prop} {E : Env}

/-- Rows of leaves that lie in a row of cells. -/
structure Lay (γ : Ghost) (w : World) (sz n : Nat) (cells : Array Value) (rows : List (List Leaf)) : Prop where
  size : cells.size = n * sz
  len : rows.length = n
  row : ∀ i row, rows[i]? = some row → row.length = sz ∧ ∀ j l, row[j]? = some l → ∃ u, cells[i * sz + j]? = some u ∧ RLeaf γ w l u

theorem setN_getElem? {α : Type} (v : α) : ∀ (l : List α) (n m : Nat), (setN l n v)[m]? = if m = n ∧ n < l.length then some v else l[m]?
  | [], n, m => by simp [setN]
  | a :: l, 0, 0 => by simp [setN]
  | a :: l, 0, m + 1 => by simp [setN]
  | a :: l, n + 1, 0 => by simp [setN]
  | a :: l, n + 1, m + 1 => by simp [setN, setN_getElem? v l n m]

theorem fill_lay {sz n : Nat} : ∀ (parts : List (Nat × Operand)) (ps : List (Nat × List Leaf)) (cells : Array Value) (rows : List (List Leaf)), Lay γ w sz n cells rows → Rel w0 mine γ σ a w → partsV σ parts = some ps →
    (∀ p, p ∈ ps → p.1 < n ∧ p.2.length = sz) →
    ∃ cells', Instr.fill (fun i => some (i * sz, sz)) cells (parts.map fun x => (x.1, a.eval x.2)) = some cells' ∧ Lay γ w sz n cells' (ps.foldl (fun rows p => setN rows p.1 p.2) rows)
  | [], ps, cells, rows, hl, R, hp, hok => by
    simp [partsV] at hp; subst hp
    exact ⟨cells, rfl, hl⟩
  | (i, x) :: t, ps, cells, rows, hl, R, hp, hok => by
    simp only [partsV] at hp
    split at hp
    · rename_i cs l hcs hl'
      simp at hp; subst hp
      obtain ⟨hrc, h1⟩ := cellsOf_sound (R.ev x) hcs
      obtain ⟨hi, hlen⟩ := hok (i, cs) (by simp)
      simp only at hi hlen
      have hvs : (a.eval x).cells.size = sz := by have := hrc.1; simp at this; omega
      have hmul : i * sz + sz ≤ n * sz := by rw [← Nat.succ_mul]; exact Nat.mul_le_mul_right _ hi
      obtain ⟨cells', hf, hs', hg⟩ := fill_one (fun i => some (i * sz, sz)) cells i (i * sz) (a.eval x) (t.map fun x => (x.1, a.eval x.2)) (by simp [hvs]) (by rw [hvs, hl.size]; exact hmul)
      simp only [List.map_cons, hf, List.foldl_cons]
      refine fill_lay t l cells' _ ⟨by rw [hs', hl.size], by rw [setN_length, hl.len], ?_⟩ R hl' (fun p hp => hok p (List.mem_cons_of_mem _ hp))
      intro i' row hrow
      rw [setN_getElem?] at hrow
      by_cases he : i' = i ∧ i < rows.length
      · rw [if_pos he] at hrow
        cases hrow
        obtain ⟨rfl, _⟩ := he
        refine ⟨hlen, fun j l hj => ?_⟩
        obtain ⟨u, hu, hru⟩ := hrc.2 j l hj
        have hjlt : j < sz := by rw [← hlen]; exact (List.getElem?_eq_some_iff.mp hj).1
        exact ⟨u, by rw [hg, if_pos (by omega), show i' * sz + j - i' * sz = j by omega]; simpa using hu, hru⟩
      · rw [if_neg he] at hrow
        obtain ⟨h2, h3⟩ := hl.row i' row hrow
        refine ⟨h2, fun j l hj => ?_⟩
        obtain ⟨u, hu, hru⟩ := h3 j l hj
        have hjlt : j < sz := by rw [← h2]; exact (List.getElem?_eq_some_iff.mp hj).1
        have hne : i' ≠ i := fun e => he ⟨e, by rw [hl.len]; exact hi⟩
        refine ⟨u, ?_, hru⟩
        rw [hg, if_neg ?_, hu]
        rw [hvs]
        rintro ⟨h4, h5⟩
        rcases Nat.lt_or_gt_of_ne hne with h | h
        · have : i' * sz + sz ≤ i * sz := by rw [← Nat.succ_mul]; exact Nat.mul_le_mul_right _ h
          omega
        · have : i * sz + sz ≤ i' * sz := by rw [← Nat.succ_mul]; exact Nat.mul_le_mul_right _ h
          omega
    · simp at hp

/-- Zero rows. -/
theorem lay_zero (γ : Ghost) (w : World) {z : Array Value} {sz : Nat} (n : Nat) (hz : z.size = sz) (h1 : z.toList.all (·.oneCell') = true) :
    Lay γ w sz n ((Array.range (n * sz)).map (z[· % z.size]!)) (List.replicate n (z.toList.map leafOfValue)) where
  size := by simp
  len := by simp
  row := by
    intro i row hrow
    have hi : i < n := by have := (List.getElem?_eq_some_iff.mp hrow).1; simpa using this
    simp [List.getElem?_replicate, hi] at hrow
    subst hrow
    refine ⟨by simp [hz], fun j l hj => ?_⟩
    simp only [List.getElem?_map, Option.map_eq_some_iff] at hj
    obtain ⟨u, hu, rfl⟩ := hj
    have hjlt : j < z.size := by have := (List.getElem?_eq_some_iff.mp hu).1; simpa using this
    have hlt : i * sz + j < n * sz := by
      have : i * sz + sz ≤ n * sz := by rw [← Nat.succ_mul]; exact Nat.mul_le_mul_right _ hi
      omega
    refine ⟨u, ?_, rleaf_ofValue γ w u (List.all_eq_true.mp h1 u (List.mem_of_getElem? hu))⟩
    rw [Array.getElem?_map, Array.getElem?_range, if_pos hlt]
    simp only [Option.map_some]
    have hmod : (i * sz + j) % z.size = j := by rw [hz, Nat.add_comm, Nat.add_mul_mod_self_right]; exact Nat.mod_eq_of_lt (by omega)
    rw [hmod, getElem!_pos z j hjlt]
    have : z.toList[j]? = some z[j] := by rw [List.getElem?_eq_getElem (by simpa using hjlt)]; simp
    rw [this] at hu
    exact hu

theorem run_buildSlice (hE : EnvOk P E) (R : Rel w0 mine γ σ a w) {t e : TypeId} {n : Nat} {parts : Array (Nat × Operand)} {ps : List (Nat × List Leaf)} (hk : (E t).k = .sl e) (hke : okK (E e).k = true) (hps : partsV σ parts.toList = some ps)
    (hn : n * (E e).size ≤ 16777216) (hpos : 0 < (E e).size) (hok : ∀ p, p ∈ ps → p.1 < n ∧ p.2.length = (E e).size) :
    ∃ cells, (Instr.buildSlice t n (parts.map fun (i, x) => (i, a.eval x))).run P w = .ok (.slice (some ⟨w.heap.size, 0, none⟩) n n) { w with heap := w.heap.push (.cells cells e) } ∧
      Lay γ w (E e).size n cells (layRows (E e).size ((E e).zero.map leafOfValue) n ps) := by
  have hT := hE t (by rw [hk]; simp)
  have hTe := hE e (okK_ne hke)
  obtain ⟨z, hz, hc⟩ := hTe.run_zero (w := w)
  have hsz : (sizeOf e).run P w = .ok (E e).size w := hTe.run_size w
  have hbig : ¬ (n * (E e).size > 2 ^ 24) := by omega
  have hparts : (parts.map fun (i, x) => (i, a.eval x)).toList = parts.toList.map fun x => (x.1, a.eval x.2) := by simp
  have hzs : z.cells.size = (E e).size := by rw [← hTe.len, ← hc]; simp
  by_cases h0 : n * (E e).size = 0
  · have hn0 : n = 0 := by
      rcases Nat.eq_zero_or_pos n with h | h
      · exact h
      · have := Nat.mul_pos h hpos; omega
    subst hn0
    have hps0 : ps = [] := by
      cases ps with
      | nil => rfl
      | cons p t => have := (hok p (by simp)).1; omega
    subst hps0
    have hp0 : parts.toList = [] := by
      cases hpl : parts.toList with
      | nil => rfl
      | cons p t => rw [hpl] at hps; simp only [partsV] at hps; split at hps <;> simp at hps
    refine ⟨#[], ?_, ⟨by simp, by simp [layRows], by simp [layRows]⟩⟩
    simp only [Instr.buildSlice, Sem.run_bind, run_underlying (hT.sl hk), Result.andThen_ok, hsz]
    rw [if_neg hbig, if_pos h0]
    simp only [Sem.run_pure, Result.andThen_ok, hparts, hp0]
    have h00 : ∀ f : Nat → Value, Array.map f (Array.range 0) = #[] := fun f => Array.eq_empty_of_size_eq_zero (by simp)
    simp [Instr.fill, newRow, h00]
  · obtain ⟨cells, hf, hl⟩ := fill_lay parts.toList ps _ _ (lay_zero γ w n hzs (by rw [hc]; exact hTe.one)) R hps hok
    refine ⟨cells, ?_, by rw [hc] at hl; exact hl⟩
    simp only [Instr.buildSlice, Sem.run_bind, run_underlying (hT.sl hk), Result.andThen_ok, hsz]
    rw [if_neg hbig, if_neg h0]
    simp only [Sem.run_bind, hz, Sem.run_pure, Result.andThen_ok, hparts, hf]
    simp [newRow]

theorem intsOf_spec (kk : IntKind) : ∀ (l : List Leaf) (r : List Int), intsOf kk l = some r → r.length = l.length ∧ ∀ (i : Nat) (x : Leaf), l[i]? = some x → ∃ n, r[i]? = some n ∧ x = .s (.int kk n)
  | [], r, h => by simp [intsOf] at h; subst h; simp
  | x :: l, r, h => by
    unfold intsOf at h
    split at h
    · rename_i he; exact absurd he (by simp)
    · rename_i k' n t heq
      cases heq
      split at h
      · rename_i r' hk hr
        simp at h; subst h
        have hkk : kk = k' := by cases kk <;> cases k' <;> first | rfl | (simp [sameK] at hk)
        subst hkk
        obtain ⟨h1, h2⟩ := intsOf_spec kk l r' hr
        refine ⟨by simp [h1], fun i y hy => ?_⟩
        cases i with
        | zero => simp at hy; subst hy; exact ⟨n, rfl, rfl⟩
        | succ i => simpa using h2 i y (by simpa using hy)
      · simp at h
    · simp at h
theorem strsOf_spec : ∀ (l : List Leaf) (r : List ByteArray), strsOf l = some r → r.length = l.length ∧ ∀ (i : Nat) (x : Leaf), l[i]? = some x → ∃ n, r[i]? = some n ∧ x = .s (.string n)
  | [], r, h => by simp [strsOf] at h; subst h; simp
  | x :: l, r, h => by
    unfold strsOf at h
    split at h
    · rename_i he; exact absurd he (by simp)
    · rename_i n t heq
      cases heq
      split at h
      · rename_i r' hr
        simp at h; subst h
        obtain ⟨h1, h2⟩ := strsOf_spec l r' hr
        refine ⟨by simp [h1], fun i y hy => ?_⟩
        cases i with
        | zero => simp at hy; subst hy; exact ⟨n, rfl, rfl⟩
        | succ i => simpa using h2 i y (by simpa using hy)
      · simp at h
    · simp at h

theorem colAt_spec {col : List Leaf} {f : Nat → DV} (h : colAt std col = some f) : ∀ (i : Nat) (x : Leaf), col[i]? = some x → ∃ v, f i = .s v ∧ x = .s v ∧ v.oneCell' = true := by
  unfold colAt at h
  split at h
  · rename_i kk n t
    split at h
    · rename_i l hl
      simp at h; subst h
      obtain ⟨h1, h2⟩ := intsOf_spec kk t l hl
      intro i x hx
      cases i with
      | zero => simp at hx; subst hx; exact ⟨_, rfl, by simp [std], rfl⟩
      | succ i =>
        obtain ⟨m, hm, he⟩ := h2 i x (by simpa using hx)
        exact ⟨_, rfl, by simp [std, List.getD, hm, he], rfl⟩
    · simp at h
  · rename_i n t
    split at h
    · rename_i l hl
      simp at h; subst h
      obtain ⟨h1, h2⟩ := strsOf_spec t l hl
      intro i x hx
      cases i with
      | zero => simp at hx; subst hx; exact ⟨_, rfl, by simp [std], rfl⟩
      | succ i =>
        obtain ⟨m, hm, he⟩ := h2 i x (by simpa using hx)
        exact ⟨_, rfl, by simp [std, List.getD, hm, he], rfl⟩
    · simp at h
  · simp at h

theorem colsFrom_spec {rows : List (List Leaf)} {sz : Nat} : ∀ (c : Nat) (cols : List (Nat → DV)), c ≤ sz → colsFrom std rows sz c = some cols →
    cols.length = c ∧ ∀ (j : Nat) (f : Nat → DV), cols[j]? = some f → colAt std (rows.map fun r => getN .un r (sz - c + j)) = some f
  | 0, cols, _, h => by simp [colsFrom] at h; subst h; simp
  | c + 1, cols, hc, h => by
    simp only [colsFrom] at h
    split at h
    · rename_i f l hf hl
      simp at h; subst h
      obtain ⟨h1, h2⟩ := colsFrom_spec c l (by omega) hl
      refine ⟨by simp [h1], fun j g hg => ?_⟩
      cases j with
      | zero => simp at hg; subst hg; simpa using hf
      | succ j =>
        have := h2 j g (by simpa using hg)
        rwa [show sz - c + j = sz - (c + 1) + (j + 1) by omega] at this
    · simp at h

theorem Lay.cells {sz n : Nat} {cells : Array Value} {cs : List Leaf} (h : Lay γ w sz 1 cells [cs]) : RCells γ w cs cells.toList := by
  obtain ⟨h1, h2⟩ := h.row 0 cs rfl
  refine ⟨by have := h.size; simp; omega, fun j l hj => ?_⟩
  obtain ⟨u, hu, hr⟩ := h2 j l hj
  exact ⟨u, by simpa using hu, hr⟩

theorem bs_fin {d ty p af g t e} {n : Nat} {parts : Array (Nat × Operand)} {cells : Array Value} {V : V} {σ' : St} {γ' : Ghost} (hr : (Instr.buildSlice t n (parts.map fun (i, x) => (i, a.eval x))).run P w = .ok (.slice (some ⟨w.heap.size, 0, none⟩) n n) { w with heap := w.heap.push (.cells cells e) })
    (hk' : k V σ') (hR : Rel w0 mine γ' σ' a { w with heap := w.heap.push (.cells cells e) }) (hv : RV γ' { w with heap := w.heap.push (.cells cells e) } V (.slice (some ⟨w.heap.size, 0, none⟩) n n)) :
    Does P w0 mine a w ⟨d, .buildSlice t n parts, ty, p, af, g⟩ k := by
  refine .inl ⟨_, _, ?_, V, σ', γ', hk', hR, hv⟩
  simp only [execOp, Sem.run_bind, hr, Result.andThen_ok, Sem.run_pure]

theorem does_buildSlice0 (hE : EnvOk P E) (R : Rel w0 mine γ σ a w) {d ty p af g t e} {parts : Array (Nat × Operand)} (hk : (E t).k = .sl e) (hke : okK (E e).k = true) (hps : partsV σ parts.toList = some []) (hpos : 0 < (E e).size)
    (h : k (.one (.lf (.o σ.next 0 0))) (mkObj σ (.deep (E e).size 0 (fun _ => [])))) : Does P w0 mine a w ⟨d, .buildSlice t 0 parts, ty, p, af, g⟩ k := by
  obtain ⟨cells, hr, hl⟩ := run_buildSlice (n := 0) hE R hk hke hps (by simp) hpos (by simp)
  have hc0 : cells = #[] := Array.eq_empty_of_size_eq_zero (by have := hl.size; simpa using this)
  subst hc0
  obtain ⟨R', hv⟩ := R.newDeep (n := 0) (sz := (E e).size) (cap := 0) (f := fun _ => []) (vs := fun _ _ => undef) (cs := #[]) (t := e) (fr := (0, 0)) (wext_push w (.cells #[] e)) (keep_push R.st.keep _) (by simp) (by simp) (.inl (Nat.le_refl _)) hpos (Nat.le_refl _) (by simp)
    (fun i hi => absurd hi (Nat.not_lt_zero i)) (fun i j d hi => absurd hi (Nat.not_lt_zero i))
  exact bs_fin hr h R' hv

theorem does_buildSlice1 (hE : EnvOk P E) (R : Rel w0 mine γ σ a w) {d ty p af g t e} {parts : Array (Nat × Operand)} {cs : List Leaf} (hk : (E t).k = .sl e) (hke : okK (E e).k = true) (hps : partsV σ parts.toList = some [(0, cs)]) (hpos : 0 < (E e).size)
    (hlen : cs.length = (E e).size) (hn : (E e).size ≤ 16777216) (h : k (.one (.lf (.o σ.next 0 1))) (mkObj σ (.vars cs))) : Does P w0 mine a w ⟨d, .buildSlice t 1 parts, ty, p, af, g⟩ k := by
  obtain ⟨cells, hr, hl⟩ := run_buildSlice (n := 1) hE R hk hke hps (by omega) hpos (by simp [hlen])
  have hc : RCells γ w cs cells.toList := Lay.cells (sz := (E e).size) (n := 1) (by simpa [layRows, setN] using hl)
  have R' := R.newVars e (E e).size (.inr hlen.symm) hc
  refine bs_fin hr h (by simpa using R') ⟨rfl, ⟨some w.heap.size, 0, (E e).size, cs.length, 1⟩, _, 1, by simp [Ghost.add], rfl, Nat.le_refl _, by simp, by simp [hlen], fun _ => ⟨w.heap.size, rfl, by simp⟩⟩

theorem does_buildSliceT (hE : EnvOk P E) (R : Rel w0 mine γ σ a w) {d ty p af g t e} {n : Nat} {parts : Array (Nat × Operand)} {ps : List (Nat × List Leaf)} {cols : List (Nat → DV)} (hk : (E t).k = .sl e) (hke : okK (E e).k = true) (hps : partsV σ parts.toList = some ps) (hpos : 0 < (E e).size)
    (hcols : colsFrom std (layRows (E e).size ((E e).zero.map leafOfValue) n ps) (E e).size (E e).size = some cols) (hok : ∀ p, p ∈ ps → p.1 < n ∧ p.2.length = (E e).size) (hn : n * (E e).size ≤ 16777216)
    (hk' : k (.one (.lf (.o σ.next 0 n))) (mkObj σ (.deep (E e).size n (fun i => cols.map fun c => c i)))) : Does P w0 mine a w ⟨d, .buildSlice t n parts, ty, p, af, g⟩ k := by
  obtain ⟨cells, hr, hl⟩ := run_buildSlice hE R hk hke hps hn hpos hok
  obtain ⟨hcl, hcs⟩ := colsFrom_spec _ cols (Nat.le_refl _) hcols
  obtain ⟨R', hv⟩ := R.newDeep (n := n) (sz := (E e).size) (cap := n) (f := fun i => cols.map fun c => c i) (vs := fun i j => cells.toList.getD (i * (E e).size + j) undef) (cs := cells) (t := e) (fr := (0, 0)) (wext_push w (.cells cells e)) (keep_push R.st.keep _) (by simp) (by simp) (.inl (Nat.le_refl _)) hpos (Nat.le_refl _) (by rw [hl.size]; exact Nat.le_refl _)
    (fun i hi => by simp [hcl]) (fun i j d hi hj => by
      simp only [List.getElem?_map, Option.map_eq_some_iff] at hj
      obtain ⟨f, hf, rfl⟩ := hj
      have hcol := hcs j f hf
      have hjlt : j < (E e).size := by rw [← hcl]; exact (List.getElem?_eq_some_iff.mp hf).1
      rw [show (E e).size - (E e).size + j = j by omega] at hcol
      obtain ⟨row, hrow⟩ : ∃ row, (layRows (E e).size ((E e).zero.map leafOfValue) n ps)[i]? = some row := ⟨_, List.getElem?_eq_getElem (by rw [hl.len]; exact hi)⟩
      obtain ⟨hrl, hrr⟩ := hl.row i row hrow
      obtain ⟨l, hl'⟩ : ∃ l, row[j]? = some l := ⟨_, List.getElem?_eq_getElem (by omega)⟩
      obtain ⟨u, hu, hru⟩ := hrr j l hl'
      obtain ⟨v, hfv, hlv, h1⟩ := colAt_spec hcol i l (by rw [List.getElem?_map, hrow]; simp [getN_getD, List.getD, hl'])
      subst hlv
      have huv : u = v := hru.2
      subst huv
      have e1 : cells.toList.getD (i * (E e).size + j) undef = u := by simp [List.getD, hu]
      rw [e1, hfv]
      exact ⟨hu, .s _ _ h1⟩)
  exact bs_fin hr hk' R' hv

theorem allS_spec {α β : Type} {h : α → Option β} : ∀ {l : List α} {r : List β}, allS h l = some r → r.length = l.length ∧ ∀ (i : Nat) (x : α), l[i]? = some x → ∃ y, r[i]? = some y ∧ h x = some y
  | [], r, e => by simp [allS] at e; subst e; simp
  | x :: l, r, e => by
    simp only [allS] at e
    split at e
    · rename_i d hd
      split at e
      · rename_i ds hds
        simp at e; subst e
        obtain ⟨h1, h2⟩ := allS_spec hds
        refine ⟨by simp [h1], fun i y hy => ?_⟩
        cases i with
        | zero => simp at hy; subst hy; exact ⟨d, rfl, hd⟩
        | succ i => simpa using h2 i y (by simpa using hy)
      · simp at e
    · simp at e

theorem zeroC_sound {v : Value} {d : DV} (h : zeroC v = some d) (w : World) (F : FP) : OwnT w F v d := by
  unfold zeroC at h
  split at h <;> simp at h <;> subst h
  · exact .nl _ _ _ _
  all_goals exact .s _ _ rfl

theorem does_makeSlice (hE : EnvOk P E) (R : Rel w0 mine γ σ a w) {d ty p af g t e} {l c : Operand} {n m : Int} {ds : List DV} (hk : (E t).k = .sl e) (hke : okK (E e).k = true) (hl : intV (evA σ l) = some n) (hc : intV (evA σ c) = some m)
    (hpos : 0 < (E e).size) (h0 : 0 ≤ n) (h1 : n ≤ m) (hr : m.toNat * (E e).bytes ≤ 140737488355328) (hm : m ≤ 9223372036854775807) (hz : allS zeroC (E e).zero = some ds)
    (h : k (.one (.lf (.o σ.next 0 (std.natI n)))) (mkObj σ (.deep (E e).size (std.natI n) (fun _ => ds)))) : Does P w0 mine a w ⟨d, .makeSlice t l c, ty, p, af, g⟩ k := by
  have hT := hE t (by rw [hk]; simp)
  have hTe := hE e (okK_ne hke)
  obtain ⟨kl, hl'⟩ := R.int hl
  obtain ⟨kc, hc'⟩ := R.int hc
  obtain ⟨x, hx, hxs, hxb, z, hzz, hzc⟩ := hTe.run_info
  have hsz : (sizeOf e).run P w = .ok (E e).size w := hTe.run_size w
  have hzs : z.cells.size = (E e).size := by rw [← hTe.len, ← hzc]; simp
  obtain ⟨hdl, hdz⟩ := allS_spec hz
  let cells : Array Value := if m.toNat * (E e).size = 0 then #[] else (Array.range (m.toNat * (E e).size)).map (z.cells[· % z.cells.size]!)
  have hcs : cells.size = m.toNat * (E e).size := by
    simp only [cells]; split
    · rename_i h; simp [h]
    · simp
  have hrun : (Instr.makeSlice t (.int kl n) (.int kc m)).run P w = .ok (.slice (some ⟨w.heap.size, 0, none⟩) n.toNat m.toNat) { w with heap := w.heap.push (.cells cells e) } := by
    have wn : IntKind.wrap .i64 n = n := IntWalk.i64_in n (by omega)
    have wm : IntKind.wrap .i64 m = m := IntWalk.i64_in m (by omega)
    have hle : (x.bytes : Int) * m ≤ 281474976710656 := by
      have h2 : (m.toNat : Int) = m := by omega
      rw [hxb, ← h2, Int.mul_comm]
      rw [← Int.natCast_mul]
      omega
    have c1 : decide (m < 0) = false := decide_eq_false (by omega)
    have c2 : decide ((x.bytes : Int) * m > 2 ^ 48) = false := decide_eq_false (by rw [show (2 : Int) ^ 48 = 281474976710656 from by decide]; omega)
    have c3 : decide (n < 0) = false := decide_eq_false (by omega)
    have c4 : decide (n > m) = false := decide_eq_false (by omega)
    simp only [Instr.makeSlice, Sem.run_bind, run_underlying (hT.sl hk), Result.andThen_ok, asInt, asIntOf, Sem.run_pure, run_typeInfo w hx, wn, wm, c1, c2, c3, c4, Bool.or_false, Bool.false_eq_true, if_false, run_askRoom, hsz]
    by_cases h0 : m.toNat * (E e).size = 0
    · have h00 : ∀ f : Nat → Value, Array.map f (Array.range 0) = #[] := fun f => Array.eq_empty_of_size_eq_zero (by simp)
      have hcz : cells = #[] := if_pos h0
      rw [hcz]
      simp only [h0, if_true, Sem.run_pure, Result.andThen_ok, Sem.run_bind, newRow, run_newObj, h00]
    · have hz0 : (zeroValue e).run P w = .ok z w := by simp [zeroValue, typeInfo, hx, hzz]
      simp only [if_neg h0, Sem.run_pure, Result.andThen_ok, Sem.run_bind, newRow, run_newObj, cells, hz0]
  obtain ⟨R', hv⟩ := R.newDeep (n := n.toNat) (sz := (E e).size) (cap := m.toNat) (f := fun _ => ds) (vs := fun i j => z.cells.toList.getD j undef) (cs := cells) (t := e) (fr := (0, 0)) (wext_push w (.cells cells e)) (keep_push R.st.keep _) (by simp) (by simp) (.inl (Nat.le_refl _)) hpos (by omega) (by rw [hcs]; exact Nat.le_refl _)
    (fun i hi => by rw [hdl, hTe.len]) (fun i j d hi hj => by
      have hjlt : j < (E e).size := by rw [← hTe.len, ← hdl]; exact (List.getElem?_eq_some_iff.mp hj).1
      obtain ⟨v, hv⟩ : ∃ v, (E e).zero[j]? = some v := ⟨_, List.getElem?_eq_getElem (by rw [hTe.len]; exact hjlt)⟩
      obtain ⟨y, hy, hzy⟩ := hdz j v hv
      rw [hj] at hy; cases hy
      have hlt : i * (E e).size + j < m.toNat * (E e).size := by
        have : i * (E e).size + (E e).size ≤ m.toNat * (E e).size := by rw [← Nat.succ_mul]; exact Nat.mul_le_mul_right _ (by omega)
        omega
      have e1 : z.cells.toList.getD j undef = v := by rw [hzc]; simp [List.getD, hv]
      rw [e1]
      refine ⟨?_, zeroC_sound hzy _ _⟩
      simp only [cells]
      rw [if_neg (by omega), Array.getElem?_map, Array.getElem?_range, if_pos hlt]
      simp only [Option.map_some]
      have hmod : (i * (E e).size + j) % z.cells.size = j := by rw [hzs, Nat.add_comm, Nat.add_mul_mod_self_right]; exact Nat.mod_eq_of_lt hjlt
      rw [hmod, getElem!_pos z.cells j (by rw [hzs]; exact hjlt)]
      have h5 : z.cells.toList[j]? = some v := by rw [hzc]; exact hv
      rw [List.getElem?_eq_getElem (by simp [hzs]; exact hjlt)] at h5
      simpa using h5)
  refine .inl ⟨_, _, ?_, _, _, _, h, R', hv⟩
  simp only [execOp, hl', hc', Sem.run_bind, hrun, Result.andThen_ok, Sem.run_pure]
end
end Go.AW
/- The abstract calculus, part 10: objects taken, objects written. -/
set_option linter.unusedVariables false
set_option linter.unusedSimpArgs false
namespace Go.AW

def Ghost.del (γ : Ghost) (id : Nat) : Ghost := { γ with g := fun i => if i = id then none else γ.g i }

section
variable {P : Program} {w0 w w' : World} {mine : FP} {γ γ' : Ghost} {σ : St} {a : Act} {k : V → St → Prop} {E : Env}

theorem kills_A (id : Nat) : Kills (fun i => i = id) (fun i => i = id) (fun i => i = id) (killA id) := by
  intro l
  cases l <;> simp only [killA]
  case fn f caps =>
    cases hb : caps.any (fun c => Nat.beq c.1 id) with
    | true => exact .inl rfl
    | false =>
      refine .inr (.inl ⟨rfl, fun j hj => ?_, by simp [qIds], by simp [snIds]⟩)
      simp only [leafIds, List.mem_map] at hj
      obtain ⟨c, hc, rfl⟩ := hj
      have := List.any_eq_false.mp hb c hc
      simpa using this
  all_goals first
    | exact kill_ite _ id _ fun h => ⟨by simpa [leafIds] using h, by simp [qIds] <;> exact h, by simp [snIds] <;> exact h⟩
    | exact kill_itl _ id _ _ rfl fun h => ⟨by simpa [leafIds] using h, by simp [qIds] <;> exact h, by simp [snIds] <;> exact h⟩
    | exact .inr (.inl ⟨by first | rfl | trivial, by simp [leafIds], by simp [qIds], by simp [snIds]⟩)

/-- One object forgotten, and all that names it. -/
theorem RelS.drop1 (R : RelS w0 mine γ σ.store σ.next w) (id : Nat) : RelS w0 mine (γ.del id) (forget1 σ id).store (forget1 σ id).next w := by
  have S : Step γ (γ.del id) w w (fun i => i = id) (fun i => i = id) (fun i => i = id) := {
    root := fun i g b o h _ _ hb ho => ⟨hb, ho⟩
    g := fun i g h hne => by simp only [Ghost.del]; rw [if_neg hne]; exact h
    fp := fun i g h _ b hb => hb
    ext := fun i g h _ => Ext.refl _ _
    ro := fun b hb => hb
    rext := Ext.refl _ _ }
  have hl : ∀ i o, look (forget1 σ id).store i = some o → i ≠ id ∧ ∃ o', look σ.store i = some o' ∧ o = mapObj (killA id) o' := by
    intro i o h
    simp only [forget1, mapSt, look_drop, look_map] at h
    by_cases hi : i = id
    · rw [if_pos hi] at h; cases h
    · rw [if_neg hi] at h
      simp only [Option.map_eq_some_iff] at h
      obtain ⟨o', h1, h2⟩ := h
      exact ⟨hi, o', h1, h2.symm⟩
  refine ⟨?_, ?_, ?_, ?_, ?_, ?_, R.rolt, R.keep⟩
  · intro i o h
    obtain ⟨hi, o', ho', rfl⟩ := hl i o h
    obtain ⟨g, hg, hr⟩ := R.objs i o' ho'
    exact ⟨g, by simp only [Ghost.del]; rw [if_neg hi]; exact hg, RObj.step S (kills_A id) hg hr (fun b hb => hb) (Ext.refl _ _)⟩
  · intro i j o1 o2 h1 h2 hne
    obtain ⟨_, o1', h1', _⟩ := hl i o1 h1
    obtain ⟨_, o2', h2', _⟩ := hl j o2 h2
    exact R.disj i j o1' o2' h1' h2' hne
  · intro i o h
    obtain ⟨_, o', h', _⟩ := hl i o h
    exact R.ro i o' h'
  · intro i g h
    simp only [Ghost.del] at h
    by_cases hi : i = id
    · rw [if_pos hi] at h; cases h
    · rw [if_neg hi] at h; exact R.lt i g h
  · intro i g h
    simp only [Ghost.del] at h
    by_cases hi : i = id
    · rw [if_pos hi] at h; cases h
    · rw [if_neg hi] at h
      obtain ⟨o, ho⟩ := R.dom i g h
      exact ⟨mapObj (killA id) o, by simp only [forget1, mapSt, look_drop, look_map]; rw [if_neg hi, ho]; rfl⟩
  · intro i o h
    obtain ⟨_, o', h', _⟩ := hl i o h
    exact R.fp i o' h'

theorem Rel.drop1 (R : Rel w0 mine γ σ a w) (id : Nat) : Rel w0 mine (γ.del id) (forget1 σ id) a w := by
  have S : Step γ (γ.del id) w w (fun i => i = id) (fun i => i = id) (fun i => i = id) := {
    root := fun i g b o h _ _ hb ho => ⟨hb, ho⟩
    g := fun i g h hne => by simp only [Ghost.del]; rw [if_neg hne]; exact h
    fp := fun i g h _ b hb => hb
    ext := fun i g h _ => Ext.refl _ _
    ro := fun b hb => hb
    rext := Ext.refl _ _ }
  refine ⟨by simp [forget1, mapSt, R.size], fun i => ?_, R.st.drop1 id⟩
  simp only [forget1, mapSt]
  rw [getN_map (mapV (killA id)) undefV undefV (by simp [mapV, undefV])]
  exact (R.slots i).kill S (kills_A id)


theorem shF_std (off : Nat) (f : Nat → List DV) : shF std off f = fun i => f (off + i) := by
  cases off with
  | zero => simp [shF]
  | succ o => rfl


/-- A ghost in which one object has more blocks. -/
def Ghost.grow (γ : Ghost) (id : Nat) (g : G1) (F : FP) : Ghost :=
  { g := fun i => if i = id then some g else γ.g i, fp := fun i => if i = id then F else γ.fp i, ro := γ.ro }

theorem step_write (R : RelS w0 mine γ σ.store σ.next w) {id : Nat} {o : Obj} {g g' : G1} (dead rd : Nat → Prop) (ho : look σ.store id = some o) (hg : γ.g id = some g) (F : FP) (hgg : ¬ dead id → g' = g)
    (hroot : ¬ rd id → ∀ b x, g.blk = some b → w.heap[b]? = some x → F b ∧ w'.heap[b]? = some x)
    (hext : ∀ b (x : Go.Obj), ¬ γ.fp id b → w.heap[b]? = some x → w'.heap[b]? = some x) : Step γ (γ.grow id g' F) w w' dead rd (fun i => i = id) where
  root := fun i gi b x hi hb hn hf hx => by
    simp only [Ghost.grow]
    by_cases he : i = id
    · subst he; rw [if_pos rfl]; rw [hg] at hi; cases hi
      exact hroot hn b x hb hx
    · rw [if_neg he]
      obtain ⟨oi, hoi⟩ := R.dom i gi hi
      exact ⟨hf, hext b x (fun hf' => R.disj id i o oi ho hoi (Ne.symm he) b hf' hf) hx⟩
  g := fun i gi hi hn => by
    simp only [Ghost.grow]
    by_cases he : i = id
    · subst he; rw [if_pos rfl]; rw [hg] at hi; cases hi; rw [hgg hn]
    · rw [if_neg he]; exact hi
  fp := fun i gi hi hn b hb => by simp only [Ghost.grow]; rw [if_neg hn]; exact hb
  ext := fun i gi hi hn b x hb hx => by
    obtain ⟨oi, hoi⟩ := R.dom i gi hi
    exact hext b x (fun hf => R.disj id i o oi ho hoi (Ne.symm hn) b hf hb) hx
  ro := fun b hb => hb
  rext := fun b x hb hx => hext b x (fun hf => R.ro id o ho b hf hb) hx

/-- One object written, in place or anew: all else stays. 'F': its blocks. -/
theorem Rel.write (R : Rel w0 mine γ σ a w) {id : Nat} {o o' : Obj} {g g' : G1} (dead rd : Nat → Prop) (h : Leaf → Leaf) (hk : Kills dead rd (fun i => i = id) h) (ho : look σ.store id = some o) (hg : γ.g id = some g) {F : FP}
    (hgg : ¬ dead id → g' = g) (hroot : ¬ rd id → ∀ b x, g.blk = some b → w.heap[b]? = some x → F b ∧ w'.heap[b]? = some x)
    (hF : ∀ b, F b → (γ.fp id b ∨ (∀ i oi, look σ.store i = some oi → ¬ γ.fp i b) ∧ ¬ γ.ro b) ∧ b < w'.heap.size ∧ (w0.heap.size ≤ b ∨ mine b))
    (hext : ∀ b (x : Go.Obj), ¬ γ.fp id b → w.heap[b]? = some x → w'.heap[b]? = some x) (hs : w.heap.size ≤ w'.heap.size) (hkeep : Keep w0 mine w')
    (hobj : RObj (γ.grow id g' F) w' id g' (mapObj h o')) :
    Rel w0 mine (γ.grow id g' F) (mapSt h (putObj σ id o')) a w' := by
  have S : Step γ (γ.grow id g' F) w w' dead rd (fun i => i = id) := step_write R.st dead rd ho hg F hgg hroot hext
  have hlook : ∀ i, look (mapSt h (putObj σ id o')).store i = if i = id then some (mapObj h o') else (look σ.store i).map (mapObj h) := by
    intro i
    simp only [mapSt, putObj, look_map, look_put, ho]
    by_cases hi : i = id
    · simp [hi]
    · simp [hi]
  refine ⟨by simp [mapSt, putObj, R.size], fun i => ?_, ?_, ?_, ?_, ?_, ?_, ?_, ?_, hkeep⟩
  · simp only [mapSt, putObj]
    rw [getN_map (mapV h) undefV undefV (by simp [mapV, undefV])]
    exact (R.slots i).kill S hk
  · intro i x hx
    rw [hlook] at hx
    by_cases hi : i = id
    · rw [if_pos hi] at hx; cases hx; subst hi
      exact ⟨g', by simp [Ghost.grow], hobj⟩
    · rw [if_neg hi] at hx
      simp only [Option.map_eq_some_iff] at hx
      obtain ⟨x', hx', rfl⟩ := hx
      obtain ⟨gi, hgi, hr⟩ := R.st.objs i x' hx'
      refine ⟨gi, by simp [Ghost.grow, hi, hgi], RObj.step S hk hgi hr (fun b hb => by simp only [Ghost.grow]; rw [if_neg hi]; exact hb) (fun b y hb hy => ?_)⟩
      exact hext b y (fun hf => R.st.disj id i o x' ho hx' (Ne.symm hi) b hf hb) hy
  · intro i j x y hx hy hne b hb hb'
    rw [hlook] at hx hy
    simp only [Ghost.grow] at hb hb'
    by_cases hi : i = id
    · have hj : j ≠ id := fun e => hne (hi.trans e.symm)
      rw [if_pos hi] at hb
      rw [if_neg hj] at hb' hy
      simp only [Option.map_eq_some_iff] at hy
      obtain ⟨y', hy', rfl⟩ := hy
      rcases (hF b hb).1 with hf | ⟨hf, _⟩
      · exact R.st.disj id j o y' ho hy' (Ne.symm hj) b hf hb'
      · exact hf j y' hy' hb'
    · rw [if_neg hi] at hb hx
      simp only [Option.map_eq_some_iff] at hx
      obtain ⟨x', hx', rfl⟩ := hx
      by_cases hj : j = id
      · rw [if_pos hj] at hb'
        rcases (hF b hb').1 with hf | ⟨hf, _⟩
        · exact R.st.disj i id x' o hx' ho hi b hb hf
        · exact hf i x' hx' hb
      · rw [if_neg hj] at hb' hy
        simp only [Option.map_eq_some_iff] at hy
        obtain ⟨y', hy', rfl⟩ := hy
        exact R.st.disj i j x' y' hx' hy' hne b hb hb'
  · intro i x hx b hb hro
    rw [hlook] at hx
    simp only [Ghost.grow] at hb hro
    by_cases hi : i = id
    · rw [if_pos hi] at hb
      rcases (hF b hb).1 with hf | ⟨_, hf⟩
      · exact R.st.ro id o ho b hf hro
      · exact hf hro
    · rw [if_neg hi] at hb hx
      simp only [Option.map_eq_some_iff] at hx
      obtain ⟨x', hx', rfl⟩ := hx
      exact R.st.ro i x' hx' b hb hro
  · intro i gi hi
    show i < σ.next
    simp only [Ghost.grow] at hi
    by_cases he : i = id
    · subst he; exact R.st.lt i g hg
    · rw [if_neg he] at hi; exact R.st.lt i gi hi
  · intro i gi hi
    rw [hlook]
    simp only [Ghost.grow] at hi
    by_cases he : i = id
    · rw [if_pos he]; exact ⟨_, rfl⟩
    · rw [if_neg he] at hi ⊢
      obtain ⟨x, hx⟩ := R.st.dom i gi hi
      exact ⟨mapObj h x, by rw [hx]; rfl⟩
  · intro i x hx b hb
    rw [hlook] at hx
    simp only [Ghost.grow] at hb
    by_cases hi : i = id
    · rw [if_pos hi] at hb; exact (hF b hb).2
    · rw [if_neg hi] at hb hx
      simp only [Option.map_eq_some_iff] at hx
      obtain ⟨x', hx', rfl⟩ := hx
      have := R.st.fp i x' hx' b hb
      exact ⟨by omega, this.2⟩
  · intro b hb
    have := R.st.rolt b hb
    omega


/-- Nobody's blocks. -/
def Free (w0 : World) (mine : FP) (γ : Ghost) (st : List (Nat × Obj)) (w : World) (F : FP) : Prop :=
  ∀ b, F b → (∀ i oi, look st i = some oi → ¬ γ.fp i b) ∧ ¬ γ.ro b ∧ b < w.heap.size ∧ (w0.heap.size ≤ b ∨ mine b)

/-- What stays when something is taken out: what leaves say, and what was nobody's. -/
structure Took (w0 : World) (mine : FP) (a : Act) (w : World) (γ : Ghost) (σ : St) (h : Leaf → Leaf) (F : FP) (γ' : Ghost) (σ' : St) (h' : Leaf → Leaf) : Prop where
  R : Rel w0 mine γ' σ' a w
  leaf : ∀ l u, RLeaf γ w (h l) u → RLeaf γ' w (h' l) u
  free : Free w0 mine γ' σ'.store w F
  keep : ∀ H : FP, Free w0 mine γ σ.store w H → Free w0 mine γ' σ'.store w H ∧ ∀ x, H x → ¬ F x
  next : σ'.next = σ.next

theorem free_none : Free w0 mine γ σ.store w (fun _ => False) := fun b hb => hb.elim
theorem Took.refl (R : Rel w0 mine γ σ a w) (h : Leaf → Leaf) : Took w0 mine a w γ σ h (fun _ => False) γ σ h := ⟨R, fun _ _ hl => hl, free_none, fun H hH => ⟨hH, fun _ _ hx => hx⟩, rfl⟩
theorem Took.trans {σ' σ'' : St} {γ'' : Ghost} {h h' h'' : Leaf → Leaf} {F F' : FP} (T : Took w0 mine a w γ σ h F γ' σ' h') (T' : Took w0 mine a w γ' σ' h' F' γ'' σ'' h'') : Took w0 mine a w γ σ h (fun x => F x ∨ F' x) γ'' σ'' h'' := by
  refine ⟨T'.R, fun l u hl => T'.leaf l u (T.leaf l u hl), fun b hb => ?_, fun H hH => ?_, T'.next.trans T.next⟩
  · rcases hb with hb | hb
    · exact (T'.keep F T.free).1 b hb
    · exact T'.free b hb
  · obtain ⟨h1, h2⟩ := T.keep H hH
    obtain ⟨h3, h4⟩ := T'.keep H h1
    exact ⟨h3, fun x hx hf => hf.elim (h2 x hx) (h4 x hx)⟩
theorem Took.mono {σ' : St} {h h' : Leaf → Leaf} {F F' : FP} (T : Took w0 mine a w γ σ h F γ' σ' h') (hF : ∀ b, F' b → F b) : Took w0 mine a w γ σ h F' γ' σ' h' :=
  ⟨T.R, T.leaf, fun b hb => T.free b (hF b hb), fun H hH => ⟨(T.keep H hH).1, fun x hx hf => (T.keep H hH).2 x hx (hF x hf)⟩, T.next⟩

/-- A whole object taken. -/
theorem took_drop (R : Rel w0 mine γ σ a w) {id : Nat} {o : Obj} (ho : look σ.store id = some o) : Took w0 mine a w γ σ (fun l => l) (γ.fp id) (γ.del id) (forget1 σ id) (killA id) := by
  have hl : ∀ i oi, look (forget1 σ id).store i = some oi → i ≠ id ∧ ∃ o', look σ.store i = some o' := by
    intro i oi h
    simp only [forget1, mapSt, look_drop, look_map] at h
    by_cases hi : i = id
    · rw [if_pos hi] at h; cases h
    · rw [if_neg hi] at h
      simp only [Option.map_eq_some_iff] at h
      obtain ⟨o', h1, h2⟩ := h
      exact ⟨hi, o', h1⟩
  have S : Step γ (γ.del id) w w (fun i => i = id) (fun i => i = id) (fun i => i = id) := {
    root := fun i g b o h _ _ hb ho => ⟨hb, ho⟩
    g := fun i g h hne => by simp only [Ghost.del]; rw [if_neg hne]; exact h
    fp := fun i g h _ b hb => hb
    ext := fun i g h _ => Ext.refl _ _
    ro := fun b hb => hb
    rext := Ext.refl _ _ }
  refine ⟨R.drop1 id, fun l u h => h.kill S (kills_A id), fun b hb => ⟨fun i oi hi hf => ?_, R.st.ro id o ho b hb, R.st.fp id o ho b hb⟩, fun H hH => ⟨fun b hb => ?_, fun x hx hf => (hH x hx).1 id o ho hf⟩, rfl⟩
  · obtain ⟨hne, o', ho'⟩ := hl i oi hi
    exact R.st.disj i id o' o ho' ho hne b hf hb
  · obtain ⟨h1, h2, h3⟩ := hH b hb
    exact ⟨fun i oi hi => let ⟨_, o', ho'⟩ := hl i oi hi; h1 i o' ho', h2, h3⟩

theorem setD1_spec : ∀ (l : List DV) (j : Nat) (d : DV), (setD1 l j d).length = l.length ∧ ∀ q, (setD1 l j d)[q]? = if q = j ∧ j < l.length then some d else l[q]?
  | [], j, d => by simp [setD1]
  | a :: l, 0, d => by
    refine ⟨by simp [setD1], fun q => ?_⟩
    cases q <;> simp [setD1]
  | a :: l, j + 1, d => by
    obtain ⟨h1, h2⟩ := setD1_spec l j d
    refine ⟨by simp [setD1, h1], fun q => ?_⟩
    cases q with
    | zero => simp [setD1]
    | succ q => simp [setD1, h2 q]

/-- A row's slice taken: a hole stays. -/
theorem took_hole (R : Rel w0 mine γ σ a w) {id i j sz m sz' n' : Nat} {F f : Nat → List DV} {c : Value} (ho : look σ.store id = some (.deep sz m F)) (hd : (F i)[j]? = some (.l sz' n' f)) (hc : AtCell γ w id i j c) :
    ∃ γ' G, Took w0 mine a w γ σ (fun l => l) G γ' (mapSt (killS id) (putObj σ id (.deep sz m (std.setF F i (setD1 (F i) j .x))))) (killS id) ∧ OwnT w G c (.l sz' n' f) := by
  obtain ⟨g, b, cs, t, fr, hg, hb, hlt, hfp, hh, hcell⟩ := hc
  obtain ⟨g', hg', hr⟩ := R.st.objs id _ ho
  rw [hg] at hg'; cases hg'
  simp only [RObj, hb] at hr
  obtain ⟨hgn, hgs, hs0, cs', t', fr', vs, G, hfp', hh', hun, htot, hn, hlen, hG, hGd, hv⟩ := hr
  rw [hh] at hh'; cases hh'
  obtain ⟨h1, h2⟩ := hv i j _ (by omega) hd
  rw [hcell] at h1; cases h1
  have hjlt : j < (F i).length := (List.getElem?_eq_some_iff.mp hd).1
  let F1 : FP := fun x => γ.fp id x ∧ ¬ G i j x
  have hbF : F1 b := ⟨hfp, fun hx => (hG i j b hx).2 rfl⟩
  have S := step_write (w' := w) R.st (g' := g) (fun _ => False) (fun _ => False) ho hg F1 (fun _ => rfl) (fun _ b' x hb' hx => by rw [hb] at hb'; cases hb'; exact ⟨hbF, hx⟩) (fun b x _ hx => hx)
  have R' := R.write (o' := .deep sz m (std.setF F i (setD1 (F i) j .x))) (g' := g) (F := F1) (w' := w) (fun _ => False) (fun _ => False) (killS id) (kills_S id) ho hg (fun _ => rfl) (fun _ b' x hb' hx => by rw [hb] at hb'; cases hb'; exact ⟨hbF, hx⟩)
    (fun x hx => ⟨.inl hx.1, R.st.fp id _ ho x hx.1⟩) (fun b x _ hx => hx) (Nat.le_refl _) R.st.keep (by
      simp only [mapObj, RObj, hb]
      obtain ⟨s1, s2⟩ := setD1_spec (F i) j .x
      refine ⟨hgn, hgs, hs0, cs, t, fr, vs, fun i0 j0 x => G i0 j0 x ∧ ¬ (i0 = i ∧ j0 = j), by simpa [Ghost.grow] using hbF, hh, hun, htot, hn, ?_, ?_, fun i0 j0 i1 j1 x hx hy => hGd _ _ _ _ x hx.1 hy.1, ?_⟩
      · intro i0 hi0
        simp only [std]
        split
        · rename_i e; subst e; rw [s1]; exact hlen _ hi0
        · exact hlen i0 hi0
      · intro i0 j0 x hx
        simp only [Ghost.grow, if_true]
        refine ⟨⟨(hG _ _ x hx.1).1, fun hy => ?_⟩, (hG _ _ x hx.1).2⟩
        have := hGd _ _ _ _ x hx.1 hy
        exact hx.2 this
      · intro i0 j0 d hi0 hd0
        simp only [std] at hd0
        have hd1 : (i0 = i ∧ j0 = j ∧ d = .x) ∨ (¬ (i0 = i ∧ j0 = j) ∧ (F i0)[j0]? = some d) := by
          split at hd0
          · rename_i e
            subst e
            rw [s2] at hd0
            split at hd0
            · rename_i e; simp at hd0; exact .inl ⟨rfl, e.1, hd0.symm⟩
            · rename_i e; exact .inr ⟨fun c => e ⟨c.2, hjlt⟩, hd0⟩
          · rename_i e; exact .inr ⟨fun c => e c.1, hd0⟩
        rcases hd1 with ⟨rfl, rfl, rfl⟩ | ⟨hne, hd1⟩
        · obtain ⟨h3, h4⟩ := hv _ _ _ hi0 hd
          exact ⟨h3, .x _ _ h4.one⟩
        · obtain ⟨h3, h4⟩ := hv _ _ _ hi0 hd1
          exact ⟨h3, h4.mono (fun x hx => ⟨hx, hne⟩) (Ext.refl _ _)⟩)
  have hl : ∀ i0 oi, look (mapSt (killS id) (putObj σ id (.deep sz m (std.setF F i (setD1 (F i) j .x))))).store i0 = some oi → ∃ o', look σ.store i0 = some o' := by
    intro i0 oi h
    simp only [mapSt, putObj, look_map, look_put, ho] at h
    by_cases hi : i0 = id
    · subst hi; exact ⟨_, ho⟩
    · simp only [hi, false_and, if_false, Option.map_eq_some_iff] at h
      obtain ⟨o', h1, _⟩ := h
      exact ⟨o', h1⟩
  refine ⟨_, G i j, ⟨R', fun l u h => h.kill S (kills_S id), fun x hx => ?_, fun H hH => ⟨fun x hx => ?_, fun x hx hf => (hH x hx).1 id _ ho (hG i j x hf).1⟩, rfl⟩, h2⟩
  · have hfx := (hG i j x hx).1
    refine ⟨fun i0 oi hi hf => ?_, R.st.ro id _ ho x hfx, R.st.fp id _ ho x hfx⟩
    obtain ⟨o', ho'⟩ := hl i0 oi hi
    simp only [Ghost.grow] at hf
    by_cases e : i0 = id
    · rw [if_pos e] at hf; exact hf.2 hx
    · rw [if_neg e] at hf; exact R.st.disj i0 id _ _ ho' ho e x hf hfx
  · obtain ⟨h1, h3, h4⟩ := hH x hx
    refine ⟨fun i0 oi hi hf => ?_, h3, h4⟩
    obtain ⟨o', ho'⟩ := hl i0 oi hi
    simp only [Ghost.grow] at hf
    by_cases e : i0 = id
    · rw [if_pos e] at hf; exact h1 id _ ho hf.1
    · rw [if_neg e] at hf; exact h1 i0 o' ho' hf

theorem flatCs_sound {cs : List Leaf} {us : List Value} (hr : RCells γ w cs us) {ds : List DV} (h : flatCs cs = some ds) : ds.length = cs.length ∧ ∀ (j : Nat) (d : DV), ds[j]? = some d → ∃ u, us[j]? = some u ∧ OwnT w (fun _ => False) u d := by
  induction cs generalizing us ds with
  | nil => simp [flatCs] at h; subst h; exact ⟨rfl, fun j d hj => by simp at hj⟩
  | cons l t ih =>
    obtain ⟨u0, us', rfl⟩ : ∃ u0 us', us = u0 :: us' := by
      cases us with
      | nil => exact absurd hr.1 (by simp)
      | cons u us => exact ⟨u, us, rfl⟩
    obtain ⟨u, hu, hl⟩ := hr.2 0 l rfl
    simp at hu; subst hu
    simp only [flatCs] at h
    split at h
    · rename_i d ds' h1 h2
      simp at h; subst h
      obtain ⟨i1, i2⟩ := ih (us := us') ⟨by simpa using hr.1, fun j l hj => by simpa using hr.2 (j + 1) l (by simpa using hj)⟩ h2
      refine ⟨by simp [i1], fun j d' hd => ?_⟩
      cases j with
      | succ j => simpa using i2 j d' (by simpa using hd)
      | zero =>
        simp at hd; subst hd
        refine ⟨u0, rfl, ?_⟩
        unfold flatC at h1
        split at h1
        · simp at h1; subst h1
          have : u0 = _ := hl.2
          subst this
          exact .s _ _ hl.1
        · simp at h1; subst h1
          have : u0 = _ := hl.2
          subst this
          exact .nl _ _ _ _
        · cases h1
    · cases h

theorem own_obj (R : RelS w0 mine γ σ.store σ.next w) {id off len sz n : Nat} {f : Nat → List DV} {u : Value} (hl : RLeaf γ w (.o id off len) u) (hs : look σ.store id = some (.deep sz n f)) : OwnT w (γ.fp id) u (.l sz len (shF std off f)) := by
  obtain ⟨g, A, cap, hg, hu, hle, hgn, htot, had⟩ := hl.2
  rw [shF_std]
  subst hu
  rcases Nat.eq_zero_or_pos cap with h0 | h0
  · have : len = 0 := by omega
    subst h0 this
    exact .nl _ _ _ _
  · obtain ⟨b, hb, hA⟩ := had h0
    subst hA
    obtain ⟨g', hg', ho⟩ := R.objs id _ hs
    rw [hg] at hg'; cases hg'
    simp only [RObj, hb] at ho
    obtain ⟨hn, rfl, hs0, cs, t, fr, vs, G, hfp, hh, hun, htot', hnt, hlen, hG, hGd, hv⟩ := ho
    have hoff : ∀ i j, g.base + off * g.sz + i * g.sz + j = g.base + (off + i) * g.sz + j := fun i j => by rw [Nat.add_mul]; omega
    refine .bl _ b (g.base + off * g.sz) len cap g.sz _ cs t fr (fun i j => vs (off + i) j) (fun i j => G (off + i) j) hfp hs0 hh hun hle ?_ (fun i hi => hlen _ (by omega)) (fun i j x hx => hG _ _ x hx) (fun i j i' j' x h1 h2 => ?_) (fun i j d hi hd => ?_) (fun i j d hi hd => (hv _ j d (by omega) hd).2)
    · have : (off + cap) * g.sz = off * g.sz + cap * g.sz := Nat.add_mul _ _ _
      omega
    · have := hGd _ _ _ _ x h1 h2
      omega
    · rw [hoff]
      exact (hv _ j d (by omega) hd).1

theorem takeC_sound (R : Rel w0 mine γ σ a w) {l : Leaf} {u : Value} (hl : RLeaf γ w l u) {d : DV} {σ' : St} {hf : Leaf → Leaf} (h : takeC std σ l = some (d, σ', hf)) :
    ∃ γ' F, Took w0 mine a w γ σ (fun l => l) F γ' σ' hf ∧ OwnT w F u d := by
  cases l
  case q id i j v n =>
    cases v with
    | some v => simp [takeC] at h
    | none =>
      simp only [takeC] at h
      split at h
      · rename_i sz m F ho
        split at h
        · rename_i sz' n' f hd
          simp at h; obtain ⟨rfl, rfl, rfl⟩ := h
          rw [nthO_getElem?] at hd
          obtain ⟨c, hc, hw⟩ := hl.2
          have : u = c := hw.1
          subst this
          exact took_hole R ho hd hc
        · cases h
      · cases h
  all_goals simp only [takeC] at h
  all_goals try (simp at h; done)
  case s v =>
    simp at h; obtain ⟨rfl, rfl, rfl⟩ := h
    have : u = v := hl.2
    subst this
    exact ⟨γ, _, Took.refl R _, .s _ _ hl.1⟩
  case nil =>
    simp at h; obtain ⟨rfl, rfl, rfl⟩ := h
    have : u = .slice none 0 0 := hl.2
    subst this
    exact ⟨γ, _, Took.refl R _, .nl _ _ _ _⟩
  case o id off len =>
    obtain ⟨g, A, cap, hg, hu, hle, hgn, htot, had⟩ := hl.2
    split at h
    · rename_i sz n f hs
      simp only [Option.some.injEq, Prod.mk.injEq] at h
      obtain ⟨rfl, rfl, rfl⟩ := h
      rw [shF_std]
      subst hu
      refine ⟨_, _, took_drop R hs, ?_⟩
      rcases Nat.eq_zero_or_pos cap with h0 | h0
      · have : len = 0 := by omega
        subst h0 this
        exact .nl _ _ _ _
      · obtain ⟨b, hb, hA⟩ := had h0
        subst hA
        obtain ⟨g', hg', ho⟩ := R.st.objs id _ hs
        rw [hg] at hg'; cases hg'
        simp only [RObj, hb] at ho
        obtain ⟨hn, rfl, hs0, cs, t, fr, vs, G, hfp, hh, hun, htot', hnt, hlen, hG, hGd, hv⟩ := ho
        have hoff : ∀ i j, g.base + off * g.sz + i * g.sz + j = g.base + (off + i) * g.sz + j := fun i j => by rw [Nat.add_mul]; omega
        refine .bl _ b (g.base + off * g.sz) len cap g.sz _ cs t fr (fun i j => vs (off + i) j) (fun i j => G (off + i) j) hfp hs0 hh hun hle ?_ (fun i hi => hlen _ (by omega)) (fun i j x hx => hG _ _ x hx) (fun i j i' j' x h1 h2 => ?_) (fun i j d hi hd => ?_) (fun i j d hi hd => (hv _ j d (by omega) hd).2)
        · have : (off + cap) * g.sz = off * g.sz + cap * g.sz := Nat.add_mul _ _ _
          omega
        · have := hGd _ _ _ _ x h1 h2
          omega
        · rw [hoff]
          exact (hv _ j d (by omega) hd).1
    · rename_i cs hs
      split at h
      · rename_i l0 t0
        split at h
        · rename_i ds hds
          simp only [Option.some.injEq, Prod.mk.injEq] at h
          obtain ⟨rfl, rfl, rfl⟩ := h
          obtain ⟨g', hg', b, cur, et, fr, hb, hfp, hh, hun, hbase, hct, hcs, hgz, hrc⟩ := R.st.objs id _ hs
          rw [hg] at hg'; cases hg'
          obtain ⟨hdl, hdv⟩ := flatCs_sound hrc hds
          obtain ⟨b', hb', hA⟩ := had (by omega)
          rw [hb] at hb'; cases hb'
          subst hA hu
          refine ⟨_, _, took_drop R hs, ?_⟩
          have hgz' : g.sz = (l0 :: t0).length := by
            rcases hgz.1 with h0 | h0
            · rw [h0, hct] at htot; simp at htot
            · exact h0
          have hcap : cap = 1 := by
            rw [hct, hgz', Nat.zero_add] at htot
            have hpos : 0 < (l0 :: t0).length := by simp
            have : cap * (l0 :: t0).length = 1 * (l0 :: t0).length := by rw [htot, Nat.one_mul]
            exact Nat.eq_of_mul_eq_mul_right hpos this
          subst hcap
          refine .bl _ b _ 1 1 _ _ cur et fr (fun _ j => cur.toList.getD j undef) (fun _ _ _ => False) hfp (by simp) hh hun (Nat.le_refl _) (by rw [hbase, hcs]; simp) (fun i hi => hdl) (fun i j x hx => hx.elim) (fun i j i' j' x hx => hx.elim) ?_ ?_
          · intro i j d hi hd
            have : i = 0 := by omega
            subst this
            obtain ⟨v, hv, _⟩ := hdv j d hd
            rw [hbase]
            simp only [Nat.zero_mul, Nat.zero_add]
            rw [List.getD_eq_getElem?_getD, hv]
            simpa using hv
          · intro i j d hi hd
            obtain ⟨v, hv, ho⟩ := hdv j d hd
            rw [List.getD_eq_getElem?_getD, hv]
            exact ho
        · cases h
      · cases h
    · cases h

theorem takeCs_sound : ∀ (cs : List Leaf) (us : List Value) (σ : St) (γ : Ghost) (h : Leaf → Leaf) (ds : List DV) (σ' : St) (h' : Leaf → Leaf), Rel w0 mine γ σ a w → us.length = cs.length → (∀ (j : Nat) (l : Leaf), cs[j]? = some l → ∃ u, us[j]? = some u ∧ RLeaf γ w (h l) u) →
    takeCs std cs σ h = some (ds, σ', h') → ∃ (γ' : Ghost) (G : Nat → FP), Took w0 mine a w γ σ h (fun x => ∃ j, G j x) γ' σ' h' ∧ ds.length = cs.length ∧ (∀ j j' x, G j x → G j' x → j = j') ∧ ∀ (j : Nat) (d : DV), ds[j]? = some d → ∃ u, us[j]? = some u ∧ OwnT w (G j) u d
  | [], us, σ, γ, h, ds, σ', h', R, hl, hr, ht => by
    simp [takeCs] at ht
    obtain ⟨rfl, rfl, rfl⟩ := ht
    exact ⟨γ, fun _ _ => False, (Took.refl R h).mono (fun b ⟨_, hb⟩ => hb), rfl, fun j j' x hx => hx.elim, fun j d hd => by simp at hd⟩
  | l :: t, us, σ, γ, h, ds, σ', h', R, hl, hr, ht => by
    obtain ⟨u0, us', rfl⟩ : ∃ u0 us', us = u0 :: us' := by
      cases us with
      | nil => simp at hl
      | cons u us => exact ⟨u, us, rfl⟩
    obtain ⟨u, hu, hlu⟩ := hr 0 l rfl
    simp at hu; subst hu
    simp only [takeCs] at ht
    split at ht
    · rename_i d σ1 h1 ht1
      split at ht
      · rename_i ds2 σ2 h2 ht2
        simp only [Option.some.injEq, Prod.mk.injEq] at ht
        obtain ⟨rfl, rfl, rfl⟩ := ht
        obtain ⟨γ1, F1, T1, o1⟩ := takeC_sound R hlu ht1
        obtain ⟨γ2, G, T2, hdl, hGd, hv⟩ := takeCs_sound t us' σ1 γ1 (fun l => h1 (h l)) ds2 σ2 h2 T1.R (by simpa using hl) (fun j l' hj => by
          obtain ⟨u, hu, hlu⟩ := hr (j + 1) l' (by simpa using hj)
          exact ⟨u, by simpa using hu, T1.leaf _ _ hlu⟩) ht2
        have T1' : Took w0 mine a w γ σ h F1 γ1 σ1 (fun l => h1 (h l)) := ⟨T1.R, fun l u hl => T1.leaf _ _ hl, T1.free, T1.keep, T1.next⟩
        refine ⟨γ2, fun j => match j with | 0 => F1 | j + 1 => G j, (T1'.trans T2).mono ?_, by simp [hdl], ?_, ?_⟩
        · rintro b ⟨j, hb⟩
          cases j with
          | zero => exact .inl hb
          | succ j => exact .inr ⟨j, hb⟩
        · have hcross : ∀ j x, F1 x → G j x → False := fun j x hf hg => (T2.keep F1 T1.free).2 x hf ⟨j, hg⟩
          intro j j' x hx hx'
          cases j with
          | zero => cases j' with
            | zero => rfl
            | succ j' => exact (hcross j' x hx hx').elim
          | succ j => cases j' with
            | zero => exact (hcross j x hx' hx).elim
            | succ j' => rw [hGd j j' x hx hx']
        · intro j d' hd'
          cases j with
          | zero => simp at hd'; subst hd'; exact ⟨u0, rfl, o1⟩
          | succ j => simpa using hv j d' (by simpa using hd')
      · cases ht
    · cases ht
end
end Go.AW
/- The abstract calculus, part 11: cells written, rows appended. -/
set_option linter.unusedVariables false
set_option linter.unusedSimpArgs false
namespace Go.AW

theorem run_storeCells_U (P : Program) (b o : Nat) (t : TypeId) (fr : Nat × Nat) : ∀ (vs : List Value) (i : Nat) (cur : Array Value) (w : World), w.heap[b]? = some (.cells cur t fr) → Unfrozen fr cur.size → o + i + vs.length ≤ cur.size → vs.all (·.oneCell') = true →
    ∃ cs', (storeCells ⟨b, o, none⟩ vs i).run P w = .ok () (w.setRow b cs') ∧ cs'.size = cur.size ∧ ∀ j, cs'[j]? = if o + i ≤ j ∧ j < o + i + vs.length then vs[j - (o + i)]? else cur[j]?
  | [], i, cur, w, hg, _, _, _ => by
    refine ⟨cur, ?_, rfl, fun j => by rw [if_neg (by simp)]⟩
    rw [setRow_self w b cur t fr hg]
    rfl
  | v :: rest, i, cur, w, hg, hu, hl, h1 => by
    simp only [List.length_cons] at hl
    simp only [List.all_cons, Bool.and_eq_true] at h1
    have hi : o + i < cur.size := by omega
    have hcell : w.cell? ⟨b, o + i, none⟩ = some cur[o + i] := by rw [cell_at hg]; exact Array.getElem?_eq_getElem hi
    have hfro : w.frozen? ⟨b, o + i, none⟩ = false := by
      obtain ⟨lo, hi'⟩ := fr
      simp only [World.frozen?, hg, Bool.and_eq_false_iff, decide_eq_false_iff_not]
      rcases hu with hu | hu
      · simp only at hu
        rcases Nat.lt_or_ge (o + i) lo with h | h
        · left; omega
        · right; omega
      · simp only at hu; left; omega
    have hst : (store ((⟨b, o, none⟩ : Addr).add i) v).run P w = .ok () (w.setRow b (cur.setIfInBounds (o + i) v)) := by
      rw [add_at, run_store P w _ v _ h1.1, hcell]
      simp [hfro, setCell_eq_setRow w b (o + i) cur t fr v hg]
    obtain ⟨cs', hr, hs, hc⟩ := run_storeCells_U P b o t fr rest (i + 1) (cur.setIfInBounds (o + i) v) (w.setRow b (cur.setIfInBounds (o + i) v)) (setRow_heap w b cur _ t fr hg) (by simpa using hu) (by simp; omega) h1.2
    refine ⟨cs', ?_, by simpa using hs, fun j => ?_⟩
    · simp only [storeCells, Sem.run_bind, hst, Result.andThen_ok, hr, setRow_setRow]
    · rw [hc j]
      simp only [Array.getElem?_setIfInBounds, List.length_cons]
      by_cases hj : j = o + i
      · subst hj
        rw [if_neg (by omega), if_pos rfl, if_pos hi, if_pos (by omega)]
        simp
      · by_cases hr : o + (i + 1) ≤ j ∧ j < o + (i + 1) + rest.length
        · rw [if_pos hr, if_pos (by omega), show j - (o + i) = (j - (o + (i + 1))) + 1 by omega]
          simp
        · rw [if_neg hr, if_neg (by omega), if_neg (by omega)]

theorem go_spec : ∀ (l vs r : List Leaf), setCells.go l vs = some r → r.length = l.length ∧ vs.length ≤ l.length ∧ ∀ q, r[q]? = if q < vs.length then vs[q]? else l[q]?
  | l, [], r, h => by
    have : r = l := by cases l <;> simp [setCells.go] at h <;> first | exact h.symm | exact h
    subst this; simp
  | [], v :: vs, r, h => by simp [setCells.go] at h
  | a :: l, v :: vs, r, h => by
    simp only [setCells.go] at h
    split at h
    · rename_i t ht
      simp at h; subst h
      obtain ⟨h1, h2, h3⟩ := go_spec l vs t ht
      refine ⟨by simp [h1], by simp; exact h2, fun q => ?_⟩
      cases q with
      | zero => simp
      | succ q => simp [h3 q]
    · simp at h
theorem setCells_spec : ∀ (l : List Leaf) (j : Nat) (vs r : List Leaf), setCells l j vs = some r → r.length = l.length ∧ j + vs.length ≤ l.length ∧ ∀ q, r[q]? = if j ≤ q ∧ q < j + vs.length then vs[q - j]? else l[q]?
  | l, 0, vs, r, h => by
    have := go_spec l vs r (by cases l <;> simpa [setCells] using h)
    simpa using this
  | [], j + 1, vs, r, h => by simp [setCells] at h
  | a :: l, j + 1, vs, r, h => by
    simp only [setCells] at h
    split at h
    · rename_i t ht
      simp at h; subst h
      obtain ⟨h1, h2, h3⟩ := setCells_spec l j vs t ht
      refine ⟨by simp [h1], by simp; omega, fun q => ?_⟩
      cases q with
      | zero => rw [if_neg (by omega)]; simp
      | succ q =>
        simp only [List.getElem?_cons_succ, h3 q]
        by_cases hq : j ≤ q ∧ q < j + vs.length
        · rw [if_pos hq, if_pos (by omega), show q + 1 - (j + 1) = q - j by omega]
        · rw [if_neg hq, if_neg (by omega)]
    · simp at h
theorem goD_spec : ∀ (l vs r : List DV), setDs.go l vs = some r → r.length = l.length ∧ vs.length ≤ l.length ∧ ∀ q, r[q]? = if q < vs.length then vs[q]? else l[q]?
  | l, [], r, h => by
    have : r = l := by cases l <;> simp [setDs.go] at h <;> first | exact h.symm | exact h
    subst this; simp
  | [], v :: vs, r, h => by simp [setDs.go] at h
  | a :: l, v :: vs, r, h => by
    simp only [setDs.go] at h
    split at h
    · rename_i t ht
      simp at h; subst h
      obtain ⟨h1, h2, h3⟩ := goD_spec l vs t ht
      refine ⟨by simp [h1], by simp; exact h2, fun q => ?_⟩
      cases q with
      | zero => simp
      | succ q => simp [h3 q]
    · simp at h
theorem setDs_spec : ∀ (l : List DV) (j : Nat) (vs r : List DV), setDs l j vs = some r → r.length = l.length ∧ j + vs.length ≤ l.length ∧ ∀ q, r[q]? = if j ≤ q ∧ q < j + vs.length then vs[q - j]? else l[q]?
  | l, 0, vs, r, h => by
    have := goD_spec l vs r (by cases l <;> simpa [setDs] using h)
    simpa using this
  | [], j + 1, vs, r, h => by simp [setDs] at h
  | a :: l, j + 1, vs, r, h => by
    simp only [setDs] at h
    split at h
    · rename_i t ht
      simp at h; subst h
      obtain ⟨h1, h2, h3⟩ := setDs_spec l j vs t ht
      refine ⟨by simp [h1], by simp; omega, fun q => ?_⟩
      cases q with
      | zero => rw [if_neg (by omega)]; simp
      | succ q =>
        simp only [List.getElem?_cons_succ, h3 q]
        by_cases hq : j ≤ q ∧ q < j + vs.length
        · rw [if_pos hq, if_pos (by omega), show q + 1 - (j + 1) = q - j by omega]
        · rw [if_neg hq, if_neg (by omega)]
    · simp at h

section
variable {P : Program} {w0 w w' : World} {mine : FP} {γ γ' : Ghost} {σ : St} {a : Act} {k : V → St → Prop} {E : Env}

theorem keep_setRow (h : Keep w0 mine w) {b : Nat} (cs : Array Value) (hb : w0.heap.size ≤ b ∨ mine b) : Keep w0 mine (w.setRow b cs) :=
  ⟨by simpa using h.size, h.os, h.tape, h.output, fun x hx hm => by
    rw [setRow_other w b x cs (by rintro rfl; rcases hb with hb | hb; omega; exact hm hb)]
    exact h.old x hx hm, h.tabs⟩

theorem run_storeAt {t : TypeId} {i : TI} (h : TIok P t i) {b off : Nat} {v : Value} {cur : Array Value} {et : TypeId} {fr : Nat × Nat} (hn : v.cells.toList.length = i.size) (h1 : v.cells.toList.all (·.oneCell') = true)
    (hg : w.heap[b]? = some (.cells cur et fr)) (hu : Unfrozen fr cur.size) (hl : off + i.size ≤ cur.size) :
    ∃ cs', (Instr.storeAt t (.pointer (some ⟨b, off, none⟩)) v).run P w = .ok () (w.setRow b cs') ∧ cs'.size = cur.size ∧ ∀ j, cs'[j]? = if off ≤ j ∧ j < off + i.size then v.cells.toList[j - off]? else cur[j]? := by
  obtain ⟨cs', hr, hs, hc⟩ := run_storeCells_U P b off et fr v.cells.toList 0 cur w hg hu (by omega) h1
  refine ⟨cs', ?_, hs, fun j => by rw [hc j, hn, Nat.add_zero]⟩
  have hsz : ¬ (v.cells.size ≠ i.size) := by
    intro hne
    apply hne
    rw [← hn]; simp
  simp only [Instr.storeAt, Instr.sureAddr, storeVar, Sem.run_bind, Sem.run_pure, Result.andThen_ok, h.run_size]
  rw [if_neg hsz]
  simpa using hr

theorem does_store_p (hE : EnvOk P E) (R : Rel w0 mine γ σ a w) {d ty p af g t} {x y : Operand} {id j : Nat} {cs cells cells' : List Leaf} (hk : okK (E t).k = true) (hx : evA σ x = .one (.lf (.p id j))) (hy : cellsOf (evA σ y) = some cs)
    (hlen : cs.length = (E t).size) (ho : look σ.store id = some (.vars cells)) (hset : setCells cells j cs = some cells') (h : k undefV (mapSt (killQ id) (putObj σ id (.vars cells')))) :
    Does P w0 mine a w ⟨d, .store t x y, ty, p, af, g⟩ k := by
  have hT := hE t (okK_ne hk)
  obtain ⟨hrc, h1⟩ := cellsOf_sound (R.ev y) hy
  have hxr := R.ev x
  rw [hx] at hxr
  obtain ⟨g1, b, hg, hb, hu⟩ := hxr.2
  obtain ⟨g1', hg', b', cur, et, fr, hb', hfp, hh, hun, hbase, htot, hsz, hgz, hcells⟩ := R.st.objs id _ ho
  rw [hg] at hg'; cases hg'
  rw [hb] at hb'; cases hb'
  obtain ⟨s1, s2, s3⟩ := setCells_spec _ _ _ _ hset
  have hn : (a.eval y).cells.toList.length = (E t).size := by rw [hrc.1, hlen]
  obtain ⟨cs', hr, hs, hc⟩ := run_storeAt (w := w) hT (off := j) hn h1 hh hun (by omega)
  have hbd := R.st.fp id _ ho b hfp
  have hblt : b < w.heap.size := hbd.1
  have hext : ∀ b' (x : Go.Obj), ¬ γ.fp id b' → w.heap[b']? = some x → (w.setRow b cs').heap[b']? = some x := fun b' x hne hx => by
    rw [setRow_other w b b' cs' (by rintro rfl; exact hne hfp)]; exact hx
  have S := step_write (w' := w.setRow b cs') R.st (g' := g1) (fun _ => False) (fun i => i = id) ho hg (γ.fp id) (fun _ => rfl) (fun h => absurd rfl h) hext
  have R' := R.write (o' := .vars cells') (g' := g1) (F := γ.fp id) (w' := w.setRow b cs') (fun _ => False) (fun i => i = id) (killQ id) (kills_Q id) ho hg (fun _ => rfl) (fun h => absurd rfl h)
    (fun b' hb' => ⟨.inl hb', by have := R.st.fp id _ ho b' hb'; simpa using this⟩) hext (by simp) (keep_setRow R.st.keep cs' hbd.2) (by
      refine ⟨b, cs', et, fr, hb, by simpa [Ghost.grow] using hfp, setRow_heap w b cur cs' et fr hh, by rw [hs]; exact hun, hbase, by simp [s1, htot], by simp [s1, hs, hsz], by simpa [s1] using hgz, by simp [s1, hs, hsz], ?_⟩
      intro q l hq
      simp only [List.getElem?_map, Option.map_eq_some_iff] at hq
      obtain ⟨l0, hl0, rfl⟩ := hq
      rw [s3 q] at hl0
      simp only [Array.getElem?_toList, hc q]
      by_cases hin : j ≤ q ∧ q < j + cs.length
      · rw [if_pos hin] at hl0
        rw [if_pos (by omega)]
        obtain ⟨u, hu', hru⟩ := hrc.2 _ l0 hl0
        exact ⟨u, by simpa using hu', hru.kill S (kills_Q id)⟩
      · rw [if_neg hin] at hl0
        rw [if_neg (by omega)]
        obtain ⟨u, hu', hru⟩ := hcells.2 q l0 hl0
        exact ⟨u, by simpa using hu', hru.kill S (kills_Q id)⟩)
  refine .inr (.inl ⟨w.setRow b cs', ?_, undefV, _, _, h, R', ⟨[], rfl, rfl, by simp⟩⟩)
  have hu2 : a.eval x = .pointer (some ⟨b, j, none⟩) := by rw [hu, hbase, Nat.zero_add]
  simp only [execOp, hu2, Sem.run_bind, hr, Result.andThen_ok, Sem.run_pure]


theorem RoT.s_inv' {w : World} {F : FP} {u v : Value} (h : RoT w F u (.s v)) : u = v ∧ u.oneCell' = true := by
  cases h with
  | s _ h1 => exact ⟨rfl, h1⟩
theorem setN_get {α : Type} (v : α) : ∀ (l : List α) (n m : Nat), (setN l n v)[m]? = if m = n ∧ n < l.length then some v else l[m]?
  | [], n, m => by simp [setN]
  | a :: l, 0, m => by cases m <;> simp [setN]
  | a :: l, n + 1, m => by
    cases m with
    | zero => simp [setN]
    | succ m =>
      simp only [setN, List.getElem?_cons_succ, List.length_cons]
      rw [setN_get v l n m]
      simp
theorem setN_len {α : Type} (v : α) : ∀ (l : List α) (n : Nat), (setN l n v).length = l.length
  | [], n => by simp [setN]
  | a :: l, 0 => rfl
  | a :: l, n + 1 => by simp [setN, setN_len v l n]
theorem does_store_arr (hE : EnvOk P E) (R : Rel w0 mine γ σ a w) {d ty p af g t} {x y : Operand} {id j m : Nat} {f : Nat → List DV} {ws : List Value} {v : Value} (hk : okK (E t).k = true) (hx : evA σ x = .one (.lf (.p id j))) (hy : cellsOf (evA σ y) = some [.s v])
    (hlen : [Leaf.s v].length = (E t).size) (ho : look σ.store id = some (.arr m f ws)) (hj : m ≤ j) (hj2 : j - m < ws.length) (h : k undefV (mapSt (killQ id) (putObj σ id (.arr m f (setN ws (j - m) v))))) :
    Does P w0 mine a w ⟨d, .store t x y, ty, p, af, g⟩ k := by
  have hT := hE t (okK_ne hk)
  obtain ⟨hrc, h1⟩ := cellsOf_sound (R.ev y) hy
  have hxr := R.ev x
  rw [hx] at hxr
  obtain ⟨g1, b, hg, hb, hu⟩ := hxr.2
  obtain ⟨g1', hg', b', cur, et, fr, hb', hfp, hh, hun, hbase, hgz, hgn, htot, hsz, hrows, hws⟩ := R.st.objs id _ ho
  rw [hg] at hg'; cases hg'
  rw [hb] at hb'; cases hb'
  have hn : (a.eval y).cells.toList.length = (E t).size := by rw [hrc.1, hlen]
  have h1' : (E t).size = 1 := by rw [← hlen]; rfl
  obtain ⟨cs', hr, hs, hc⟩ := run_storeAt (w := w) hT (off := j) hn h1 hh hun (by omega)
  rw [h1'] at hc
  obtain ⟨u0, hu0, hl0⟩ := hrc.2 0 _ rfl
  have hu1 : u0 = v := hl0.2
  have hbd := R.st.fp id _ ho b hfp
  have hext : ∀ b' (x : Go.Obj), ¬ γ.fp id b' → w.heap[b']? = some x → (w.setRow b cs').heap[b']? = some x := fun b' x hne hx => by
    rw [setRow_other w b b' cs' (by rintro rfl; exact hne hfp)]; exact hx
  have R' := R.write (o' := .arr m f (setN ws (j - m) v)) (g' := g1) (F := γ.fp id) (w' := w.setRow b cs') (fun _ => False) (fun i => i = id) (killQ id) (kills_Q id) ho hg (fun _ => rfl) (fun h => absurd rfl h)
    (fun b' hb' => ⟨.inl hb', by have := R.st.fp id _ ho b' hb'; simpa using this⟩) hext (by simp) (keep_setRow R.st.keep cs' hbd.2) (by
      refine ⟨b, cs', et, fr, hb, by simpa [Ghost.grow] using hfp, setRow_heap w b cur cs' et fr hh, by rw [hs]; exact hun, hbase, hgz, hgn, by rw [setN_len]; exact htot, by rw [setN_len, hs]; exact hsz, fun q hq => ?_, fun q y hq => ?_⟩
      · rw [hc q, if_neg (by omega)]
        exact ⟨(hrows q hq).1, (hrows q hq).2.imp fun y hy => ⟨hy.1, fun d hd => (hy.2 d hd).mono (fun _ hb => hb) (fun b _ hb => hb.elim)⟩⟩
      · rw [setN_get] at hq
        rw [hc (m + q)]
        by_cases hqj : q = j - m
        · rw [if_pos ⟨hqj, hj2⟩] at hq
          cases hq
          rw [if_pos (by omega), show m + q - j = 0 by omega, hu0, hu1]
          exact ⟨rfl, hu1 ▸ hl0.1⟩
        · rw [if_neg (fun h => hqj h.1)] at hq
          rw [if_neg (by omega)]
          exact hws q _ hq)
  refine .inr (.inl ⟨w.setRow b cs', ?_, undefV, _, _, h, R', ⟨[], rfl, rfl, by simp⟩⟩)
  have hu2 : a.eval x = .pointer (some ⟨b, j, none⟩) := by rw [hu, hbase, Nat.zero_add]
  simp only [execOp, hu2, Sem.run_bind, hr, Result.andThen_ok, Sem.run_pure]

/-- Rows that lie in a block, owned. -/
def RowsT (w : World) (F : FP) (b base sz n tot : Nat) (f : Nat → List DV) : Prop :=
  ∃ cs t fr vs G, F b ∧ w.heap[b]? = some (.cells cs t fr) ∧ Unfrozen fr cs.size ∧ base + tot ≤ cs.size ∧ n * sz ≤ tot ∧
    (∀ i, i < n → (f i).length = sz) ∧ (∀ i j x, (G : Nat → Nat → FP) i j x → F x ∧ x ≠ b) ∧ (∀ i j i' j' x, G i j x → G i' j' x → i = i' ∧ j = j') ∧
    ∀ i j d, i < n → (f i)[j]? = some d → cs[base + i * sz + j]? = some ((vs : Nat → Nat → Value) i j) ∧ OwnT w (G i j) (vs i j) d
theorem robj_rows {γ : Ghost} {w : World} {id : Nat} {g : G1} {b sz n : Nat} {f : Nat → List DV} (hb : g.blk = some b) : RObj γ w id g (.deep sz n f) ↔ g.n = n ∧ g.sz = sz ∧ 0 < sz ∧ RowsT w (γ.fp id) b g.base g.sz n g.tot f := by
  simp only [RObj, hb, RowsT]
theorem own_rows {w : World} {F : FP} {b off n cap sz : Nat} {f : Nat → List DV} : OwnT w F (.slice (some ⟨b, off, none⟩) n cap) (.l sz n f) → (n = 0 ∧ cap = 0) ∨ (0 < sz ∧ n ≤ cap ∧ RowsT w F b off sz n (cap * sz) f) := by
  intro h
  cases h with
  | nl => exact .inl ⟨rfl, rfl⟩
  | bl _ _ _ _ _ _ _ cs t fr vs G hF hs hb hu hn htot hsz hG hGd hv hd =>
    exact .inr ⟨hs, hn, cs, t, fr, vs, G, hF, hb, hu, htot, Nat.mul_le_mul_right _ hn, hsz, hG, hGd, fun i j d hi hj => ⟨hv i j d hi hj, hd i j d hi hj⟩⟩
theorem rows_own {w : World} {F : FP} {b off n cap sz : Nat} {f : Nat → List DV} (hs : 0 < sz) (hn : n ≤ cap) (h : RowsT w F b off sz n (cap * sz) f) : OwnT w F (.slice (some ⟨b, off, none⟩) n cap) (.l sz n f) := by
  obtain ⟨cs, t, fr, vs, G, hF, hb, hu, htot, _, hsz, hG, hGd, hv⟩ := h
  exact .bl _ b off n cap sz f cs t fr vs G hF hs hb hu hn htot hsz hG hGd (fun i j d hi hj => (hv i j d hi hj).1) fun i j d hi hj => (hv i j d hi hj).2

/-- Cells of a row written. -/
theorem rows_set {F Fn : FP} {b base sz n tot i j : Nat} {f : Nat → List DV} {ds row : List DV} {us : List Value} {Gn : Nat → FP} {cs cs' : Array Value} {t : TypeId} {fr : Nat × Nat} (h : RowsT w F b base sz n tot f) (hi : i < n) (hset : setDs (f i) j ds = some row)
    (hGn : ∀ q x, Gn q x → Fn x) (hGnd : ∀ q q' x, Gn q x → Gn q' x → q = q') (hvn : ∀ (q : Nat) (d : DV), ds[q]? = some d → ∃ u, us[q]? = some u ∧ OwnT w (Gn q) u d) (hFn : ∀ x, Fn x → ¬ F x)
    (hh : w.heap[b]? = some (.cells cs t fr)) (hs : cs'.size = cs.size) (hc : ∀ q, cs'[q]? = if base + i * sz + j ≤ q ∧ q < base + i * sz + j + ds.length then us[q - (base + i * sz + j)]? else cs[q]?) :
    RowsT (w.setRow b cs') (fun x => F x ∨ Fn x) b base sz n tot (std.setF f i row) := by
  obtain ⟨cur, et, fr', vs, G, hF, hh', hun, htot, hnt, hl, hG, hGd, hv⟩ := h
  rw [hh] at hh'; cases hh'
  obtain ⟨s1, s2, s3⟩ := setDs_spec _ _ _ _ hset
  have hsz := hl i hi
  have hnb : ∀ q x, Gn q x → x ≠ b := fun q x hx e => hFn x (hGn q x hx) (e ▸ hF)
  refine ⟨cs', t, fr, fun i0 j0 => if i0 = i ∧ j ≤ j0 ∧ j0 < j + ds.length then us.getD (j0 - j) undef else vs i0 j0, fun i0 j0 => if i0 = i ∧ j ≤ j0 ∧ j0 < j + ds.length then Gn (j0 - j) else G i0 j0,
    .inl hF, setRow_heap w b cs cs' t fr hh, by rw [hs]; exact hun, by rw [hs]; exact htot, hnt, ?_, ?_, ?_, ?_⟩
  · intro i0 hi0
    simp only [std]
    split
    · rw [s1]; exact hsz
    · exact hl i0 hi0
  · intro i0 j0 x hx
    split at hx
    · exact ⟨.inr (hGn _ x hx), hnb _ x hx⟩
    · exact ⟨.inl (hG i0 j0 x hx).1, (hG i0 j0 x hx).2⟩
  · have hcross : ∀ q i0 j0 x, Gn q x → G i0 j0 x → False := fun q i0 j0 x h2 h3 => hFn x (hGn q x h2) (hG i0 j0 x h3).1
    intro i0 j0 i1 j1 x h2 h3
    split at h2
    · rename_i c2
      split at h3
      · rename_i c3
        have := hGnd _ _ x h2 h3
        omega
      · exact (hcross _ _ _ x h2 h3).elim
    · split at h3
      · exact (hcross _ _ _ x h3 h2).elim
      · exact hGd _ _ _ _ x h2 h3
  · intro i0 j0 d0 hi0 hd0
    simp only [std] at hd0
    have hj0 : j0 < sz := by
      split at hd0
      · rw [← hsz, ← s1]; exact (List.getElem?_eq_some_iff.mp hd0).1
      · rw [← hl i0 hi0]; exact (List.getElem?_eq_some_iff.mp hd0).1
    have hpos : base + i * sz + j ≤ base + i0 * sz + j0 ∧ base + i0 * sz + j0 < base + i * sz + j + ds.length ↔ i0 = i ∧ j ≤ j0 ∧ j0 < j + ds.length := by
      constructor
      · rintro ⟨h2, h3⟩
        have e : i0 = i := by
          rcases Nat.lt_trichotomy i0 i with hlt | heq | hgt
          · have : i0 * sz + sz ≤ i * sz := by rw [← Nat.succ_mul]; exact Nat.mul_le_mul_right _ hlt
            omega
          · exact heq
          · have : i * sz + sz ≤ i0 * sz := by rw [← Nat.succ_mul]; exact Nat.mul_le_mul_right _ hgt
            omega
        subst e
        omega
      · rintro ⟨rfl, h2, h3⟩
        omega
    dsimp only
    by_cases hcase : i0 = i ∧ j ≤ j0 ∧ j0 < j + ds.length
    · rw [if_pos hcase, if_pos hcase]
      obtain ⟨e1, e2, e3⟩ := hcase
      rw [if_pos e1, s3 j0, if_pos ⟨e2, e3⟩] at hd0
      obtain ⟨u, hu', hou⟩ := hvn _ d0 hd0
      have hgd : us.getD (j0 - j) undef = u := by rw [List.getD_eq_getElem?_getD, hu']; rfl
      rw [hgd]
      refine ⟨?_, hou.mono (fun _ hb => hb) (fun b' x hb' hx => ?_)⟩
      · rw [hc, if_pos (hpos.mpr ⟨e1, e2, e3⟩), ← hu']
        congr 1
        subst e1
        omega
      · rw [setRow_other w b b' cs' (hnb _ b' hb')]; exact hx
    · rw [if_neg hcase, if_neg hcase]
      have hd1 : (f i0)[j0]? = some d0 := by
        split at hd0
        · rename_i e
          rw [s3 j0, if_neg (fun c => hcase ⟨e, c.1, c.2⟩)] at hd0
          rw [e]; exact hd0
        · exact hd0
      obtain ⟨h2, h3⟩ := hv i0 j0 d0 hi0 hd1
      refine ⟨?_, h3.mono (fun _ hb => hb) (fun b' x hb' hx => ?_)⟩
      · rw [hc, if_neg (fun c => hcase (hpos.mp c))]; exact h2
      · rw [setRow_other w b b' cs' (hG i0 j0 b' hb').2]; exact hx

/-- One datum of a row turned inside. -/
theorem rows_sub {F Fn : FP} {b base sz n tot i j : Nat} {f : Nat → List DV} {d d' : DV} (h : RowsT w F b base sz n tot f) (hi : i < n) (hd : (f i)[j]? = some d) (hFn : ∀ x, Fn x → ¬ F x)
    (hw : ∀ (Gij : FP) (c : Value), (∀ x, Gij x → F x ∧ x ≠ b) → (∀ cs t fr, w.heap[b]? = some (.cells cs t fr) → cs[base + i * sz + j]? = some c) → OwnT w Gij c d → (∀ x o, ¬ Gij x → w.heap[x]? = some o → w'.heap[x]? = some o) ∧ OwnT w' (fun x => Gij x ∨ Fn x) c d') :
    RowsT w' (fun x => F x ∨ Fn x) b base sz n tot (std.setF f i (setD1 (f i) j d')) := by
  obtain ⟨cs, t, fr, vs, G, hF, hh, hun, htot, hnt, hl, hG, hGd, hv⟩ := h
  obtain ⟨h1, h2⟩ := hv i j d hi hd
  obtain ⟨hext, hown⟩ := hw (G i j) (vs i j) (fun x hx => hG i j x hx) (fun cs' t' fr' he => by rw [hh] at he; cases he; exact h1) h2
  have hjlt : j < (f i).length := (List.getElem?_eq_some_iff.mp hd).1
  obtain ⟨s1, s2⟩ := setD1_spec (f i) j d'
  refine ⟨cs, t, fr, vs, fun i0 j0 => if i0 = i ∧ j0 = j then fun x => G i j x ∨ Fn x else G i0 j0, .inl hF, hext b _ (fun hx => (hG i j b hx).2 rfl) hh, hun, htot, hnt, ?_, ?_, ?_, ?_⟩
  · intro i0 hi0
    simp only [std]
    split
    · rename_i e; subst e; rw [s1]; exact hl _ hi0
    · exact hl i0 hi0
  · intro i0 j0 x hx
    split at hx
    · rcases hx with hx | hx
      · exact ⟨.inl (hG i j x hx).1, (hG i j x hx).2⟩
      · exact ⟨.inr hx, fun e => hFn x hx (e ▸ hF)⟩
    · exact ⟨.inl (hG i0 j0 x hx).1, (hG i0 j0 x hx).2⟩
  · intro i0 j0 i1 j1 x h3 h4
    have out : ∀ i0 j0, G i0 j0 x → ¬ Fn x := fun i0 j0 h h' => hFn x h' (hG i0 j0 x h).1
    split at h3
    · rename_i e3
      split at h4
      · rename_i e4; omega
      · rcases h3 with h3 | h3
        · have := hGd _ _ _ _ x h3 h4; omega
        · exact absurd h3 (out _ _ h4)
    · split at h4
      · rename_i e4
        rcases h4 with h4 | h4
        · have := hGd _ _ _ _ x h3 h4; omega
        · exact absurd h4 (out _ _ h3)
      · exact hGd _ _ _ _ x h3 h4
  · intro i0 j0 d0 hi0 hd0
    simp only [std] at hd0
    have hcase : (i0 = i ∧ j0 = j ∧ d0 = d') ∨ (¬ (i0 = i ∧ j0 = j) ∧ (f i0)[j0]? = some d0) := by
      split at hd0
      · rename_i e
        subst e
        rw [s2] at hd0
        split at hd0
        · rename_i e; simp at hd0; exact .inl ⟨rfl, e.1, hd0.symm⟩
        · rename_i e; exact .inr ⟨fun c => e ⟨c.2, hjlt⟩, hd0⟩
      · rename_i e; exact .inr ⟨fun c => e c.1, hd0⟩
    rcases hcase with ⟨rfl, rfl, rfl⟩ | ⟨hne, hd1⟩
    · simp only [and_self, if_true]
      exact ⟨h1, hown⟩
    · dsimp only
      rw [if_neg hne]
      obtain ⟨h3, h4⟩ := hv i0 j0 d0 hi0 hd1
      exact ⟨h3, h4.mono (fun _ hb => hb) fun x o hx ho => hext x o (fun hx' => hne (hGd _ _ _ _ x hx hx')) ho⟩

theorem does_store_pr (hE : EnvOk P E) (R : Rel w0 mine γ σ a w) {d ty p af g t} {x y : Operand} {l : Leaf} {cs : List Leaf} {ds : List DV} {σ1 : St} {hf : Leaf → Leaf} (hk : okK (E t).k = true) (hx : evA σ x = .one (.lf l)) (hy : cellsOf (evA σ y) = some cs)
    (hlen : cs.length = (E t).size) (ht : takeCs std cs σ (fun l => l) = some (ds, σ1, hf)) (h : stowP std σ1 ds (hf l) fun σ' => k undefV σ') : Does P w0 mine a w ⟨d, .store t x y, ty, p, af, g⟩ k := by
  have hT := hE t (okK_ne hk)
  obtain ⟨hrc, h1⟩ := cellsOf_sound (R.ev y) hy
  obtain ⟨γ1, Gn, T, hdl, hGnd, hvn⟩ := takeCs_sound cs _ σ γ (fun l => l) ds σ1 hf R hrc.1 (fun j l hj => hrc.2 j l hj) ht
  have hxr := R.ev x
  rw [hx] at hxr
  have hxl := T.leaf l _ hxr
  have R1 := T.R
  have hdlen : ds.length = (E t).size := by rw [hdl, hlen]
  have hn : (a.eval y).cells.toList.length = (E t).size := by rw [hrc.1, hlen]
  generalize hf l = l' at hxl h
  unfold stowP at h
  split at h
  · -- a row of an object
    rename_i id i j
    obtain ⟨g1, b, hg, hb, hin, hu⟩ := hxl.2
    split at h
    · rename_i sz n f ho
      split at h
      · rename_i row hset
        obtain ⟨g1', hg', hob⟩ := R1.st.objs id _ ho
        rw [hg] at hg'; cases hg'
        rw [robj_rows hb] at hob
        obtain ⟨hgn, hgs, hs0, hrows⟩ := hob
        obtain ⟨s1, s2, s3⟩ := setDs_spec _ _ _ _ hset
        have hi : i < n := by omega
        obtain ⟨cur, et, fr, vs, G, hfp, hh, hun, htot, hnt, hl, hG, hGd, hv⟩ := (fun {α : Prop} (x : α) => x) hrows
        have hsz := hl i hi
        have hrow : i * g1.sz + g1.sz ≤ n * g1.sz := by rw [← Nat.succ_mul]; exact Nat.mul_le_mul_right _ hi
        obtain ⟨cs', hr, hs, hc⟩ := run_storeAt (w := w) hT (off := g1.base + i * g1.sz + j) hn h1 hh hun (by omega)
        have hbd := R1.st.fp id _ ho b hfp
        have hFn : ∀ x, (∃ q, Gn q x) → ¬ γ1.fp id x := fun x hx => (T.free x hx).1 id _ ho
        have hext : ∀ b' (x : Go.Obj), ¬ γ1.fp id b' → w.heap[b']? = some x → (w.setRow b cs').heap[b']? = some x := fun b' x hne hx => by
          rw [setRow_other w b b' cs' (by rintro rfl; exact hne hfp)]; exact hx
        have hrows' := rows_set (us := (a.eval y).cells.toList) (Fn := fun x => ∃ q, Gn q x) (cs' := cs') hrows hi hset (fun q x hx => ⟨q, hx⟩) hGnd hvn hFn hh hs (fun q => by rw [hc q, hdlen])
        have R' := R1.write (o' := .deep sz n (std.setF f i row)) (g' := g1) (F := fun x => γ1.fp id x ∨ ∃ q, Gn q x) (w' := w.setRow b cs') (fun _ => False) (fun i => i = id) (killQ id) (kills_Q id) ho hg (fun _ => rfl) (fun h => absurd rfl h)
          (fun x hx => by
            rcases hx with hx | hx
            · exact ⟨.inl hx, by have := R1.st.fp id _ ho x hx; simpa using this⟩
            · obtain ⟨f1, f2, f3⟩ := T.free x hx
              exact ⟨.inr ⟨f1, f2⟩, by simpa using f3⟩)
          hext (by simp) (keep_setRow R1.st.keep cs' hbd.2) (by
            simp only [mapObj]
            rw [robj_rows hb]
            exact ⟨hgn, hgs, hs0, by simpa [Ghost.grow] using hrows'⟩)
        refine .inr (.inl ⟨w.setRow b cs', ?_, undefV, _, _, h, R', ⟨[], rfl, rfl, by simp⟩⟩)
        simp only [execOp, hu, Sem.run_bind, hr, Result.andThen_ok, Sem.run_pure]
      · exact h.elim
    · rename_i m f ws ho
      split at h
      · rename_i v
        obtain ⟨g1', hg', b', cur, et, fr, hb', hfp, hh, hun, hbase, hgz, hgn, htot, hsz, hrows, hws⟩ := R1.st.objs id _ ho
        rw [hg] at hg'; cases hg'
        rw [hb] at hb'; cases hb'
        have hi : i < m := by omega
        have h1' : (E t).size = 1 := by rw [← hdlen]; rfl
        obtain ⟨cs', hr, hs, hc⟩ := run_storeAt (w := w) hT (off := g1.base + i * g1.sz + 0) hn h1 hh hun (by rw [hbase, hgz, h1', hsz]; omega)
        have hoff : g1.base + i * g1.sz + 0 = i := by rw [hbase, hgz]; omega
        rw [hoff, h1'] at hc
        have hbd := R1.st.fp id _ ho b hfp
        have hext : ∀ b' (x : Go.Obj), ¬ γ1.fp id b' → w.heap[b']? = some x → (w.setRow b cs').heap[b']? = some x := fun b' x hne hx => by
          rw [setRow_other w b b' cs' (by rintro rfl; exact hne hfp)]; exact hx
        obtain ⟨u0, hu0, hown⟩ := hvn 0 _ rfl
        have hu1 : u0 = v ∧ u0.oneCell' = true := hown.ro.s_inv'
        have R' := R1.write (o' := .arr m (std.setF f i [.s v]) ws) (g' := g1) (F := γ1.fp id) (w' := w.setRow b cs') (fun _ => False) (fun i => i = id) (killQ id) (kills_Q id) ho hg (fun _ => rfl) (fun h => absurd rfl h)
          (fun b' hb' => ⟨.inl hb', by have := R1.st.fp id _ ho b' hb'; simpa using this⟩) hext (by simp) (keep_setRow R1.st.keep cs' hbd.2) (by
            refine ⟨b, cs', et, fr, hb, by simpa [Ghost.grow] using hfp, setRow_heap w b cur cs' et fr hh, by rw [hs]; exact hun, hbase, hgz, hgn, htot, by rw [hs]; exact hsz, fun q hq => ?_, fun q y hq => ?_⟩
            · simp only [std]
              rw [hc q]
              by_cases hqi : q = i
              · subst hqi
                rw [if_pos (show q ≤ q ∧ q < q + 1 from ⟨Nat.le_refl _, Nat.lt_succ_self _⟩), Nat.sub_self]
                try rw [if_pos rfl]
                refine ⟨rfl, u0, hu0, fun d hd => ?_⟩
                simp at hd
                subst hd
                rw [hu1.1]
                exact .s _ _ (hu1.1 ▸ hu1.2)
              · rw [if_neg hqi, if_neg (by omega)]
                exact ⟨(hrows q hq).1, (hrows q hq).2.imp fun y hy => ⟨hy.1, fun d hd => (hy.2 d hd).mono (fun _ hb => hb) (fun b _ hb => hb.elim)⟩⟩
            · rw [hc (m + q), if_neg (by omega)]
              exact hws q y hq)
        refine .inr (.inl ⟨w.setRow b cs', ?_, undefV, _, _, h, R', ⟨[], rfl, rfl, by simp⟩⟩)
        simp only [execOp, hu, Sem.run_bind, hr, Result.andThen_ok, Sem.run_pure]
      · exact h.elim
    · exact h.elim
  · -- a row of a slice in an object
    rename_i id i j kk l sz2
    obtain ⟨c, b2, o2, N, cap, hat, hce, hkN, hu⟩ := hxl.2
    split at h
    · rename_i sz n F ho
      split at h
      · rename_i sz' n' f hd
        split at h
        · rename_i row hz hset
          have hz := Nat.eq_of_beq_eq_true hz
          subst hz
          rw [nthO_getElem?] at hd
          obtain ⟨g1, b, cs0, t0, fr0, hg, hb, hin, hfp, hh, hcell⟩ := (fun {α : Prop} (x : α) => x) hat
          obtain ⟨g1', hg', hob⟩ := R1.st.objs id _ ho
          rw [hg] at hg'; cases hg'
          rw [robj_rows hb] at hob
          obtain ⟨hgn, hgs, hs0, hrows⟩ := hob
          obtain ⟨s1, s2, s3⟩ := setDs_spec _ _ _ _ hset
          obtain ⟨G, hG, hGs⟩ := at_own R1.st ho hat hd
          have hn' : N = n' := by
            rw [hce] at hG
            cases hG <;> rfl
          subst hn'
          rw [hce] at hG
          rcases own_rows hG with ⟨h0, _⟩ | ⟨hs2, hncap, hrows2⟩
          · omega
          obtain ⟨cur, et, fr, vs, G2, hfp2, hh2, hun2, htot2, hnt2, hl2, hG2, hGd2, hv2⟩ := (fun {α : Prop} (x : α) => x) hrows2
          have hsz := hl2 kk hkN
          have hrow : kk * sz' + sz' ≤ N * sz' := by rw [← Nat.succ_mul]; exact Nat.mul_le_mul_right _ hkN
          obtain ⟨cs', hr, hs, hc⟩ := run_storeAt (w := w) hT (off := o2 + kk * sz' + l) hn h1 hh2 hun2 (by omega)
          have hbd := R1.st.fp id _ ho b2 (hGs b2 hfp2)
          have hFn : ∀ x, (∃ q, Gn q x) → ¬ γ1.fp id x := fun x hx => (T.free x hx).1 id _ ho
          have hext : ∀ b' (x : Go.Obj), ¬ γ1.fp id b' → w.heap[b']? = some x → (w.setRow b2 cs').heap[b']? = some x := fun b' x hne hx => by
            rw [setRow_other w b2 b' cs' (by rintro rfl; exact hne (hGs _ hfp2))]; exact hx
          have hrows' := rows_sub (w' := w.setRow b2 cs') (Fn := fun x => ∃ q, Gn q x) (d' := .l sz' N (std.setF f kk row)) hrows (by omega) hd hFn (fun Gij c' hGF hcc hOw => by
            have e := hcc _ _ _ hh
            rw [hcell] at e; cases e
            rw [hce] at hOw ⊢
            rcases own_rows hOw with ⟨h0, _⟩ | ⟨_, _, hr3⟩
            · omega
            refine ⟨fun x o hx ho' => ?_, rows_own hs2 hncap (rows_set (us := (a.eval y).cells.toList) (Fn := fun x => ∃ q, Gn q x) (cs' := cs') hr3 hkN hset (fun q x hx => ⟨q, hx⟩) hGnd hvn (fun x hx hx' => hFn x hx (hGF x hx').1) hh2 hs (fun q => by rw [hc q, hdlen]))⟩
            obtain ⟨_, _, _, _, _, hb3, _⟩ := hr3
            rw [setRow_other w b2 x cs' (by rintro rfl; exact hx hb3)]; exact ho')
          have hbb : b ≠ b2 := by
            obtain ⟨cs3, t3, fr3, vs3, G3, hF3, hh3, _, _, _, _, hG3, _, hv3⟩ := (fun {α : Prop} (x : α) => x) hrows
            obtain ⟨e1, e2⟩ := hv3 i j _ (by omega) hd
            rw [hh] at hh3; cases hh3
            rw [hcell] at e1; cases e1
            rw [hce] at e2
            rcases own_rows e2 with ⟨h0, _⟩ | ⟨_, _, _, _, _, _, _, hb3, _⟩
            · omega
            · exact fun e => (hG3 i j b2 hb3).2 e.symm
          have R' := R1.write (o' := .deep sz n (std.setF F i (setD1 (F i) j (.l sz' N (std.setF f kk row))))) (g' := g1) (F := fun x => γ1.fp id x ∨ ∃ q, Gn q x) (w' := w.setRow b2 cs') (fun _ => False) (fun _ => False) (killS id) (kills_S id) ho hg (fun _ => rfl)
            (fun _ b' x hb' hx' => by
              rw [hb] at hb'; cases hb'
              exact ⟨.inl hfp, by rw [setRow_other w b2 b cs' hbb]; exact hx'⟩)
            (fun x hx => by
              rcases hx with hx | hx
              · exact ⟨.inl hx, by have := R1.st.fp id _ ho x hx; simpa using this⟩
              · obtain ⟨f1, f2, f3⟩ := T.free x hx
                exact ⟨.inr ⟨f1, f2⟩, by simpa using f3⟩)
            hext (by simp) (keep_setRow R1.st.keep cs' hbd.2) (by
              simp only [mapObj]
              rw [robj_rows hb]
              exact ⟨hgn, hgs, hs0, by simpa [Ghost.grow] using hrows'⟩)
          refine .inr (.inl ⟨w.setRow b2 cs', ?_, undefV, _, _, h, R', ⟨[], rfl, rfl, by simp⟩⟩)
          simp only [execOp, hu, Sem.run_bind, hr, Result.andThen_ok, Sem.run_pure]
        · exact h.elim
      · exact h.elim
    · exact h.elim
  · exact h.elim
end
end Go.AW
/- The abstract calculus, part 12: append. -/
set_option linter.unusedVariables false
set_option linter.unusedSimpArgs false
namespace Go.AW

theorem cat_rows {w' : World} {F : FP} {b : Nat} {cs : Array Value} {base sz len m : Nat} {f g : Nat → List DV} {G1 G2 : Nat → Nat → FP}
    (l1 : ∀ i, i < len → (f i).length = sz) (l2 : ∀ i, i < m → (g i).length = sz) (hG1 : ∀ i j x, G1 i j x → F x ∧ x ≠ b) (hG2 : ∀ i j x, G2 i j x → F x ∧ x ≠ b)
    (d1 : ∀ i j i' j' x, G1 i j x → G1 i' j' x → i = i' ∧ j = j') (d2 : ∀ i j i' j' x, G2 i j x → G2 i' j' x → i = i' ∧ j = j') (cross : ∀ i j i' j' x, G1 i j x → G2 i' j' x → False)
    (v1 : ∀ i j d, i < len → (f i)[j]? = some d → ∃ v, cs[base + i * sz + j]? = some v ∧ OwnT w' (G1 i j) v d)
    (v2 : ∀ i j d, i < m → (g i)[j]? = some d → ∃ v, cs[base + (len + i) * sz + j]? = some v ∧ OwnT w' (G2 i j) v d) :
    (∀ i, i < len + m → (std.catF len f m g i).length = sz) ∧ ∃ (vs : Nat → Nat → Value) (G : Nat → Nat → FP), (∀ i j x, G i j x → F x ∧ x ≠ b) ∧ (∀ i j i' j' x, G i j x → G i' j' x → i = i' ∧ j = j') ∧
      ∀ i j d, i < len + m → (std.catF len f m g i)[j]? = some d → cs[base + i * sz + j]? = some (vs i j) ∧ OwnT w' (G i j) (vs i j) d := by
  have e1 : ∀ i, i < len → std.catF len f m g i = f i := fun i hi => by simp only [std, catR]; rw [if_neg (by omega)]
  have e2 : ∀ i, len ≤ i → i < len + m → std.catF len f m g i = g (i - len) := fun i h1 h2 => by simp only [std, catR]; rw [if_pos ⟨h1, h2⟩]
  refine ⟨fun i hi => ?_, fun i j => cs.toList.getD (base + i * sz + j) undef, fun i j => if i < len then G1 i j else G2 (i - len) j, ?_, ?_, ?_⟩
  · rcases Nat.lt_or_ge i len with h | h
    · rw [e1 i h]; exact l1 i h
    · rw [e2 i h hi]; exact l2 _ (by omega)
  · intro i j x hx
    split at hx
    · exact hG1 i j x hx
    · exact hG2 _ j x hx
  · intro i j i' j' x hx hx'
    split at hx
    · split at hx'
      · exact d1 _ _ _ _ x hx hx'
      · exact (cross _ _ _ _ x hx hx').elim
    · split at hx'
      · exact (cross _ _ _ _ x hx' hx).elim
      · have := d2 _ _ _ _ x hx hx'
        omega
  · intro i j d hi hd
    dsimp only
    have fin : ∀ {G : FP} {v : Value}, cs[base + i * sz + j]? = some v → OwnT w' G v d → cs[base + i * sz + j]? = some (cs.toList.getD (base + i * sz + j) undef) ∧ OwnT w' G (cs.toList.getD (base + i * sz + j) undef) d := by
      intro G v h1 h2
      have : cs.toList.getD (base + i * sz + j) undef = v := by simp [List.getD, h1]
      rw [this]; exact ⟨h1, h2⟩
    rcases Nat.lt_or_ge i len with h | h
    · rw [if_pos h]
      rw [e1 i h] at hd
      obtain ⟨v, h1, h2⟩ := v1 i j d h hd
      exact fin h1 h2
    · rw [if_neg (by omega)]
      rw [e2 i h hi] at hd
      obtain ⟨v, h1, h2⟩ := v2 _ j d (by omega) hd
      rw [show len + (i - len) = i by omega] at h1
      exact fin h1 h2

/-- What a source of rows is good for: its cells are read, and can be owned behind. -/
structure Src (P : Program) (w : World) (sz m : Nat) (g : Nat → List DV) (u : Value) (new : List Value) (G : Nat → Nat → FP) : Prop where
  len : (Builtin.lenOf u).run P w = .ok m w
  run : ∀ w1 : World, w1.heap = w.heap → (Builtin.firstCells sz m u).run P w1 = .ok new.toArray w1
  nlen : new.length = m * sz
  one : new.all (·.oneCell') = true
  rlen : ∀ i, i < m → (g i).length = sz
  val : ∀ i j d, i < m → (g i)[j]? = some d → ∃ v, new[i * sz + j]? = some v ∧ OwnT w (G i j) v d
  disj : ∀ i j i' j' x, G i j x → G i' j' x → i = i' ∧ j = j'

section
variable {P : Program} {w0 w w' : World} {mine : FP} {γ γ' : Ghost} {σ : St} {a : Act} {k : V → St → Prop} {E : Env}

theorem cell_heap {w w1 : World} (h : w1.heap = w.heap) (a : Addr) : w1.cell? a = w.cell? a := by simp [World.cell?, h]

theorem divmod {i sz j : Nat} (hj : j < sz) : (i * sz + j) / sz = i ∧ (i * sz + j) % sz = j := by
  constructor
  · rw [Nat.add_comm, Nat.add_mul_div_right _ _ (by omega), Nat.div_eq_of_lt hj]; omega
  · rw [Nat.add_comm, Nat.add_mul_mod_self_right]; exact Nat.mod_eq_of_lt hj

theorem RoT.s_inv {F : FP} {u v : Value} (h : RoT w F u (.s v)) : u = v ∧ u.oneCell' = true := by
  cases h with
  | s v h1 => exact ⟨rfl, h1⟩

theorem Rel.fresh2 (R : Rel w0 mine γ σ a w) (hext : WExt w w') (hk : Keep w0 mine w') (hs : w.heap.size ≤ w'.heap.size) (g : G1) (F : FP) (o : Obj)
    (hobj : RObj (γ.add σ.next g F) w' σ.next g o) (hF : ∀ b, F b → (∀ i oi, look σ.store i = some oi → ¬ γ.fp i b) ∧ ¬ γ.ro b ∧ b < w'.heap.size ∧ (w0.heap.size ≤ b ∨ mine b)) :
    Rel w0 mine (γ.add σ.next g F) (mkObj σ o) a w' := by
  have S := step_add (w := w) (w' := w') R.st.lt g F hext
  have hne : ∀ id o', look σ.store id = some o' → id ≠ σ.next := fun id o' h => by
    obtain ⟨g', hg', _⟩ := R.st.objs id o' h
    exact Nat.ne_of_lt (R.st.lt id g' hg')
  have hfp : ∀ id, id ≠ σ.next → (γ.add σ.next g F).fp id = γ.fp id := fun id h => by simp [Ghost.add, h]
  have hfpn : (γ.add σ.next g F).fp σ.next = F := by simp [Ghost.add]
  have hsz := R.st.keep.size
  refine ⟨R.size, fun i => RV.step0 S (R.slots i), ?_, ?_, ?_, ?_, ?_, ?_, ?_, hk⟩
  · intro id o' h
    simp only [mkObj, look_cons] at h
    by_cases hid : σ.next = id
    · rw [if_pos hid] at h
      cases h
      subst hid
      exact ⟨g, by simp [Ghost.add], hobj⟩
    · rw [if_neg hid] at h
      obtain ⟨g', hg', ho⟩ := R.st.objs id o' h
      have := RObj.step S (h := fun l => l) (kills_id (by simp) (by simp) (by simp)) hg' ho (fun b hb => by rw [hfp _ (Ne.symm hid)]; exact hb) (fun b o _ ho => hext b o ho)
      rw [mapObj_id] at this
      exact ⟨g', by simp [Ghost.add, Ne.symm hid, hg'], this⟩
  · intro id id' o1 o2 h1 h2 hne' b hb hb'
    simp only [mkObj, look_cons] at h1 h2
    by_cases e1 : σ.next = id
    · subst e1
      rw [if_neg hne'] at h2
      rw [hfpn] at hb
      rw [hfp _ (Ne.symm hne')] at hb'
      exact (hF b hb).1 id' o2 h2 hb'
    · rw [if_neg e1] at h1
      rw [hfp _ (Ne.symm e1)] at hb
      by_cases e2 : σ.next = id'
      · subst e2
        rw [hfpn] at hb'
        exact (hF b hb').1 id o1 h1 hb
      · rw [if_neg e2] at h2
        rw [hfp _ (Ne.symm e2)] at hb'
        exact R.st.disj id id' o1 o2 h1 h2 hne' b hb hb'
  · intro id o' h b hb hro
    simp only [mkObj, look_cons] at h
    by_cases hid : σ.next = id
    · subst hid
      rw [hfpn] at hb
      exact (hF b hb).2.1 hro
    · rw [if_neg hid] at h
      rw [hfp _ (Ne.symm hid)] at hb
      exact R.st.ro id o' h b hb hro
  · intro id g' h
    show id < σ.next + 1
    simp only [Ghost.add] at h
    by_cases hid : id = σ.next
    · omega
    · rw [if_neg hid] at h
      have := R.st.lt id g' h
      omega
  · intro id g' h
    show ∃ o', look ((σ.next, o) :: σ.store) id = some o'
    simp only [Ghost.add] at h
    rw [look_cons]
    by_cases hid : id = σ.next
    · rw [if_pos hid.symm]; exact ⟨_, rfl⟩
    · rw [if_neg hid] at h
      rw [if_neg (Ne.symm hid)]
      exact R.st.dom id g' h
  · intro id o' h b hb
    simp only [mkObj, look_cons] at h
    by_cases hid : σ.next = id
    · subst hid
      rw [hfpn] at hb
      exact (hF b hb).2.2
    · rw [if_neg hid] at h
      rw [hfp _ (Ne.symm hid)] at hb
      have := R.st.fp id o' h b hb
      exact ⟨by omega, this.2⟩
  · intro b hb
    have := R.st.rolt b hb
    omega

theorem src_flat {F : FP} {n sz : Nat} {f : Nat → List DV} {u : Value} {z : Nat} (h : RoT w F u (.l z n f)) (hs : 0 < sz) (hf : std.FlatRows n f sz) :
    ∃ new, Src P w sz n f u new (fun _ _ _ => False) := by
  simp only [std] at hf
  cases h with
  | nl z A cap g =>
    refine ⟨[], ⟨rfl, ?_, by simp, rfl, fun i hi => absurd hi (Nat.not_lt_zero i), fun i j d hi => absurd hi (Nat.not_lt_zero i), fun i j i' j' x hx => hx.elim⟩⟩
    intro w1 hw1
    cases A with
    | none => simp [Builtin.firstCells]
    | some ad =>
      have := run_loadCells_list (P := P) w1 ad [] (by simp)
      simpa [Builtin.firstCells] using this
  | bl z b off n cap sz' g cs t fr vs hF hb hn hsz hv hd =>
    rcases Nat.eq_zero_or_pos n with h0 | h0
    · subst h0
      refine ⟨[], ⟨rfl, ?_, by simp, rfl, fun i hi => absurd hi (Nat.not_lt_zero i), fun i j d hi => absurd hi (Nat.not_lt_zero i), fun i j i' j' x hx => hx.elim⟩⟩
      intro w1 hw1
      have := run_loadCells_list (P := P) w1 ⟨b, off, none⟩ [] (by simp)
      simpa [Builtin.firstCells] using this
    · have hse : sz' = sz := by rw [← hsz 0 h0]; exact (hf 0 h0).1
      subst hse
      let new := (List.range (n * sz')).map fun q => vs (q / sz') (q % sz')
      have hnew : ∀ i j, i < n → j < sz' → new[i * sz' + j]? = some (vs i j) := by
        intro i j hi hj
        have hlt : i * sz' + j < n * sz' := by
          have : i * sz' + sz' ≤ n * sz' := by rw [← Nat.succ_mul]; exact Nat.mul_le_mul_right _ hi
          omega
        simp only [new, List.getElem?_map, List.getElem?_range hlt, Option.map_some, (divmod hj).1, (divmod hj).2]
      have hrow : ∀ i j, i < n → j < sz' → ∃ d, (f i)[j]? = some d := fun i j hi hj => ⟨_, List.getElem?_eq_getElem (by rw [hsz i hi]; exact hj)⟩
      refine ⟨new, ⟨rfl, ?_, by simp [new], ?_, hsz, ?_, fun i j i' j' x hx => hx.elim⟩⟩
      · intro w1 hw1
        have hl := run_loadCells_list (P := P) w1 ⟨b, off, none⟩ new (by
          intro q v hq
          have hq' : q < n * sz' := by have := (List.getElem?_eq_some_iff.mp hq).1; simpa [new] using this
          have hqi : q / sz' < n := (Nat.div_lt_iff_lt_mul hs).mpr hq'
          have hqj : q % sz' < sz' := Nat.mod_lt _ hs
          have hqe : q / sz' * sz' + q % sz' = q := Nat.div_add_mod' q sz'
          obtain ⟨d, hd'⟩ := hrow _ _ hqi hqj
          have h1 := hv _ _ d hqi hd'
          have h2 := hnew _ _ hqi hqj
          rw [hqe, hq] at h2
          cases h2
          rw [add_at, cell_heap hw1, cell_at hb, ← h1]
          congr 1
          omega)
        have hlen : new.length = n * sz' := by simp [new]
        rw [hlen] at hl
        simpa [Builtin.firstCells] using hl
      · rw [List.all_eq_true]
        intro v hv'
        obtain ⟨q, hq⟩ := List.mem_iff_getElem?.mp hv'
        have hq' : q < n * sz' := by have := (List.getElem?_eq_some_iff.mp hq).1; simpa [new] using this
        have hqi : q / sz' < n := (Nat.div_lt_iff_lt_mul hs).mpr hq'
        have hqj : q % sz' < sz' := Nat.mod_lt _ hs
        have hqe : q / sz' * sz' + q % sz' = q := Nat.div_add_mod' q sz'
        obtain ⟨d, hd'⟩ := hrow _ _ hqi hqj
        have h2 := hnew _ _ hqi hqj
        rw [hqe, hq] at h2
        cases h2
        exact (hd _ _ d hqi hd').one
      · intro i j d hi hj
        have hjlt : j < sz' := by rw [← hsz i hi]; exact (List.getElem?_eq_some_iff.mp hj).1
        refine ⟨_, hnew i j hi hjlt, ?_⟩
        obtain ⟨v, hv'⟩ := (hf i hi).2 d (List.mem_of_getElem? hj)
        subst hv'
        obtain ⟨e, h1⟩ := (hd i j _ hi hj).s_inv
        rw [e] at h1 ⊢
        exact .s _ _ h1


theorem src_own {F : FP} {n sz : Nat} {f : Nat → List DV} {u : Value} (h : OwnT w F u (.l sz n f)) : ∃ new G, Src P w sz n f u new G ∧ ∀ i j x, G i j x → F x := by
  have empty : ∀ (A : Option Addr), ∃ new G, Src P w sz 0 f (.slice A 0 0) new G ∧ ∀ i j x, G i j x → F x := by
    intro A
    refine ⟨[], fun _ _ _ => False, ⟨rfl, ?_, by simp, rfl, fun i hi => absurd hi (Nat.not_lt_zero i), fun i j d hi => absurd hi (Nat.not_lt_zero i), fun i j i' j' x hx => hx.elim⟩, fun i j x hx => hx.elim⟩
    intro w1 hw1
    cases A with
    | none => simp [Builtin.firstCells]
    | some ad =>
      have := run_loadCells_list (P := P) w1 ad [] (by simp)
      simpa [Builtin.firstCells] using this
  cases h with
  | nl => exact empty _
  | bl _ b off n cap sz g cs t fr vs G hF hs hb hu hn htot hsz hG hGd hv hd =>
      let new := (List.range (n * sz)).map fun q => vs (q / sz) (q % sz)
      have hnew : ∀ i j, i < n → j < sz → new[i * sz + j]? = some (vs i j) := by
        intro i j hi hj
        have hlt : i * sz + j < n * sz := by
          have : i * sz + sz ≤ n * sz := by rw [← Nat.succ_mul]; exact Nat.mul_le_mul_right _ hi
          omega
        simp only [new, List.getElem?_map, List.getElem?_range hlt, Option.map_some, (divmod hj).1, (divmod hj).2]
      have hrow : ∀ i j, i < n → j < sz → ∃ d, (f i)[j]? = some d := fun i j hi hj => ⟨_, List.getElem?_eq_getElem (by rw [hsz i hi]; exact hj)⟩
      have hq : ∀ q v, new[q]? = some v → q / sz < n ∧ q % sz < sz ∧ q / sz * sz + q % sz = q ∧ v = vs (q / sz) (q % sz) := by
        intro q v hq
        have hq' : q < n * sz := by have := (List.getElem?_eq_some_iff.mp hq).1; simpa [new] using this
        have hqi : q / sz < n := (Nat.div_lt_iff_lt_mul hs).mpr hq'
        have hqj : q % sz < sz := Nat.mod_lt _ hs
        have hqe : q / sz * sz + q % sz = q := Nat.div_add_mod' q sz
        refine ⟨hqi, hqj, hqe, ?_⟩
        have h2 := hnew _ _ hqi hqj
        rw [hqe, hq] at h2
        exact Option.some.inj h2
      refine ⟨new, fun i j x => i < n ∧ j < sz ∧ G i j x, ⟨rfl, ?_, by simp [new], ?_, hsz, ?_, fun i j i' j' x h1 h2 => hGd _ _ _ _ x h1.2.2 h2.2.2⟩, fun i j x hx => (hG i j x hx.2.2).1⟩
      · intro w1 hw1
        have hl := run_loadCells_list (P := P) w1 ⟨b, off, none⟩ new (by
          intro q v hqv
          obtain ⟨hqi, hqj, hqe, rfl⟩ := hq q v hqv
          obtain ⟨d, hd'⟩ := hrow _ _ hqi hqj
          have h1 := hv _ _ d hqi hd'
          rw [add_at, cell_heap hw1, cell_at hb, ← h1]
          congr 1
          omega)
        have hlen : new.length = n * sz := by simp [new]
        rw [hlen] at hl
        simpa [Builtin.firstCells] using hl
      · rw [List.all_eq_true]
        intro v hv'
        obtain ⟨q, hqv⟩ := List.mem_iff_getElem?.mp hv'
        obtain ⟨hqi, hqj, hqe, rfl⟩ := hq q v hqv
        obtain ⟨d, hd'⟩ := hrow _ _ hqi hqj
        exact (hd _ _ d hqi hd').one
      · intro i j d hi hj
        have hjlt : j < sz := by rw [← hsz i hi]; exact (List.getElem?_eq_some_iff.mp hj).1
        exact ⟨_, hnew i j hi hjlt, (hd i j d hi hj).mono (fun x hx => ⟨hi, hjlt, hx⟩) (Ext.refl _ _)⟩

theorem see_sound (R : RelS w0 mine γ σ.store σ.next w) {l : Leaf} {u : Value} (hl : RLeaf γ w l u) : RLeaf γ w (see std σ.store l) u := by
  have un : RLeaf γ w .un u := ⟨hl.1, trivial⟩
  cases l <;> simp only [see] <;> try exact hl
  case q id i j v n =>
    split
    · rename_i sz m F ho
      split
      · rename_i sz' n' f hd
        rw [nthO_getElem?] at hd
        obtain ⟨c, hc, hw⟩ := hl.2
        obtain ⟨G, hG, hGs⟩ := at_own R ho hc hd
        obtain ⟨g, b, _, _, _, hg, _⟩ := hc
        have hro : RoT w (γ.fp id) c (.l sz' n' f) := hG.ro.mono hGs (Ext.refl _ _)
        cases v with
        | none =>
          obtain ⟨rfl, A, cap, he, hn, _⟩ := hw
          have : n' = n := by
            rw [he] at hro
            cases hro <;> rfl
          subst this
          exact ⟨hl.1, ⟨g, hg⟩, hro.resz 0⟩
        | some ov =>
          obtain ⟨off, sz⟩ := ov
          dsimp only
          split
          · rename_i hz
            have hz := Nat.eq_of_beq_eq_true hz
            subst hz
            refine ⟨hl.1, ⟨g, hg⟩, ?_⟩
            rw [shF_std]
            rcases hw with ⟨rfl, A, cap, he⟩ | ⟨b2, o2, N, cap, cap', h1, h2, h3, h4⟩
            · rw [he]; exact .nl _ _ _ _
            · rw [h1] at hro
              rw [h2]
              cases hro with
              | nl => have : n = 0 := by omega
                      subst this
                      exact .nl _ _ _ _
              | bl z bb off' nn cc sz2 g2 cs t fr vs hF hb hn hsz hv hd' =>
                refine .bl _ b2 _ n cap' sz2 _ cs t fr (fun i j => vs (off + i) j) hF hb h3 (fun i hi => hsz _ (by omega)) (fun i j d hi hj => ?_) (fun i j d hi hj => hd' _ j d (by omega) hj)
                have hs2 : sz' = sz2 := by
                  have h5 := hsz (off + i) (by omega)
                  cases hG with
                  | nl => omega
                  | bl _ _ _ _ _ _ _ _ _ _ _ _ _ _ _ _ _ _ hsz3 => rw [← hsz3 (off + i) (by omega), h5]
                subst hs2
                rw [show o2 + off * sz' + i * sz' + j = o2 + (off + i) * sz' + j by rw [Nat.add_mul]; omega]
                exact hv _ j d (by omega) hj
          · exact un
      · exact un
    · exact un

theorem rowsIn_sound (R : Rel w0 mine γ σ a w) {fl : Bool} {sz : Nat} (hs : 0 < sz) {x : V} {u : Value} (hx : RV γ w x u) {K : Nat → (Nat → List DV) → St → (Leaf → Leaf) → Prop} (h : rowsIn std fl sz σ x K) :
    ∃ m g σ1 hf γ1 new G, K m g σ1 hf ∧ Took w0 mine a w γ σ (fun l => l) (fun x => ∃ i j, G i j x) γ1 σ1 hf ∧ Src P w sz m g u new G := by
  have copy : ∀ {n : Nat} {f : Nat → List DV} {z : Nat} {F : FP}, RoT w F u (.l z n f) → std.FlatRows n f sz → K n f σ (fun l => l) →
      ∃ m g σ1 hf γ1 new G, K m g σ1 hf ∧ Took w0 mine a w γ σ (fun l => l) (fun x => ∃ i j, G i j x) γ1 σ1 hf ∧ Src P w sz m g u new G := by
    intro n f z F hr hf hk
    obtain ⟨new, hn⟩ := src_flat (P := P) hr hs hf
    exact ⟨n, f, σ, _, γ, new, _, hk, (Took.refl R _).mono (fun b ⟨_, _, hb⟩ => hb), hn⟩
  have moved : ∀ {l : Leaf} {sz' n : Nat} {f : Nat → List DV} {σ' : St} {hf : Leaf → Leaf}, RLeaf γ w l u → takeC std σ l = some (.l sz' n f, σ', hf) → sz' = sz → K n f σ' hf →
      ∃ m g σ1 hf γ1 new G, K m g σ1 hf ∧ Took w0 mine a w γ σ (fun l => l) (fun x => ∃ i j, G i j x) γ1 σ1 hf ∧ Src P w sz m g u new G := by
    intro l sz' n f σ' hf hl ht he hk
    subst he
    obtain ⟨γ1, F, T, o⟩ := takeC_sound R hl ht
    obtain ⟨new, G, hS, hG⟩ := src_own (P := P) o
    exact ⟨n, f, σ', hf, γ1, new, G, hk, T.mono (fun b ⟨i, j, hb⟩ => hG i j b hb), hS⟩
  have plain : ∀ {l : Leaf}, RLeaf γ w l u → (match see std σ.store l with
      | .nil => K 0 (fun _ => []) σ (fun l => l)
      | .r n f => std.FlatRows n f sz ∧ K n f σ (fun l => l)
      | .sn _ n f => std.FlatRows n f sz ∧ K n f σ (fun l => l)
      | .s (.string s) => need (Nat.beq sz 1) (K (std.lenS s) (fun i => [.s (.int .u8 (std.byteS s i))]) σ (fun l => l))
      | _ => False) → ∃ m g σ1 hf γ1 new G, K m g σ1 hf ∧ Took w0 mine a w γ σ (fun l => l) (fun x => ∃ i j, G i j x) γ1 σ1 hf ∧ Src P w sz m g u new G := by
    intro l hl h
    have hl := see_sound R.st hl
    revert hl h
    generalize see std σ.store l = l'
    intro h hl
    split at h
    · have hu : u = .slice none 0 0 := hl.2
      exact copy (z := 0) (F := fun _ => False) (by rw [hu]; exact .nl _ _ _ _) (fun i hi => absurd hi (Nat.not_lt_zero i)) h
    · exact copy hl.2 h.1 h.2
    · exact copy hl.2.2 h.1 h.2
    · rename_i s
      have hu : u = .string s := hl.2
      subst hu
      have hsz : sz = 1 := Nat.eq_of_beq_eq_true h.1
      subst hsz
      refine ⟨s.size, _, σ, _, γ, s.data.toList.map fun b => .int .u8 b.toNat, fun _ _ _ => False, h.2, (Took.refl R _).mono (fun b ⟨_, _, hb⟩ => hb), rfl, ?_, by simp, ?_, fun i hi => rfl, ?_, fun i j i' j' x hx => hx.elim⟩
      · intro w1 hw1
        simp only [Builtin.firstCells, Sem.run_pure]
        congr 1
        apply Array.ext'
        have : s.extract 0 s.size = s := by simp
        rw [this]
        simp
      · rw [List.all_eq_true]
        intro v hv
        obtain ⟨b, _, rfl⟩ := List.mem_map.mp hv
        rfl
      · intro i j d hi hj
        cases j with
        | succ j => simp at hj
        | zero =>
          simp at hj; subst hj
          have hi' : i < s.data.toList.length := by simpa using hi
          refine ⟨.int .u8 (std.byteS s i), ?_, .s _ _ rfl⟩
          simp only [Nat.mul_one, Nat.add_zero, List.getElem?_map, List.getElem?_eq_getElem hi', Option.map_some, std]
          rw [List.getD_eq_getElem?_getD, List.getElem?_eq_getElem hi']
          rfl
    · exact h.elim
  unfold rowsIn at h
  split at h
  · split at h
    · rename_i id off len
      split at h
      · rename_i z n f hst
        obtain ⟨γ1, F, T, o⟩ := takeC_sound R (l := .o id off len) (d := .l z len (shF std off f)) (σ' := forget1 σ id) (hf := killA id) hx (by simp [takeC, hst])
        exact copy o.ro h.1 h.2
      · split at h
        · rename_i sz' n f σ' hf ht
          exact moved (l := .o id off len) hx ht (Nat.eq_of_beq_eq_true h.1) h.2
        · exact h.elim
      · rename_i cs hst
        split at h
        · obtain ⟨hlen, h⟩ := h
          have hlen := Nat.eq_of_beq_eq_true hlen
          split at h
          · rename_i ds σ' hf ht
            obtain ⟨g1, A, cap, hg, hu, hle, hgn, htot, had⟩ := hx.2
            obtain ⟨b, hb, hA⟩ := had (by omega)
            subst hA
            obtain ⟨g1', hg', b', cur, et, fr, hb', hfp, hh, hun, hbase, htot', hsz', hgz, hcells⟩ := R.st.objs id _ hst
            rw [hg] at hg'; cases hg'
            rw [hb] at hb'; cases hb'
            have T0 := took_drop R hst
            obtain ⟨γ1, Gn, T1, hdl, hGnd, hvn⟩ := takeCs_sound cs cur.toList (forget1 σ id) (γ.del id) (killA id) ds σ' hf T0.R hcells.1 (fun j l hj => let ⟨u, hu, hl⟩ := hcells.2 j l hj; ⟨u, hu, T0.leaf l u hl⟩) ht
            have hcl : cur.toList.length = sz := by rw [hcells.1, hlen]
            have hu' : u = .slice (some ⟨b, 0, none⟩) 1 cap := by rw [hu, hbase]; simp
            refine ⟨1, _, σ', hf, γ1, cur.toList, fun i j => if i = 0 then Gn j else fun _ => False, h, (T0.trans T1).mono (fun b hb => ?_), by rw [hu']; rfl, ?_, by rw [hcl, Nat.one_mul], ?_, fun i hi => by rw [hdl, hlen], ?_, ?_⟩
            · obtain ⟨i, j, hb⟩ := hb
              split at hb
              · exact .inr ⟨j, hb⟩
              · exact hb.elim
            · intro w1 hw1
              have := run_loadCells_list (P := P) w1 ⟨b, 0, none⟩ cur.toList (fun q v hq => by rw [add_at, cell_heap hw1, cell_at hh, Nat.zero_add]; simpa using hq)
              rw [hcl] at this
              rw [hu']
              simpa [Builtin.firstCells] using this
            · rw [List.all_eq_true]
              intro v hv
              obtain ⟨q, hq⟩ := List.mem_iff_getElem?.mp hv
              have hqlt : q < cs.length := by rw [← hcells.1]; exact (List.getElem?_eq_some_iff.mp hq).1
              obtain ⟨v', hv', hl⟩ := hcells.2 q _ (List.getElem?_eq_getElem hqlt)
              rw [hq] at hv'; cases hv'
              exact hl.1
            · intro i j d hi hj
              have hi0 : i = 0 := by omega
              subst hi0
              obtain ⟨v, hv, ho⟩ := hvn j d hj
              exact ⟨v, by simpa using hv, by simpa using ho⟩
            · intro i j i' j' x hx hx'
              split at hx
              · split at hx'
                · exact ⟨by omega, hGnd _ _ x hx hx'⟩
                · exact hx'.elim
              · exact hx.elim
          · exact h.elim
        · exact h.elim
      · exact h.elim
    · split at h
      · rename_i sz' n f σ' hf ht
        exact moved hx ht (Nat.eq_of_beq_eq_true h.1) h.2
      · exact h.elim
    · exact plain hx h
  · exact h.elim

/-- An owned slice becomes an object. -/
theorem inst_deep (R : Rel w0 mine γ σ a w) {sz sz' n : Nat} {f : Nat → List DV} {u : Value} {F : FP} (h : OwnT w F u (.l sz n f)) (hz : sz' = sz ∨ sz = 0) (hF : Free w0 mine γ σ.store w F) :
    ∃ γ', Rel w0 mine γ' (mkObj σ (.deep sz' n f)) a w ∧ RLeaf γ' w (.o σ.next 0 n) u ∧ (∀ l u, RLeaf γ w l u → RLeaf γ' w l u) ∧ ∀ H : FP, Free w0 mine γ σ.store w H → (∀ x, H x → ¬ F x) → Free w0 mine γ' (mkObj σ (.deep sz' n f)).store w H := by
  have key : ∀ (g : G1), RObj (γ.add σ.next g F) w σ.next g (.deep sz' n f) → RLeaf (γ.add σ.next g F) w (.o σ.next 0 n) u →
      ∃ γ', Rel w0 mine γ' (mkObj σ (.deep sz' n f)) a w ∧ RLeaf γ' w (.o σ.next 0 n) u ∧ (∀ l u, RLeaf γ w l u → RLeaf γ' w l u) ∧ ∀ H : FP, Free w0 mine γ σ.store w H → (∀ x, H x → ¬ F x) → Free w0 mine γ' (mkObj σ (.deep sz' n f)).store w H := by
    intro g ho hl
    have S := step_add (w := w) (w' := w) R.st.lt g F (fun b o h => h)
    refine ⟨γ.add σ.next g F, R.fresh2 (fun b o h => h) R.st.keep (Nat.le_refl _) g F _ ho hF, hl, fun l u hl => hl.step S ⟨by simp, by simp, by simp⟩, fun H hH hd b hb => ?_⟩
    obtain ⟨h1, h2, h3⟩ := hH b hb
    refine ⟨fun i oi hi => ?_, h2, h3⟩
    simp only [mkObj, look_cons] at hi
    simp only [Ghost.add]
    by_cases he : σ.next = i
    · rw [if_pos he.symm]; exact hd b hb
    · rw [if_neg he] at hi
      rw [if_neg (Ne.symm he)]
      exact h1 i oi hi
  cases h with
  | nl _ _ A _ => exact key ⟨none, 0, sz', 0, 0⟩ ⟨rfl, rfl, rfl⟩ ⟨rfl, ⟨none, 0, sz', 0, 0⟩, A, 0, by simp [Ghost.add], rfl, Nat.le_refl _, by simp, by simp, fun h => absurd h (Nat.lt_irrefl 0)⟩
  | bl _ b off _ cap _ _ cs t fr vs G hFb hs hb hu hn htot hsz hG hGd hv hd =>
    have hz' : sz' = sz := by omega
    subst hz'
    refine key ⟨some b, off, sz', cap * sz', n⟩ ⟨rfl, rfl, hs, cs, t, fr, vs, G, by simp [Ghost.add, hFb], hb, hu, htot, Nat.mul_le_mul_right _ hn, hsz, fun i j x hx => by simpa [Ghost.add] using hG i j x hx, hGd, fun i j d hi hj => ⟨hv i j d hi hj, hd i j d hi hj⟩⟩
      ⟨rfl, ⟨some b, off, sz', cap * sz', n⟩, _, cap, by simp [Ghost.add], rfl, hn, by simp, by simp, fun _ => ⟨b, rfl, by simp⟩⟩

theorem onto_sound (R : Rel w0 mine γ σ a w) {sz : Nat} {s : V} {u : Value} (hs : RV γ w s u) {K : Leaf → St → Prop} (h : ontoP std sz σ s K) :
    ∃ l σ' γ', K l σ' ∧ Rel w0 mine γ' σ' a w ∧ RLeaf γ' w l u ∧ ∀ H : FP, Free w0 mine γ σ.store w H → Free w0 mine γ' σ'.store w H := by
  unfold ontoP at h
  split at h
  · exact ⟨_, σ, γ, h, R, hs, fun H hH => hH⟩
  · rename_i id off len
    split at h
    · rename_i l t ho
      split at h
      · rename_i ds hds
        obtain ⟨g, A, cap, hg, hu, hle, hgn, htot, had⟩ := hs.2
        obtain ⟨b, hb, hA⟩ := had (by omega)
        obtain ⟨g', hg', b', cur, et, fr, hb', hfp, hh, hun, hbase, hct, hcs, hgz, hrc⟩ := R.st.objs id _ ho
        rw [hg] at hg'; cases hg'
        rw [hb] at hb'; cases hb'
        obtain ⟨hdl, hdv⟩ := flatCs_sound hrc hds
        have hgz' : g.sz = (l :: t).length := by
          rcases hgz.1 with h0 | h0
          · rw [h0, hct] at htot; simp at htot
          · exact h0
        have S := step_write (w' := w) R.st (g' := g) (fun _ => False) (fun i => i = id) ho hg (γ.fp id) (fun _ => rfl) (fun h => absurd rfl h) (fun b x _ hx => hx)
        have R' := R.write (o' := .deep (l :: t).length 1 (fun _ => ds)) (g' := g) (F := γ.fp id) (w' := w) (fun _ => False) (fun i => i = id) (killQ id) (kills_Q id) ho hg (fun _ => rfl) (fun h => absurd rfl h)
          (fun x hx => ⟨.inl hx, R.st.fp id _ ho x hx⟩) (fun b x _ hx => hx) (Nat.le_refl _) R.st.keep (by
            simp only [mapObj]
            rw [robj_rows hb]
            refine ⟨hgz.2, hgz', by simp, cur, et, fr, fun _ j => cur.toList.getD j undef, fun _ _ _ => False, by simpa [Ghost.grow] using hfp, hh, hun, by rw [hbase, hct, hcs]; simp, by rw [hgz', hct]; simp, fun i hi => by rw [hdl, hgz'], fun i j x hx => hx.elim, fun i j i' j' x hx => hx.elim, ?_⟩
            intro i j d hi hd
            have : i = 0 := by omega
            subst this
            obtain ⟨v, hv, ho'⟩ := hdv j d hd
            rw [hbase]
            simp only [Nat.zero_mul, Nat.zero_add]
            rw [List.getD_eq_getElem?_getD, hv]
            exact ⟨by simpa using hv, ho'⟩)
        refine ⟨_, _, _, h, R', (hs.kill S (kills_Q id) : RLeaf _ _ (killQ id (.o id 0 1)) u), fun H hH x hx => ?_⟩
        obtain ⟨h1, h2, h3⟩ := hH x hx
        refine ⟨fun i oi hi hf => ?_, h2, h3⟩
        simp only [mapSt, putObj, look_map, look_put, ho] at hi
        simp only [Ghost.grow] at hf
        by_cases e : i = id
        · rw [if_pos e] at hf; exact h1 id _ ho hf
        · rw [if_neg e] at hf
          simp only [e, false_and, if_false, Option.map_eq_some_iff] at hi
          obtain ⟨o', h4, _⟩ := hi
          exact h1 i o' h4 hf
      · exact h.elim
    · exact ⟨_, σ, γ, h, R, hs, fun H hH => hH⟩
  · rename_i id i j n
    split at h
    · rename_i sz' n' f σ1 hf ht
      obtain ⟨γ1, F, T, o⟩ := takeC_sound R (l := .q id i j none n) hs ht
      obtain ⟨γ2, R2, l2, _, hfree⟩ := inst_deep (sz' := fixSz sz sz') T.R o (by cases sz' <;> simp [fixSz]) T.free
      exact ⟨_, _, γ2, h, R2, l2, fun H hH => hfree H (T.keep H hH).1 (T.keep H hH).2⟩
    · exact h.elim
  · exact h.elim
end
end Go.AW
