/- The abstract calculus, part 1: deep data, the abstract state, how it lies in the machine's world. -/
import Derived.Calls
import Derived.WalkKit
import Derived.Below
set_option linter.unusedSimpArgs false
set_option linter.unusedVariables false
namespace Go.AW

/-- Deep data: a scalar, or a slice by its length and its rows (a row: the cells of one element). -/
inductive DV where
  | s (v : Value)
  | l (sz n : Nat) (f : Nat → List DV)
  | x

abbrev FP := Nat → Prop

/-- What a temporary or a cell of a local variable holds. -/
inductive Leaf where
  | s (v : Value)
  | nil
  | r (n : Nat) (f : Nat → List DV)
  | sn (id n : Nat) (f : Nat → List DV)
  | o (id off len : Nat)
  | q (id i j : Nat) (v : Option (Nat × Nat)) (n : Nat)
  | p (id j : Nat)
  | pr (id i j : Nat)
  | qp (id i j k l sz : Nat)
  | m (id : Nat)
  | rp (row : List DV)
  | sp (id : Nat) (row : List DV)
  | fn (f : Nat) (caps : List (Nat × Nat))
  | fr (f : Nat) (rows : List (List DV))
  | un

inductive V1 where
  | lf (l : Leaf)
  | ag (cs : List Leaf)
inductive V where
  | one (v : V1)
  | tup (vs : List V1)
  | bad

inductive Obj where
  | deep (sz n : Nat) (f : Nat → List DV)
  | lent (sz n : Nat)
  | lentV (n : Nat)
  | it (s : ByteArray) (pos : Nat)
  | mp (es : List (Value × Leaf))
  | vars (cells : List Leaf)

structure St where
  slots : List V
  store : List (Nat × Obj)
  next : Nat

def getN {α : Type} (d : α) : List α → Nat → α
  | [], _ => d
  | a :: _, 0 => a
  | _ :: l, n + 1 => getN d l n
def setN {α : Type} : List α → Nat → α → List α
  | [], _, _ => []
  | _ :: l, 0, v => v :: l
  | a :: l, n + 1, v => a :: setN l n v
def look {α : Type} : List (Nat × α) → Nat → Option α
  | [], _ => none
  | (i, o) :: t, j => bif Nat.beq i j then some o else look t j
def put {α : Type} : List (Nat × α) → Nat → α → List (Nat × α)
  | [], _, _ => []
  | (i, o) :: t, j, v => bif Nat.beq i j then (i, v) :: t else (i, o) :: put t j v
def drop {α : Type} : List (Nat × α) → Nat → List (Nat × α)
  | [], _ => []
  | (i, o) :: t, j => bif Nat.beq i j then drop t j else (i, o) :: drop t j

abbrev undefV : V := .tup []

/-! ### How deep data lies in a world -/

/-- Nothing of the first n cells is frozen. -/
def Unfrozen (fr : Nat × Nat) (n : Nat) : Prop := fr.2 ≤ fr.1 ∨ n ≤ fr.1

/-- Read-only: v reads as the datum; every block that is looked at is in F. -/
inductive RoT (w : World) (F : FP) : Value → DV → Prop where
  | x (v : Value) (h1 : v.oneCell' = true) : RoT w F v .x
  | s (v : Value) (h1 : v.oneCell' = true) : RoT w F v (.s v)
  | nl (z : Nat) (a : Option Addr) (cap : Nat) (g : Nat → List DV) : RoT w F (.slice a 0 cap) (.l z 0 g)
  | bl (z b off n cap sz : Nat) (g : Nat → List DV) (cs : Array Value) (t : TypeId) (fr : Nat × Nat) (vs : Nat → Nat → Value) (hF : F b)
      (hb : w.heap[b]? = some (.cells cs t fr)) (hn : n ≤ cap) (hsz : ∀ i, i < n → (g i).length = sz)
      (hv : ∀ i j d, i < n → (g i)[j]? = some d → cs[off + i * sz + j]? = some (vs i j)) (hd : ∀ i j d, i < n → (g i)[j]? = some d → RoT w F (vs i j) d) :
      RoT w F (.slice (some ⟨b, off, none⟩) n cap) (.l z n g)

theorem RoT.resz {w : World} {F : FP} {u : Value} {z n : Nat} {f : Nat → List DV} (h : RoT w F u (.l z n f)) (z' : Nat) : RoT w F u (.l z' n f) := by
  cases h with
  | nl z a cap g => exact .nl _ _ _ _
  | bl z b off n cap sz g cs t fr vs hF hb hn hsz hv hd => exact .bl _ b off n cap sz _ cs t fr vs hF hb hn hsz hv hd

/-- Owned: as above; the blocks are in F, each met once; nothing is frozen. -/
inductive OwnT (w : World) : FP → Value → DV → Prop where
  | x (F : FP) (v : Value) (h1 : v.oneCell' = true) : OwnT w F v .x
  | s (F : FP) (v : Value) (h1 : v.oneCell' = true) : OwnT w F v (.s v)
  | nl (z : Nat) (F : FP) (a : Option Addr) (g : Nat → List DV) : OwnT w F (.slice a 0 0) (.l z 0 g)
  | bl (F : FP) (b off n cap sz : Nat) (g : Nat → List DV) (cs : Array Value) (t : TypeId) (fr : Nat × Nat) (vs : Nat → Nat → Value) (G : Nat → Nat → FP) (hF : F b)
      (hs : 0 < sz) (hb : w.heap[b]? = some (.cells cs t fr)) (hu : Unfrozen fr cs.size) (hn : n ≤ cap) (htot : off + cap * sz ≤ cs.size) (hsz : ∀ i, i < n → (g i).length = sz)
      (hG : ∀ i j x, G i j x → F x ∧ x ≠ b) (hGd : ∀ i j i' j' x, G i j x → G i' j' x → i = i' ∧ j = j')
      (hv : ∀ i j d, i < n → (g i)[j]? = some d → cs[off + i * sz + j]? = some (vs i j)) (hd : ∀ i j d, i < n → (g i)[j]? = some d → OwnT w (G i j) (vs i j) d) :
      OwnT w F (.slice (some ⟨b, off, none⟩) n cap) (.l sz n g)

/-- What lay in F lies there still. -/
def Ext (F : FP) (w w' : World) : Prop := ∀ b o, F b → w.heap[b]? = some o → w'.heap[b]? = some o
theorem Ext.refl (F : FP) (w : World) : Ext F w w := fun _ _ _ h => h
theorem Ext.sub {F F' : FP} {w w' : World} (h : Ext F' w w') (hF : ∀ b, F b → F' b) : Ext F w w' := fun b o hb => h b o (hF b hb)
theorem Ext.trans {F : FP} {w w' w'' : World} (h : Ext F w w') (h' : Ext F w' w'') : Ext F w w'' := fun b o hb ho => h' b o hb (h b o hb ho)

theorem RoT.mono {w w' : World} {F F' : FP} {v : Value} {d : DV} (h : RoT w F v d) (hF : ∀ b, F b → F' b) (hw : Ext F w w') : RoT w' F' v d := by
  induction h with
  | x v h1 => exact .x _ h1
  | s v h1 => exact .s _ h1
  | nl z a cap g => exact .nl _ _ _ _
  | bl z b off n cap sz g cs t fr vs hb0 hb hn hsz hv hd ih =>
    exact .bl z b off n cap sz g cs t fr vs (hF b hb0) (hw b _ hb0 hb) hn hsz hv fun i j d hi hj => ih i j d hi hj

theorem OwnT.mono {w w' : World} {F F' : FP} {v : Value} {d : DV} (h : OwnT w F v d) (hF : ∀ b, F b → F' b) (hw : Ext F w w') : OwnT w' F' v d := by
  induction h generalizing F' with
  | x F v h1 => exact .x _ _ h1
  | s F v h1 => exact .s _ _ h1
  | nl z F a g => exact .nl _ _ _ _
  | bl F b off n cap sz g cs t fr vs G hb0 hs hb hu hn htot hsz hG hGd hv hd ih =>
    exact .bl _ b off n cap sz g cs t fr vs G (hF b hb0) hs (hw b _ hb0 hb) hu hn htot hsz (fun i j x hx => ⟨hF x (hG i j x hx).1, (hG i j x hx).2⟩) hGd hv
      fun i j d hi hj => ih i j d hi hj (fun b hb => hb) (hw.sub fun b hb => (hG i j b hb).1)

theorem OwnT.ro {w : World} {F : FP} {v : Value} {d : DV} (h : OwnT w F v d) : RoT w F v d := by
  induction h with
  | x F v h1 => exact .x _ h1
  | s F v h1 => exact .s _ h1
  | nl z F a g => exact .nl _ _ _ _
  | bl F b off n cap sz g cs t fr vs G hb0 hs hb hu hn htot hsz hG hGd hv hd ih =>
    exact .bl sz b off n cap sz g cs t fr vs hb0 hb hn hsz hv fun i j d hi hj => (ih i j d hi hj).mono (fun x hx => (hG i j x hx).1) (Ext.refl _ _)

/-! ### The ghost, and the relation of an abstract state to the machine's -/

/-- Where an object lies: its block (none: a nil slice), its first cell, the cells of a row, all cells that are its own behind the first. -/
structure G1 where
  blk : Option Nat
  base : Nat
  sz : Nat
  tot : Nat
  n : Nat

structure Ghost where
  g : Nat → Option G1
  fp : Nat → FP
  ro : FP

/-- A pointer's value at a row: b, off; the row's cells are read-only in F. -/
def RRow (w : World) (F : FP) (v : Value) (row : List DV) : Prop :=
  ∃ b off cs t fr, v = .pointer (some ⟨b, off, none⟩) ∧ F b ∧ w.heap[b]? = some (.cells cs t fr) ∧ ∀ j d, row[j]? = some d → ∃ u, cs[off + j]? = some u ∧ RoT w F u d

/-- What lies in cell j of row i of an object. -/
def AtCell (γ : Ghost) (w : World) (id i j : Nat) (c : Value) : Prop :=
  ∃ g b cs t fr, γ.g id = some g ∧ g.blk = some b ∧ i < g.n ∧ γ.fp id b ∧ w.heap[b]? = some (.cells cs t fr) ∧ cs[g.base + i * g.sz + j]? = some c
def ViewOf (v : Option (Nat × Nat)) (n : Nat) (c u : Value) : Prop :=
  match v with
  | none => u = c ∧ ∃ A cap, c = .slice A n cap ∧ n ≤ cap ∧ (0 < n → ∃ b o, A = some ⟨b, o, none⟩)
  | some (off, sz) => (n = 0 ∧ ∃ A cap, u = .slice A 0 cap) ∨ ∃ b o N cap cap', c = .slice (some ⟨b, o, none⟩) N cap ∧ u = .slice (some ⟨b, o + off * sz, none⟩) n cap' ∧ n ≤ cap' ∧ off + n ≤ N

def RLeafC (γ : Ghost) (w : World) : Leaf → Value → Prop
  | .s v, u => u = v
  | .nil, u => u = .slice none 0 0
  | .r n f, u => RoT w γ.ro u (.l 0 n f)
  | .sn id n f, u => (∃ g, γ.g id = some g) ∧ RoT w (γ.fp id) u (.l 0 n f)
  | .o id off len, u => ∃ g a cap, γ.g id = some g ∧ u = .slice a len cap ∧ len ≤ cap ∧ off + len ≤ g.n ∧ (off + cap) * g.sz = g.tot ∧
      (0 < cap → ∃ b, g.blk = some b ∧ a = some ⟨b, g.base + off * g.sz, none⟩)
  | .q id i j v n, u => ∃ c, AtCell γ w id i j c ∧ ViewOf v n c u
  | .p id j, u => ∃ g b, γ.g id = some g ∧ g.blk = some b ∧ u = .pointer (some ⟨b, g.base + j, none⟩)
  | .pr id i j, u => ∃ g b, γ.g id = some g ∧ g.blk = some b ∧ i < g.n ∧ u = .pointer (some ⟨b, g.base + i * g.sz + j, none⟩)
  | .qp id i j k l sz, u => ∃ c b o N cap, AtCell γ w id i j c ∧ c = .slice (some ⟨b, o, none⟩) N cap ∧ k < N ∧ u = .pointer (some ⟨b, o + k * sz + l, none⟩)
  | .m id, u => ∃ g b, γ.g id = some g ∧ g.blk = some b ∧ u = .map (some b)
  | .rp row, u => RRow w γ.ro u row
  | .sp id row, u => (∃ g, γ.g id = some g) ∧ RRow w (γ.fp id) u row
  | .fn f caps, u => ∃ vs : List Value, u = .func (.func f) #[] vs.toArray ∧ vs.length = caps.length ∧
      ∀ (k : Nat) (c : Nat × Nat), caps[k]? = some c → ∃ (g : G1) (b : Nat), γ.g c.1 = some g ∧ g.blk = some b ∧ vs[k]? = some (.pointer (some ⟨b, g.base + c.2, none⟩))
  | .fr f rows, u => ∃ vs : List Value, u = .func (.func f) #[] vs.toArray ∧ vs.length = rows.length ∧ ∀ (k : Nat) (row : List DV), rows[k]? = some row → ∃ v, vs[k]? = some v ∧ RRow w γ.ro v row
  | .un, _ => True

def RLeaf (γ : Ghost) (w : World) (l : Leaf) (u : Value) : Prop := u.oneCell' = true ∧ RLeafC γ w l u

def RCells (γ : Ghost) (w : World) (cs : List Leaf) (us : List Value) : Prop :=
  us.length = cs.length ∧ ∀ (j : Nat) (l : Leaf), cs[j]? = some l → ∃ u, us[j]? = some u ∧ RLeaf γ w l u

def RV1 (γ : Ghost) (w : World) : V1 → Value → Prop
  | .lf l, u => RLeaf γ w l u
  | .ag cs, u => ∃ us : List Value, u = .agg us.toArray ∧ RCells γ w cs us

def RV (γ : Ghost) (w : World) : V → Value → Prop
  | .one v, u => RV1 γ w v u
  | .tup vs, u => ∃ us : List Value, u = .tuple us.toArray ∧ us.length = vs.length ∧ ∀ (j : Nat) (l : V1), vs[j]? = some l → ∃ u, us[j]? = some u ∧ RV1 γ w l u
  | .bad, _ => True

def RObj (γ : Ghost) (w : World) (id : Nat) (g : G1) : Obj → Prop
  | .deep sz n f => g.n = n ∧ g.sz = sz ∧ match g.blk with
      | none => n = 0
      | some b => 0 < sz ∧ ∃ cs t fr vs G, γ.fp id b ∧ w.heap[b]? = some (.cells cs t fr) ∧ Unfrozen fr cs.size ∧ g.base + g.tot ≤ cs.size ∧ n * g.sz ≤ g.tot ∧
          (∀ i, i < n → (f i).length = g.sz) ∧ (∀ i j x, (G : Nat → Nat → FP) i j x → γ.fp id x ∧ x ≠ b) ∧ (∀ i j i' j' x, G i j x → G i' j' x → i = i' ∧ j = j') ∧
          ∀ i j d, i < n → (f i)[j]? = some d → cs[g.base + i * g.sz + j]? = some ((vs : Nat → Nat → Value) i j) ∧ OwnT w (G i j) (vs i j) d
  | .lent sz n => g.sz = sz ∧ g.n = n ∧ 0 < sz ∧ (g.blk = none → n = 0) ∧ (g.tot = 0 → n = 0 ∧ match g.blk with
      | none => True
      | some b => ∃ cs t fr, γ.fp id b ∧ w.heap[b]? = some (.cells cs t fr) ∧ Unfrozen fr cs.size ∧ g.base ≤ cs.size)
  | .lentV n => ∃ b, g.blk = some b ∧ g.base = 0 ∧ g.tot = n ∧ (g.sz = 0 ∨ g.sz = n) ∧ g.n = 1
  | .it s pos => ∃ b, g.blk = some b ∧ g.base = 0 ∧ γ.fp id b ∧ w.heap[b]? = some (.stringIter s pos)
  | .mp es => ∃ b ents clock, g.blk = some b ∧ γ.fp id b ∧ w.heap[b]? = some (.map ents clock) ∧ ents.size = es.length ∧ ∀ (k : Nat) (e : Value × Leaf), es[k]? = some e → ∃ en : MapEntry, ents[k]? = some en ∧ en.key = e.1 ∧ RLeaf γ w e.2 en.val
  | .vars cells => ∃ b cs t fr, g.blk = some b ∧ γ.fp id b ∧ w.heap[b]? = some (.cells cs t fr) ∧ Unfrozen fr cs.size ∧ g.base = 0 ∧ g.tot = cells.length ∧ cs.size = cells.length ∧ ((g.sz = 0 ∨ g.sz = cells.length) ∧ g.n = 1) ∧ RCells γ w cells cs.toList

/-- What is kept of the world in which the call began: all but the blocks in 'mine'. -/
structure Keep (w0 : World) (mine : FP) (w : World) : Prop where
  size : w0.heap.size ≤ w.heap.size
  os : w.os = w0.os
  tape : w.tape = w0.tape
  output : w.output = w0.output
  old : ∀ b, b < w0.heap.size → ¬ mine b → w.heap[b]? = w0.heap[b]?

structure RelS (w0 : World) (mine : FP) (γ : Ghost) (st : List (Nat × Obj)) (next : Nat) (w : World) : Prop where
  objs : ∀ id o, look st id = some o → ∃ g, γ.g id = some g ∧ RObj γ w id g o
  disj : ∀ id id' o o', look st id = some o → look st id' = some o' → id ≠ id' → ∀ b, γ.fp id b → ¬ γ.fp id' b
  ro : ∀ id o, look st id = some o → ∀ b, γ.fp id b → ¬ γ.ro b
  lt : ∀ id g, γ.g id = some g → id < next
  dom : ∀ id g, γ.g id = some g → ∃ o, look st id = some o
  fp : ∀ id o, look st id = some o → ∀ b, γ.fp id b → b < w.heap.size ∧ (w0.heap.size ≤ b ∨ mine b)
  rolt : ∀ b, γ.ro b → b < w.heap.size
  keep : Keep w0 mine w

structure Rel (w0 : World) (mine : FP) (γ : Ghost) (σ : St) (a : Act) (w : World) : Prop where
  size : a.tmps.size = σ.slots.length
  slots : ∀ i, RV γ w (getN undefV σ.slots i) (a.tmps.getD i undef)
  st : RelS w0 mine γ σ.store σ.next w

end Go.AW
