/- The abstract calculus, part 27: states compared under a renaming of objects. -/
import Derived.Test.YtfidphaoddenlaaAw26
set_option linter.unusedVariables false
set_option linter.unusedSimpArgs false
namespace Go.AW

/-- Where the new state's objects lie in the old one (none: a nil slice). -/
abbrev Ren := List (Nat × Option Nat)
def renIs (ρ : Ren) (id' id : Nat) : Prop := look ρ id' = some (some id)
def rowsLe (n : Nat) (f f' : Nat → List DV) : Prop := DEq (.l 0 n f) (.l 0 n f')
def capsLe (ρ : Ren) : List (Nat × Nat) → List (Nat × Nat) → Prop
  | [], [] => True
  | c :: l, c' :: l' => renIs ρ c'.1 c.1 ∧ c.2 = c'.2 ∧ capsLe ρ l l'
  | _, _ => False
def lfLe (ρ : Ren) (l l' : Leaf) : Prop :=
  match l', l with
  | .un, _ => True
  | .s v, .s u => u = v
  | .nil, .nil => True
  | .r n f', .r m f => m = n ∧ rowsLe n f f'
  | .r n f', .nil => n = 0
  | .sn id' n f', .sn id m f => renIs ρ id' id ∧ m = n ∧ rowsLe n f f'
  | .o id' off' len', .o id off len => renIs ρ id' id ∧ off = off' ∧ len = len'
  | .o id' off' len', .nil => look ρ id' = some none ∧ off' = 0 ∧ len' = 0
  | .p id' j', .p id j => renIs ρ id' id ∧ j = j'
  | .pr id' i' j', .pr id i j => renIs ρ id' id ∧ i = i' ∧ j = j'
  | .q id' i' j' v' n', .q id i j v n => renIs ρ id' id ∧ i = i' ∧ j = j' ∧ v = v' ∧ n = n'
  | .qp id' i' j' k' l' s', .qp id i j k l s => renIs ρ id' id ∧ i = i' ∧ j = j' ∧ k = k' ∧ l = l' ∧ s = s'
  | .m id', .m id => renIs ρ id' id
  | .rp row', .rp row => row = row'
  | .sp id' row', .sp id row => renIs ρ id' id ∧ row = row'
  | .fn f' caps', .fn f caps => f = f' ∧ capsLe ρ caps caps'
  | .fr f' rows', .fr f rows => f = f' ∧ rows = rows'
  | _, _ => False
def lfsLe (ρ : Ren) : List Leaf → List Leaf → Prop
  | [], [] => True
  | l :: t, l' :: t' => lfLe ρ l l' ∧ lfsLe ρ t t'
  | _, _ => False
def esLe (ρ : Ren) : List (Value × Leaf) → List (Value × Leaf) → Prop
  | [], [] => True
  | e :: t, e' :: t' => e.1 = e'.1 ∧ lfLe ρ e.2 e'.2 ∧ esLe ρ t t'
  | _, _ => False
def v1Le (ρ : Ren) : V1 → V1 → Prop
  | .lf l, .lf l' => lfLe ρ l l'
  | .ag cs, .ag cs' => lfsLe ρ cs cs'
  | _, _ => False
def v1sLe (ρ : Ren) : List V1 → List V1 → Prop
  | [], [] => True
  | l :: t, l' :: t' => v1Le ρ l l' ∧ v1sLe ρ t t'
  | _, _ => False
def vLe (ρ : Ren) (v v' : V) : Prop :=
  match v', v with
  | .bad, _ => True
  | .one v', .one v => v1Le ρ v v'
  | .tup vs', .tup vs => v1sLe ρ vs vs'
  | _, _ => False
def vsLe (ρ : Ren) : List V → List V → Prop
  | [], [] => True
  | l :: t, l' :: t' => vLe ρ l l' ∧ vsLe ρ t t'
  | _, _ => False
def objLe (ρ : Ren) (o o' : Obj) : Prop :=
  match o', o with
  | .deep sz' n' f', .deep sz n f => n = n' ∧ DEq (.l sz n f) (.l sz' n f')
  | .vars cs', .vars cs => lfsLe ρ cs cs'
  | .it s' p', .it s p => s = s' ∧ p = p'
  | .lent a' b', .lent a b => a = a' ∧ b = b'
  | .lentV a', .lentV a => a = a'
  | .mp es', .mp es => esLe ρ es es'
  | _, _ => False
def stLe (ρ : Ren) (st : List (Nat × Obj)) (next' : Nat) : List (Nat × Obj) → Prop
  | [] => True
  | (id', o') :: t => id' < next' ∧ (match look ρ id' with
    | some (some id) => match look st id with
      | some o => objLe ρ o o'
      | none => False
    | some none => match o' with
      | .deep _ n _ => n = 0
      | _ => False
    | none => False) ∧ stLe ρ st next' t
/-- No two new objects are the same old one; only new objects are named. -/
def renOk : Ren → Bool
  | [] => true
  | (_, r) :: t => (match r with | some id => t.all (fun x => match x.2 with | some j => !(Nat.beq j id) | none => true) | none => true) && renOk t
def renIn (st' : List (Nat × Obj)) (ρ : Ren) : Bool := ρ.all fun x => match look st' x.1 with | some _ => true | none => false
def stateLe (ρ : Ren) (σ σ' : St) : Prop := renOk ρ = true ∧ renIn σ'.store ρ = true ∧ stLe ρ σ.store σ'.next σ'.store ∧ vsLe ρ σ.slots σ'.slots

/-! ### The renaming that the states show -/
def lfPairs (l l' : Leaf) : Ren :=
  match l', l with
  | .sn i' _ _, .sn i _ _ => [(i', some i)]
  | .sp i' _, .sp i _ => [(i', some i)]
  | .o i' _ _, .o i _ _ => [(i', some i)]
  | .o i' _ _, .nil => [(i', none)]
  | .q i' _ _ _ _, .q i _ _ _ _ => [(i', some i)]
  | .qp i' _ _ _ _ _, .qp i _ _ _ _ _ => [(i', some i)]
  | .p i' _, .p i _ => [(i', some i)]
  | .pr i' _ _, .pr i _ _ => [(i', some i)]
  | .m i', .m i => [(i', some i)]
  | .fn _ caps', .fn _ caps => go caps caps'
  | _, _ => []
  where
  go : List (Nat × Nat) → List (Nat × Nat) → Ren
  | c :: t, c' :: t' => (c'.1, some c.1) :: go t t'
  | _, _ => []
def lfsPairs : List Leaf → List Leaf → Ren
  | l :: t, l' :: t' => lfPairs l l' ++ lfsPairs t t'
  | _, _ => []
def v1Pairs : V1 → V1 → Ren
  | .lf l, .lf l' => lfPairs l l'
  | .ag cs, .ag cs' => lfsPairs cs cs'
  | _, _ => []
def v1sPairs : List V1 → List V1 → Ren
  | l :: t, l' :: t' => v1Pairs l l' ++ v1sPairs t t'
  | _, _ => []
def vPairs (v v' : V) : Ren :=
  match v', v with
  | .one v', .one v => v1Pairs v v'
  | .tup vs', .tup vs => v1sPairs vs vs'
  | _, _ => []
def vsPairs : List V → List V → Ren
  | l :: t, l' :: t' => vPairs l l' ++ vsPairs t t'
  | _, _ => []
def objPairs (o o' : Option Obj) : Ren :=
  match o', o with
  | some (.vars cs'), some (.vars cs) => lfsPairs cs cs'
  | some (.mp es'), some (.mp es) => lfsPairs (es.map (·.2)) (es'.map (·.2))
  | _, _ => []
def closeR (st st' : List (Nat × Obj)) : Nat → Ren → Ren → Ren
  | 0, _, done => done
  | _ + 1, [], done => done
  | f + 1, (i', r) :: todo, done => match look done i' with
    | some _ => closeR st st' f todo done
    | none => match r with
      | some i => closeR st st' f (objPairs (look st i) (look st' i') ++ todo) ((i', some i) :: done)
      | none => closeR st st' f todo ((i', none) :: done)
def renOf (σ σ' : St) : Ren := closeR σ.store σ'.store 500 (vsPairs σ.slots σ'.slots) []
def stLe' (σ σ' : St) : Prop := stateLe (renOf σ σ') σ σ'

/-! ### What a loop's body turns -/
def assigned : Code → List Nat
  | .region _ ops _ => ops.toList.filterMap (·.dst)
  | .seq a b => assigned a ++ assigned b
  | .cond _ a b => assigned a ++ assigned b
  | .block _ c => assigned c
  | .loop c => assigned c
  | _ => []
def badAll : List Nat → List V → List V
  | [], s => s
  | i :: t, s => badAll t (setN s i .bad)
def setAll : List (Nat × V) → List V → List V
  | [], s => s
  | (i, v) :: t, s => setAll t (setN s i v)
def putAll : List (Nat × Obj) → List (Nat × Obj) → List (Nat × Obj)
  | [], st => st
  | (i, o) :: t, st => putAll t (match look st i with
    | some _ => put st i o
    | none => (i, o) :: st)
def lfIds : Leaf → List Nat
  | .sn i _ _ | .sp i _ | .o i _ _ | .q i _ _ _ _ | .qp i _ _ _ _ _ | .p i _ | .pr i _ _ | .m i => [i]
  | .fn _ caps => caps.map (·.1)
  | _ => []
def v1Ids : V1 → List Nat
  | .lf l => lfIds l
  | .ag cs => cs.flatMap lfIds
def vIds : V → List Nat
  | .one v => v1Ids v
  | .tup vs => vs.flatMap v1Ids
  | .bad => []
def objIds : Option Obj → List Nat
  | some (.vars cs) => cs.flatMap lfIds
  | some (.mp es) => es.flatMap fun e => lfIds e.2
  | _ => []
def reach (st : List (Nat × Obj)) : Nat → List Nat → List Nat → List Nat
  | 0, _, done => done
  | _ + 1, [], done => done
  | f + 1, i :: todo, done => match memN done i with
    | true => reach st f todo done
    | false => reach st f (objIds (look st i) ++ todo) (i :: done)
def gcSt (σ : St) : St := { σ with store := σ.store.filter fun x => memN (reach σ.store 500 (σ.slots.flatMap vIds) []) x.1 }
def maxN (a b : Nat) : Nat := bif Nat.ble a b then b else a
def topId (n : Nat) (st : List (Nat × Obj)) : Nat := st.foldl (fun m x => maxN m (x.1 + 1)) n
/-- The state at a loop's head. -/
def hav (c : Code) (σ : St) (vars : List (Nat × V)) (over : List (Nat × Obj)) : St :=
  gcSt ⟨setAll vars (badAll (assigned c) σ.slots), putAll over σ.store, topId σ.next over⟩
end Go.AW
