/- The abstract calculus, part 23: contracts: what is read, lent, given; what comes back. -/
import Derived.Test.YtfidphaoddenlaaAw22
set_option linter.unusedVariables false
set_option linter.unusedSimpArgs false
namespace Go.AW

/-! ### Arguments and results -/
/-- What is read: a datum in one cell, a struct's cells, a pointer to cells, a closure over cells. -/
inductive DP where
  | c (d : DV)
  | a (ds : List DV)
  | p (row : List DV)
  | fr (f : Nat) (rows : List (List DV))
/-- What is owned: a datum in one cell, a struct's cells, a pointer to a block of cells. -/
inductive DR where
  | c (d : DV)
  | a (ds : List DV)
  | p (ds : List DV)
/-- An argument: read; lent, to come back; given. -/
inductive AM where
  | r (d : DP)
  | o (d : DR)
  | g (d : DR)

def ArgT (w : World) (F : FP) : DP → Value → Prop
  | .c d, u => RoT w F u d
  | .a ds, u => ∃ us : List Value, u = .agg us.toArray ∧ us.length = ds.length ∧ ∀ (j : Nat) (d : DV), ds[j]? = some d → ∃ x, us[j]? = some x ∧ RoT w F x d
  | .p row, u => RRow w F u row
  | .fr f rows, u => ∃ vs : List Value, u = .func (.func f) #[] vs.toArray ∧ vs.length = rows.length ∧ ∀ (k : Nat) (row : List DV), rows[k]? = some row → ∃ v, vs[k]? = some v ∧ RRow w F v row
/-- Cells owned. -/
def OwnC (w : World) (F : FP) (ds : List DV) (us : List Value) : Prop :=
  us.length = ds.length ∧ ∃ G : Nat → FP, (∀ j x, G j x → F x) ∧ (∀ j j' x, G j x → G j' x → j = j') ∧ ∀ (j : Nat) (d : DV), ds[j]? = some d → ∃ x, us[j]? = some x ∧ OwnT w (G j) x d
def OwnR (w : World) (F : FP) : DR → Value → Prop
  | .c d, u => OwnT w F u d
  | .a ds, u => ∃ us : List Value, u = .agg us.toArray ∧ OwnC w F ds us
  | .p ds, u => ∃ b cs t fr, u = .pointer (some ⟨b, 0, none⟩) ∧ F b ∧ w.heap[b]? = some (.cells cs t fr) ∧ Unfrozen fr cs.size ∧ OwnC w (fun x => F x ∧ x ≠ b) ds cs.toList

def DisjL (Fs : List FP) : Prop := Fs.Pairwise fun F G => ∀ x, F x → ¬ G x
def AnyL (Fs : List FP) : FP := fun x => ∃ F, F ∈ Fs ∧ F x
theorem anyL_nil (x : Nat) : ¬ AnyL [] x := fun ⟨F, h, _⟩ => by simp at h
theorem anyL_cons {F : FP} {Fs : List FP} {x : Nat} : AnyL (F :: Fs) x ↔ F x ∨ AnyL Fs x := by
  constructor
  · rintro ⟨G, hG, hx⟩
    rcases List.mem_cons.mp hG with rfl | hG
    · exact .inl hx
    · exact .inr ⟨G, hG, hx⟩
  · rintro (h | ⟨G, hG, hx⟩)
    · exact ⟨F, by simp, h⟩
    · exact ⟨G, by simp [hG], hx⟩
theorem anyL_append {Fs Gs : List FP} {x : Nat} : AnyL (Fs ++ Gs) x ↔ AnyL Fs x ∨ AnyL Gs x := by
  constructor
  · rintro ⟨G, hG, hx⟩
    rcases List.mem_append.mp hG with hG | hG
    · exact .inl ⟨G, hG, hx⟩
    · exact .inr ⟨G, hG, hx⟩
  · rintro (⟨G, hG, hx⟩ | ⟨G, hG, hx⟩)
    · exact ⟨G, by simp [hG], hx⟩
    · exact ⟨G, by simp [hG], hx⟩
theorem disjL_cons {F : FP} {Fs : List FP} : DisjL (F :: Fs) ↔ (∀ x, F x → ¬ AnyL Fs x) ∧ DisjL Fs := by
  unfold DisjL
  rw [List.pairwise_cons]
  constructor
  · rintro ⟨h1, h2⟩
    exact ⟨fun x hx ⟨G, hG, hx'⟩ => h1 G hG x hx hx', h2⟩
  · rintro ⟨h1, h2⟩
    exact ⟨fun G hG x hx hx' => h1 x hx ⟨G, hG, hx'⟩, h2⟩

inductive InsT (w : World) (A : FP) : List AM → List Value → List FP → Prop where
  | nil : InsT w A [] [] []
  | r (F : FP) (d : DP) (u : Value) (ds : List AM) (us : List Value) (Fs : List FP) (h : ArgT w F d u) (hF : ∀ b, F b → b < w.heap.size ∧ ¬ A b) (ht : InsT w A ds us Fs) : InsT w A (.r d :: ds) (u :: us) Fs
  | o (F : FP) (d : DR) (u : Value) (ds : List AM) (us : List Value) (Fs : List FP) (h : OwnR w F d u) (ht : InsT w A ds us Fs) : InsT w A (.o d :: ds) (u :: us) (F :: Fs)
  | g (F : FP) (d : DR) (u : Value) (ds : List AM) (us : List Value) (Fs : List FP) (h : OwnR w F d u) (ht : InsT w A ds us Fs) : InsT w A (.g d :: ds) (u :: us) (F :: Fs)
inductive OutsT (w : World) : List AM → List Value → List DR → List FP → Prop where
  | nil : OutsT w [] [] [] []
  | r (d : DP) (u : Value) (ds : List AM) (us : List Value) (rs : List DR) (Fs : List FP) (ht : OutsT w ds us rs Fs) : OutsT w (.r d :: ds) (u :: us) rs Fs
  | o (F : FP) (d d' : DR) (u : Value) (ds : List AM) (us : List Value) (rs : List DR) (Fs : List FP) (h : OwnR w F d' u) (ht : OutsT w ds us rs Fs) : OutsT w (.o d :: ds) (u :: us) (d' :: rs) (F :: Fs)
  | g (d : DR) (u : Value) (ds : List AM) (us : List Value) (rs : List DR) (Fs : List FP) (ht : OutsT w ds us rs Fs) : OutsT w (.g d :: ds) (u :: us) rs Fs
inductive OwnL (w : World) : List DR → List Value → List FP → Prop where
  | nil : OwnL w [] [] []
  | cons (F : FP) (d : DR) (u : Value) (ds : List DR) (us : List Value) (Fs : List FP) (h : OwnR w F d u) (ht : OwnL w ds us Fs) : OwnL w (d :: ds) (u :: us) (F :: Fs)
def packU : List Value → Value
  | [u] => u
  | us => .tuple us.toArray

/-- A call has come back with a value. -/
def CallRet (P : Program) (f : FuncId) (args : Array Value) (w : World) (R : Value → World → Prop) : Prop :=
  (∃ u w', (callFunc f args).run P w = .ok (.value u) w' ∧ R u w') ∨
  ((callFunc f args).run P w = .ok (.enter f args) w ∧ Calls P f args w fun e w' => ∃ u, e = .returned u ∧ R u w')
theorem CallRet.mono {P : Program} {f : FuncId} {args : Array Value} {w : World} {R R' : Value → World → Prop} (h : CallRet P f args w R) (hr : ∀ u w', R u w' → R' u w') : CallRet P f args w R' := by
  rcases h with ⟨u, w', h1, h2⟩ | ⟨h1, h2⟩
  · exact .inl ⟨u, w', h1, hr _ _ h2⟩
  · exact .inr ⟨h1, h2.mono fun e w' ⟨u, he, hp⟩ => ⟨u, he, hr _ _ hp⟩⟩

/-- What a function does: what it answers, and what it gives back. -/
def PCon (P : Program) (f : FuncId) (das : List AM) (post : List DR → List DR → Prop) : Prop :=
  ∀ (w : World) (us : List Value) (Fs : List FP), InsT w (AnyL Fs) das us Fs → DisjL Fs → (∀ x, AnyL Fs x → x < w.heap.size) →
    CallRet P f us.toArray w fun u w' => ∃ rs outs vs Gs Hs, post rs outs ∧ u = packU vs ∧ OwnL w' rs vs Gs ∧ OutsT w' das us outs Hs ∧ DisjL (Gs ++ Hs) ∧
      (∀ x, AnyL (Gs ++ Hs) x → (w.heap.size ≤ x ∨ AnyL Fs x) ∧ x < w'.heap.size) ∧ Keep w (AnyL Fs) w'

/-! ### A caller's arguments -/
/-- Read. -/
def roP (D : Ops) (st : List (Nat × Obj)) : V → Option DP
  | .one (.lf (.p id j)) => match look st id with
    | some (.vars cs) => match allS (roD D st) (cs.drop j) with
      | some ds => some (.p ds)
      | none => none
    | _ => none
  | .one (.lf (.pr id i j)) => match look st id with
    | some (.deep _ _ f) => some (.p ((f i).drop j))
    | _ => none
  | .one (.lf (.rp row)) => some (.p row)
  | .one (.lf (.fr f rows)) => some (.fr f rows)
  | .one (.lf (.fn f caps)) => match allS (fun c : Nat × Nat => match look st c.1 with
      | some (.vars cs) => allS (roD D st) (cs.drop c.2)
      | _ => none) caps with
    | some rows => some (.fr f rows)
    | none => none
  | .one (.lf (.sp _ row)) => some (.p row)
  | .one (.lf l) => match roD D st l with
    | some d => some (.c d)
    | none => none
  | .one (.ag cs) => match allS (roD D st) cs with
    | some ds => some (.a ds)
    | none => none
  | _ => none

/-- Given: taken for good. -/
def takeV (D : Ops) (σ : St) (h : Leaf → Leaf) : V1 → Option (DR × St × (Leaf → Leaf))
  | .lf l => match h l with
    | .p id 0 => match look σ.store id with
      | some (.vars cs) => match takeCs D cs (forget1 σ id) (killA id) with
        | some (ds, σ', h') => some (.p ds, σ', fun l => h' (h l))
        | none => none
      | _ => none
    | .o id off len => match look σ.store id with
      | some (.vars (c :: cs)) => match off, len with
        | 0, 1 => match takeCs D (c :: cs) (forget1 σ id) (killA id) with
          | some (ds, σ', h') => some (.c (.l (c :: cs).length 1 (fun _ => ds)), σ', fun l => h' (h l))
          | none => none
        | _, _ => none
      | _ => match takeC D σ (.o id off len) with
        | some (d, σ', h') => some (.c d, σ', fun l => h' (h l))
        | none => none
    | l' => match takeC D σ l' with
      | some (d, σ', h') => some (.c d, σ', fun l => h' (h l))
      | none => none
  | .ag cs => match takeCs D cs σ h with
    | some (ds, σ', h') => some (.a ds, σ', h')
    | none => none
def takeVs (D : Ops) : List V1 → St → (Leaf → Leaf) → Option (List DR × St × (Leaf → Leaf))
  | [], σ, h => some ([], σ, h)
  | v :: t, σ, h => match takeV D σ h v with
    | some (d, σ', h') => match takeVs D t σ' h' with
      | some (ds, σ'', h'') => some (d :: ds, σ'', h'')
      | none => none
    | none => none

/-- Lent: the object stays, its cells are away. -/
def lendC (D : Ops) (σ : St) : Leaf → (DV → St → (Leaf → Leaf) → Prop) → Prop
  | .o id 0 n, k => match look σ.store id with
    | some (.deep sz m f) => need (D.eqN m n) (need (Nat.ble 1 sz) (k (.l sz n f) (mapSt (killQ id) (putObj σ id (.lent sz m))) (killQ id)))
    | _ => False
  | l, k => match takeC D σ l with
    | some (d, σ', h) => k d σ' h
    | none => False
def lendCs (D : Ops) : List Leaf → St → (Leaf → Leaf) → (List DV → St → (Leaf → Leaf) → Prop) → Prop
  | [], σ, h, k => k [] σ h
  | l :: t, σ, h, k => lendC D σ (h l) fun d σ' h1 => lendCs D t σ' (fun l => h1 (h l)) fun ds σ'' h2 => k (d :: ds) σ'' h2
def lendV (D : Ops) (σ : St) (h : Leaf → Leaf) : V1 → (DR → St → (Leaf → Leaf) → Prop) → Prop
  | .lf l, k => match h l with
    | .p id 0 => match look σ.store id with
      | some (.vars cs) => match takeCs D cs σ (fun l => l) with
        | some (ds, σ', h') => match h' (.p id 0), look σ'.store id with
          | .p id2 0, some (.vars _) => need (Nat.beq id2 id) (k (.p ds) (mapSt (killQ id) (putObj σ' id (.lentV cs.length))) (fun l => killQ id (h' (h l))))
          | _, _ => False
        | none => False
      | _ => False
    | l' => lendC D σ l' fun d σ' h1 => k (.c d) σ' (fun l => h1 (h l))
  | .ag cs, k => lendCs D cs σ h fun ds σ' h' => k (.a ds) σ' h'

/-! ### Data told to be as a contract has them -/
inductive DEq : DV → DV → Prop where
  | s (v : Value) : DEq (.s v) (.s v)
  | l (sz n : Nat) (f f' : Nat → List DV) (hl : ∀ i, i < n → (f i).length = (f' i).length) (h : ∀ (i j : Nat) (d d' : DV), i < n → (f i)[j]? = some d → (f' i)[j]? = some d' → DEq d d') : DEq (.l sz n f) (.l sz n f')
  | z (sz : Nat) (f f' : Nat → List DV) : DEq (.l 0 0 f) (.l sz 0 f')
  | x (d : DV) : DEq d .x

theorem deq_get {n : Nat} {f f' : Nat → List DV} (hl : ∀ i, i < n → (f i).length = (f' i).length) {i j : Nat} {d' : DV} (hi : i < n) (h : (f' i)[j]? = some d') : ∃ d, (f i)[j]? = some d :=
  ⟨_, List.getElem?_eq_getElem (by rw [hl i hi]; exact (List.getElem?_eq_some_iff.mp h).1)⟩
theorem OwnT.deq {w : World} {F : FP} {u : Value} {d d' : DV} (h : OwnT w F u d) (e : DEq d d') : OwnT w F u d' := by
  induction e generalizing F u with
  | s v => exact h
  | x d => exact .x _ _ h.one
  | z sz f f' =>
    cases h with
    | nl => exact .nl _ _ _ _
    | bl _ _ _ _ _ _ _ _ _ _ _ _ _ hs => exact absurd hs (Nat.lt_irrefl 0)
  | l sz n f f' hl _ ih =>
    cases h with
    | nl => exact .nl _ _ _ _
    | bl _ b off _ cap _ _ cs t fr vs G hF hs hb hu hn htot hsz hG hGd hv hd =>
      refine .bl _ b off n cap sz f' cs t fr vs G hF hs hb hu hn htot (fun i hi => by rw [← hl i hi]; exact hsz i hi) hG hGd (fun i j d' hi hj => ?_) (fun i j d' hi hj => ?_)
      · obtain ⟨d, hd'⟩ := deq_get hl hi hj
        exact hv i j d hi hd'
      · obtain ⟨d, hd'⟩ := deq_get hl hi hj
        exact ih i j d d' hi hd' hj (hd i j d hi hd')
theorem RoT.deq {w : World} {F : FP} {u : Value} {d d' : DV} (h : RoT w F u d) (e : DEq d d') : RoT w F u d' := by
  induction e generalizing F u with
  | s v => exact h
  | x d => exact .x _ h.one
  | z sz f f' =>
    cases h with
    | nl => exact .nl _ _ _ _
    | bl _ b off _ cap sz' _ cs t fr vs hF hb hn hsz hv hd => exact .nl _ _ _ _
  | l sz n f f' hl _ ih =>
    cases h with
    | nl => exact .nl _ _ _ _
    | bl _ b off _ cap sz' _ cs t fr vs hF hb hn hsz hv hd =>
      refine .bl _ b off n cap sz' f' cs t fr vs hF hb hn (fun i hi => by rw [← hl i hi]; exact hsz i hi) (fun i j d' hi hj => ?_) (fun i j d' hi hj => ?_)
      · obtain ⟨d, hd'⟩ := deq_get hl hi hj
        exact hv i j d hi hd'
      · obtain ⟨d, hd'⟩ := deq_get hl hi hj
        exact ih i j d d' hi hd' hj (hd i j d hi hd')
theorem DEq.rfl' (d : DV) : DEq d d := by
  refine DV.rec (motive_1 := fun d => DEq d d) (motive_2 := fun l => ∀ d, d ∈ l → DEq d d) ?_ ?_ ?_ ?_ ?_ d
  · intro v; exact .s v
  · intro sz n f ih
    refine .l sz n f f (fun _ _ => rfl) fun i j d d' _ h h' => ?_
    rw [h] at h'; cases h'
    exact ih i d (List.mem_of_getElem? h)
  · exact .x _
  · intro d h; simp at h
  · intro d l h1 h2 d' h
    rcases List.mem_cons.mp h with rfl | h
    · exact h1
    · exact h2 d' h
theorem deq_rows {sz n : Nat} {f f' : Nat → List DV} (h : ∀ i, i < n → f i = f' i) : DEq (.l sz n f) (.l sz n f') :=
  .l sz n f f' (fun i hi => by rw [h i hi]) fun i j d d' hi h1 h2 => by rw [h i hi, h2] at h1; cases h1; exact DEq.rfl' _

/-- One cell's datum against another: owned. -/
def dvLe : DV → DV → Prop
  | _, .x => True
  | .s u, .s v => u = v
  | .l sz n f, .l sz' n' f' => n = n' ∧ DEq (.l sz n f) (.l sz' n f')
  | _, _ => False
/-- The same, only read: the size of a row does not matter. -/
def dvRo : DV → DV → Prop
  | _, .x => True
  | .s u, .s v => u = v
  | .l _ n f, .l _ n' f' => n = n' ∧ DEq (.l 0 n f) (.l 0 n f')
  | _, _ => False
def allLe (r : DV → DV → Prop) : List DV → List DV → Prop
  | [], [] => True
  | d :: ds, d' :: ds' => r d d' ∧ allLe r ds ds'
  | _, _ => False
def drLe : DR → DR → Prop
  | .c d, .c d' => dvLe d d'
  | .a ds, .a ds' => allLe dvLe ds ds'
  | .p ds, .p ds' => allLe dvLe ds ds'
  | _, _ => False
def drsLe : List DR → List DR → Prop
  | [], [] => True
  | d :: ds, d' :: ds' => drLe d d' ∧ drsLe ds ds'
  | _, _ => False
def rowsRo : List (List DV) → List (List DV) → Prop
  | [], [] => True
  | d :: ds, d' :: ds' => allLe dvRo d d' ∧ rowsRo ds ds'
  | _, _ => False
def dpLe : DP → DP → Prop
  | .c d, .c d' => dvRo d d'
  | .a ds, .a ds' => allLe dvRo ds ds'
  | .p ds, .p ds' => allLe dvRo ds ds'
  | .fr f rows, .fr f' rows' => f = f' ∧ rowsRo rows rows'
  | _, _ => False

/-! ### The call -/
/-- Phase one: what is lent or given goes. -/
def lendArgs (D : Ops) : List AM → List V → St → (Leaf → Leaf) → (St → (Leaf → Leaf) → Prop) → Prop
  | [], [], σ, h, k => k σ h
  | .r _ :: ds, _ :: vs, σ, h, k => lendArgs D ds vs σ h k
  | .o d :: ds, .one v :: vs, σ, h, k => lendV D σ h v fun d' σ' h' => drLe d' d ∧ lendArgs D ds vs σ' h' k
  | .g d :: ds, .one v :: vs, σ, h, k => match takeV D σ h v with
    | some (d', σ', h') => drLe d' d ∧ lendArgs D ds vs σ' h' k
    | none => False
  | _, _, _, _, _ => False
/-- Phase two: what is read stays. -/
def roArgs (D : Ops) (st : List (Nat × Obj)) (h : Leaf → Leaf) : List AM → List V → Prop
  | .r d :: ds, v :: vs => match roP D st (mapV h v) with
    | some d' => dpLe d' d ∧ roArgs D st h ds vs
    | none => False
  | .o _ :: ds, _ :: vs => roArgs D st h ds vs
  | .g _ :: ds, _ :: vs => roArgs D st h ds vs
  | _, _ => True
/-- Owned data become objects. -/
def instC (σ : St) : DV → Leaf × St
  | .s v => (.s v, σ)
  | .l sz n f => (.o σ.next 0 n, mkObj σ (.deep sz n f))
  | .x => (.un, σ)
def instCs (σ : St) : List DV → List Leaf × St
  | [] => ([], σ)
  | d :: ds => match instC σ d with
    | (l, σ') => match instCs σ' ds with
      | (ls, σ'') => (l :: ls, σ'')
def inst1 (σ : St) : DR → V1 × St
  | .c d => match instC σ d with
    | (l, σ') => (.lf l, σ')
  | .a ds => match instCs σ ds with
    | (ls, σ') => (.ag ls, σ')
  | .p ds => match instCs σ ds with
    | (ls, σ') => (.lf (.p σ'.next 0), mkObj σ' (.vars ls))
def inst1s (σ : St) : List DR → List V1 × St
  | [] => ([], σ)
  | d :: ds => match inst1 σ d with
    | (l, σ') => match inst1s σ' ds with
      | (ls, σ'') => (l :: ls, σ'')
def packV1 : List V1 → V
  | [v] => .one v
  | vs => .tup vs
/-- Phase three: what comes back lies where it lay. -/
def giveC (D : Ops) (σ : St) (l : Leaf) (d : DV) (k : St → (Leaf → Leaf) → Prop) : Prop :=
  match l, d with
  | .o id 0 m, .l sz' _ f => match look σ.store id with
    | some (.lent sz n) => need (D.eqN n m) (need (Nat.beq sz' sz) (k (mapSt (killQ id) (putObj σ id (.deep sz n f))) (killQ id)))
    | _ => False
  | .q id i j none _, .l sz' n' f' => match look σ.store id with
    | some (.deep sz n F) => match nthO (F i) j with
      | some .x => k (mapSt (killS id) (putObj σ id (.deep sz n (D.setF F i (setD1 (F i) j (.l sz' n' f')))))) (killS id)
      | _ => False
    | _ => False
  | .s _, _ => k σ (fun l => l)
  | .nil, _ => k σ (fun l => l)
  | _, _ => False
def giveCs (D : Ops) : List Leaf → List DV → St → (Leaf → Leaf) → (St → (Leaf → Leaf) → Prop) → Prop
  | [], [], σ, h, k => k σ h
  | l :: ls, d :: ds, σ, h, k => giveC D σ (h l) d fun σ' h1 => giveCs D ls ds σ' (fun l => h1 (h l)) k
  | _, _, _, _, _ => False
def giveV (D : Ops) (σ : St) (h : Leaf → Leaf) (v : V1) (d : DR) (k : St → (Leaf → Leaf) → Prop) : Prop :=
  match v, d with
  | .lf l, .c d => giveC D σ (h l) d fun σ' h1 => k σ' (fun l => h1 (h l))
  | .ag ls, .a ds => giveCs D ls ds σ h k
  | .lf l, .p ds => match h l with
    | .p id 0 => match look σ.store id with
      | some (.lentV n) => need (Nat.beq ds.length n) (match instCs σ ds with
        | (ls, σ') => k (mapSt (killQ id) (putObj σ' id (.vars ls))) (fun l => killQ id (h l)))
      | _ => False
    | _ => False
  | _, _ => False
def giveArgs (D : Ops) : List AM → List V → List DR → St → (Leaf → Leaf) → (St → Prop) → Prop
  | [], [], [], σ, _, k => k σ
  | .o _ :: ds, .one v :: vs, d :: outs, σ, h, k => giveV D σ h v d fun σ' h' => giveArgs D ds vs outs σ' h' k
  | .r _ :: ds, _ :: vs, outs, σ, h, k => giveArgs D ds vs outs σ h k
  | .g _ :: ds, _ :: vs, outs, σ, h, k => giveArgs D ds vs outs σ h k
  | _, _, _, _, _, _ => False
/-- Behind the call. -/
def backP (D : Ops) (das : List AM) (vs : List V) (σ : St) (h : Leaf → Leaf) (k : V → St → Prop) (rs outs : List DR) : Prop :=
  giveArgs D das vs outs σ h fun σ' => match inst1s σ' rs with
    | (us, σ'') => k (packV1 us) σ''
def callP (D : Ops) (das : List AM) (vs : List V) (σ : St) (post : List DR → List DR → Prop) (k : V → St → Prop) : Prop :=
  lendArgs D das vs σ (fun l => l) fun σ1 h => roArgs D σ1.store h das vs ∧ ∀ rs outs, post rs outs → backP D das vs σ1 h k rs outs
end Go.AW
