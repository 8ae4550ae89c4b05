/- The abstract calculus, part 23: functions that only read what they are given: their contracts. -/
import Derived.Test.YtkbmgodbnjbhdaaAw22
import Derived.Conc.MuLone
set_option linter.unusedVariables false
set_option linter.unusedSimpArgs false
namespace Go.AW

/-! ### Arguments and results -/
/-- An argument: a datum in one cell, a struct's cells, a pointer to cells. -/
inductive DP where
  | c (d : DV)
  | a (ds : List DV)
  | p (row : List DV)
  | fr (f : Nat) (rows : List (List DV))
inductive DRes where
  | one (r : DP)
  | tup (rs : List DP)

def ArgT (w : World) (F : FP) : DP → Value → Prop
  | .c d, u => RoT w F u d
  | .a ds, u => ∃ us : List Value, u = .agg us.toArray ∧ us.length = ds.length ∧ ∀ (j : Nat) (d : DV), ds[j]? = some d → ∃ x, us[j]? = some x ∧ RoT w F x d
  | .p row, u => RRow w F u row
  | .fr f rows, u => ∃ vs : List Value, u = .func (.func f) #[] vs.toArray ∧ vs.length = rows.length ∧ ∀ (k : Nat) (row : List DV), rows[k]? = some row → ∃ v, vs[k]? = some v ∧ RRow w F v row
def OwnR (w : World) (F : FP) : DP → Value → Prop
  | .c d, u => OwnT w F u d
  | .a ds, u => ∃ (us : List Value) (G : Nat → FP), u = .agg us.toArray ∧ us.length = ds.length ∧ (∀ j x, G j x → F x) ∧ (∀ j j' x, G j x → G j' x → j = j') ∧ ∀ (j : Nat) (d : DV), ds[j]? = some d → ∃ x, us[j]? = some x ∧ OwnT w (G j) x d
  | .p _, _ => False
  | .fr _ _, _ => False
def ResT (w : World) (F : FP) : DRes → Value → Prop
  | .one r, u => OwnR w F r u
  | .tup rs, u => ∃ (us : List Value) (G : Nat → FP), u = .tuple us.toArray ∧ us.length = rs.length ∧ (∀ j x, G j x → F x) ∧ (∀ j j' x, G j x → G j' x → j = j') ∧ ∀ (j : Nat) (d : DP), rs[j]? = some d → ∃ x, us[j]? = some x ∧ OwnR w (G j) d x

/-- A call has come back with a value. -/
def CallRet (P : Program) (f : FuncId) (args : Array Value) (w : World) (R : Value → World → Prop) : Prop :=
  (∃ u w', (callFunc f args).run P w = .ok (.value u) w' ∧ R u w') ∨
  ((callFunc f args).run P w = .ok (.enter f args) w ∧ Calls P f args w fun e w' => ∃ u, e = .returned u ∧ R u w')
theorem CallRet.mono {P : Program} {f : FuncId} {args : Array Value} {w : World} {R R' : Value → World → Prop} (h : CallRet P f args w R) (hr : ∀ u w', R u w' → R' u w') : CallRet P f args w R' := by
  rcases h with ⟨u, w', h1, h2⟩ | ⟨h1, h2⟩
  · exact .inl ⟨u, w', h1, hr _ _ h2⟩
  · exact .inr ⟨h1, h2.mono fun e w' ⟨u, he, hp⟩ => ⟨u, he, hr _ _ hp⟩⟩

/-- A function that only reads what it is given. -/
def PCon (P : Program) (f : FuncId) (das : List DP) (post : DRes → Prop) : Prop :=
  ∀ (w : World) (us : List Value), us.length = das.length → (∀ (i : Nat) (d : DP), das[i]? = some d → ∃ u, us[i]? = some u ∧ ∃ F, ArgT w F d u) →
    CallRet P f us.toArray w fun u w' => ∃ r F, post r ∧ ResT w' F r u ∧ (∀ b, F b → w.heap.size ≤ b ∧ b < w'.heap.size) ∧ Keep w (fun _ => False) w'

/-! ### A caller's arguments, read -/
def roP (D : Ops) (st : List (Nat × Obj)) : V → Option DP
  | .one (.lf (.p id j)) => match look st id with
    | some (.vars cs) => match allS (roD D st) (cs.drop j) with
      | some ds => some (.p ds)
      | none => none
    | _ => none
  | .one (.lf (.pr id i j)) => match look st id with
    | some (.deep _ _ f) => some (.p ((f i).drop j))
    | _ => none
  | .one (.lf (.rp row)) => some (.p row)
  | .one (.lf (.fr f rows)) => some (.fr f rows)
  | .one (.lf (.fn f caps)) => match allS (fun c : Nat × Nat => match look st c.1 with
      | some (.vars cs) => allS (roD D st) (cs.drop c.2)
      | _ => none) caps with
    | some rows => some (.fr f rows)
    | none => none
  | .one (.lf (.sp _ row)) => some (.p row)
  | .one (.lf l) => match roD D st l with
    | some d => some (.c d)
    | none => none
  | .one (.ag cs) => match allS (roD D st) cs with
    | some ds => some (.a ds)
    | none => none
  | _ => none

section
variable {P : Program} {w0 w w' : World} {mine : FP} {γ γ' : Ghost} {σ : St} {a : Act} {k : V → St → Prop} {E : Env}

theorem RoT.tight {F : FP} {u : Value} {d : DV} (h : RoT w F u d) : RoT w (fun b => b < w.heap.size) u d := by
  induction h with
  | s v h1 => exact .s _ h1
  | nl z a cap g => exact .nl _ _ _ _
  | bl z b off n cap sz g cs t fr vs hF hb hn hsz hv hd ih => exact .bl z b off n cap sz g cs t fr vs (Array.getElem?_eq_some_iff.mp hb).1 hb hn hsz hv ih

theorem RRow.tight {F : FP} {u : Value} {row : List DV} (h : RRow w F u row) : RRow w (fun b => b < w.heap.size) u row := by
  obtain ⟨b, off, cs, t, fr, hu, hF, hb, hv⟩ := h
  exact ⟨b, off, cs, t, fr, hu, (Array.getElem?_eq_some_iff.mp hb).1, hb, fun j d hd => let ⟨x, h1, h2⟩ := hv j d hd; ⟨x, h1, h2.tight⟩⟩

theorem ArgT.tight {F : FP} {u : Value} {d : DP} (h : ArgT w F d u) : ArgT w (fun b => b < w.heap.size) d u := by
  cases d with
  | c d => exact RoT.tight h
  | a ds =>
    obtain ⟨us, hu, hl, hv⟩ := h
    exact ⟨us, hu, hl, fun j d hd => let ⟨x, h1, h2⟩ := hv j d hd; ⟨x, h1, h2.tight⟩⟩
  | p row => exact RRow.tight h
  | fr f rows =>
    obtain ⟨vs, hu, hl, hv⟩ := h
    exact ⟨vs, hu, hl, fun k row hk => let ⟨x, h1, h2⟩ := hv k row hk; ⟨x, h1, h2.tight⟩⟩

theorem roD_tight (R : RelS w0 mine γ σ.store σ.next w) {l : Leaf} {u : Value} (hl : RLeaf γ w l u) {d : DV} (h : roD std σ.store l = some d) : RoT w (fun b => b < w.heap.size) u d :=
  let ⟨_, hF⟩ := roD_sound R hl h
  hF.tight

theorem roCells_sound (R : RelS w0 mine γ σ.store σ.next w) {cs : List Leaf} {us : List Value} (hr : RCells γ w cs us) {ds : List DV} (h : allS (roD std σ.store) cs = some ds) :
    ds.length = cs.length ∧ ∀ (j : Nat) (d : DV), ds[j]? = some d → ∃ x, us[j]? = some x ∧ RoT w (fun b => b < w.heap.size) x d := by
  obtain ⟨h1, h2⟩ := allS_spec h
  refine ⟨h1, fun j d hd => ?_⟩
  have hlt : j < cs.length := by rw [← h1]; exact (List.getElem?_eq_some_iff.mp hd).1
  obtain ⟨y, hy, hm⟩ := h2 j _ (List.getElem?_eq_getElem hlt)
  rw [hd] at hy; cases hy
  obtain ⟨x, hx, hrx⟩ := hr.2 j _ (List.getElem?_eq_getElem hlt)
  exact ⟨x, hx, roD_tight R hrx hm⟩

theorem rcells_drop {cs : List Leaf} {us : List Value} (hr : RCells γ w cs us) (j : Nat) : RCells γ w (cs.drop j) (us.drop j) :=
  ⟨by simp [hr.1], fun i l hl => by rw [List.getElem?_drop] at hl ⊢; exact hr.2 _ l hl⟩

theorem roP_sound (R : RelS w0 mine γ σ.store σ.next w) {v : V} {u : Value} (hv : RV γ w v u) {d : DP} (h : roP std σ.store v = some d) : ArgT w (fun b => b < w.heap.size) d u := by
  unfold roP at h
  split at h
  · rename_i id j
    split at h
    · rename_i cs hst
      split at h
      · rename_i ds hds
        simp at h; subst h
        obtain ⟨g1, b, hg, hb, hu⟩ := hv.2
        obtain ⟨g1', hg', b', cur, t, fr, hb', hfp, hh, hun, hbase, htot, hsz, hcells⟩ := R.objs id _ hst
        rw [hg] at hg'; cases hg'
        rw [hb] at hb'; cases hb'
        obtain ⟨_, h2⟩ := roCells_sound R (rcells_drop hcells j) hds
        refine ⟨b, j, cur, t, fr, by rw [hu, hbase, Nat.zero_add], (Array.getElem?_eq_some_iff.mp hh).1, hh, fun q d hd => ?_⟩
        obtain ⟨x, hx, hr⟩ := h2 q d hd
        rw [List.getElem?_drop] at hx
        exact ⟨x, by simpa using hx, hr⟩
      · simp at h
    · simp at h
  · rename_i id i j
    split at h
    · rename_i sz n f hst
      simp at h; subst h
      obtain ⟨g1, b, hg, hb, hlt, hu⟩ := hv.2
      obtain ⟨g1', hg', ho⟩ := R.objs id _ hst
      rw [hg] at hg'; cases hg'
      simp only [RObj, hb] at ho
      obtain ⟨hn, _, _, cs, t, fr, vs, G, hfp, hh, hun, htot, hnt, hlen, hG, hGd, hvv⟩ := ho
      refine ⟨b, g1.base + i * g1.sz + j, cs, t, fr, hu, (Array.getElem?_eq_some_iff.mp hh).1, hh, fun q d hd => ?_⟩
      rw [List.getElem?_drop] at hd
      obtain ⟨h1, h2⟩ := hvv i (j + q) d (by omega) hd
      exact ⟨_, by rw [← h1]; congr 1; omega, h2.ro.tight⟩
    · simp at h
  · simp at h; subst h
    exact RRow.tight hv.2
  · simp at h; subst h
    obtain ⟨vs, hu, hl, hr⟩ := hv.2
    exact ⟨vs, hu, hl, fun k row hk => let ⟨x, h1, h2⟩ := hr k row hk; ⟨x, h1, h2.tight⟩⟩
  · rename_i f caps
    split at h
    · rename_i rows hrows
      simp at h; subst h
      obtain ⟨h1, h2⟩ := allS_spec hrows
      obtain ⟨vs, hu, hl, hc⟩ := hv.2
      refine ⟨vs, hu, by rw [hl, h1], fun k row hk => ?_⟩
      have hlt : k < caps.length := by rw [← h1]; exact (List.getElem?_eq_some_iff.mp hk).1
      obtain ⟨y, hy, hm⟩ := h2 k _ (List.getElem?_eq_getElem hlt)
      rw [hk] at hy; cases hy
      obtain ⟨g1, b, hg, hb, hvk⟩ := hc k _ (List.getElem?_eq_getElem hlt)
      split at hm
      · rename_i cs hst
        obtain ⟨g1', hg', b', cur, t, fr, hb', hfp, hh, hun, hbase, htot, hsz, hcells⟩ := R.objs _ _ hst
        rw [hg] at hg'; cases hg'
        rw [hb] at hb'; cases hb'
        obtain ⟨_, h4⟩ := roCells_sound R (rcells_drop hcells caps[k].2) hm
        refine ⟨_, hvk, b, caps[k].2, cur, t, fr, by rw [hbase, Nat.zero_add], (Array.getElem?_eq_some_iff.mp hh).1, hh, fun q d hd => ?_⟩
        obtain ⟨x, hx, hr⟩ := h4 q d hd
        rw [List.getElem?_drop] at hx
        exact ⟨x, by simpa using hx, hr⟩
      · cases hm
    · simp at h
  · simp at h; subst h
    exact RRow.tight hv.2.2
  · split at h
    · rename_i d' hd
      simp at h; subst h
      exact roD_tight R hv hd
    · simp at h
  · rename_i cs
    split at h
    · rename_i ds hds
      simp at h; subst h
      obtain ⟨us, hu, hr⟩ := hv
      obtain ⟨h1, h2⟩ := roCells_sound R hr hds
      exact ⟨us, hu, by rw [hr.1, h1], h2⟩
    · simp at h
  · simp at h

/-! ### A result becomes the caller's own -/
def instC (σ : St) : DV → Leaf × St
  | .s v => (.s v, σ)
  | .l sz n f => (.o σ.next 0 n, mkObj σ (.deep sz n f))
def instCs (σ : St) : List DV → List Leaf × St
  | [] => ([], σ)
  | d :: ds => match instC σ d with
    | (l, σ') => match instCs σ' ds with
      | (ls, σ'') => (l :: ls, σ'')
def inst1 (σ : St) : DP → V1 × St
  | .c d => match instC σ d with
    | (l, σ') => (.lf l, σ')
  | .a ds => match instCs σ ds with
    | (ls, σ') => (.ag ls, σ')
  | _ => (.lf .un, σ)
def inst1s (σ : St) : List DP → List V1 × St
  | [] => ([], σ)
  | d :: ds => match inst1 σ d with
    | (l, σ') => match inst1s σ' ds with
      | (ls, σ'') => (l :: ls, σ'')
def instR (σ : St) : DRes → V × St
  | .one r => match inst1 σ r with
    | (v, σ') => (.one v, σ')
  | .tup rs => match inst1s σ rs with
    | (vs, σ') => (.tup vs, σ')

/-- Nobody's blocks. -/
def Free (w0 : World) (mine : FP) (γ : Ghost) (st : List (Nat × Obj)) (w : World) (F : FP) : Prop :=
  ∀ b, F b → (∀ i oi, look st i = some oi → ¬ γ.fp i b) ∧ ¬ γ.ro b ∧ b < w.heap.size ∧ (w0.heap.size ≤ b ∨ mine b)

/-- What stays when something is installed: what leaves say, and what is nobody's. -/
structure Inst (w0 : World) (mine : FP) (a : Act) (w : World) (γ : Ghost) (σ : St) (F : FP) (γ' : Ghost) (σ' : St) : Prop where
  R : Rel w0 mine γ' σ' a w
  leaf : ∀ l u, RLeaf γ w l u → RLeaf γ' w l u
  free : ∀ H : FP, Free w0 mine γ σ.store w H → (∀ x, H x → ¬ F x) → Free w0 mine γ' σ'.store w H

theorem Inst.trans {σ' σ'' : St} {γ'' : Ghost} {F F' G : FP} (h : Inst w0 mine a w γ σ F γ' σ') (h' : Inst w0 mine a w γ' σ' F' γ'' σ'') (hF : ∀ x, F x → G x) (hF' : ∀ x, F' x → G x) : Inst w0 mine a w γ σ G γ'' σ'' :=
  ⟨h'.R, fun l u hl => h'.leaf l u (h.leaf l u hl), fun H hH hd => h'.free H (h.free H hH fun x hx hf => hd x hx (hF x hf)) fun x hx hf => hd x hx (hF' x hf)⟩

theorem instC_sound (R : Rel w0 mine γ σ a w) {d : DV} {u : Value} {F : FP} (h : OwnT w F u d) (hF : Free w0 mine γ σ.store w F) : ∃ γ', Inst w0 mine a w γ σ F γ' (instC σ d).2 ∧ RLeaf γ' w (instC σ d).1 u := by
  cases d with
  | s v =>
    cases h with
    | s _ _ h1 => exact ⟨γ, ⟨R, fun _ _ h => h, fun H hH _ => hH⟩, h1, rfl⟩
  | l sz n f =>
    have key : ∀ (g : G1), RObj (γ.add σ.next g F) w σ.next g (.deep sz n f) → RLeaf (γ.add σ.next g F) w (.o σ.next 0 n) u → ∃ γ', Inst w0 mine a w γ σ F γ' (instC σ (.l sz n f)).2 ∧ RLeaf γ' w (instC σ (.l sz n f)).1 u := by
      intro g ho hl
      have S := step_add (w := w) (w' := w) R.st.lt g F (fun b o h => h)
      refine ⟨γ.add σ.next g F, ⟨R.fresh2 (fun b o h => h) R.st.keep (Nat.le_refl _) g F _ ho hF, fun l u hl => hl.step S ⟨by simp, by simp⟩, fun H hH hd b hb => ?_⟩, hl⟩
      obtain ⟨h1, h2, h3⟩ := hH b hb
      refine ⟨fun i oi hi => ?_, h2, h3⟩
      simp only [instC, mkObj, look_cons] at hi
      simp only [Ghost.add]
      by_cases he : σ.next = i
      · rw [if_pos he.symm]; exact hd b hb
      · rw [if_neg he] at hi
        rw [if_neg (Ne.symm he)]
        exact h1 i oi hi
    cases h with
    | nl _ _ A _ => exact key ⟨none, 0, sz, 0, 0⟩ ⟨rfl, rfl, rfl⟩ ⟨rfl, ⟨none, 0, sz, 0, 0⟩, A, 0, by simp [Ghost.add], rfl, Nat.le_refl _, by simp, by simp, fun h => absurd h (Nat.lt_irrefl 0)⟩
    | bl _ b off _ cap _ _ cs t fr vs G hFb hs hb hu hn htot hsz hG hGd hv hd =>
      refine key ⟨some b, off, sz, cap * sz, n⟩ ⟨rfl, rfl, hs, cs, t, fr, vs, G, by simp [Ghost.add, hFb], hb, hu, htot, Nat.mul_le_mul_right _ hn, hsz, fun i j x hx => by simpa [Ghost.add] using hG i j x hx, hGd, fun i j d hi hj => ⟨hv i j d hi hj, hd i j d hi hj⟩⟩
        ⟨rfl, ⟨some b, off, sz, cap * sz, n⟩, _, cap, by simp [Ghost.add], rfl, hn, by simp, by simp, fun _ => ⟨b, rfl, by simp⟩⟩

theorem instCs_sound : ∀ (ds : List DV) (γ : Ghost) (σ : St) (us : List Value) (G : Nat → FP), Rel w0 mine γ σ a w → us.length = ds.length → (∀ (j : Nat) (d : DV), ds[j]? = some d → ∃ x, us[j]? = some x ∧ OwnT w (G j) x d) → (∀ j, Free w0 mine γ σ.store w (G j)) → (∀ j j' x, G j x → G j' x → j = j') →
    ∃ γ', Inst w0 mine a w γ σ (fun x => ∃ j, G j x) γ' (instCs σ ds).2 ∧ RCells γ' w (instCs σ ds).1 us
  | [], γ, σ, us, G, R, hl, hv, hF, hd => by
    have : us = [] := List.eq_nil_of_length_eq_zero hl
    subst this
    exact ⟨γ, ⟨R, fun _ _ h => h, fun H hH _ => hH⟩, rfl, fun j l h => by simp [instCs] at h⟩
  | d :: ds, γ, σ, us, G, R, hl, hv, hF, hd => by
    obtain ⟨u0, us', rfl⟩ : ∃ u0 us', us = u0 :: us' := by
      cases us with
      | nil => simp at hl
      | cons u us => exact ⟨u, us, rfl⟩
    obtain ⟨x, hx, ho⟩ := hv 0 d rfl
    simp at hx; subst hx
    obtain ⟨γ1, I1, l1⟩ := instC_sound R ho (hF 0)
    obtain ⟨γ2, I2, c2⟩ := instCs_sound ds γ1 (instC σ d).2 us' (fun j => G (j + 1)) I1.R (by simpa using hl) (fun j d' hj => by simpa using hv (j + 1) d' (by simpa using hj))
      (fun j => I1.free _ (hF (j + 1)) fun x h1 h2 => absurd (hd _ _ x h1 h2) (by omega)) (fun j j' x h1 h2 => by have := hd _ _ x h1 h2; omega)
    refine ⟨γ2, I1.trans I2 (fun x hx => ⟨0, hx⟩) (fun x ⟨j, hj⟩ => ⟨j + 1, hj⟩), ?_⟩
    simp only [instCs]
    refine ⟨by simp [c2.1], fun j l hj => ?_⟩
    cases j with
    | zero => simp at hj; subst hj; exact ⟨u0, rfl, I2.leaf _ _ l1⟩
    | succ j => simpa using c2.2 j l (by simpa using hj)

theorem inst1_sound (R : Rel w0 mine γ σ a w) {d : DP} {u : Value} {F : FP} (h : OwnR w F d u) (hF : Free w0 mine γ σ.store w F) : ∃ γ', Inst w0 mine a w γ σ F γ' (inst1 σ d).2 ∧ RV1 γ' w (inst1 σ d).1 u := by
  cases d with
  | c d => exact instC_sound R h hF
  | a ds =>
    obtain ⟨us, G, hu, hl, hGF, hGd, hv⟩ := h
    obtain ⟨γ', I, hc⟩ := instCs_sound ds γ σ us G R hl hv (fun j b hb => hF b (hGF j b hb)) hGd
    exact ⟨γ', ⟨I.R, I.leaf, fun H hH hd => I.free H hH fun x hx ⟨j, hj⟩ => hd x hx (hGF j x hj)⟩, us, hu, hc⟩
  | p row => exact h.elim
  | fr f rows => exact h.elim

theorem rv1_leaf {γ γ' : Ghost} (h : ∀ l u, RLeaf γ w l u → RLeaf γ' w l u) {v : V1} {u : Value} (hv : RV1 γ w v u) : RV1 γ' w v u := by
  cases v with
  | lf l => exact h l u hv
  | ag cs =>
    obtain ⟨us, hu, hc⟩ := hv
    exact ⟨us, hu, hc.1, fun j l hl => let ⟨x, h1, h2⟩ := hc.2 j l hl; ⟨x, h1, h _ _ h2⟩⟩

theorem inst1s_sound : ∀ (ds : List DP) (γ : Ghost) (σ : St) (us : List Value) (G : Nat → FP), Rel w0 mine γ σ a w → us.length = ds.length → (∀ (j : Nat) (d : DP), ds[j]? = some d → ∃ x, us[j]? = some x ∧ OwnR w (G j) d x) → (∀ j, Free w0 mine γ σ.store w (G j)) → (∀ j j' x, G j x → G j' x → j = j') →
    ∃ γ', Inst w0 mine a w γ σ (fun x => ∃ j, G j x) γ' (inst1s σ ds).2 ∧ us.length = (inst1s σ ds).1.length ∧ ∀ (j : Nat) (v : V1), (inst1s σ ds).1[j]? = some v → ∃ x, us[j]? = some x ∧ RV1 γ' w v x
  | [], γ, σ, us, G, R, hl, hv, hF, hd => by
    have : us = [] := List.eq_nil_of_length_eq_zero hl
    subst this
    exact ⟨γ, ⟨R, fun _ _ h => h, fun H hH _ => hH⟩, rfl, fun j l h => by simp [inst1s] at h⟩
  | d :: ds, γ, σ, us, G, R, hl, hv, hF, hd => by
    obtain ⟨u0, us', rfl⟩ : ∃ u0 us', us = u0 :: us' := by
      cases us with
      | nil => simp at hl
      | cons u us => exact ⟨u, us, rfl⟩
    obtain ⟨x, hx, ho⟩ := hv 0 d rfl
    simp at hx; subst hx
    obtain ⟨γ1, I1, l1⟩ := inst1_sound R ho (hF 0)
    obtain ⟨γ2, I2, c1, c2⟩ := inst1s_sound ds γ1 (inst1 σ d).2 us' (fun j => G (j + 1)) I1.R (by simpa using hl) (fun j d' hj => by simpa using hv (j + 1) d' (by simpa using hj))
      (fun j => I1.free _ (hF (j + 1)) fun x h1 h2 => absurd (hd _ _ x h1 h2) (by omega)) (fun j j' x h1 h2 => by have := hd _ _ x h1 h2; omega)
    refine ⟨γ2, I1.trans I2 (fun x hx => ⟨0, hx⟩) (fun x ⟨j, hj⟩ => ⟨j + 1, hj⟩), ?_⟩
    simp only [inst1s]
    refine ⟨by simp [c1], fun j l hj => ?_⟩
    cases j with
    | zero => simp at hj; subst hj; exact ⟨u0, rfl, rv1_leaf I2.leaf l1⟩
    | succ j => simpa using c2 j l (by simpa using hj)

theorem instR_sound (R : Rel w0 mine γ σ a w) {d : DRes} {u : Value} {F : FP} (h : ResT w F d u) (hF : Free w0 mine γ σ.store w F) : ∃ γ', Rel w0 mine γ' (instR σ d).2 a w ∧ RV γ' w (instR σ d).1 u := by
  cases d with
  | one r =>
    obtain ⟨γ', I, hv⟩ := inst1_sound R h hF
    exact ⟨γ', I.R, hv⟩
  | tup rs =>
    obtain ⟨us, G, hu, hl, hGF, hGd, hv⟩ := h
    obtain ⟨γ', I, h1, h2⟩ := inst1s_sound rs γ σ us G R hl hv (fun j b hb => hF b (hGF j b hb)) hGd
    exact ⟨γ', I.R, us, hu, h1, h2⟩

/-- Old blocks as they were. -/
theorem Rel.ext (R : Rel w0 mine γ σ a w) (hs : w.heap.size ≤ w'.heap.size) (hb : ∀ b, b < w.heap.size → w'.heap[b]? = w.heap[b]?) (ho : w'.os = w.os) (ht : w'.tape = w.tape) (hp : w'.output = w.output) : Rel w0 mine γ σ a w' := by
  have hx : ∀ (b : Nat) (o : Go.Obj), w.heap[b]? = some o → w'.heap[b]? = some o := fun b o h => by rw [hb b (Array.getElem?_eq_some_iff.mp h).1]; exact h
  have S : Step γ γ w w' (fun _ => False) (fun _ => False) := ⟨fun i g h _ => h, fun i g h _ b hb => hb, fun i g h _ b o _ h' => hx b o h', fun b hb => hb, fun b o _ h' => hx b o h'⟩
  refine ⟨R.size, fun i => RV.step0 S (R.slots i), ?_, R.st.disj, R.st.ro, R.st.lt, R.st.dom, fun i o h b hb => ⟨by have := (R.st.fp i o h b hb).1; omega, (R.st.fp i o h b hb).2⟩, fun b hb => by have := R.st.rolt b hb; omega, R.st.keep.later hs ho ht hp hb⟩
  intro i o h
  obtain ⟨g, hg, hr⟩ := R.st.objs i o h
  have := RObj.step S (h := fun l => l) (kills_id (by simp) (by simp)) hg hr (fun b hb => hb) (fun b o _ h' => hx b o h')
  rw [mapObj_id] at this
  exact ⟨g, hg, this⟩

theorem csem_of_pcon {f : FuncId} {das : List DP} {post : DRes → Prop} (h : PCon P f das post) {vs : List V} (hargs : allS (roP std σ.store) vs = some das) (hk : ∀ r, post r → k (instR σ r).1 (instR σ r).2) : Csem P w0 mine f vs σ k := by
  intro γ a w args R hA
  obtain ⟨h1, h2⟩ := allS_spec hargs
  have hc := h w args (by rw [hA.1, h1]) (fun i d hd => by
    have hlt : i < vs.length := by rw [← h1]; exact (List.getElem?_eq_some_iff.mp hd).1
    obtain ⟨y, hy, hm⟩ := h2 i _ (List.getElem?_eq_getElem hlt)
    rw [hd] at hy; cases hy
    obtain ⟨u, hu, hr⟩ := hA.2 i _ (List.getElem?_eq_getElem hlt)
    exact ⟨u, hu, _, roP_sound R.st hr hm⟩)
  have fin : ∀ u w', (∃ r F, post r ∧ ResT w' F r u ∧ (∀ b, F b → w.heap.size ≤ b ∧ b < w'.heap.size) ∧ Keep w (fun _ => False) w') → Post w0 mine a k u w' := by
    rintro u w' ⟨r, F, hp, hr, hF, hkeep⟩
    have R' := R.ext hkeep.size (fun b hb => hkeep.old b hb (fun h => h)) hkeep.os hkeep.tape hkeep.output
    have hws := R.st.keep.size
    obtain ⟨γ', R'', hv⟩ := instR_sound R' hr (fun b hb => by
      have := hF b hb
      refine ⟨fun i oi hi hf => ?_, fun hro => ?_, this.2, .inl (by omega)⟩
      · have := (R.st.fp i oi hi b hf).1; omega
      · have := R.st.rolt b hro; omega)
    exact ⟨_, _, γ', hk r hp, R'', hv⟩
  rcases hc with ⟨u, w', h1, h2⟩ | ⟨h1, h2⟩
  · exact .inl ⟨u, w', h1, fin u w' h2⟩
  · exact .inr ⟨h1, h2.mono fun e w' ⟨u, he, hp⟩ => ⟨u, he, fin u w' hp⟩⟩
end
end Go.AW
