/- The abstract calculus, part 26: a contract out of a function's code. -/
import Derived.Test.YtfidphaoddenlaaAw25
set_option linter.unusedVariables false
set_option linter.unusedSimpArgs false
namespace Go.AW

def inV : DP → V
  | .c d => .one (.lf (roLeaf d))
  | .a ds => .one (.ag (ds.map roLeaf))
  | .p row => .one (.lf (.rp row))
  | .fr f rows => .one (.lf (.fr f rows))
def inArgs : List AM → St → List V × St
  | [], σ => ([], σ)
  | .r d :: t, σ => match inArgs t σ with
    | (vs, σ') => (inV d :: vs, σ')
  | .o d :: t, σ => match inst1 σ d with
    | (v, σ1) => match inArgs t σ1 with
      | (vs, σ') => (.one v :: vs, σ')
  | .g d :: t, σ => match inst1 σ d with
    | (v, σ1) => match inArgs t σ1 with
      | (vs, σ') => (.one v :: vs, σ')
def startSt (ntmps : Nat) (das : List AM) : St :=
  match inArgs das ⟨[], [], 0⟩ with
  | (vs, σ) => ⟨vs ++ List.replicate (ntmps - vs.length) undefV, σ.store, σ.next⟩

def resV1 (E : Env) (σ : St) : ResultVar → Option V1
  | .tmp t => match getN undefV σ.slots t with
    | .one v => some v
    | _ => none
  | .cell t ty => match okK (E ty).k, getN undefV σ.slots t with
    | true, .one (.lf l) => match readAt σ l (E ty).size with
      | some cs => match packV (isAg (E ty).k) cs with
        | some (.one v) => some v
        | _ => none
      | none => none
    | _, _ => none
def filt {α : Type} : List AM → List α → List α
  | .o _ :: ds, x :: xs => x :: filt ds xs
  | _ :: ds, _ :: xs => filt ds xs
  | _, _ => []
def ones : List V → Option (List V1)
  | [] => some []
  | .one v :: t => match ones t with
    | some l => some (v :: l)
    | none => none
  | _ => none
def takeN {α : Type} : Nat → List α → List α
  | 0, _ => []
  | n + 1, a :: l => a :: takeN n l
  | _ + 1, [] => []
def dropN {α : Type} : Nat → List α → List α
  | 0, l => l
  | n + 1, _ :: l => dropN n l
  | _ + 1, [] => []
def resP (D : Ops) (E : Env) (rts : List ResultVar) (das : List AM) (fin : List DR → List DR → Prop) (σ : St) : Prop :=
  match allS (resV1 E σ) rts, ones (filt das σ.slots) with
  | some rs, some ls => match takeVs D (rs ++ ls) σ (fun l => l) with
    | some (ds, _, _) => fin (takeN rs.length ds) (dropN rs.length ds)
    | none => False
  | _, _ => False
def exitP (D : Ops) (E : Env) (rts : List ResultVar) (das : List AM) (fin : List DR → List DR → Prop) : Exit → St → Prop
  | .normal, σ => resP D E rts das fin σ
  | .ret, σ => resP D E rts das fin σ
  | _, _ => False

/-- The places of what is lent. -/
def lentIx : List AM → Nat → List Nat
  | [], _ => []
  | .o _ :: ds, i => i :: lentIx ds (i + 1)
  | _ :: ds, i => lentIx ds (i + 1)
def noDst (ls : List Nat) : Code → Bool
  | .region _ ops _ => ops.toList.all fun o => match o.dst with
    | some d => !(memN ls d)
    | none => true
  | .seq a b => noDst ls a && noDst ls b
  | .cond _ a b => noDst ls a && noDst ls b
  | .block _ c => noDst ls c
  | .loop c => noDst ls c
  | _ => true

section
variable {P : Program} {w0 w w' : World} {mine : FP} {γ γ' : Ghost} {σ : St} {a : Act} {k : V → St → Prop} {E : Env}

theorem run_callFunc {f : FuncId} {fn : Func} {c : Code} (hf : P.funcs[f]? = some fn) (hname : (fn.name == "runtime.NumGoroutine") = false) (hb : fn.body = some c) (args : Array Value) (w : World) :
    (callFunc f args).run P w = .ok (.enter f args) w := by
  simp only [callFunc, Sem.run_bind, run_program, Result.andThen_ok, hf, hname, hb, Option.isNone_some, Bool.false_eq_true, if_false, Sem.run_pure]

def Anch (ls : List Nat) (us : List Value) (a : Act) : Prop := a.defers = [] ∧ us.length ≤ a.tmps.size ∧ ∀ i, i ∈ ls → a.tmps.getD i undef = us.getD i undef
theorem keepsC_of {ls : List Nat} {us : List Value} : ∀ (c : Code), noDst ls c = true → KeepsC (Anch ls us) c := by
  intro c
  induction c with
  | region id ops draw =>
    intro h o ho a u ⟨h1, h3, h2⟩
    simp only [noDst, List.all_eq_true] at h
    have := h o ho
    refine ⟨by rw [put_defers]; exact h1, by rw [put_size]; exact h3, fun i hi => ?_⟩
    cases hd : o.dst with
    | none => exact h2 i hi
    | some d =>
      rw [hd] at this
      rw [getD_put, if_neg]
      · exact h2 i hi
      · rintro ⟨rfl, _⟩
        have hm := (memN_iff ls i).mpr hi
        simp [hm] at this
  | seq x y ihx ihy => intro h; simp only [noDst, Bool.and_eq_true] at h; exact ⟨ihx h.1, ihy h.2⟩
  | cond c x y ihx ihy => intro h; simp only [noDst, Bool.and_eq_true] at h; exact ⟨ihx h.1, ihy h.2⟩
  | block id c ih => intro h; exact ih h
  | loop c ih => intro h; exact ih h
  | _ => intro h; trivial

theorem inV_rv {d : DP} {u : Value} {γ : Ghost} (h : ArgT w γ.ro d u) : RV γ w (inV d) u := by
  cases d with
  | c d => exact rleaf_ro h
  | a ds =>
    obtain ⟨us, hu, hl, hv⟩ := h
    refine ⟨us, hu, by simp [hl], fun j l hj => ?_⟩
    simp only [List.getElem?_map, Option.map_eq_some_iff] at hj
    obtain ⟨d, hd, rfl⟩ := hj
    obtain ⟨x, hx, hr⟩ := hv j d hd
    exact ⟨x, hx, rleaf_ro hr⟩
  | p row =>
    refine ⟨?_, h⟩
    obtain ⟨b, off, cs, t, fr, hu, _⟩ := h
    rw [hu]; rfl
  | fr f rows =>
    refine ⟨?_, h⟩
    obtain ⟨vs, hu, _⟩ := h
    rw [hu]; rfl

theorem rv_leaf (h : ∀ l u, RLeaf γ w l u → RLeaf γ' w l u) {v : V} {u : Value} (hv : RV γ w v u) : RV γ' w v u := by
  have e : ∀ v, mapV (fun l => l) v = v := fun v => mapV_id v
  have := rv_map2 (h := fun l => l) (h' := fun l => l) (γ := γ) (γ' := γ') (w := w) (w' := w) (fun l u hl => h l u hl) (v := v) (u := u) (by rw [e]; exact hv)
  rwa [e] at this

theorem inArgs_sound {A : FP} : ∀ (das : List AM) (us : List Value) (Fs : List FP) (γ : Ghost) (σ : St), Rel w0 mine γ σ a w → (∀ d u F, ArgT w F d u → (∀ b, F b → b < w.heap.size ∧ ¬ A b) → RV γ w (inV d) u) → InsT w A das us Fs → Free w0 mine γ σ.store w (AnyL Fs) → DisjL Fs →
    ∃ γ', Rel w0 mine γ' (inArgs das σ).2 a w ∧ (∀ l u, RLeaf γ w l u → RLeaf γ' w l u) ∧ (inArgs das σ).1.length = das.length ∧ us.length = das.length ∧ ∀ (i : Nat) (v : V), (inArgs das σ).1[i]? = some v → ∃ u, us[i]? = some u ∧ RV γ' w v u
  | das, us, Fs, γ, σ, R, hro, hI, hF, hD => by
    cases hI with
    | nil => exact ⟨γ, R, fun _ _ h => h, rfl, rfl, fun i v h => by simp [inArgs] at h⟩
    | r F d u ds us Fs h hF1 ht =>
      obtain ⟨γ1, R1, l1, e1, e2, v1⟩ := inArgs_sound ds us _ γ σ R hro ht hF hD
      refine ⟨γ1, R1, l1, by simp [inArgs, e1], by simp [e2], fun i v hi => ?_⟩
      simp only [inArgs] at hi
      cases i with
      | zero => simp at hi; subst hi; exact ⟨u, rfl, rv_leaf l1 (hro d u F h hF1)⟩
      | succ i => simpa using v1 i v (by simpa using hi)
    | o F d u ds us Fs h ht =>
      obtain ⟨hd1, hd2⟩ := disjL_cons.mp hD
      obtain ⟨γ0, I, l0⟩ := inst1_sound R h (fun b hb => hF b (anyL_cons.mpr (.inl hb))) (fun l => l)
      obtain ⟨γ1, R1, l1, e1, e2, v1⟩ := inArgs_sound ds us Fs γ0 (inst1 σ d).2 I.R (fun d u F h1 h2 => rv_leaf I.leaf (hro d u F h1 h2)) ht (I.free _ (fun b hb => hF b (anyL_cons.mpr (.inr hb))) fun x h1 h2 => hd1 x h2 h1) hd2
      refine ⟨γ1, R1, fun l u hl => l1 l u (I.leaf l u hl), by simp [inArgs, e1], by simp [e2], fun i v hi => ?_⟩
      simp only [inArgs] at hi
      cases i with
      | zero => simp at hi; subst hi; exact ⟨u, rfl, rv_leaf (v := .one (inst1 σ d).1) l1 l0⟩
      | succ i => simpa using v1 i v (by simpa using hi)
    | g F d u ds us Fs h ht =>
      obtain ⟨hd1, hd2⟩ := disjL_cons.mp hD
      obtain ⟨γ0, I, l0⟩ := inst1_sound R h (fun b hb => hF b (anyL_cons.mpr (.inl hb))) (fun l => l)
      obtain ⟨γ1, R1, l1, e1, e2, v1⟩ := inArgs_sound ds us Fs γ0 (inst1 σ d).2 I.R (fun d u F h1 h2 => rv_leaf I.leaf (hro d u F h1 h2)) ht (I.free _ (fun b hb => hF b (anyL_cons.mpr (.inr hb))) fun x h1 h2 => hd1 x h2 h1) hd2
      refine ⟨γ1, R1, fun l u hl => l1 l u (I.leaf l u hl), by simp [inArgs, e1], by simp [e2], fun i v hi => ?_⟩
      simp only [inArgs] at hi
      cases i with
      | zero => simp at hi; subst hi; exact ⟨u, rfl, rv_leaf (v := .one (inst1 σ d).1) l1 l0⟩
      | succ i => simpa using v1 i v (by simpa using hi)

/-- Slots do not matter to what is installed. -/
theorem instC_slots (d : DV) (s s' : List V) (st : List (Nat × Obj)) (n : Nat) : (instC ⟨s, st, n⟩ d).1 = (instC ⟨s', st, n⟩ d).1 ∧ (instC ⟨s, st, n⟩ d).2.store = (instC ⟨s', st, n⟩ d).2.store ∧ (instC ⟨s, st, n⟩ d).2.next = (instC ⟨s', st, n⟩ d).2.next ∧ (instC ⟨s, st, n⟩ d).2.slots = s := by
  cases d <;> exact ⟨rfl, rfl, rfl, rfl⟩
theorem instCs_slots : ∀ (ds : List DV) (s s' : List V) (st : List (Nat × Obj)) (n : Nat), (instCs ⟨s, st, n⟩ ds).1 = (instCs ⟨s', st, n⟩ ds).1 ∧ (instCs ⟨s, st, n⟩ ds).2.store = (instCs ⟨s', st, n⟩ ds).2.store ∧ (instCs ⟨s, st, n⟩ ds).2.next = (instCs ⟨s', st, n⟩ ds).2.next ∧ (instCs ⟨s, st, n⟩ ds).2.slots = s
  | [], s, s', st, n => ⟨rfl, rfl, rfl, rfl⟩
  | d :: ds, s, s', st, n => by
    obtain ⟨h1, h2, h3, h4⟩ := instC_slots d s s' st n
    obtain ⟨_, _, _, h5⟩ := instC_slots d s' s st n
    rcases hx : instC ⟨s, st, n⟩ d with ⟨l, ⟨s1, st1, n1⟩⟩
    rcases hy : instC ⟨s', st, n⟩ d with ⟨l', ⟨s2, st2, n2⟩⟩
    rw [hx] at h1 h2 h3 h4
    rw [hy] at h1 h2 h3 h5
    simp only at h1 h2 h3 h4 h5
    subst h1 h2 h3 h4 h5
    obtain ⟨i1, i2, i3, i4⟩ := instCs_slots ds s1 s2 st1 n1
    simp only [instCs, hx, hy]
    exact ⟨by rw [i1], i2, i3, i4⟩
theorem inst1_slots (d : DR) (s s' : List V) (st : List (Nat × Obj)) (n : Nat) : (inst1 ⟨s, st, n⟩ d).1 = (inst1 ⟨s', st, n⟩ d).1 ∧ (inst1 ⟨s, st, n⟩ d).2.store = (inst1 ⟨s', st, n⟩ d).2.store ∧ (inst1 ⟨s, st, n⟩ d).2.next = (inst1 ⟨s', st, n⟩ d).2.next ∧ (inst1 ⟨s, st, n⟩ d).2.slots = s := by
  cases d with
  | c d =>
    obtain ⟨h1, h2, h3, h4⟩ := instC_slots d s s' st n
    exact ⟨by simp [inst1, h1], h2, h3, h4⟩
  | a ds =>
    obtain ⟨h1, h2, h3, h4⟩ := instCs_slots ds s s' st n
    exact ⟨by simp [inst1, h1], h2, h3, h4⟩
  | p ds =>
    obtain ⟨h1, h2, h3, h4⟩ := instCs_slots ds s s' st n
    exact ⟨by simp [inst1, h3], by simp [inst1, mkObj, h1, h2, h3], by simp [inst1, mkObj, h3], by simp [inst1, mkObj, h4]⟩
theorem inArgs_slots : ∀ (das : List AM) (s s' : List V) (st : List (Nat × Obj)) (n : Nat), (inArgs das ⟨s, st, n⟩).1 = (inArgs das ⟨s', st, n⟩).1 ∧ (inArgs das ⟨s, st, n⟩).2.store = (inArgs das ⟨s', st, n⟩).2.store ∧ (inArgs das ⟨s, st, n⟩).2.next = (inArgs das ⟨s', st, n⟩).2.next ∧ (inArgs das ⟨s, st, n⟩).2.slots = s
  | [], s, s', st, n => ⟨rfl, rfl, rfl, rfl⟩
  | .r d :: ds, s, s', st, n => by
    obtain ⟨h1, h2, h3, h4⟩ := inArgs_slots ds s s' st n
    exact ⟨by simp [inArgs, h1], h2, h3, h4⟩
  | .o d :: ds, s, s', st, n => by
    obtain ⟨h1, h2, h3, h4⟩ := inst1_slots d s s' st n
    obtain ⟨_, _, _, h5⟩ := inst1_slots d s' s st n
    rcases hx : inst1 ⟨s, st, n⟩ d with ⟨l, ⟨s1, st1, n1⟩⟩
    rcases hy : inst1 ⟨s', st, n⟩ d with ⟨l', ⟨s2, st2, n2⟩⟩
    rw [hx] at h1 h2 h3 h4
    rw [hy] at h1 h2 h3 h5
    simp only at h1 h2 h3 h4 h5
    subst h1 h2 h3 h4 h5
    obtain ⟨i1, i2, i3, i4⟩ := inArgs_slots ds s1 s2 st1 n1
    simp only [inArgs, hx, hy]
    exact ⟨by rw [i1], i2, i3, i4⟩
  | .g d :: ds, s, s', st, n => by
    obtain ⟨h1, h2, h3, h4⟩ := inst1_slots d s s' st n
    obtain ⟨_, _, _, h5⟩ := inst1_slots d s' s st n
    rcases hx : inst1 ⟨s, st, n⟩ d with ⟨l, ⟨s1, st1, n1⟩⟩
    rcases hy : inst1 ⟨s', st, n⟩ d with ⟨l', ⟨s2, st2, n2⟩⟩
    rw [hx] at h1 h2 h3 h4
    rw [hy] at h1 h2 h3 h5
    simp only at h1 h2 h3 h4 h5
    subst h1 h2 h3 h4 h5
    obtain ⟨i1, i2, i3, i4⟩ := inArgs_slots ds s1 s2 st1 n1
    simp only [inArgs, hx, hy]
    exact ⟨by rw [i1], i2, i3, i4⟩

theorem takeVs_sound : ∀ (vs : List V1) (us : List Value) (σ : St) (γ : Ghost) (h : Leaf → Leaf) (ds : List DR) (σ' : St) (h' : Leaf → Leaf), Rel w0 mine γ σ a w → us.length = vs.length → (∀ (j : Nat) (v : V1), vs[j]? = some v → ∃ u, us[j]? = some u ∧ RV1 γ w (mapV1 h v) u) → takeVs std vs σ h = some (ds, σ', h') →
    ∃ γ' Gs, Took w0 mine a w γ σ h (AnyL Gs) γ' σ' h' ∧ OwnL w ds us Gs ∧ DisjL Gs
  | [], us, σ, γ, h, ds, σ', h', R, hl, hr, ht => by
    have : us = [] := List.eq_nil_of_length_eq_zero hl
    subst this
    simp [takeVs] at ht
    obtain ⟨rfl, rfl, rfl⟩ := ht
    exact ⟨γ, [], (Took.refl R h).mono (fun b hb => anyL_nil b hb), .nil, .nil⟩
  | v :: vs, us, σ, γ, h, ds, σ', h', R, hl, hr, ht => by
    obtain ⟨u0, us', rfl⟩ : ∃ u0 us', us = u0 :: us' := by
      cases us with
      | nil => simp at hl
      | cons u us => exact ⟨u, us, rfl⟩
    obtain ⟨u, hu, hvu⟩ := hr 0 v rfl
    simp at hu; subst hu
    simp only [takeVs] at ht
    split at ht
    · rename_i d σ1 h1 ht1
      split at ht
      · rename_i ds2 σ2 h2 ht2
        simp only [Option.some.injEq, Prod.mk.injEq] at ht
        obtain ⟨rfl, rfl, rfl⟩ := ht
        obtain ⟨γ1, F1, T1, o1⟩ := takeV_sound R hvu ht1
        obtain ⟨γ2, Gs, T2, o2, d2⟩ := takeVs_sound vs us' σ1 γ1 h1 ds2 σ2 h2 T1.R (by simpa using hl) (fun j v hj => by
          obtain ⟨u, hu, hvu⟩ := hr (j + 1) v (by simpa using hj)
          refine ⟨u, by simpa using hu, ?_⟩
          have := rv_map2 (v := .one v) (u := u) T1.leaf hvu
          exact this) ht2
        exact ⟨γ2, F1 :: Gs, (T1.trans T2).mono (fun b hb => anyL_cons.mp hb), .cons _ _ _ _ _ _ o1 o2, disjL_cons.mpr ⟨(T2.keep F1 T1.free).2, d2⟩⟩
      · cases ht
    · cases ht

theorem run_loadVar {t : TypeId} {i : TI} (h : TIok P t i) {b off : Nat} {us : List Value} (hn : us.length = i.size) (hc : ∀ j, j < i.size → w.cell? ⟨b, off + j, none⟩ = us[j]?) :
    (isAg i.k = true → (loadVar t ⟨b, off, none⟩).run P w = .ok (.agg us.toArray) w) ∧ (isAg i.k = false → ∀ u, us = [u] → (loadVar t ⟨b, off, none⟩).run P w = .ok u w) := by
  have hl := run_loadCells_list (P := P) w ⟨b, off, none⟩ us (fun j v hj => by
    have : j < i.size := by rw [← hn]; exact (List.getElem?_eq_some_iff.mp hj).1
    rw [add_at, hc j this, hj])
  rw [hn] at hl
  constructor
  · intro hk
    simp [loadVar, h.run_isAgg, hk, h.run_size, hl]
  · rintro hk u rfl
    have h0 := hc 0 (by simp at hn; omega)
    simp at h0
    simp [loadVar, h.run_isAgg, hk, h0]

theorem resV1_sound (hE : EnvOk P E) (R : Rel w0 mine γ σ a w) {rv : ResultVar} {v : V1} (h : resV1 E σ rv = some v) : ∃ u, RV1 γ w v u ∧
    (match rv with | .tmp t => (pure (a.tmps.getD t undef) : Sem Value) | .cell x t => do loadVar t (← asAddr (a.tmps.getD x undef))).run P w = .ok u w := by
  cases rv with
  | tmp t =>
    simp only [resV1] at h
    split at h
    · rename_i v' hv
      simp at h; subst h
      have := R.slots t
      rw [hv] at this
      exact ⟨_, this, rfl⟩
    · cases h
  | cell t ty =>
    simp only [resV1] at h
    split at h
    · rename_i l hk hl
      split at h
      · rename_i cs hr
        split at h
        · rename_i v' hp
          simp at h; subst h
          have hT := hE ty (okK_ne hk)
          have hs := R.slots t
          rw [hl] at hs
          obtain ⟨b, off, us, hu, hlen, hrc, hcell⟩ := readAt_sound R.st hs hr
          obtain ⟨h1, h2⟩ := run_loadVar (w := w) hT (b := b) (off := off) (us := us) (by rw [hrc.1, hlen]) hcell
          unfold packV at hp
          split at hp
          · rename_i hag
            simp at hp; subst hp
            refine ⟨.agg us.toArray, ⟨us, rfl, hrc⟩, ?_⟩
            simp only [hu, Sem.run_bind]
            simp [asAddr, h1 hag]
          · rename_i c hag
            simp at hp; subst hp
            obtain ⟨x, hx, hrx⟩ := hrc.2 0 c rfl
            have hus : us = [x] := by
              have := hrc.1
              rcases us with _ | ⟨y, _ | ⟨z, t⟩⟩
              · simp at this
              · simp at hx; rw [hx]
              · simp at this
            refine ⟨x, hrx, ?_⟩
            simp only [hu, Sem.run_bind]
            simp [asAddr, h2 hag x hus]
          · cases hp
        · cases h
      · cases h
    · cases h

theorem run_results (hE : EnvOk P E) (R : Rel w0 mine γ σ a w) (fn : Func) (rts : List ResultVar) (hres : fn.results.toList = rts) {vs : List V1} (h : allS (resV1 E σ) rts = some vs) :
    ∃ us : List Value, us.length = vs.length ∧ (∀ (j : Nat) (v : V1), vs[j]? = some v → ∃ u, us[j]? = some u ∧ RV1 γ w v u) ∧ (results fn a.tmps).run P w = .ok (packU us) w := by
  have hm : ∀ (f : ResultVar → Sem Value), (∀ rv v, resV1 E σ rv = some v → ∃ u, RV1 γ w v u ∧ (f rv).run P w = .ok u w) → ∀ (l : List ResultVar) (vs : List V1), allS (resV1 E σ) l = some vs →
      ∃ us : List Value, us.length = vs.length ∧ (∀ (j : Nat) (v : V1), vs[j]? = some v → ∃ u, us[j]? = some u ∧ RV1 γ w v u) ∧ (l.mapM f).run P w = .ok us w := by
    intro f hf l
    induction l with
    | nil => intro vs h; simp [allS] at h; subst h; exact ⟨[], rfl, fun j v hj => by simp at hj, rfl⟩
    | cons x l ih =>
      intro vs h
      simp only [allS] at h
      split at h
      · rename_i d hd
        split at h
        · rename_i ds hds
          simp at h; subst h
          obtain ⟨u, hu, hr⟩ := hf x d hd
          obtain ⟨us, h1, h2, h3⟩ := ih ds hds
          refine ⟨u :: us, by simp [h1], fun j v hj => ?_, by simp only [List.mapM_cons, Sem.run_bind, hr, Result.andThen_ok, h3, Sem.run_pure]⟩
          cases j with
          | zero => simp at hj; subst hj; exact ⟨u, rfl, hu⟩
          | succ j => simpa using h2 j v (by simpa using hj)
        · cases h
      · cases h
  have hres' : fn.results = rts.toArray := by rw [← hres]
  unfold results
  rw [hres']
  simp only [List.mapM_toArray, Sem.run_bind, Sem.run_map]
  have key : ∀ F : ResultVar → Sem Value, (∀ rv v, resV1 E σ rv = some v → ∃ u, RV1 γ w v u ∧ (F rv).run P w = .ok u w) →
      ∃ us : List Value, us.length = vs.length ∧ (∀ (j : Nat) (v : V1), vs[j]? = some v → ∃ u, us[j]? = some u ∧ RV1 γ w v u) ∧
        (((rts.mapM F).run P w).andThen fun a w' => Result.ok a.toArray w').andThen (fun a w' => Sem.run P (pure (if h : a.size = 1 then a[0] else Value.tuple a)) w') = Result.ok (packU us) w := by
    intro F hF
    obtain ⟨us, h1, h2, h3⟩ := hm F hF rts vs h
    refine ⟨us, h1, h2, ?_⟩
    rw [h3]
    rcases us with _ | ⟨t, _ | ⟨t', l⟩⟩
    · rfl
    · rfl
    · simp [packU]
  exact key _ fun rv v hrv => by
    obtain ⟨u, h1, h2⟩ := resV1_sound hE R hrv
    refine ⟨u, h1, ?_⟩
    cases rv <;> exact h2

theorem filt_rel {r : V → Value → Prop} : ∀ (das : List AM) (xs : List V) (us : List Value), das.length ≤ xs.length → us.length = das.length → (∀ (i : Nat) (d : DR) (v : V) (u : Value), das[i]? = some (.o d) → xs[i]? = some v → us[i]? = some u → r v u) →
    (filt das us).length = (filt das xs).length ∧ ∀ (j : Nat) (v : V), (filt das xs)[j]? = some v → ∃ u, (filt das us)[j]? = some u ∧ r v u
  | [], xs, us, _, _, _ => by cases xs <;> cases us <;> simp [filt]
  | d :: ds, xs, us, hl, hu, h => by
    cases xs with
    | nil => simp at hl
    | cons x xs =>
      cases us with
      | nil => simp at hu
      | cons u us =>
        obtain ⟨h1, h2⟩ := filt_rel ds xs us (by simpa using hl) (by simpa using hu) (fun i d v u hi hv hu => h (i + 1) d v u (by simpa using hi) (by simpa using hv) (by simpa using hu))
        cases d with
        | o d =>
          refine ⟨by simp [filt, h1], fun j v hj => ?_⟩
          cases j with
          | zero => simp [filt] at hj; subst hj; exact ⟨u, rfl, h 0 d x u rfl rfl rfl⟩
          | succ j => simpa [filt] using h2 j v (by simpa [filt] using hj)
        | r d => exact ⟨h1, h2⟩
        | g d => exact ⟨h1, h2⟩
theorem ones_spec : ∀ (l : List V) (vs : List V1), ones l = some vs → vs.length = l.length ∧ ∀ (j : Nat) (v : V1), vs[j]? = some v → l[j]? = some (.one v)
  | [], vs, h => by simp [ones] at h; subst h; simp
  | .one v :: t, vs, h => by
    simp only [ones] at h
    split at h
    · rename_i l hl
      simp at h; subst h
      obtain ⟨h1, h2⟩ := ones_spec t l hl
      refine ⟨by simp [h1], fun j x hj => ?_⟩
      cases j with
      | zero => simp at hj; subst hj; rfl
      | succ j => simpa using h2 j x (by simpa using hj)
    · cases h
  | .tup _ :: t, vs, h => by simp [ones] at h
  | .bad :: t, vs, h => by simp [ones] at h
theorem lentIx_mem : ∀ (das : List AM) (n i : Nat) (d : DR), das[i]? = some (.o d) → n + i ∈ lentIx das n
  | [], n, i, d, h => by simp at h
  | x :: ds, n, 0, d, h => by simp at h; subst h; simp [lentIx]
  | x :: ds, n, i + 1, d, h => by
    have := lentIx_mem ds (n + 1) i d (by simpa using h)
    rw [show n + 1 + i = n + (i + 1) by omega] at this
    cases x <;> simp [lentIx, this]
theorem outsT_of : ∀ (das : List AM) (us : List Value) (outs : List DR) (Hs : List FP), us.length = das.length → OwnL w outs (filt das us) Hs → OutsT w das us outs Hs
  | [], us, outs, Hs, hl, h => by
    have : us = [] := List.eq_nil_of_length_eq_zero hl
    subst this
    cases h; exact .nil
  | d :: ds, us, outs, Hs, hl, h => by
    cases us with
    | nil => simp at hl
    | cons u us =>
      cases d with
      | o d =>
        simp only [filt] at h
        cases h with
        | cons F d' _ rs _ Fs h ht => exact .o _ _ _ _ _ _ _ _ h (outsT_of ds us rs Fs (by simpa using hl) ht)
      | r d => exact .r _ _ _ _ _ _ (outsT_of ds us outs Hs (by simpa using hl) h)
      | g d => exact .g _ _ _ _ _ _ (outsT_of ds us outs Hs (by simpa using hl) h)
theorem ownL_split : ∀ (n : Nat) (ds : List DR) (us1 us2 : List Value) (Gs : List FP), us1.length = n → OwnL w ds (us1 ++ us2) Gs → ∃ G1 G2, Gs = G1 ++ G2 ∧ OwnL w (takeN n ds) us1 G1 ∧ OwnL w (dropN n ds) us2 G2
  | 0, ds, us1, us2, Gs, hl, h => by
    have : us1 = [] := List.eq_nil_of_length_eq_zero hl
    subst this
    exact ⟨[], Gs, rfl, by simp only [takeN]; exact .nil, by simpa [dropN] using h⟩
  | n + 1, ds, us1, us2, Gs, hl, h => by
    cases us1 with
    | nil => simp at hl
    | cons u us1 =>
      cases h with
      | cons F d _ ds _ Fs h ht =>
        obtain ⟨G1, G2, rfl, h1, h2⟩ := ownL_split n ds us1 us2 Fs (by simpa using hl) ht
        exact ⟨F :: G1, G2, rfl, .cons _ _ _ _ _ _ h h1, h2⟩

theorem pcon_of_awp (hE : EnvOk P E) (hm : P.follows .mixedOrders = true) {f : FuncId} {fn : Func} {c : Code} (hf : P.funcs[f]? = some fn) (hname : (fn.name == "runtime.NumGoroutine") = false) (hb : fn.body = some c) (rts : List ResultVar) (hres : fn.results.toList = rts)
    {das : List AM} (hnd : noDst (lentIx das 0) c = true) (hnt : das.length ≤ fn.ntmps) {post : List DR → List DR → Prop} (fin : List DR → List DR → Prop) (hfin : ∀ rs outs, fin rs outs → ∃ rs' outs', drsLe rs rs' ∧ drsLe outs outs' ∧ post rs' outs')
    (h : ∀ (w0 : World) (mine : FP) (D : Ops) (C : CallT) (L : LoopT), D = std → C = Csem P w0 mine → L = Lsem w0 mine → AWP D E C L c (startSt fn.ntmps das) (exitP D E rts das fin)) : PCon P f das post := by
  intro w us Fs hI hD hlt
  refine .inr ⟨run_callFunc hf hname hb _ _, ?_⟩
  refine calls_of_wp hf hb ?_
  let γ0 : Ghost := ⟨fun _ => none, fun _ _ => False, fun b => b < w.heap.size ∧ ¬ AnyL Fs b⟩
  let a0 : Act := { tmps := us.toArray ++ Array.replicate (fn.ntmps - us.toArray.size) undef, defers := [] }
  have hget : ∀ i, a0.tmps.getD i undef = us.getD i undef := by
    intro i
    simp only [a0, Array.getD_eq_getD_getElem?, List.getD_eq_getElem?_getD, Array.getElem?_append]
    by_cases hi : i < us.length
    · simp [hi]
    · simp only [List.size_toArray, hi, if_false, Array.getElem?_replicate]
      rw [List.getElem?_eq_none (by omega)]
      split <;> rfl
  have R0 : Rel w (AnyL Fs) γ0 ⟨List.replicate a0.tmps.size .bad, [], 0⟩ a0 w := by
    refine ⟨by simp, fun i => ?_, ⟨fun id o h => by simp [look] at h, fun id id' o o' h => by simp [look] at h, fun id o h => by simp [look] at h, fun id g h => by simp [γ0] at h, fun id g h => by simp [γ0] at h, fun id o h => by simp [look] at h, fun b hb => hb.1, ⟨Nat.le_refl _, rfl, rfl, rfl, fun b _ _ => rfl⟩⟩⟩
    rw [getN_getD]
    simp only [List.getD_eq_getElem?_getD, List.getElem?_replicate]
    split
    · trivial
    · rename_i hi
      exact rv_undef
  obtain ⟨γ1, R1, l1, e1, e2, hv1⟩ := inArgs_sound (A := AnyL Fs) das us Fs γ0 _ R0 (fun d u F h1 h2 => inV_rv (h1.mono h2)) hI (fun b hb => ⟨fun i oi hi => by simp [look] at hi, fun hr => hr.2 hb, hlt b hb, .inr hb⟩) hD
  obtain ⟨s1, s2, s3, s4⟩ := inArgs_slots das (List.replicate a0.tmps.size .bad) [] [] 0
  rw [s1] at e1 hv1
  have Rst : RelS w (AnyL Fs) γ1 (startSt fn.ntmps das).store (startSt fn.ntmps das).next w := by
    have := R1.st
    rw [s2, s3] at this
    exact this
  have hsl : (startSt fn.ntmps das).slots = (inArgs das ⟨[], [], 0⟩).1 ++ List.replicate (fn.ntmps - (inArgs das ⟨[], [], 0⟩).1.length) undefV := rfl
  have RS : Rel w (AnyL Fs) γ1 (startSt fn.ntmps das) a0 w := by
    refine ⟨?_, fun i => ?_, Rst⟩
    · rw [hsl]
      simp [a0, e1, e2]
    · rw [hget, getN_getD, hsl]
      simp only [List.getD_eq_getElem?_getD]
      by_cases hi : i < (inArgs das ⟨[], [], 0⟩).1.length
      · rw [List.getElem?_append_left hi]
        obtain ⟨u, hu, hr⟩ := hv1 i _ (List.getElem?_eq_getElem hi)
        rw [hu, List.getElem?_eq_getElem hi]
        exact hr
      · rw [List.getElem?_append_right (by omega), List.getElem?_replicate]
        have : (if i - (inArgs das ⟨[], [], 0⟩).1.length < fn.ntmps - (inArgs das ⟨[], [], 0⟩).1.length then some undefV else none).getD undefV = undefV := by split <;> rfl
        rw [this, List.getElem?_eq_none (l := us) (by omega)]
        exact rv_undef
  have hw := AWP_sound (Q := bodyPost P fn fun e w' => ∃ u, e = .returned u ∧ ∃ rs outs vs Gs Hs, post rs outs ∧ u = packU vs ∧ OwnL w' rs vs Gs ∧ OutsT w' das us outs Hs ∧ DisjL (Gs ++ Hs) ∧
      (∀ x, AnyL (Gs ++ Hs) x → (w.heap.size ≤ x ∨ AnyL Fs x) ∧ x < w'.heap.size) ∧ Keep w (AnyL Fs) w') hE hm c _ _ (Anch (lentIx das 0) us) γ1 a0 w (keepsC_of c hnd) RS ⟨rfl, by simp [a0], fun i _ => hget i⟩ ?_ (h w (AnyL Fs) std _ _ rfl rfl rfl)
  · exact hw
  · intro e σ γ a w' he R ⟨hd, htl, hanch⟩
    have key : resP std E rts das fin σ → a.defers = [] ∧ ∃ v, (results fn a.tmps).run P w' = .ok v w' ∧ ∃ u, Ending.returned v = .returned u ∧ ∃ rs outs vs Gs Hs, post rs outs ∧ u = packU vs ∧ OwnL w' rs vs Gs ∧ OutsT w' das us outs Hs ∧ DisjL (Gs ++ Hs) ∧
      (∀ x, AnyL (Gs ++ Hs) x → (w.heap.size ≤ x ∨ AnyL Fs x) ∧ x < w'.heap.size) ∧ Keep w (AnyL Fs) w' := by
      intro hr
      unfold resP at hr
      split at hr
      · rename_i rs ls hrs hls
        split at hr
        · rename_i ds σ2 h2 ht
          obtain ⟨rus, r1, r2, r3⟩ := run_results hE R fn rts hres hrs
          have hslen : das.length ≤ σ.slots.length := by
            rw [← R.size, ← e2]; exact htl
          obtain ⟨f1, f2⟩ := filt_rel (r := fun v u => RV γ w' v u) das σ.slots us hslen e2 (fun i d v u hi hv hu => by
            have h1 := R.slots i
            rw [getN_getD, List.getD_eq_getElem?_getD, hv, hanch i (by simpa using lentIx_mem das 0 i d hi), List.getD_eq_getElem?_getD, hu] at h1
            exact h1)
          obtain ⟨o1, o2⟩ := ones_spec _ _ hls
          obtain ⟨γ2, Gs, T, hO, hDj⟩ := takeVs_sound (rs ++ ls) (rus ++ filt das us) σ γ (fun l => l) ds σ2 h2 R (by simp [r1, f1, o1]) (fun j v hj => by
            have em : mapV1 (fun l => l) v = v := mapV1_id v
            rw [em]
            rcases Nat.lt_or_ge j rs.length with hjl | hjl
            · rw [List.getElem?_append_left hjl] at hj
              obtain ⟨u, hu, hr⟩ := r2 j v hj
              exact ⟨u, by rw [List.getElem?_append_left (by omega)]; exact hu, hr⟩
            · rw [List.getElem?_append_right hjl] at hj
              obtain ⟨u, hu, hr⟩ := f2 _ _ (o2 _ v hj)
              exact ⟨u, by rw [List.getElem?_append_right (by omega), r1]; exact hu, hr⟩) ht
          obtain ⟨G1, G2, rfl, p1, p2⟩ := ownL_split rs.length ds rus (filt das us) Gs r1 hO
          obtain ⟨rs', outs', q1, q2, q3⟩ := hfin _ _ hr
          refine ⟨hd, _, r3, _, rfl, rs', outs', rus, G1, G2, q3, rfl, drsLe_own p1 q1, outsT_of das us _ G2 e2 (drsLe_own p2 q2), hDj, fun x hx => ?_, R.st.keep⟩
          have := T.free x hx
          exact ⟨this.2.2.2, this.2.2.1⟩
        · exact hr.elim
      · exact hr.elim
    cases e <;> simp only [exitP, bodyPost] at he ⊢
    · exact key he
    · exact key he
end
end Go.AW
