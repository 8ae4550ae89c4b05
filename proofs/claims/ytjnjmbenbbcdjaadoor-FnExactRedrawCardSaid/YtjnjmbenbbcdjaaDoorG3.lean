/- The abstract calculus, part 26: a contract out of a function's code. -/
import Derived.ProofKit
import Derived.OpenShut
import Derived.ShutString
import Derived.ChangeOld
import Derived.SizedLaws
import Derived.Carry
import Derived.Lib.LaidTab
import Derived.Stop.LaidErr
import Derived.Test.YtjnjmbenbbcdjaaDoorRows
import Derived.Test.YtjnjmbenbbcdjaaDoorG2
set_option linter.unusedVariables false
set_option linter.unusedSimpArgs false
set_option linter.unusedVariables false
set_option linter.unusedSimpArgs false
namespace Go.AW

def inV : DP → V
  | .c d => .one (.lf (roLeaf d))
  | .a ds => .one (.ag (ds.map roLeaf))
  | .p row => .one (.lf (.rp row))
  | .fr f rows => .one (.lf (.fr f rows))
def inArgs : List AM → St → List V × St
  | [], σ => ([], σ)
  | .r d :: t, σ => match inArgs t σ with
    | (vs, σ') => (inV d :: vs, σ')
  | .o d :: t, σ => match inst1 σ d with
    | (v, σ1) => match inArgs t σ1 with
      | (vs, σ') => (.one v :: vs, σ')
  | .g d :: t, σ => match inst1 σ d with
    | (v, σ1) => match inArgs t σ1 with
      | (vs, σ') => (.one v :: vs, σ')
def startSt (ntmps : Nat) (das : List AM) : St :=
  match inArgs das ⟨[], [], 0⟩ with
  | (vs, σ) => ⟨vs ++ List.replicate (ntmps - vs.length) undefV, σ.store, σ.next⟩

def resV1 (E : Env) (σ : St) : ResultVar → Option V1
  | .tmp t => match getN undefV σ.slots t with
    | .one v => some v
    | _ => none
  | .cell t ty => match okK (E ty).k, getN undefV σ.slots t with
    | true, .one (.lf l) => match readAt σ l (E ty).size with
      | some cs => match packV (isAg (E ty).k) cs with
        | some (.one v) => some v
        | _ => none
      | none => none
    | _, _ => none
def filt {α : Type} : List AM → List α → List α
  | .o _ :: ds, x :: xs => x :: filt ds xs
  | _ :: ds, _ :: xs => filt ds xs
  | _, _ => []
def ones : List V → Option (List V1)
  | [] => some []
  | .one v :: t => match ones t with
    | some l => some (v :: l)
    | none => none
  | _ => none
def takeN {α : Type} : Nat → List α → List α
  | 0, _ => []
  | n + 1, a :: l => a :: takeN n l
  | _ + 1, [] => []
def dropN {α : Type} : Nat → List α → List α
  | 0, l => l
  | n + 1, _ :: l => dropN n l
  | _ + 1, [] => []
def resP (D : Ops) (E : Env) (rts : List ResultVar) (das : List AM) (fin : List DR → List DR → Prop) (σ : St) : Prop :=
  match allS (resV1 E σ) rts, ones (filt das σ.slots) with
  | some rs, some ls => match takeVs D (rs ++ ls) σ (fun l => l) with
    | some (ds, _, _) => fin (takeN rs.length ds) (dropN rs.length ds)
    | none => False
  | _, _ => False
def exitP (D : Ops) (E : Env) (rts : List ResultVar) (das : List AM) (fin : List DR → List DR → Prop) : Exit → St → Prop
  | .normal, σ => resP D E rts das fin σ
  | .ret, σ => resP D E rts das fin σ
  | _, _ => False

/-- The places of what is lent. -/
def lentIx : List AM → Nat → List Nat
  | [], _ => []
  | .o _ :: ds, i => i :: lentIx ds (i + 1)
  | _ :: ds, i => lentIx ds (i + 1)
def noDst (ls : List Nat) : Code → Bool
  | .region _ ops _ => ops.toList.all fun o => match o.dst with
    | some d => !(memN ls d)
    | none => true
  | .seq a b => noDst ls a && noDst ls b
  | .cond _ a b => noDst ls a && noDst ls b
  | .block _ c => noDst ls c
  | .loop c => noDst ls c
  | _ => true

section
variable {P : Program} {w0 w w' : World} {mine : FP} {γ γ' : Ghost} {σ : St} {a : Act} {k : V → St → Prop} {E : Env}

theorem run_callFunc {f : FuncId} {fn : Func} {c : Code} (hf : P.funcs[f]? = some fn) (hname : (fn.name == "runtime.NumGoroutine") = false) (hb : fn.body = some c) (args : Array Value) (w : World) :
    (callFunc f args).run P w = .ok (.enter f args) w := by
  simp only [callFunc, Sem.run_bind, run_program, Result.andThen_ok, hf, hname, hb, Option.isNone_some, Bool.false_eq_true, if_false, Sem.run_pure]

def Anch (ls : List Nat) (us : List Value) (a : Act) : Prop := a.defers = [] ∧ us.length ≤ a.tmps.size ∧ ∀ i, i ∈ ls → a.tmps.getD i undef = us.getD i undef
theorem keepsC_of {ls : List Nat} {us : List Value} : ∀ (c : Code), noDst ls c = true → KeepsC (Anch ls us) c := by
  intro c
  induction c with
  | region id ops draw =>
    intro h o ho a u ⟨h1, h3, h2⟩
    simp only [noDst, List.all_eq_true] at h
    have := h o ho
    refine ⟨by rw [put_defers]; exact h1, by rw [put_size]; exact h3, fun i hi => ?_⟩
    cases hd : o.dst with
    | none => exact h2 i hi
    | some d =>
      rw [hd] at this
      rw [getD_put, if_neg]
      · exact h2 i hi
      · rintro ⟨rfl, _⟩
        have hm := (memN_iff ls i).mpr hi
        simp [hm] at this
  | seq x y ihx ihy => intro h; simp only [noDst, Bool.and_eq_true] at h; exact ⟨ihx h.1, ihy h.2⟩
  | cond c x y ihx ihy => intro h; simp only [noDst, Bool.and_eq_true] at h; exact ⟨ihx h.1, ihy h.2⟩
  | block id c ih => intro h; exact ih h
  | loop c ih => intro h; exact ih h
  | _ => intro h; trivial

theorem noDst_nil : ∀ c : Code, noDst [] c = true := by
  intro c
  induction c with
  | region id ops draw =>
    simp only [noDst, List.all_eq_true]
    intro o _
    split <;> simp [memN]
  | seq x y ihx ihy => simp only [noDst, ihx, ihy, Bool.and_self]
  | cond c x y ihx ihy => simp only [noDst, ihx, ihy, Bool.and_self]
  | block id c ih => exact ih
  | loop c ih => exact ih
  | _ => rfl
theorem inV_rv {d : DP} {u : Value} {γ : Ghost} (h : ArgT w γ.ro d u) : RV γ w (inV d) u := by
  cases d with
  | c d => exact rleaf_ro h
  | a ds =>
    obtain ⟨us, hu, hl, hv⟩ := h
    refine ⟨us, hu, by simp [hl], fun j l hj => ?_⟩
    simp only [List.getElem?_map, Option.map_eq_some_iff] at hj
    obtain ⟨d, hd, rfl⟩ := hj
    obtain ⟨x, hx, hr⟩ := hv j d hd
    exact ⟨x, hx, rleaf_ro hr⟩
  | p row =>
    refine ⟨?_, h⟩
    obtain ⟨b, off, cs, t, fr, hu, _⟩ := h
    rw [hu]; rfl
  | fr f rows =>
    refine ⟨?_, h⟩
    obtain ⟨vs, hu, _⟩ := h
    rw [hu]; rfl

theorem rv_leaf (h : ∀ l u, RLeaf γ w l u → RLeaf γ' w l u) {v : V} {u : Value} (hv : RV γ w v u) : RV γ' w v u := by
  have e : ∀ v, mapV (fun l => l) v = v := fun v => mapV_id v
  have := rv_map2 (h := fun l => l) (h' := fun l => l) (γ := γ) (γ' := γ') (w := w) (w' := w) (fun l u hl => h l u hl) (v := v) (u := u) (by rw [e]; exact hv)
  rwa [e] at this

theorem inArgs_sound {A : FP} : ∀ (das : List AM) (us : List Value) (Fs : List FP) (γ : Ghost) (σ : St), Rel w0 mine γ σ a w → (∀ d u F, ArgT w F d u → (∀ b, F b → b < w.heap.size ∧ ¬ A b) → RV γ w (inV d) u) → InsT w A das us Fs → Free w0 mine γ σ.store w (AnyL Fs) → DisjL Fs →
    ∃ γ', Rel w0 mine γ' (inArgs das σ).2 a w ∧ (∀ l u, RLeaf γ w l u → RLeaf γ' w l u) ∧ (inArgs das σ).1.length = das.length ∧ us.length = das.length ∧ ∀ (i : Nat) (v : V), (inArgs das σ).1[i]? = some v → ∃ u, us[i]? = some u ∧ RV γ' w v u
  | das, us, Fs, γ, σ, R, hro, hI, hF, hD => by
    cases hI with
    | nil => exact ⟨γ, R, fun _ _ h => h, rfl, rfl, fun i v h => by simp [inArgs] at h⟩
    | r F d u ds us Fs h hF1 ht =>
      obtain ⟨γ1, R1, l1, e1, e2, v1⟩ := inArgs_sound ds us _ γ σ R hro ht hF hD
      refine ⟨γ1, R1, l1, by simp [inArgs, e1], by simp [e2], fun i v hi => ?_⟩
      simp only [inArgs] at hi
      cases i with
      | zero => simp at hi; subst hi; exact ⟨u, rfl, rv_leaf l1 (hro d u F h hF1)⟩
      | succ i => simpa using v1 i v (by simpa using hi)
    | o F d u ds us Fs h ht =>
      obtain ⟨hd1, hd2⟩ := disjL_cons.mp hD
      obtain ⟨γ0, I, l0⟩ := inst1_sound R h (fun b hb => hF b (anyL_cons.mpr (.inl hb))) (fun l => l)
      obtain ⟨γ1, R1, l1, e1, e2, v1⟩ := inArgs_sound ds us Fs γ0 (inst1 σ d).2 I.R (fun d u F h1 h2 => rv_leaf I.leaf (hro d u F h1 h2)) ht (I.free _ (fun b hb => hF b (anyL_cons.mpr (.inr hb))) fun x h1 h2 => hd1 x h2 h1) hd2
      refine ⟨γ1, R1, fun l u hl => l1 l u (I.leaf l u hl), by simp [inArgs, e1], by simp [e2], fun i v hi => ?_⟩
      simp only [inArgs] at hi
      cases i with
      | zero => simp at hi; subst hi; exact ⟨u, rfl, rv_leaf (v := .one (inst1 σ d).1) l1 l0⟩
      | succ i => simpa using v1 i v (by simpa using hi)
    | g F d u ds us Fs h ht =>
      obtain ⟨hd1, hd2⟩ := disjL_cons.mp hD
      obtain ⟨γ0, I, l0⟩ := inst1_sound R h (fun b hb => hF b (anyL_cons.mpr (.inl hb))) (fun l => l)
      obtain ⟨γ1, R1, l1, e1, e2, v1⟩ := inArgs_sound ds us Fs γ0 (inst1 σ d).2 I.R (fun d u F h1 h2 => rv_leaf I.leaf (hro d u F h1 h2)) ht (I.free _ (fun b hb => hF b (anyL_cons.mpr (.inr hb))) fun x h1 h2 => hd1 x h2 h1) hd2
      refine ⟨γ1, R1, fun l u hl => l1 l u (I.leaf l u hl), by simp [inArgs, e1], by simp [e2], fun i v hi => ?_⟩
      simp only [inArgs] at hi
      cases i with
      | zero => simp at hi; subst hi; exact ⟨u, rfl, rv_leaf (v := .one (inst1 σ d).1) l1 l0⟩
      | succ i => simpa using v1 i v (by simpa using hi)

/-- Slots do not matter to what is installed. -/
theorem instC_slots (d : DV) (s s' : List V) (st : List (Nat × Obj)) (n : Nat) : (instC ⟨s, st, n⟩ d).1 = (instC ⟨s', st, n⟩ d).1 ∧ (instC ⟨s, st, n⟩ d).2.store = (instC ⟨s', st, n⟩ d).2.store ∧ (instC ⟨s, st, n⟩ d).2.next = (instC ⟨s', st, n⟩ d).2.next ∧ (instC ⟨s, st, n⟩ d).2.slots = s := by
  cases d <;> exact ⟨rfl, rfl, rfl, rfl⟩
theorem instCs_slots : ∀ (ds : List DV) (s s' : List V) (st : List (Nat × Obj)) (n : Nat), (instCs ⟨s, st, n⟩ ds).1 = (instCs ⟨s', st, n⟩ ds).1 ∧ (instCs ⟨s, st, n⟩ ds).2.store = (instCs ⟨s', st, n⟩ ds).2.store ∧ (instCs ⟨s, st, n⟩ ds).2.next = (instCs ⟨s', st, n⟩ ds).2.next ∧ (instCs ⟨s, st, n⟩ ds).2.slots = s
  | [], s, s', st, n => ⟨rfl, rfl, rfl, rfl⟩
  | d :: ds, s, s', st, n => by
    obtain ⟨h1, h2, h3, h4⟩ := instC_slots d s s' st n
    obtain ⟨_, _, _, h5⟩ := instC_slots d s' s st n
    rcases hx : instC ⟨s, st, n⟩ d with ⟨l, ⟨s1, st1, n1⟩⟩
    rcases hy : instC ⟨s', st, n⟩ d with ⟨l', ⟨s2, st2, n2⟩⟩
    rw [hx] at h1 h2 h3 h4
    rw [hy] at h1 h2 h3 h5
    simp only at h1 h2 h3 h4 h5
    subst h1 h2 h3 h4 h5
    obtain ⟨i1, i2, i3, i4⟩ := instCs_slots ds s1 s2 st1 n1
    simp only [instCs, hx, hy]
    exact ⟨by rw [i1], i2, i3, i4⟩
theorem inst1_slots (d : DR) (s s' : List V) (st : List (Nat × Obj)) (n : Nat) : (inst1 ⟨s, st, n⟩ d).1 = (inst1 ⟨s', st, n⟩ d).1 ∧ (inst1 ⟨s, st, n⟩ d).2.store = (inst1 ⟨s', st, n⟩ d).2.store ∧ (inst1 ⟨s, st, n⟩ d).2.next = (inst1 ⟨s', st, n⟩ d).2.next ∧ (inst1 ⟨s, st, n⟩ d).2.slots = s := by
  cases d with
  | c d =>
    obtain ⟨h1, h2, h3, h4⟩ := instC_slots d s s' st n
    exact ⟨by simp [inst1, h1], h2, h3, h4⟩
  | a ds =>
    obtain ⟨h1, h2, h3, h4⟩ := instCs_slots ds s s' st n
    exact ⟨by simp [inst1, h1], h2, h3, h4⟩
  | p ds =>
    obtain ⟨h1, h2, h3, h4⟩ := instCs_slots ds s s' st n
    exact ⟨by simp [inst1, h3], by simp [inst1, mkObj, h1, h2, h3], by simp [inst1, mkObj, h3], by simp [inst1, mkObj, h4]⟩
theorem inArgs_slots : ∀ (das : List AM) (s s' : List V) (st : List (Nat × Obj)) (n : Nat), (inArgs das ⟨s, st, n⟩).1 = (inArgs das ⟨s', st, n⟩).1 ∧ (inArgs das ⟨s, st, n⟩).2.store = (inArgs das ⟨s', st, n⟩).2.store ∧ (inArgs das ⟨s, st, n⟩).2.next = (inArgs das ⟨s', st, n⟩).2.next ∧ (inArgs das ⟨s, st, n⟩).2.slots = s
  | [], s, s', st, n => ⟨rfl, rfl, rfl, rfl⟩
  | .r d :: ds, s, s', st, n => by
    obtain ⟨h1, h2, h3, h4⟩ := inArgs_slots ds s s' st n
    exact ⟨by simp [inArgs, h1], h2, h3, h4⟩
  | .o d :: ds, s, s', st, n => by
    obtain ⟨h1, h2, h3, h4⟩ := inst1_slots d s s' st n
    obtain ⟨_, _, _, h5⟩ := inst1_slots d s' s st n
    rcases hx : inst1 ⟨s, st, n⟩ d with ⟨l, ⟨s1, st1, n1⟩⟩
    rcases hy : inst1 ⟨s', st, n⟩ d with ⟨l', ⟨s2, st2, n2⟩⟩
    rw [hx] at h1 h2 h3 h4
    rw [hy] at h1 h2 h3 h5
    simp only at h1 h2 h3 h4 h5
    subst h1 h2 h3 h4 h5
    obtain ⟨i1, i2, i3, i4⟩ := inArgs_slots ds s1 s2 st1 n1
    simp only [inArgs, hx, hy]
    exact ⟨by rw [i1], i2, i3, i4⟩
  | .g d :: ds, s, s', st, n => by
    obtain ⟨h1, h2, h3, h4⟩ := inst1_slots d s s' st n
    obtain ⟨_, _, _, h5⟩ := inst1_slots d s' s st n
    rcases hx : inst1 ⟨s, st, n⟩ d with ⟨l, ⟨s1, st1, n1⟩⟩
    rcases hy : inst1 ⟨s', st, n⟩ d with ⟨l', ⟨s2, st2, n2⟩⟩
    rw [hx] at h1 h2 h3 h4
    rw [hy] at h1 h2 h3 h5
    simp only at h1 h2 h3 h4 h5
    subst h1 h2 h3 h4 h5
    obtain ⟨i1, i2, i3, i4⟩ := inArgs_slots ds s1 s2 st1 n1
    simp only [inArgs, hx, hy]
    exact ⟨by rw [i1], i2, i3, i4⟩

theorem takeVs_sound : ∀ (vs : List V1) (us : List Value) (σ : St) (γ : Ghost) (h : Leaf → Leaf) (ds : List DR) (σ' : St) (h' : Leaf → Leaf), Rel w0 mine γ σ a w → us.length = vs.length → (∀ (j : Nat) (v : V1), vs[j]? = some v → ∃ u, us[j]? = some u ∧ RV1 γ w (mapV1 h v) u) → takeVs std vs σ h = some (ds, σ', h') →
    ∃ γ' Gs, Took w0 mine a w γ σ h (AnyL Gs) γ' σ' h' ∧ OwnL w ds us Gs ∧ DisjL Gs
  | [], us, σ, γ, h, ds, σ', h', R, hl, hr, ht => by
    have : us = [] := List.eq_nil_of_length_eq_zero hl
    subst this
    simp [takeVs] at ht
    obtain ⟨rfl, rfl, rfl⟩ := ht
    exact ⟨γ, [], (Took.refl R h).mono (fun b hb => anyL_nil b hb), .nil, .nil⟩
  | v :: vs, us, σ, γ, h, ds, σ', h', R, hl, hr, ht => by
    obtain ⟨u0, us', rfl⟩ : ∃ u0 us', us = u0 :: us' := by
      cases us with
      | nil => simp at hl
      | cons u us => exact ⟨u, us, rfl⟩
    obtain ⟨u, hu, hvu⟩ := hr 0 v rfl
    simp at hu; subst hu
    simp only [takeVs] at ht
    split at ht
    · rename_i d σ1 h1 ht1
      split at ht
      · rename_i ds2 σ2 h2 ht2
        simp only [Option.some.injEq, Prod.mk.injEq] at ht
        obtain ⟨rfl, rfl, rfl⟩ := ht
        obtain ⟨γ1, F1, T1, o1⟩ := takeV_sound R hvu ht1
        obtain ⟨γ2, Gs, T2, o2, d2⟩ := takeVs_sound vs us' σ1 γ1 h1 ds2 σ2 h2 T1.R (by simpa using hl) (fun j v hj => by
          obtain ⟨u, hu, hvu⟩ := hr (j + 1) v (by simpa using hj)
          refine ⟨u, by simpa using hu, ?_⟩
          have := rv_map2 (v := .one v) (u := u) T1.leaf hvu
          exact this) ht2
        exact ⟨γ2, F1 :: Gs, (T1.trans T2).mono (fun b hb => anyL_cons.mp hb), .cons _ _ _ _ _ _ o1 o2, disjL_cons.mpr ⟨(T2.keep F1 T1.free).2, d2⟩⟩
      · cases ht
    · cases ht

theorem run_loadVar {t : TypeId} {i : TI} (h : TIok P t i) {b off : Nat} {us : List Value} (hn : us.length = i.size) (hc : ∀ j, j < i.size → w.cell? ⟨b, off + j, none⟩ = us[j]?) :
    (isAg i.k = true → (loadVar t ⟨b, off, none⟩).run P w = .ok (.agg us.toArray) w) ∧ (isAg i.k = false → ∀ u, us = [u] → (loadVar t ⟨b, off, none⟩).run P w = .ok u w) := by
  have hl := run_loadCells_list (P := P) w ⟨b, off, none⟩ us (fun j v hj => by
    have : j < i.size := by rw [← hn]; exact (List.getElem?_eq_some_iff.mp hj).1
    rw [add_at, hc j this, hj])
  rw [hn] at hl
  constructor
  · intro hk
    simp [loadVar, h.run_isAgg, hk, h.run_size, hl]
  · rintro hk u rfl
    have h0 := hc 0 (by simp at hn; omega)
    simp at h0
    simp [loadVar, h.run_isAgg, hk, h0]

theorem resV1_sound (hE : EnvOk P E) (R : Rel w0 mine γ σ a w) {rv : ResultVar} {v : V1} (h : resV1 E σ rv = some v) : ∃ u, RV1 γ w v u ∧
    (match rv with | .tmp t => (pure (a.tmps.getD t undef) : Sem Value) | .cell x t => do loadVar t (← asAddr (a.tmps.getD x undef))).run P w = .ok u w := by
  cases rv with
  | tmp t =>
    simp only [resV1] at h
    split at h
    · rename_i v' hv
      simp at h; subst h
      have := R.slots t
      rw [hv] at this
      exact ⟨_, this, rfl⟩
    · cases h
  | cell t ty =>
    simp only [resV1] at h
    split at h
    · rename_i l hk hl
      split at h
      · rename_i cs hr
        split at h
        · rename_i v' hp
          simp at h; subst h
          have hT := hE ty (okK_ne hk)
          have hs := R.slots t
          rw [hl] at hs
          obtain ⟨b, off, us, hu, hlen, hrc, hcell⟩ := readAt_sound R.st hs hr
          obtain ⟨h1, h2⟩ := run_loadVar (w := w) hT (b := b) (off := off) (us := us) (by rw [hrc.1, hlen]) hcell
          unfold packV at hp
          split at hp
          · rename_i hag
            simp at hp; subst hp
            refine ⟨.agg us.toArray, ⟨us, rfl, hrc⟩, ?_⟩
            simp only [hu, Sem.run_bind]
            simp [asAddr, h1 hag]
          · rename_i c hag
            simp at hp; subst hp
            obtain ⟨x, hx, hrx⟩ := hrc.2 0 c rfl
            have hus : us = [x] := by
              have := hrc.1
              rcases us with _ | ⟨y, _ | ⟨z, t⟩⟩
              · simp at this
              · simp at hx; rw [hx]
              · simp at this
            refine ⟨x, hrx, ?_⟩
            simp only [hu, Sem.run_bind]
            simp [asAddr, h2 hag x hus]
          · cases hp
        · cases h
      · cases h
    · cases h

theorem run_results (hE : EnvOk P E) (R : Rel w0 mine γ σ a w) (fn : Func) (rts : List ResultVar) (hres : fn.results.toList = rts) {vs : List V1} (h : allS (resV1 E σ) rts = some vs) :
    ∃ us : List Value, us.length = vs.length ∧ (∀ (j : Nat) (v : V1), vs[j]? = some v → ∃ u, us[j]? = some u ∧ RV1 γ w v u) ∧ (results fn a.tmps).run P w = .ok (packU us) w := by
  have hm : ∀ (f : ResultVar → Sem Value), (∀ rv v, resV1 E σ rv = some v → ∃ u, RV1 γ w v u ∧ (f rv).run P w = .ok u w) → ∀ (l : List ResultVar) (vs : List V1), allS (resV1 E σ) l = some vs →
      ∃ us : List Value, us.length = vs.length ∧ (∀ (j : Nat) (v : V1), vs[j]? = some v → ∃ u, us[j]? = some u ∧ RV1 γ w v u) ∧ (l.mapM f).run P w = .ok us w := by
    intro f hf l
    induction l with
    | nil => intro vs h; simp [allS] at h; subst h; exact ⟨[], rfl, fun j v hj => by simp at hj, rfl⟩
    | cons x l ih =>
      intro vs h
      simp only [allS] at h
      split at h
      · rename_i d hd
        split at h
        · rename_i ds hds
          simp at h; subst h
          obtain ⟨u, hu, hr⟩ := hf x d hd
          obtain ⟨us, h1, h2, h3⟩ := ih ds hds
          refine ⟨u :: us, by simp [h1], fun j v hj => ?_, by simp only [List.mapM_cons, Sem.run_bind, hr, Result.andThen_ok, h3, Sem.run_pure]⟩
          cases j with
          | zero => simp at hj; subst hj; exact ⟨u, rfl, hu⟩
          | succ j => simpa using h2 j v (by simpa using hj)
        · cases h
      · cases h
  have hres' : fn.results = rts.toArray := by rw [← hres]
  unfold results
  rw [hres']
  simp only [List.mapM_toArray, Sem.run_bind, Sem.run_map]
  have key : ∀ F : ResultVar → Sem Value, (∀ rv v, resV1 E σ rv = some v → ∃ u, RV1 γ w v u ∧ (F rv).run P w = .ok u w) →
      ∃ us : List Value, us.length = vs.length ∧ (∀ (j : Nat) (v : V1), vs[j]? = some v → ∃ u, us[j]? = some u ∧ RV1 γ w v u) ∧
        (((rts.mapM F).run P w).andThen fun a w' => Result.ok a.toArray w').andThen (fun a w' => Sem.run P (pure (if h : a.size = 1 then a[0] else Value.tuple a)) w') = Result.ok (packU us) w := by
    intro F hF
    obtain ⟨us, h1, h2, h3⟩ := hm F hF rts vs h
    refine ⟨us, h1, h2, ?_⟩
    rw [h3]
    rcases us with _ | ⟨t, _ | ⟨t', l⟩⟩
    · rfl
    · rfl
    · simp [packU]
  exact key _ fun rv v hrv => by
    obtain ⟨u, h1, h2⟩ := resV1_sound hE R hrv
    refine ⟨u, h1, ?_⟩
    cases rv <;> exact h2

theorem filt_rel {r : V → Value → Prop} : ∀ (das : List AM) (xs : List V) (us : List Value), das.length ≤ xs.length → us.length = das.length → (∀ (i : Nat) (d : DR) (v : V) (u : Value), das[i]? = some (.o d) → xs[i]? = some v → us[i]? = some u → r v u) →
    (filt das us).length = (filt das xs).length ∧ ∀ (j : Nat) (v : V), (filt das xs)[j]? = some v → ∃ u, (filt das us)[j]? = some u ∧ r v u
  | [], xs, us, _, _, _ => by cases xs <;> cases us <;> simp [filt]
  | d :: ds, xs, us, hl, hu, h => by
    cases xs with
    | nil => simp at hl
    | cons x xs =>
      cases us with
      | nil => simp at hu
      | cons u us =>
        obtain ⟨h1, h2⟩ := filt_rel ds xs us (by simpa using hl) (by simpa using hu) (fun i d v u hi hv hu => h (i + 1) d v u (by simpa using hi) (by simpa using hv) (by simpa using hu))
        cases d with
        | o d =>
          refine ⟨by simp [filt, h1], fun j v hj => ?_⟩
          cases j with
          | zero => simp [filt] at hj; subst hj; exact ⟨u, rfl, h 0 d x u rfl rfl rfl⟩
          | succ j => simpa [filt] using h2 j v (by simpa [filt] using hj)
        | r d => exact ⟨h1, h2⟩
        | g d => exact ⟨h1, h2⟩
theorem ones_spec : ∀ (l : List V) (vs : List V1), ones l = some vs → vs.length = l.length ∧ ∀ (j : Nat) (v : V1), vs[j]? = some v → l[j]? = some (.one v)
  | [], vs, h => by simp [ones] at h; subst h; simp
  | .one v :: t, vs, h => by
    simp only [ones] at h
    split at h
    · rename_i l hl
      simp at h; subst h
      obtain ⟨h1, h2⟩ := ones_spec t l hl
      refine ⟨by simp [h1], fun j x hj => ?_⟩
      cases j with
      | zero => simp at hj; subst hj; rfl
      | succ j => simpa using h2 j x (by simpa using hj)
    · cases h
  | .tup _ :: t, vs, h => by simp [ones] at h
  | .bad :: t, vs, h => by simp [ones] at h
theorem lentIx_mem : ∀ (das : List AM) (n i : Nat) (d : DR), das[i]? = some (.o d) → n + i ∈ lentIx das n
  | [], n, i, d, h => by simp at h
  | x :: ds, n, 0, d, h => by simp at h; subst h; simp [lentIx]
  | x :: ds, n, i + 1, d, h => by
    have := lentIx_mem ds (n + 1) i d (by simpa using h)
    rw [show n + 1 + i = n + (i + 1) by omega] at this
    cases x <;> simp [lentIx, this]
theorem outsT_of : ∀ (das : List AM) (us : List Value) (outs : List DR) (Hs : List FP), us.length = das.length → OwnL w outs (filt das us) Hs → OutsT w das us outs Hs
  | [], us, outs, Hs, hl, h => by
    have : us = [] := List.eq_nil_of_length_eq_zero hl
    subst this
    cases h; exact .nil
  | d :: ds, us, outs, Hs, hl, h => by
    cases us with
    | nil => simp at hl
    | cons u us =>
      cases d with
      | o d =>
        simp only [filt] at h
        cases h with
        | cons F d' _ rs _ Fs h ht => exact .o _ _ _ _ _ _ _ _ h (outsT_of ds us rs Fs (by simpa using hl) ht)
      | r d => exact .r _ _ _ _ _ _ (outsT_of ds us outs Hs (by simpa using hl) h)
      | g d => exact .g _ _ _ _ _ _ (outsT_of ds us outs Hs (by simpa using hl) h)
theorem ownL_split : ∀ (n : Nat) (ds : List DR) (us1 us2 : List Value) (Gs : List FP), us1.length = n → OwnL w ds (us1 ++ us2) Gs → ∃ G1 G2, Gs = G1 ++ G2 ∧ OwnL w (takeN n ds) us1 G1 ∧ OwnL w (dropN n ds) us2 G2
  | 0, ds, us1, us2, Gs, hl, h => by
    have : us1 = [] := List.eq_nil_of_length_eq_zero hl
    subst this
    exact ⟨[], Gs, rfl, by simp only [takeN]; exact .nil, by simpa [dropN] using h⟩
  | n + 1, ds, us1, us2, Gs, hl, h => by
    cases us1 with
    | nil => simp at hl
    | cons u us1 =>
      cases h with
      | cons F d _ ds _ Fs h ht =>
        obtain ⟨G1, G2, rfl, h1, h2⟩ := ownL_split n ds us1 us2 Fs (by simpa using hl) ht
        exact ⟨F :: G1, G2, rfl, .cons _ _ _ _ _ _ h h1, h2⟩

theorem pcon_of_awp (hE : EnvOk P E) (hm : P.follows .mixedOrders = true) {f : FuncId} {fn : Func} {c : Code} (hf : P.funcs[f]? = some fn) (hname : (fn.name == "runtime.NumGoroutine") = false) (hb : fn.body = some c) (rts : List ResultVar) (hres : fn.results.toList = rts)
    {das : List AM} (hnd : noDst (lentIx das 0) c = true) (hnt : das.length ≤ fn.ntmps) {post : List DR → List DR → Prop} (fin : List DR → List DR → Prop) (hfin : ∀ rs outs, fin rs outs → ∃ rs' outs', drsLe rs rs' ∧ drsLe outs outs' ∧ post rs' outs')
    (h : ∀ (w0 : World) (mine : FP) (D : Ops) (C : CallT) (L : LoopT), D = std → C = Csem P w0 mine → L = Lsem w0 mine → AWP D E C L c (startSt fn.ntmps das) (exitP D E rts das fin)) : PCon P f das post := by
  intro w us Fs hI hD hlt htab
  refine .inr ⟨run_callFunc hf hname hb _ _, ?_⟩
  refine calls_of_wp hf hb ?_
  let γ0 : Ghost := ⟨fun _ => none, fun _ _ => False, fun b => b < w.heap.size ∧ ¬ AnyL Fs b⟩
  let a0 : Act := { tmps := us.toArray ++ Array.replicate (fn.ntmps - us.toArray.size) undef, defers := [] }
  have hget : ∀ i, a0.tmps.getD i undef = us.getD i undef := by
    intro i
    simp only [a0, Array.getD_eq_getD_getElem?, List.getD_eq_getElem?_getD, Array.getElem?_append]
    by_cases hi : i < us.length
    · simp [hi]
    · simp only [List.size_toArray, hi, if_false, Array.getElem?_replicate]
      rw [List.getElem?_eq_none (by omega)]
      split <;> rfl
  have R0 : Rel w (AnyL Fs) γ0 ⟨List.replicate a0.tmps.size .bad, [], 0⟩ a0 w := by
    refine ⟨by simp, fun i => ?_, ⟨fun id o h => by simp [look] at h, fun id id' o o' h => by simp [look] at h, fun id o h => by simp [look] at h, fun id g h => by simp [γ0] at h, fun id g h => by simp [γ0] at h, fun id o h => by simp [look] at h, fun b hb => hb.1, ⟨Nat.le_refl _, rfl, rfl, rfl, fun b _ _ => rfl, htab⟩⟩⟩
    rw [getN_getD]
    simp only [List.getD_eq_getElem?_getD, List.getElem?_replicate]
    split
    · trivial
    · rename_i hi
      exact rv_undef
  obtain ⟨γ1, R1, l1, e1, e2, hv1⟩ := inArgs_sound (A := AnyL Fs) das us Fs γ0 _ R0 (fun d u F h1 h2 => inV_rv (h1.mono h2)) hI (fun b hb => ⟨fun i oi hi => by simp [look] at hi, fun hr => hr.2 hb, hlt b hb, .inr hb⟩) hD
  obtain ⟨s1, s2, s3, s4⟩ := inArgs_slots das (List.replicate a0.tmps.size .bad) [] [] 0
  rw [s1] at e1 hv1
  have Rst : RelS w (AnyL Fs) γ1 (startSt fn.ntmps das).store (startSt fn.ntmps das).next w := by
    have := R1.st
    rw [s2, s3] at this
    exact this
  have hsl : (startSt fn.ntmps das).slots = (inArgs das ⟨[], [], 0⟩).1 ++ List.replicate (fn.ntmps - (inArgs das ⟨[], [], 0⟩).1.length) undefV := rfl
  have RS : Rel w (AnyL Fs) γ1 (startSt fn.ntmps das) a0 w := by
    refine ⟨?_, fun i => ?_, Rst⟩
    · rw [hsl]
      simp [a0, e1, e2]
    · rw [hget, getN_getD, hsl]
      simp only [List.getD_eq_getElem?_getD]
      by_cases hi : i < (inArgs das ⟨[], [], 0⟩).1.length
      · rw [List.getElem?_append_left hi]
        obtain ⟨u, hu, hr⟩ := hv1 i _ (List.getElem?_eq_getElem hi)
        rw [hu, List.getElem?_eq_getElem hi]
        exact hr
      · rw [List.getElem?_append_right (by omega), List.getElem?_replicate]
        have : (if i - (inArgs das ⟨[], [], 0⟩).1.length < fn.ntmps - (inArgs das ⟨[], [], 0⟩).1.length then some undefV else none).getD undefV = undefV := by split <;> rfl
        rw [this, List.getElem?_eq_none (l := us) (by omega)]
        exact rv_undef
  have hw := AWP_sound (Q := bodyPost P fn fun e w' => ∃ u, e = .returned u ∧ ∃ rs outs vs Gs Hs, post rs outs ∧ u = packU vs ∧ OwnL w' rs vs Gs ∧ OutsT w' das us outs Hs ∧ DisjL (Gs ++ Hs) ∧
      (∀ x, AnyL (Gs ++ Hs) x → (w.heap.size ≤ x ∨ AnyL Fs x) ∧ x < w'.heap.size) ∧ Keep w (AnyL Fs) w') hE hm c _ _ (Anch (lentIx das 0) us) γ1 a0 w (keepsC_of c hnd) RS ⟨rfl, by simp [a0], fun i _ => hget i⟩ ?_ (h w (AnyL Fs) std _ _ rfl rfl rfl)
  · exact hw
  · intro e σ γ a w' he R ⟨hd, htl, hanch⟩
    have key : resP std E rts das fin σ → a.defers = [] ∧ ∃ v, (results fn a.tmps).run P w' = .ok v w' ∧ ∃ u, Ending.returned v = .returned u ∧ ∃ rs outs vs Gs Hs, post rs outs ∧ u = packU vs ∧ OwnL w' rs vs Gs ∧ OutsT w' das us outs Hs ∧ DisjL (Gs ++ Hs) ∧
      (∀ x, AnyL (Gs ++ Hs) x → (w.heap.size ≤ x ∨ AnyL Fs x) ∧ x < w'.heap.size) ∧ Keep w (AnyL Fs) w' := by
      intro hr
      unfold resP at hr
      split at hr
      · rename_i rs ls hrs hls
        split at hr
        · rename_i ds σ2 h2 ht
          obtain ⟨rus, r1, r2, r3⟩ := run_results hE R fn rts hres hrs
          have hslen : das.length ≤ σ.slots.length := by
            rw [← R.size, ← e2]; exact htl
          obtain ⟨f1, f2⟩ := filt_rel (r := fun v u => RV γ w' v u) das σ.slots us hslen e2 (fun i d v u hi hv hu => by
            have h1 := R.slots i
            rw [getN_getD, List.getD_eq_getElem?_getD, hv, hanch i (by simpa using lentIx_mem das 0 i d hi), List.getD_eq_getElem?_getD, hu] at h1
            exact h1)
          obtain ⟨o1, o2⟩ := ones_spec _ _ hls
          obtain ⟨γ2, Gs, T, hO, hDj⟩ := takeVs_sound (rs ++ ls) (rus ++ filt das us) σ γ (fun l => l) ds σ2 h2 R (by simp [r1, f1, o1]) (fun j v hj => by
            have em : mapV1 (fun l => l) v = v := mapV1_id v
            rw [em]
            rcases Nat.lt_or_ge j rs.length with hjl | hjl
            · rw [List.getElem?_append_left hjl] at hj
              obtain ⟨u, hu, hr⟩ := r2 j v hj
              exact ⟨u, by rw [List.getElem?_append_left (by omega)]; exact hu, hr⟩
            · rw [List.getElem?_append_right hjl] at hj
              obtain ⟨u, hu, hr⟩ := f2 _ _ (o2 _ v hj)
              exact ⟨u, by rw [List.getElem?_append_right (by omega), r1]; exact hu, hr⟩) ht
          obtain ⟨G1, G2, rfl, p1, p2⟩ := ownL_split rs.length ds rus (filt das us) Gs r1 hO
          obtain ⟨rs', outs', q1, q2, q3⟩ := hfin _ _ hr
          refine ⟨hd, _, r3, _, rfl, rs', outs', rus, G1, G2, q3, rfl, drsLe_own p1 q1, outsT_of das us _ G2 e2 (drsLe_own p2 q2), hDj, fun x hx => ?_, R.st.keep⟩
          have := T.free x hx
          exact ⟨this.2.2.2, this.2.2.1⟩
        · exact hr.elim
      · exact hr.elim
    cases e <;> simp only [exitP, bodyPost] at he ⊢
    · exact key he
    · exact key he
end
end Go.AW
/- The abstract calculus, part 27: states compared under a renaming of objects. -/
set_option linter.unusedVariables false
set_option linter.unusedSimpArgs false
namespace Go.AW

/-- Where the new state's objects lie in the old one (none: a nil slice). -/
abbrev Ren := List (Nat × Option Nat)
def renIs (ρ : Ren) (id' id : Nat) : Prop := look ρ id' = some (some id)
def rowsLe (n : Nat) (f f' : Nat → List DV) : Prop := DEq (.l 0 n f) (.l 0 n f')
def capsLe (ρ : Ren) : List (Nat × Nat) → List (Nat × Nat) → Prop
  | [], [] => True
  | c :: l, c' :: l' => renIs ρ c'.1 c.1 ∧ c.2 = c'.2 ∧ capsLe ρ l l'
  | _, _ => False
def lfLe (ρ : Ren) (l l' : Leaf) : Prop :=
  match l', l with
  | .un, _ => True
  | .s v, .s u => u = v
  | .nil, .nil => True
  | .r n f', .r m f => m = n ∧ rowsLe n f f'
  | .r n f', .nil => n = 0
  | .sn id' n f', .sn id m f => renIs ρ id' id ∧ m = n ∧ rowsLe n f f'
  | .o id' off' len', .o id off len => renIs ρ id' id ∧ off = off' ∧ len = len'
  | .o id' off' len', .nil => look ρ id' = some none ∧ off' = 0 ∧ len' = 0
  | .p id' j', .p id j => renIs ρ id' id ∧ j = j'
  | .pr id' i' j', .pr id i j => renIs ρ id' id ∧ i = i' ∧ j = j'
  | .q id' i' j' v' n', .q id i j v n => renIs ρ id' id ∧ i = i' ∧ j = j' ∧ v = v' ∧ n = n'
  | .qp id' i' j' k' l' s', .qp id i j k l s => renIs ρ id' id ∧ i = i' ∧ j = j' ∧ k = k' ∧ l = l' ∧ s = s'
  | .m id', .m id => renIs ρ id' id
  | .rp row', .rp row => row = row'
  | .sp id' row', .sp id row => renIs ρ id' id ∧ row = row'
  | .fn f' caps', .fn f caps => f = f' ∧ capsLe ρ caps caps'
  | .fb f' id' j', .fb f id j => f = f' ∧ renIs ρ id' id ∧ j = j'
  | .gt g' r' c' s', .gt g r c s => g = g' ∧ r = r' ∧ c = c' ∧ s = s'
  | .fr f' rows', .fr f rows => f = f' ∧ rows = rows'
  | .ln n', l => match lnOf l with
    | some n => n = n'
    | none => False
  | _, _ => False
def lfsLe (ρ : Ren) : List Leaf → List Leaf → Prop
  | [], [] => True
  | l :: t, l' :: t' => lfLe ρ l l' ∧ lfsLe ρ t t'
  | _, _ => False
def esLe (ρ : Ren) : List (Value × Leaf) → List (Value × Leaf) → Prop
  | [], [] => True
  | e :: t, e' :: t' => e.1 = e'.1 ∧ lfLe ρ e.2 e'.2 ∧ esLe ρ t t'
  | _, _ => False
def v1Le (ρ : Ren) : V1 → V1 → Prop
  | .lf l, .lf l' => lfLe ρ l l'
  | .ag cs, .ag cs' => lfsLe ρ cs cs'
  | _, _ => False
def v1sLe (ρ : Ren) : List V1 → List V1 → Prop
  | [], [] => True
  | l :: t, l' :: t' => v1Le ρ l l' ∧ v1sLe ρ t t'
  | _, _ => False
def vLe (ρ : Ren) (v v' : V) : Prop :=
  match v', v with
  | .bad, _ => True
  | .one v', .one v => v1Le ρ v v'
  | .tup vs', .tup vs => v1sLe ρ vs vs'
  | _, _ => False
def vsLe (ρ : Ren) : List V → List V → Prop
  | [], [] => True
  | l :: t, l' :: t' => vLe ρ l l' ∧ vsLe ρ t t'
  | _, _ => False
def wsLe : List Value → List Value → Prop
  | [], [] => True
  | v :: t, v' :: t' => v = v' ∧ wsLe t t'
  | _, _ => False
theorem wsLe_eq : ∀ {l l' : List Value}, wsLe l l' → l = l'
  | [], [], _ => rfl
  | v :: t, v' :: t', h => by rw [h.1, wsLe_eq h.2]
  | [], _ :: _, h => h.elim
  | _ :: _, [], h => h.elim
def objLe (ρ : Ren) (o o' : Obj) : Prop :=
  match o', o with
  | .deep sz' n' f', .deep sz n f => n = n' ∧ DEq (.l sz n f) (.l sz' n f')
  | .vars cs', .vars cs => lfsLe ρ cs cs'
  | .deep sz' n' f', .vars (l :: t) => n' = 1 ∧ sz' = (l :: t).length ∧ match flatCs (l :: t) with
    | some ds => DEq (.l (l :: t).length 1 (fun _ => ds)) (.l sz' 1 f')
    | none => False
  | .arr n' f' ws', .arr n f ws => n = n' ∧ DEq (.l 1 n f) (.l 1 n' f') ∧ wsLe ws ws'
  | .it s' p', .it s p => s = s' ∧ p = p'
  | .lent a' b', .lent a b => a = a' ∧ b = b'
  | .lentV a', .lentV a => a = a'
  | .mp es', .mp es => esLe ρ es es'
  | .frame us' vs', .frame us vs => us = us' ∧ vsLe ρ vs vs'
  | _, _ => False
def stLe (ρ : Ren) (st : List (Nat × Obj)) (next' : Nat) : List (Nat × Obj) → Prop
  | [] => True
  | (id', o') :: t => id' < next' ∧ (match look ρ id' with
    | some (some id) => match look st id with
      | some o => objLe ρ o o'
      | none => False
    | some none => match o' with
      | .deep _ n _ => n = 0
      | _ => False
    | none => False) ∧ stLe ρ st next' t
/-- No two new objects are the same old one; only new objects are named. -/
def renOk : Ren → Bool
  | [] => true
  | (_, r) :: t => (match r with | some id => t.all (fun x => match x.2 with | some j => !(Nat.beq j id) | none => true) | none => true) && renOk t
def renIn (st' : List (Nat × Obj)) (ρ : Ren) : Bool := ρ.all fun x => match look st' x.1 with | some _ => true | none => false
def stateLe (ρ : Ren) (σ σ' : St) : Prop := renOk ρ = true ∧ renIn σ'.store ρ = true ∧ stLe ρ σ.store σ'.next σ'.store ∧ vsLe ρ σ.slots σ'.slots

/-! ### The renaming that the states show -/
def lfPairs (l l' : Leaf) : Ren :=
  match l', l with
  | .sn i' _ _, .sn i _ _ => [(i', some i)]
  | .sp i' _, .sp i _ => [(i', some i)]
  | .o i' _ _, .o i _ _ => [(i', some i)]
  | .o i' _ _, .nil => [(i', none)]
  | .q i' _ _ _ _, .q i _ _ _ _ => [(i', some i)]
  | .qp i' _ _ _ _ _, .qp i _ _ _ _ _ => [(i', some i)]
  | .p i' _, .p i _ => [(i', some i)]
  | .pr i' _ _, .pr i _ _ => [(i', some i)]
  | .m i', .m i => [(i', some i)]
  | .fn _ caps', .fn _ caps => go caps caps'
  | .fb _ i' _, .fb _ i _ => [(i', some i)]
  | _, _ => []
  where
  go : List (Nat × Nat) → List (Nat × Nat) → Ren
  | c :: t, c' :: t' => (c'.1, some c.1) :: go t t'
  | _, _ => []
def lfsPairs : List Leaf → List Leaf → Ren
  | l :: t, l' :: t' => lfPairs l l' ++ lfsPairs t t'
  | _, _ => []
def v1Pairs : V1 → V1 → Ren
  | .lf l, .lf l' => lfPairs l l'
  | .ag cs, .ag cs' => lfsPairs cs cs'
  | _, _ => []
def v1sPairs : List V1 → List V1 → Ren
  | l :: t, l' :: t' => v1Pairs l l' ++ v1sPairs t t'
  | _, _ => []
def vPairs (v v' : V) : Ren :=
  match v', v with
  | .one v', .one v => v1Pairs v v'
  | .tup vs', .tup vs => v1sPairs vs vs'
  | _, _ => []
def vsPairs : List V → List V → Ren
  | l :: t, l' :: t' => vPairs l l' ++ vsPairs t t'
  | _, _ => []
def objPairs (o o' : Option Obj) : Ren :=
  match o', o with
  | some (.vars cs'), some (.vars cs) => lfsPairs cs cs'
  | some (.mp es'), some (.mp es) => lfsPairs (es.map (·.2)) (es'.map (·.2))
  | some (.frame _ vs'), some (.frame _ vs) => vsPairs vs vs'
  | _, _ => []
def closeR (st st' : List (Nat × Obj)) : Nat → Ren → Ren → Ren
  | 0, _, done => done
  | _ + 1, [], done => done
  | f + 1, (i', r) :: todo, done => match look done i' with
    | some _ => closeR st st' f todo done
    | none => match r with
      | some i => closeR st st' f (objPairs (look st i) (look st' i') ++ todo) ((i', some i) :: done)
      | none => closeR st st' f todo ((i', none) :: done)
def frPairs : List (Nat × Obj) → Ren
  | [] => []
  | (i, .frame _ _) :: t => (i, some i) :: frPairs t
  | _ :: t => frPairs t
def renOf (σ σ' : St) : Ren := closeR σ.store σ'.store 500 (frPairs σ'.store ++ vsPairs σ.slots σ'.slots) []
def stLe' (σ σ' : St) : Prop := stateLe (renOf σ σ') σ σ'

/-! ### What a loop's body turns -/
def assigned : Code → List Nat
  | .region _ ops _ => ops.toList.filterMap (·.dst)
  | .seq a b => assigned a ++ assigned b
  | .cond _ a b => assigned a ++ assigned b
  | .block _ c => assigned c
  | .loop c => assigned c
  | _ => []
def badAll : List Nat → List V → List V
  | [], s => s
  | i :: t, s => badAll t (setN s i .bad)
def setAll : List (Nat × V) → List V → List V
  | [], s => s
  | (i, v) :: t, s => setAll t (setN s i v)
def putAll : List (Nat × Obj) → List (Nat × Obj) → List (Nat × Obj)
  | [], st => st
  | (i, o) :: t, st => putAll t (match look st i with
    | some _ => put st i o
    | none => (i, o) :: st)
def lfIds : Leaf → List Nat
  | .sn i _ _ | .sp i _ | .o i _ _ | .q i _ _ _ _ | .qp i _ _ _ _ _ | .p i _ | .pr i _ _ | .m i => [i]
  | .fn _ caps => caps.map (·.1)
  | .fb _ i _ => [i]
  | _ => []
def v1Ids : V1 → List Nat
  | .lf l => lfIds l
  | .ag cs => cs.flatMap lfIds
def vIds : V → List Nat
  | .one v => v1Ids v
  | .tup vs => vs.flatMap v1Ids
  | .bad => []
def objIds : Option Obj → List Nat
  | some (.vars cs) => cs.flatMap lfIds
  | some (.mp es) => es.flatMap fun e => lfIds e.2
  | some (.frame _ vs) => vs.flatMap vIds
  | _ => []
def reach (st : List (Nat × Obj)) : Nat → List Nat → List Nat → List Nat
  | 0, _, done => done
  | _ + 1, [], done => done
  | f + 1, i :: todo, done => match memN done i with
    | true => reach st f todo done
    | false => reach st f (objIds (look st i) ++ todo) (i :: done)
def frIds : List (Nat × Obj) → List Nat
  | [] => []
  | (i, .frame _ _) :: t => i :: frIds t
  | _ :: t => frIds t
def gcSt (σ : St) : St := { σ with store := σ.store.filter fun x => memN (reach σ.store 500 (frIds σ.store ++ σ.slots.flatMap vIds) []) x.1 }
def maxN (a b : Nat) : Nat := bif Nat.ble a b then b else a
def topId (n : Nat) (st : List (Nat × Obj)) : Nat := st.foldl (fun m x => maxN m (x.1 + 1)) n
/-- The state at a loop's head. -/
def hav (c : Code) (σ : St) (vars : List (Nat × V)) (over : List (Nat × Obj)) : St :=
  gcSt ⟨setAll vars (badAll (assigned c) σ.slots), putAll over σ.store, topId σ.next over⟩
end Go.AW
/- The abstract calculus, part 28: a state that tells less holds too. -/
set_option linter.unusedVariables false
set_option linter.unusedSimpArgs false
namespace Go.AW

/-- The ghost of the renamed state. -/
def Ghost.ren (γ : Ghost) (ρ : Ren) (st' : List (Nat × Obj)) : Ghost where
  g := fun i => match look st' i, look ρ i with
    | some (.deep sz' _ _), some (some id) => (γ.g id).map fun g => match g.blk with
      | none => ⟨none, g.base, sz', g.tot, g.n⟩
      | some _ => if g.sz = 0 then ⟨g.blk, g.base, sz', g.tot, g.n⟩ else g
    | some (.deep sz' _ _), some none => some ⟨none, 0, sz', 0, 0⟩
    | some _, some (some id) => γ.g id
    | _, _ => none
  fp := fun i => match look ρ i with
    | some (some id) => γ.fp id
    | _ => fun _ => False
  ro := γ.ro

theorem look_mem {α : Type} : ∀ (st : List (Nat × α)) (i : Nat) (o : α), look st i = some o → (i, o) ∈ st
  | [], i, o, h => by simp [look] at h
  | (j, x) :: t, i, o, h => by
    simp only [look] at h
    cases hb : Nat.beq j i with
    | true =>
      rw [hb] at h
      have := Nat.eq_of_beq_eq_true hb
      simp at h
      subst this h
      simp
    | false =>
      rw [hb] at h
      exact List.mem_cons_of_mem _ (look_mem t i o (by simpa using h))

theorem stLe_get {ρ : Ren} {st : List (Nat × Obj)} {n : Nat} : ∀ (st' : List (Nat × Obj)), stLe ρ st n st' → ∀ (id' : Nat) (o' : Obj), look st' id' = some o' → id' < n ∧ (match look ρ id' with
    | some (some id) => match look st id with
      | some o => objLe ρ o o'
      | none => False
    | some none => match o' with
      | .deep _ n _ => n = 0
      | _ => False
    | none => False)
  | [], _, id', o', h => by simp [look] at h
  | (j, x) :: t, hs, id', o', h => by
    simp only [look] at h
    cases hb : Nat.beq j id' with
    | true =>
      rw [hb] at h
      have := Nat.eq_of_beq_eq_true hb
      simp at h
      subst this h
      exact ⟨hs.1, hs.2.1⟩
    | false =>
      rw [hb] at h
      exact stLe_get t hs.2.2 id' o' (by simpa using h)

/-- No two new objects are the same old one. -/
theorem renOk_inj : ∀ (ρ : Ren), renOk ρ = true → ∀ (i j id : Nat), look ρ i = some (some id) → look ρ j = some (some id) → i = j
  | [], _, i, j, id, h, _ => by simp [look] at h
  | (a, r) :: t, hk, i, j, id, h1, h2 => by
    simp only [renOk, Bool.and_eq_true] at hk
    have hno : ∀ x, r = some id → look t x = some (some id) → False := by
      intro x hr hx
      rw [hr] at hk
      have := List.all_eq_true.mp hk.1 _ (look_mem t x _ hx)
      simp at this
    simp only [look] at h1 h2
    cases hb1 : Nat.beq a i with
    | true =>
      rw [hb1] at h1
      simp at h1
      cases hb2 : Nat.beq a j with
      | true => rw [← Nat.eq_of_beq_eq_true hb1, ← Nat.eq_of_beq_eq_true hb2]
      | false => rw [hb2] at h2; exact (hno j h1 (by simpa using h2)).elim
    | false =>
      rw [hb1] at h1
      cases hb2 : Nat.beq a j with
      | true => rw [hb2] at h2; simp at h2; exact (hno i h2 (by simpa using h1)).elim
      | false => rw [hb2] at h2; exact renOk_inj t hk.2 i j id (by simpa using h1) (by simpa using h2)

section
variable {w0 w : World} {mine : FP} {γ : Ghost} {st st' : List (Nat × Obj)} {n n' : Nat} {ρ : Ren}

/-- What a renamed object is. -/
theorem ren_obj (R : RelS w0 mine γ st n w) (hst : stLe ρ st n' st') (hin : renIn st' ρ = true) {id' id : Nat} (h : renIs ρ id' id) :
    ∃ o o', look st' id' = some o' ∧ look st id = some o ∧ objLe ρ o o' ∧ id' < n' := by
  have hm := List.all_eq_true.mp hin _ (look_mem ρ id' _ h)
  simp only at hm
  split at hm
  · rename_i o' ho'
    obtain ⟨h1, h2⟩ := stLe_get st' hst id' o' ho'
    rw [h] at h2
    simp only at h2
    split at h2
    · rename_i o ho
      exact ⟨o, o', ho', ho, h2, h1⟩
    · exact h2.elim
  · cases hm

/-- Its ghost: the old one, at most its row size told anew. -/
theorem ren_g (R : RelS w0 mine γ st n w) (hst : stLe ρ st n' st') (hin : renIn st' ρ = true) {id' id : Nat} (h : renIs ρ id' id) {g : G1} (hg : γ.g id = some g) :
    ∃ g', (γ.ren ρ st').g id' = some g' ∧ g'.blk = g.blk ∧ g'.base = g.base ∧ g'.tot = g.tot ∧ g'.n = g.n ∧ (∀ b, g.blk = some b → g'.sz = g.sz ∨ (g.sz = 0 ∧ g.n = 1 ∧ 0 < g.tot)) := by
  obtain ⟨o, o', ho', ho, hle, _⟩ := ren_obj R hst hin h
  have hl : look ρ id' = some (some id) := h
  cases o' with
  | deep sz' m f =>
    simp only [Ghost.ren, ho', hl, hg, Option.map_some]
    cases hb : g.blk with
    | none => exact ⟨_, rfl, rfl, rfl, rfl, rfl, fun b hb => by cases hb⟩
    | some b =>
      simp only
      by_cases hz : g.sz = 0
      · rw [if_pos hz]
        refine ⟨_, rfl, rfl, rfl, rfl, rfl, fun _ _ => .inr ⟨hz, ?_⟩⟩
        obtain ⟨g2, hg2, hro⟩ := R.objs _ o ho
        rw [hg] at hg2; cases hg2
        cases o with
        | deep sz m' f' =>
          simp only [RObj, hb] at hro
          have := hro.2.1
          have := hro.2.2.1
          omega
        | vars cs =>
          obtain ⟨b2, cur, t, fr, h1, h2, h3, h4, h5, h6, h7, h9, h8⟩ := hro
          cases cs with
          | nil => simp [objLe] at hle
          | cons l t => exact ⟨h9.2, by rw [h6]; simp⟩
        | _ => exact hle.elim
      · rw [if_neg hz]
        exact ⟨_, rfl, hb, rfl, rfl, rfl, fun _ _ => .inl rfl⟩
  | _ => simp only [Ghost.ren, ho', hl, hg]; exact ⟨_, rfl, rfl, rfl, rfl, rfl, fun _ _ => .inl rfl⟩

theorem ren_fp {id' id : Nat} (h : renIs ρ id' id) : (γ.ren ρ st').fp id' = γ.fp id := by
  have hl : look ρ id' = some (some id) := h
  simp only [Ghost.ren, hl]

theorem ren_nil (hst : stLe ρ st n' st') (hin : renIn st' ρ = true) {id' : Nat} (h : look ρ id' = some none) : ∃ sz f, look st' id' = some (.deep sz 0 f) ∧ (γ.ren ρ st').g id' = some ⟨none, 0, sz, 0, 0⟩ ∧ id' < n' := by
  have hm := List.all_eq_true.mp hin _ (look_mem ρ id' _ h)
  simp only at hm
  split at hm
  · rename_i o' ho'
    obtain ⟨h1, h2⟩ := stLe_get st' hst id' o' ho'
    rw [h] at h2
    simp only at h2
    split at h2
    · rename_i sz m f
      subst h2
      exact ⟨sz, f, ho', by simp only [Ghost.ren, ho', h], h1⟩
    · exact h2.elim
  · cases hm

theorem caps_ren : ∀ {caps caps' : List (Nat × Nat)}, capsLe ρ caps caps' → caps.length = caps'.length ∧ ∀ (k : Nat) (c' : Nat × Nat), caps'[k]? = some c' → ∃ c : Nat × Nat, caps[k]? = some c ∧ renIs ρ c'.1 c.1 ∧ c.2 = c'.2
  | [], [], _ => ⟨rfl, fun k c' h => by simp at h⟩
  | c :: l, c' :: l', h => by
    obtain ⟨h1, h2, h3⟩ := h
    obtain ⟨h4, h5⟩ := caps_ren h3
    refine ⟨by simp [h4], fun k x hk => ?_⟩
    cases k with
    | zero => simp at hk; subst hk; exact ⟨c, rfl, h1, h2⟩
    | succ k => simpa using h5 k x (by simpa using hk)
  | [], _ :: _, h => h.elim
  | _ :: _, [], h => h.elim

theorem at_ren (R : RelS w0 mine γ st n w) (hst : stLe ρ st n' st') (hin : renIn st' ρ = true) {id' id i j : Nat} {c : Value} (h : renIs ρ id' id) (hc : AtCell γ w id i j c) : AtCell (γ.ren ρ st') w id' i j c := by
  obtain ⟨g, b, cs, t, fr, hg, hb, hi, hfp, hh, hcell⟩ := hc
  obtain ⟨g', hg', e1, e2, e3, e4, e5⟩ := ren_g R hst hin h hg
  refine ⟨g', b, cs, t, fr, hg', by rw [e1]; exact hb, by rw [e4]; exact hi, by rw [ren_fp h]; exact hfp, hh, ?_⟩
  rcases e5 b hb with e5 | ⟨e5, e6, _⟩
  · rw [e2, e5]; exact hcell
  · have hi0 : i = 0 := by omega
    subst hi0
    rw [e2]
    simpa using hcell
theorem lf_ren (R : RelS w0 mine γ st n w) (hst : stLe ρ st n' st') (hin : renIn st' ρ = true) {l l' : Leaf} {u : Value} (hl : RLeaf γ w l u) (h : lfLe ρ l l') : RLeaf (γ.ren ρ st') w l' u := by
  obtain ⟨h1, h2⟩ := hl
  refine ⟨h1, ?_⟩
  unfold lfLe at h
  split at h <;> simp only [RLeafC] at h2 ⊢
  · rw [h2, h]
  · exact h2
  · obtain ⟨rfl, hd⟩ := h
    exact h2.deq hd
  · subst h; rw [h2]; exact .nl _ _ _ _
  · obtain ⟨hr, rfl, hd⟩ := h
    obtain ⟨⟨g, hg⟩, h3⟩ := h2
    obtain ⟨g', hg', _⟩ := ren_g R hst hin hr hg
    rw [ren_fp hr]
    exact ⟨⟨g', hg'⟩, h3.deq hd⟩
  · rename_i id' off' len' id off len
    obtain ⟨hr, rfl, rfl⟩ := h
    obtain ⟨g, A, cap, hg, hu, hle, hn, htot, had⟩ := h2
    obtain ⟨g', hg', e1, e2, e3, e4, e5⟩ := ren_g R hst hin hr hg
    refine ⟨g', A, cap, hg', hu, hle, by omega, ?_, fun hc => ?_⟩
    · cases hb : g.blk with
      | none =>
        have hc0 : cap = 0 := by
          rcases Nat.eq_zero_or_pos cap with h | h
          · exact h
          · obtain ⟨b, hb', _⟩ := had h; rw [hb] at hb'; cases hb'
        obtain ⟨o, _, _, ho, _, _⟩ := ren_obj R hst hin hr
        obtain ⟨g2, hg2, hro⟩ := R.objs _ o ho
        rw [hg] at hg2; cases hg2
        have hn0 : g.n = 0 ∨ ∃ b, g.blk = some b := by
          cases o with
          | deep sz m f => simp only [RObj, hb] at hro; exact .inl (by omega)
          | lent sz m =>
            obtain ⟨h5, h6, h7, h8, _⟩ := hro
            exact .inl (by have := h8 hb; omega)
          | lentV m => obtain ⟨b, hb', _⟩ := hro; exact .inr ⟨b, hb'⟩
          | it s pos => obtain ⟨b, hb', _⟩ := hro; exact .inr ⟨b, hb'⟩
          | mp es => obtain ⟨b, _, _, hb', _⟩ := hro; exact .inr ⟨b, hb'⟩
          | vars cs => obtain ⟨b, _, _, _, hb', _⟩ := hro; exact .inr ⟨b, hb'⟩
          | arr n f ws => obtain ⟨b, _, _, _, hb', _⟩ := hro; exact .inr ⟨b, hb'⟩
          | frame us vs => exact .inl hro.2.1
        rcases hn0 with h0 | ⟨b, hb'⟩
        · have hz : off + cap = 0 := by omega
          rw [hz, Nat.zero_mul] at htot
          rw [hz, Nat.zero_mul, e3, ← htot]
        · rw [hb] at hb'; cases hb'
      | some b =>
        rcases e5 b hb with e5 | ⟨e5, _, e6⟩
        · rw [e5, e3]; exact htot
        · rw [e5, Nat.mul_zero] at htot; omega
    · obtain ⟨b, hb, hA⟩ := had hc
      rcases e5 b hb with e5 | ⟨e5, _, e6⟩
      · exact ⟨b, by rw [e1]; exact hb, by rw [e2, e5]; exact hA⟩
      · rw [e5, Nat.mul_zero] at htot; omega
  · obtain ⟨hr, rfl, rfl⟩ := h
    rw [h2]
    obtain ⟨sz, f, _, hg', _⟩ := ren_nil (γ := γ) hst hin hr
    exact ⟨⟨none, 0, sz, 0, 0⟩, none, 0, hg', rfl, Nat.le_refl _, by simp, by simp, fun h => absurd h (Nat.lt_irrefl 0)⟩
  · obtain ⟨hr, rfl⟩ := h
    obtain ⟨g, b, hg, hb, hu⟩ := h2
    obtain ⟨g', hg', e1, e2, e3, e4, e5⟩ := ren_g R hst hin hr hg
    exact ⟨g', b, hg', by rw [e1]; exact hb, by rw [e2]; exact hu⟩
  · obtain ⟨hr, rfl, rfl⟩ := h
    obtain ⟨g, b, hg, hb, hi, hu⟩ := h2
    obtain ⟨g', hg', e1, e2, e3, e4, e5⟩ := ren_g R hst hin hr hg
    refine ⟨g', b, hg', by rw [e1]; exact hb, by omega, ?_⟩
    rcases e5 b hb with e5 | ⟨e5, e6, _⟩
    · rw [e2, e5]; exact hu
    · have hi1 := Nat.lt_one_iff.mp (e6 ▸ hi)
      rw [hi1, Nat.zero_mul] at hu ⊢
      rw [e2]
      exact hu
  · obtain ⟨hr, rfl, rfl, rfl, rfl⟩ := h
    obtain ⟨c, hc, h3⟩ := h2
    exact ⟨c, at_ren R hst hin hr hc, h3⟩
  · obtain ⟨hr, rfl, rfl, rfl, rfl, rfl⟩ := h
    obtain ⟨c, b, o, N, cap, hc, h3⟩ := h2
    exact ⟨c, b, o, N, cap, at_ren R hst hin hr hc, h3⟩
  · obtain ⟨g, b, hg, hb, hu⟩ := h2
    obtain ⟨g', hg', e1, e2, e3, e4, e5⟩ := ren_g R hst hin h hg
    exact ⟨g', b, hg', by rw [e1]; exact hb, hu⟩
  · rw [← h]; exact h2
  · obtain ⟨hr, rfl⟩ := h
    obtain ⟨⟨g, hg⟩, h3⟩ := h2
    obtain ⟨g', hg', _⟩ := ren_g R hst hin hr hg
    rw [ren_fp hr]
    exact ⟨⟨g', hg'⟩, h3⟩
  · obtain ⟨rfl, hc⟩ := h
    obtain ⟨vs, hu, hlen, hk⟩ := h2
    obtain ⟨h4, h5⟩ := caps_ren hc
    refine ⟨vs, hu, by rw [hlen, h4], fun k c' hc' => ?_⟩
    obtain ⟨c, hcc, hr, he⟩ := h5 k c' hc'
    obtain ⟨g, b, hg, hb, hv⟩ := hk k c hcc
    obtain ⟨g', hg', e1, e2, _⟩ := ren_g R hst hin hr hg
    exact ⟨g', b, hg', by rw [e1]; exact hb, by rw [e2, ← he]; exact hv⟩
  · obtain ⟨rfl, hr, rfl⟩ := h
    obtain ⟨g, b, hg, hb, hu⟩ := h2
    obtain ⟨g', hg', e1, e2, _⟩ := ren_g R hst hin hr hg
    exact ⟨g', b, hg', by rw [e1]; exact hb, by rw [e2]; exact hu⟩
  · obtain ⟨rfl, rfl, rfl, rfl⟩ := h
    exact h2
  · obtain ⟨rfl, rfl⟩ := h
    exact h2
  · split at h
    · rename_i n hn
      subst h
      exact lnOf_sound ⟨h1, h2⟩ hn
    · exact h.elim
  · exact h.elim
theorem lfs_ren (R : RelS w0 mine γ st n w) (hst : stLe ρ st n' st') (hin : renIn st' ρ = true) : ∀ {ls ls' : List Leaf} {us : List Value}, RCells γ w ls us → lfsLe ρ ls ls' → RCells (γ.ren ρ st') w ls' us
  | [], [], us, h, _ => ⟨h.1, fun j l hj => by simp at hj⟩
  | l :: t, l' :: t', us, h, hl => by
    obtain ⟨u, us', rfl⟩ : ∃ u us', us = u :: us' := by
      cases us with
      | nil => exact absurd h.1 (by simp)
      | cons u us => exact ⟨u, us, rfl⟩
    have ih := lfs_ren R hst hin (ls := t) (ls' := t') (us := us') ⟨by simpa using h.1, fun j x hx => by simpa using h.2 (j + 1) x (by simpa using hx)⟩ hl.2
    obtain ⟨u', hu', hr⟩ := h.2 0 l rfl
    simp at hu'; subst hu'
    refine ⟨by simp [ih.1], fun j x hx => ?_⟩
    cases j with
    | zero => simp at hx; subst hx; exact ⟨u, rfl, lf_ren R hst hin hr hl.1⟩
    | succ j => simpa using ih.2 j x (by simpa using hx)
  | [], _ :: _, us, _, h => h.elim
  | _ :: _, [], us, _, h => h.elim

theorem v1_ren (R : RelS w0 mine γ st n w) (hst : stLe ρ st n' st') (hin : renIn st' ρ = true) {v v' : V1} {u : Value} (hv : RV1 γ w v u) (h : v1Le ρ v v') : RV1 (γ.ren ρ st') w v' u := by
  cases v with
  | lf l => cases v' with
    | lf l' => exact lf_ren R hst hin hv h
    | ag cs' => exact h.elim
  | ag cs => cases v' with
    | lf l' => exact h.elim
    | ag cs' =>
      obtain ⟨us, hu, hc⟩ := hv
      exact ⟨us, hu, lfs_ren R hst hin hc h⟩

theorem v1s_ren (R : RelS w0 mine γ st n w) (hst : stLe ρ st n' st') (hin : renIn st' ρ = true) : ∀ {ls ls' : List V1} {us : List Value}, us.length = ls.length → (∀ (j : Nat) (l : V1), ls[j]? = some l → ∃ u, us[j]? = some u ∧ RV1 γ w l u) → v1sLe ρ ls ls' →
    us.length = ls'.length ∧ ∀ (j : Nat) (l : V1), ls'[j]? = some l → ∃ u, us[j]? = some u ∧ RV1 (γ.ren ρ st') w l u
  | [], [], us, h1, h2, _ => ⟨h1, fun j l hj => by simp at hj⟩
  | l :: t, l' :: t', us, h1, h2, hl => by
    obtain ⟨u, us', rfl⟩ : ∃ u us', us = u :: us' := by
      cases us with
      | nil => simp at h1
      | cons u us => exact ⟨u, us, rfl⟩
    obtain ⟨i1, i2⟩ := v1s_ren R hst hin (ls := t) (ls' := t') (us := us') (by simpa using h1) (fun j x hx => by simpa using h2 (j + 1) x (by simpa using hx)) hl.2
    obtain ⟨u', hu', hr⟩ := h2 0 l rfl
    simp at hu'; subst hu'
    refine ⟨by simp [i1], fun j x hx => ?_⟩
    cases j with
    | zero => simp at hx; subst hx; exact ⟨u, rfl, v1_ren R hst hin hr hl.1⟩
    | succ j => simpa using i2 j x (by simpa using hx)
  | [], _ :: _, us, _, _, h => h.elim
  | _ :: _, [], us, _, _, h => h.elim

theorem v_ren (R : RelS w0 mine γ st n w) (hst : stLe ρ st n' st') (hin : renIn st' ρ = true) {v v' : V} {u : Value} (hv : RV γ w v u) (h : vLe ρ v v') : RV (γ.ren ρ st') w v' u := by
  unfold vLe at h
  split at h
  · trivial
  · exact v1_ren R hst hin hv h
  · obtain ⟨us, hu, hl, hj⟩ := hv
    obtain ⟨h1, h2⟩ := v1s_ren R hst hin hl hj h
    exact ⟨us, hu, h1, h2⟩
  · exact h.elim

theorem vs_get : ∀ {l l' : List V}, vsLe ρ l l' → l.length = l'.length ∧ ∀ i, vLe ρ (getN undefV l i) (getN undefV l' i)
  | [], [], _ => ⟨rfl, fun i => by simp [getN, vLe, v1sLe]⟩
  | v :: l, v' :: l', h => by
    obtain ⟨h1, h2⟩ := vs_get h.2
    refine ⟨by simp [h1], fun i => ?_⟩
    cases i with
    | zero => exact h.1
    | succ i => exact h2 i
  | [], _ :: _, h => h.elim
  | _ :: _, [], h => h.elim

theorem es_get : ∀ {l l' : List (Value × Leaf)}, esLe ρ l l' → l.length = l'.length ∧ ∀ (k : Nat) (e' : Value × Leaf), l'[k]? = some e' → ∃ e, l[k]? = some e ∧ e.1 = e'.1 ∧ lfLe ρ e.2 e'.2
  | [], [], _ => ⟨rfl, fun k e h => by simp at h⟩
  | v :: l, v' :: l', h => by
    obtain ⟨h1, h2⟩ := es_get h.2.2
    refine ⟨by simp [h1], fun k e hk => ?_⟩
    cases k with
    | zero => simp at hk; subst hk; exact ⟨v, rfl, h.1, h.2.1⟩
    | succ k => simpa using h2 k e (by simpa using hk)
  | [], _ :: _, h => h.elim
  | _ :: _, [], h => h.elim
theorem obj_ren (R : RelS w0 mine γ st n w) (hst : stLe ρ st n' st') (hin : renIn st' ρ = true) {id' id : Nat} (hr : renIs ρ id' id) {o o' : Obj} (ho : look st id = some o) (ho' : look st' id' = some o') (hle : objLe ρ o o') :
    ∃ g', (γ.ren ρ st').g id' = some g' ∧ RObj (γ.ren ρ st') w id' g' o' := by
  obtain ⟨g, hg, hro⟩ := R.objs id o ho
  have hl : look ρ id' = some (some id) := hr
  have hfp := ren_fp (γ := γ) (st' := st') hr
  unfold objLe at hle
  split at hle
  · rename_i sz' m' f' sz m f
    obtain ⟨rfl, hd⟩ := hle
    have hg' : (γ.ren ρ st').g id' = some (match g.blk with | none => ⟨none, g.base, sz', g.tot, g.n⟩ | some _ => g) := by
      simp only [Ghost.ren, ho', hl, hg, Option.map_some]
      cases hbk : g.blk with
      | none => rfl
      | some b =>
        simp only
        rw [if_neg]
        intro hz
        simp only [RObj, hbk] at hro
        have := hro.2.1
        have := hro.2.2.1
        omega
    refine ⟨_, hg', ?_⟩
    simp only [RObj] at hro ⊢
    obtain ⟨hn, hs, hb⟩ := hro
    cases hbk : g.blk with
    | none =>
      rw [hbk] at hb
      exact ⟨hn, rfl, hb⟩
    | some b =>
      rw [hbk] at hb
      simp only at hb
      obtain ⟨hs0, cs, t, fr, vs, G, h1, h2, h3, h4, h5, h6, h7, h8, h9⟩ := hb
      cases hd with
      | z => exact absurd hs0 (Nat.lt_irrefl 0)
      | l _ _ _ _ hlen hdd =>
        refine ⟨hn, hs, ?_⟩
        simp only [hbk]
        refine ⟨hs0, cs, t, fr, vs, G, by rw [hfp]; exact h1, h2, h3, h4, h5, fun i hi => by rw [← hlen i hi]; exact h6 i hi, fun i j x hx => by rw [hfp]; exact h7 i j x hx, h8, fun i j d' hi hj => ?_⟩
        obtain ⟨d, hd'⟩ := deq_get hlen hi hj
        obtain ⟨h10, h11⟩ := h9 i j d hi hd'
        exact ⟨h10, h11.deq (hdd i j d d' hi hd' hj)⟩
  · rename_i cs' cs
    have hg' : (γ.ren ρ st').g id' = some g := by simp only [Ghost.ren, ho', hl, hg]
    refine ⟨g, hg', ?_⟩
    obtain ⟨b, cur, t, fr, h1, h2, h3, h4, h5, h6, h7, h9, h8⟩ := hro
    have hlen : cs.length = cs'.length := by
      have := (lfs_ren R hst hin h8 hle).1
      have := h8.1
      omega
    exact ⟨b, cur, t, fr, h1, by rw [hfp]; exact h2, h3, h4, h5, by rw [h6, hlen], by rw [h7, hlen], by rw [← hlen]; exact h9, lfs_ren R hst hin h8 hle⟩
  · rename_i sz' n' f' l t
    obtain ⟨rfl, rfl, hle⟩ := hle
    split at hle
    · rename_i ds hds
      obtain ⟨b, cur, ty, fr, h1, h2, h3, h4, h5, h6, h7, h9, h8⟩ := hro
      obtain ⟨hdl, hdv⟩ := flatCs_sound h8 hds
      have hg' : ∃ g', (γ.ren ρ st').g id' = some g' ∧ g'.blk = some b ∧ g'.base = g.base ∧ g'.tot = g.tot ∧ g'.n = g.n ∧ g'.sz = (l :: t).length := by
        simp only [Ghost.ren, ho', hl, hg, Option.map_some, h1]
        by_cases hz : g.sz = 0
        · rw [if_pos hz]; exact ⟨_, rfl, rfl, rfl, rfl, rfl, rfl⟩
        · rw [if_neg hz]; exact ⟨_, rfl, h1, rfl, rfl, rfl, h9.1.resolve_left hz⟩
      obtain ⟨g', hg', e1, e2, e3, e4, e5⟩ := hg'
      refine ⟨g', hg', by rw [e4]; exact h9.2, e5, ?_⟩
      simp only [e1]
      have hc2 : cur.toList.length = (l :: t).length := by simpa using h7
      cases hle with
      | l _ _ _ _ hlen hdd =>
        refine ⟨by simp, cur, ty, fr, fun _ j => cur.toList.getD j undef, fun _ _ _ => False, by rw [hfp]; exact h2, h3, h4, by rw [e2, e3, h5, h6]; omega, by rw [e5, e3, h6]; simp, fun i hi => ?_, fun i j x hx => hx.elim, fun i j i' j' x hx => hx.elim, fun i j d' hi hj => ?_⟩
        · have h10 := hlen i hi
          simp only at h10
          rw [e5, ← h10, hdl]
        · obtain ⟨d, hd'⟩ := deq_get hlen hi hj
          obtain ⟨u, hu, ho⟩ := hdv j d hd'
          have hi0 : i = 0 := by omega
          subst hi0
          refine ⟨?_, ?_⟩
          · have hu2 : cur[j]? = some u := by simpa using hu
            rw [e2, h5, Nat.zero_mul, Nat.zero_add]
            simp only [List.getD_eq_getElem?_getD, hu]
            exact hu2
          · have h11 := ho.deq (hdd 0 j d d' hi hd' hj)
            simp only [List.getD_eq_getElem?_getD, hu]
            exact h11
    · exact hle.elim
  · rename_i n' f' ws' n f ws
    obtain ⟨rfl, hd, hws⟩ := hle
    have hws := wsLe_eq hws
    subst hws
    refine ⟨g, by simp only [Ghost.ren, ho', hl, hg], ?_⟩
    obtain ⟨b, cur, t, fr, h1, h2, h3, h4, h5, h6, h7, h8, h9, h10, h11⟩ := hro
    cases hd with
    | l _ _ _ _ hlen hdd =>
      refine ⟨b, cur, t, fr, h1, by rw [hfp]; exact h2, h3, h4, h5, h6, h7, h8, h9, fun i hi => ⟨by rw [← hlen i hi]; exact (h10 i hi).1, (h10 i hi).2.imp fun v hv => ⟨hv.1, fun d' hd' => ?_⟩⟩, h11⟩
      obtain ⟨d, hd2⟩ := deq_get hlen hi hd'
      exact (hv.2 d hd2).deq (hdd i 0 d d' hi hd2 hd')
  · rename_i s' p' s p
    obtain ⟨rfl, rfl⟩ := hle
    refine ⟨g, by simp only [Ghost.ren, ho', hl, hg], ?_⟩
    obtain ⟨b, h1, h2, h3, h4⟩ := hro
    exact ⟨b, h1, h2, by rw [hfp]; exact h3, h4⟩
  · rename_i a' b' a b
    obtain ⟨rfl, rfl⟩ := hle
    refine ⟨g, by simp only [Ghost.ren, ho', hl, hg], ?_⟩
    obtain ⟨h1, h2, h3, h9, h4⟩ := hro
    refine ⟨h1, h2, h3, h9, fun h => ⟨(h4 h).1, ?_⟩⟩
    have h5 := (h4 h).2
    split
    · trivial
    · rename_i b hb
      rw [hb] at h5
      obtain ⟨cs, t, fr, h6, h7⟩ := h5
      exact ⟨cs, t, fr, by rw [hfp]; exact h6, h7⟩
  · rename_i a' a
    subst hle
    exact ⟨g, by simp only [Ghost.ren, ho', hl, hg], hro⟩
  · rename_i es' es
    refine ⟨g, by simp only [Ghost.ren, ho', hl, hg], ?_⟩
    obtain ⟨b, ents, clock, h1, h2, h3, h4, h5⟩ := hro
    obtain ⟨e1, e2⟩ := es_get hle
    refine ⟨b, ents, clock, h1, by rw [hfp]; exact h2, h3, by rw [h4, e1], fun k e' hk => ?_⟩
    obtain ⟨e, he, hk1, hle1⟩ := e2 k e' hk
    obtain ⟨en, h6, h7, h8⟩ := h5 k e he
    exact ⟨en, h6, by rw [h7, hk1], lf_ren R hst hin h8 hle1⟩
  · rename_i us' vs' us vs
    refine ⟨g, by simp only [Ghost.ren, ho', hl, hg], ?_⟩
    obtain ⟨rfl, hle⟩ := hle
    obtain ⟨h1, h2, h3, h4⟩ := hro
    obtain ⟨e1, e2⟩ := vs_get hle
    exact ⟨h1, h2, by rw [h3, e1], fun i => v_ren R hst hin (h4 i) (e2 i)⟩
  · exact hle.elim
end

theorem ssem_ren {w0 : World} {mine : FP} {σ σ' : St} (ρ : Ren) (h : stateLe ρ σ σ') : Ssem w0 mine σ σ' := by
  intro γ a w R
  obtain ⟨hok, hin, hst, hvs⟩ := h
  obtain ⟨hl, hv⟩ := vs_get hvs
  have S := R.st
  have hcase : ∀ i o', look σ'.store i = some o' → i < σ'.next ∧ ((∃ id o, renIs ρ i id ∧ look σ.store id = some o ∧ objLe ρ o o') ∨ (look ρ i = some none ∧ ∃ sz f, o' = .deep sz 0 f)) := by
    intro i o' ho'
    obtain ⟨h1, h2⟩ := stLe_get _ hst i o' ho'
    refine ⟨h1, ?_⟩
    split at h2
    · rename_i id hr
      split at h2
      · rename_i o ho; exact .inl ⟨id, o, hr, ho, h2⟩
      · exact h2.elim
    · rename_i hr
      split at h2
      · rename_i sz m f; subst h2; exact .inr ⟨hr, sz, f, rfl⟩
      · exact h2.elim
    · exact h2.elim
  have hfp : ∀ i o' b, look σ'.store i = some o' → (γ.ren ρ σ'.store).fp i b → ∃ id o, renIs ρ i id ∧ look σ.store id = some o ∧ γ.fp id b := by
    intro i o' b ho' hb
    rcases (hcase i o' ho').2 with ⟨id, o, hr, ho, _⟩ | ⟨hr, _⟩
    · rw [ren_fp hr] at hb; exact ⟨id, o, hr, ho, hb⟩
    · simp only [Ghost.ren, hr] at hb
  refine ⟨γ.ren ρ σ'.store, ⟨by rw [R.size]; exact hl, fun i => v_ren S hst hin (R.slots i) (hv i), ?_, ?_, ?_, ?_, ?_, ?_, S.rolt, S.keep⟩⟩
  · intro i o' ho'
    rcases (hcase i o' ho').2 with ⟨id, o, hr, ho, hle⟩ | ⟨hr, sz, f, rfl⟩
    · exact obj_ren S hst hin hr ho ho' hle
    · obtain ⟨sz2, f2, h1, h2, _⟩ := ren_nil (γ := γ) hst hin hr
      rw [ho'] at h1; cases h1
      exact ⟨_, h2, rfl, rfl, rfl⟩
  · intro i j o1 o2 h1 h2 hne b hb1 hb2
    obtain ⟨id1, p1, r1, l1, f1⟩ := hfp i o1 b h1 hb1
    obtain ⟨id2, p2, r2, l2, f2⟩ := hfp j o2 b h2 hb2
    by_cases he : id1 = id2
    · subst he
      exact hne (renOk_inj ρ hok i j id1 r1 r2)
    · exact S.disj id1 id2 p1 p2 l1 l2 he b f1 f2
  · intro i o' h1 b hb hro
    obtain ⟨id, o, _, hlk, hf⟩ := hfp i o' b h1 hb
    exact S.ro id o hlk b hf hro
  · intro i g hg
    simp only [Ghost.ren] at hg
    cases ho : look σ'.store i with
    | none => rw [ho] at hg; simp at hg
    | some o' => exact (hcase i o' ho).1
  · intro i g hg
    simp only [Ghost.ren] at hg
    cases ho : look σ'.store i with
    | none => rw [ho] at hg; simp at hg
    | some o' => exact ⟨o', rfl⟩
  · intro i o' h1 b hb
    obtain ⟨id, o, _, hlk, hf⟩ := hfp i o' b h1 hb
    exact S.fp id o hlk b hf
end Go.AW
/- The abstract calculus, part 29: the rules that a proof uses. -/
set_option linter.unusedVariables false
set_option linter.unusedSimpArgs false
namespace Go.AW

attribute [refl] DEq.rfl'
/-! ### A table of types is as the program's -/
def eqV : Value → Value → Bool
  | .bool a, .bool b => a == b
  | .int k a, .int l b => sameK k l && a == b
  | .string a, .string b => a.toList == b.toList
  | .pointer none, .pointer none => true
  | .slice none 0 0, .slice none 0 0 => true
  | .map none, .map none => true
  | .nilFunc, .nilFunc => true
  | .nilIface, .nilIface => true
  | _, _ => false
theorem sameK_eq {k l : IntKind} (h : sameK k l = true) : k = l := by cases k <;> cases l <;> simp [sameK] at h <;> rfl
theorem eqV_eq {v u : Value} (h : eqV v u = true) : v = u := by
  unfold eqV at h
  split at h <;> try rfl
  · simp at h; rw [h]
  · simp only [Bool.and_eq_true] at h
    rw [sameK_eq h.1, eq_of_beq h.2]
  · rename_i a b
    have : a.toList = b.toList := eq_of_beq h
    have hab : a = b := by
      have h1 : a.data.toList = b.data.toList := by
        rw [ByteArray.toList_eq, ByteArray.toList_eq] at this; exact this
      cases a; cases b; simp at h1; congr
    rw [hab]
  · cases h
def eqVs : List Value → List Value → Bool
  | [], [] => true
  | a :: l, b :: m => eqV a b && eqVs l m
  | _, _ => false
theorem eqVs_eq : ∀ {l m : List Value}, eqVs l m = true → l = m
  | [], [], _ => rfl
  | a :: l, b :: m, h => by
    simp only [eqVs, Bool.and_eq_true] at h
    rw [eqV_eq h.1, eqVs_eq h.2]

def kokB (P : Program) : K → TypeDesc → Bool
  | .bool, .bool => true
  | .int k, .int k' => sameK k' k
  | .str, .string => true
  | .ptr e, .pointer e' => Nat.beq e' e
  | .sl e, .slice e' => Nat.beq e' e
  | .arr n e, .array n' e' => Nat.beq n' n && Nat.beq e' e
  | .st fs, .struct gs => go fs gs.toList
  | .fn, .func _ _ _ => true
  | .mp k e, .map k' e' => Nat.beq k' k && Nat.beq e' e
  | _, _ => false
  where
  go : List (Nat × Nat) → List Field → Bool
  | [], [] => true
  | x :: fs, g :: gs => Nat.beq g.offset x.1 && (match P.info? g.type with | some i => Nat.beq i.size x.2 | none => false) && go fs gs
  | _, _ => false
theorem kokB_go (P : Program) : ∀ (fs : List (Nat × Nat)) (gs : List Field), kokB.go P fs gs = true → gs.length = fs.length ∧ ∀ (i : Nat) (x : Nat × Nat), fs[i]? = some x → ∃ g : Field, gs[i]? = some g ∧ g.offset = x.1 ∧ (P.info? g.type).map (·.size) = some x.2
  | [], [], _ => ⟨rfl, fun i x h => by simp at h⟩
  | x :: fs, g :: gs, h => by
    simp only [kokB.go, Bool.and_eq_true] at h
    obtain ⟨⟨h1, h2⟩, h3⟩ := h
    obtain ⟨h4, h5⟩ := kokB_go P fs gs h3
    refine ⟨by simp [h4], fun i y hy => ?_⟩
    cases i with
    | zero =>
      simp at hy; subst hy
      refine ⟨g, rfl, Nat.eq_of_beq_eq_true h1, ?_⟩
      split at h2
      · rename_i i hi; rw [hi]; simp [Nat.eq_of_beq_eq_true h2]
      · cases h2
    | succ i => simpa using h5 i y (by simpa using hy)
theorem kokB_sound {P : Program} {k : K} {d : TypeDesc} (h : kokB P k d = true) : Kok P k d := by
  unfold kokB at h
  split at h <;> simp only [Kok] <;> try trivial
  · exact sameK_eq h
  · exact Nat.eq_of_beq_eq_true h
  · exact Nat.eq_of_beq_eq_true h
  · simp only [Bool.and_eq_true] at h; exact ⟨Nat.eq_of_beq_eq_true h.1, Nat.eq_of_beq_eq_true h.2⟩
  · rename_i fs gs
    obtain ⟨h1, h2⟩ := kokB_go P fs gs.toList h
    exact ⟨by simpa using h1, fun i x hx => by simpa using h2 i x hx⟩
  · simp only [Bool.and_eq_true] at h; exact ⟨Nat.eq_of_beq_eq_true h.1, Nat.eq_of_beq_eq_true h.2⟩

def tiOkB (P : Program) (t : TypeId) (i : TI) : Bool :=
  match P.underlying t, P.info? t with
  | some d, some x => kokB P i.k d && Nat.beq x.size i.size && Nat.beq x.bytes i.bytes && (match x.zero with | some z => eqVs z.cells.toList i.zero && (isAg i.k || z.oneCell') | none => false) && i.zero.all (·.oneCell') && Nat.beq i.zero.length i.size
  | _, _ => false
theorem tiOkB_sound {P : Program} {t : TypeId} {i : TI} (h : tiOkB P t i = true) : TIok P t i := by
  unfold tiOkB at h
  split at h
  · rename_i d x hd hx
    simp only [Bool.and_eq_true] at h
    obtain ⟨⟨⟨⟨⟨h1, h2⟩, h3⟩, h4⟩, h5⟩, h6⟩ := h
    split at h4
    · rename_i z hz
      simp only [Bool.and_eq_true, Bool.or_eq_true] at h4
      refine ⟨⟨d, hd, kokB_sound h1⟩, by rw [hx]; simp [Nat.eq_of_beq_eq_true h2], by rw [hx]; simp [Nat.eq_of_beq_eq_true h3], ⟨z, by rw [hx]; simp [hz], eqVs_eq h4.1⟩, h5, fun ha z' hz' => ?_, Nat.eq_of_beq_eq_true h6⟩
      rw [hx] at hz'
      simp only [Option.map_some, hz, Option.some.injEq] at hz'
      subst hz'
      rcases h4.2 with h | h
      · rw [ha] at h; cases h
      · exact h
    · cases h4
  · cases h
def isOther : K → Bool
  | .other => true
  | _ => false
theorem envOk_of {P : Program} {E : Env} {N : Nat} (h : (List.range N).all (fun t => isOther (E t).k || tiOkB P t (E t)) = true) (hout : ∀ t, N ≤ t → (E t).k = .other) : EnvOk P E := by
  intro t ht
  rcases Nat.lt_or_ge t N with hl | hl
  · have := List.all_eq_true.mp h t (List.mem_range.mpr hl)
    simp only [Bool.or_eq_true] at this
    rcases this with h | h
    · cases hk : (E t).k <;> rw [hk] at h <;> simp [isOther] at h
      exact absurd hk ht
    · exact tiOkB_sound h
  · exact absurd (hout t hl) ht

/-! ### Words -/
abbrev VI (n : Int) : V := .one (.lf (.s (.int .i64 n)))
abbrev VK (k : IntKind) (n : Int) : V := .one (.lf (.s (.int k n)))
abbrev VB (b : Bool) : V := .one (.lf (.s (.bool b)))
abbrev VS (s : ByteArray) : V := .one (.lf (.s (.string s)))
abbrev VO (id n : Nat) : V := .one (.lf (.o id 0 n))
abbrev VP (id : Nat) : V := .one (.lf (.p id 0))
abbrev AI (n : Int) : AM := .r (.c (.s (.int .i64 n)))
abbrev AK (k : IntKind) (n : Int) : AM := .r (.c (.s (.int k n)))
abbrev AB (b : Bool) : AM := .r (.c (.s (.bool b)))
abbrev AS (s : ByteArray) : AM := .r (.c (.s (.string s)))
abbrev RI (n : Int) : DR := .c (.s (.int .i64 n))
abbrev RK (k : IntKind) (n : Int) : DR := .c (.s (.int k n))
abbrev RB (b : Bool) : DR := .c (.s (.bool b))
abbrev RS (s : ByteArray) : DR := .c (.s (.string s))
def bodyOf (f : Func) : Code := f.body.getD .skip
theorem wrap64 (n : Int) (h : -9223372036854775808 ≤ n ∧ n ≤ 9223372036854775807) : IntKind.wrap .i64 n = n := IntWalk.i64_in n h

/-- A contract of one result. -/
def PRet (P : Program) (f : FuncId) (das : List AM) (rs outs : List DR) : Prop := PCon P f das fun x y => x = rs ∧ y = outs
theorem pret_of_awp {P : Program} {E : Env} (hE : EnvOk P E) (hm : P.follows .mixedOrders = true) {f : FuncId} {fn : Func} {c : Code} (hf : P.funcs[f]? = some fn) (hname : (fn.name == "runtime.NumGoroutine") = false) (hb : fn.body = some c) {rts : List ResultVar} (hres : fn.results.toList = rts)
    {das : List AM} (hnd : noDst (lentIx das 0) c = true) (hnt : Nat.ble das.length fn.ntmps = true) {rs outs : List DR}
    (h : ∀ (w0 : World) (mine : FP) (D : Ops) (C : CallT) (L : LoopT), D = std → C = Csem P w0 mine → L = Lsem w0 mine → AWP D E C L c (startSt fn.ntmps das) (exitP D E rts das fun x y => drsLe x rs ∧ drsLe y outs)) : PRet P f das rs outs :=
  pcon_of_awp hE hm hf hname hb rts hres hnd (Nat.le_of_ble_eq_true hnt) (fun x y => drsLe x rs ∧ drsLe y outs) (fun x y h => ⟨rs, outs, h.1, h.2, rfl, rfl⟩) h
def callR (D : Ops) (das : List AM) (vs : List V) (σ : St) (rs outs : List DR) (k : V → St → Prop) : Prop :=
  lendArgs D das vs σ (fun l => l) fun σ1 h => roArgs D σ1.store h das vs ∧ backP D das vs σ1 h k rs outs

section
variable {P : Program} {w0 : World} {mine : FP} {σ : St} {k : V → St → Prop} {f : FuncId} {das : List AM} {rs outs : List DR} {post : List DR → List DR → Prop} {D : Ops} {C : CallT} {vs : List V}
theorem lendC_mono {σ : St} {l : Leaf} {K K' : DV → St → (Leaf → Leaf) → Prop} (hK : ∀ d σ h, K d σ h → K' d σ h) (h : lendC D σ l K) : lendC D σ l K' := by
  unfold lendC at h ⊢
  split at h
  · split at h
    · exact ⟨h.1, h.2.1, hK _ _ _ h.2.2⟩
    · exact h.elim
  · split at h
    · exact hK _ _ _ h
    · exact h.elim
theorem lendCs_mono : ∀ (ls : List Leaf) {σ : St} {h0 : Leaf → Leaf} {K K' : List DV → St → (Leaf → Leaf) → Prop}, (∀ d σ h, K d σ h → K' d σ h) → lendCs D ls σ h0 K → lendCs D ls σ h0 K'
  | [], σ, h0, K, K', hK, h => hK _ _ _ h
  | l :: t, σ, h0, K, K', hK, h => lendC_mono (fun d σ h1 h => lendCs_mono t (fun d σ h => hK _ _ _) h) h
theorem lendV_mono {σ : St} {h0 : Leaf → Leaf} {v : V1} {K K' : DR → St → (Leaf → Leaf) → Prop} (hK : ∀ d σ h, K d σ h → K' d σ h) (h : lendV D σ h0 v K) : lendV D σ h0 v K' := by
  cases v with
  | ag cs => exact lendCs_mono cs (fun d σ h => hK _ _ _) h
  | lf l =>
    simp only [lendV] at h ⊢
    split at h
    · split at h
      · split at h
        · split at h
          · exact ⟨h.1, hK _ _ _ h.2⟩
          · exact h.elim
        · exact h.elim
      · exact h.elim
    · exact lendC_mono (fun d σ h => hK _ _ _) h
theorem lendArgs_mono : ∀ (das : List AM) (vs : List V) {σ : St} {h0 : Leaf → Leaf} {K K' : St → (Leaf → Leaf) → Prop}, (∀ σ h, K σ h → K' σ h) → lendArgs D das vs σ h0 K → lendArgs D das vs σ h0 K'
  | [], [], σ, h0, K, K', hK, h => hK _ _ h
  | .r _ :: ds, _ :: vs, σ, h0, K, K', hK, h => lendArgs_mono ds vs hK h
  | .o d :: ds, .one v :: vs, σ, h0, K, K', hK, h => lendV_mono (fun d σ h1 h => ⟨h.1, lendArgs_mono ds vs hK h.2⟩) h
  | .g d :: ds, .one v :: vs, σ, h0, K, K', hK, h => by
    simp only [lendArgs] at h ⊢
    split at h
    · exact ⟨h.1, lendArgs_mono ds vs hK h.2⟩
    · exact h.elim
  | [], _ :: _, _, _, _, _, _, h => h.elim
  | .r _ :: _, [], _, _, _, _, _, h => h.elim
  | .o _ :: _, [], _, _, _, _, _, h => h.elim
  | .g _ :: _, [], _, _, _, _, _, h => h.elim
  | .o _ :: _, .tup _ :: _, _, _, _, _, _, h => h.elim
  | .o _ :: _, .bad :: _, _, _, _, _, _, h => h.elim
  | .g _ :: _, .tup _ :: _, _, _, _, _, _, h => h.elim
  | .g _ :: _, .bad :: _, _, _, _, _, _, h => h.elim
theorem call_of (hD : D = std) (hC : C = Csem P w0 mine) (h : PRet P f das rs outs) (hk : callR D das vs σ rs outs k) : C f vs σ k := by
  subst hD hC
  exact csem_of_pcon h (lendArgs_mono das vs (fun σ h1 h2 => ⟨h2.1, fun r o ⟨e1, e2⟩ => by subst e1 e2; exact h2.2⟩) hk)
end

/-! ### Loops -/
section
variable {w0 : World} {mine : FP} {L : LoopT} {c : Code} {A : St → (Exit → St → Prop) → Prop} {σ : St} {K : Exit → St → Prop}
theorem ssem_of {σ σ' : St} (h : stLe' σ σ') : Ssem w0 mine σ σ' := ssem_ren _ h
theorem loop_of (hL : L = Lsem w0 mine) {ι : Type} (vars : ι → List (Nat × V)) (over : ι → List (Nat × Obj)) (ok : ι → Prop) (μ : ι → Nat) (x0 : ι) (h0 : ok x0) (hs : stLe' σ (hav c σ (vars x0) (over x0)))
    (hb : ∀ x, ok x → A (hav c σ (vars x) (over x)) fun e σ' => match e with
      | .normal => ∃ y, ok y ∧ Ssem w0 mine σ' (hav c σ (vars y) (over y)) ∧ μ y < μ x
      | e => K e σ') : L false c A σ K := by
  subst hL
  exact ⟨ι, fun x => hav c σ (vars x) (over x), ok, μ, ⟨x0, h0, ssem_ren _ hs⟩, hb⟩
end
theorem mJ {w0 : World} {mine : FP} {L : LoopT} {c : Code} {A : St → (Exit → St → Prop) → Prop} {σ : St} {K : Exit → St → Prop} (hL : L = Lsem w0 mine) (h : A σ K) : L true c A σ K := by
  subst hL
  exact .inl h
theorem mB {D : Ops} (hD : D = std) {A B : Unit → Prop} {c : Bool} (h1 : c = true → A ()) (h2 : c = false → B ()) : D.cnd c A B := by
  subst hD
  cases c with
  | true => exact h1 rfl
  | false => exact h2 rfl
theorem mT {D : Ops} (hD : D = std) {A B : Unit → Prop} (h : A ()) : D.cnd true A B := by
  subst hD
  exact h
theorem mF {D : Ops} (hD : D = std) {A B : Unit → Prop} (h : B ()) : D.cnd false A B := by
  subst hD
  exact h
theorem mS {D : Ops} (hD : D = std) {A : Unit → Prop} (h : A ()) : D.stp A := by
  subst hD
  exact h
theorem mK {D : Ops} (hD : D = std) {f : Unit → Bool} (h : f () = true := by kernel_rfl) : D.chk f := by
  subst hD
  exact h
theorem nc (j : Nat) : @NatCast.natCast Int instNatCastInt j = Int.ofNat j := rfl
/-- A name for a thing. -/
theorem opq {α : Sort _} (x : α) : ∃ y, y = x := ⟨x, rfl⟩
abbrev rI (k : IntKind) (g : Nat → Int) : Nat → List DV := fun i => [.s (.int k (g i))]
abbrev dI (k : IntKind) (n : Nat) (g : Nat → Int) : DV := .l 1 n (rI k g)
abbrev rS (g : Nat → ByteArray) : Nat → List DV := fun i => [.s (.string (g i))]
abbrev dS (n : Nat) (g : Nat → ByteArray) : DV := .l 1 n (rS g)
end Go.AW
/- Arguments of a row, read as data. -/
set_option linter.unusedVariables false
set_option linter.unusedSimpArgs false
namespace Go.AW
/-- Cells of type t, trod, read as data of the form mk x with Q x. -/
def Rd (P : Program) (t : TypeId) {α : Type} (Q : α → Prop) (mk : α → List DV) : Prop :=
  ∀ (H : Type) (enc : TypeId × Value → H) (w : World) (fuel : Nat) (cs : List Value) (d : DataW H) (ps : List MemPlace), DataW.trod enc P w 0 (fun _ => true) true fuel t cs = some (d, ps) → (∀ n ∈ d.weights P t, n ≤ reachBytes) →
    ∃ x, Q x ∧ cs.length = (mk x).length ∧ ∀ (j : Nat) (y : DV), (mk x)[j]? = some y → ∃ u, cs[j]? = some u ∧ RoT w (fun b => b < w.heap.size) u y
section
variable {P : Program} {t e : TypeId}
theorem rd_one {w : World} {F : FP} {u : Value} {d : DV} (h : RoT w F u d) : ∀ (j : Nat) (y : DV), ([d] : List DV)[j]? = some y → ∃ v, ([u] : List Value)[j]? = some v ∧ RoT w F v y
  | 0, y, hy => by simp at hy; subst hy; exact ⟨u, rfl, h⟩
  | j + 1, y, hy => by simp at hy
theorem wf_range {k : IntKind} {n : Int} (h : (Lit.int k n).wf = true) : k.min ≤ n ∧ n ≤ k.max := by
  simpa [Lit.wf] using h
theorem rd_int {k : IntKind} (ht : P.underlying t = some (.int k)) : Rd P t (fun n : Int => k.min ≤ n ∧ n ≤ k.max) (fun n => [.s (.int k n)]) := by
  intro H enc w fuel cs d ps h _
  obtain ⟨n, rfl, _, hw⟩ := DataW.trod_int ht h
  exact ⟨n, wf_range hw, rfl, rd_one (.s _ rfl)⟩
theorem rd_string (ht : P.underlying t = some .string) : Rd P t (fun s : ByteArray => s.size ≤ 140737488351232) (fun s => [.s (.string s)]) := by
  intro H enc w fuel cs d ps h hw
  obtain ⟨s, rfl, he, _⟩ := DataW.trod_string ht h
  cases he
  have := hw s.data.toList.length (by simp [DataW.weights])
  exact ⟨s, by simpa [reachBytes] using this, rfl, rd_one (.s _ rfl)⟩
theorem mem_weightsAll {H : Type} {e : TypeId} : ∀ {ds : List (DataW H)} {d : DataW H}, d ∈ ds → ∀ n ∈ d.weights P e, n ∈ DataW.weightsAll P e ds
  | d0 :: ds, d, hd, n, hn => by
    simp only [DataW.weightsAll, List.mem_append]
    rcases List.mem_cons.mp hd with rfl | hd
    · exact .inl hn
    · exact .inr (mem_weightsAll hd n hn)
theorem rd_slice {sz by' : Nat} (ht : P.underlying t = some (.slice e)) (hsz : P.cellsOf e = sz) (hpos : 0 < sz) (hby : P.bytesOf e = by') {α : Type} [Inhabited α] {Q : α → Prop} {mk : α → List DV} (hmk : ∀ x, (mk x).length = sz) (he : Rd P e Q mk) :
    Rd P t (fun x : Nat × (Nat → α) => x.1 * by' ≤ 140737488351232 ∧ ∀ i, i < x.1 → Q (x.2 i)) (fun x => [.l sz x.1 (fun i => mk (x.2 i))]) := by
  intro H enc w fuel cs d ps h hw
  rcases DataW.trod_slice ht h with ⟨rfl, _⟩ | ⟨a, len, cap, elems, rest, n, _, rfl, hx, _, hl, _, hlen, hel, _, _⟩
  · exact ⟨(0, fun _ => default), ⟨by simp, fun i hi => absurd hi (Nat.not_lt_zero i)⟩, rfl, rd_one (.nl _ _ _ _)⟩
  · cases hx
    have hbound : len * by' ≤ 140737488351232 := by
      have h1 : (elems.length + rest.length) * by' ≤ 140737488351232 := by
        have := hw ((elems.length + rest.length) * P.bytesOf e) (by simp [DataW.weights, ht])
        rw [hby] at this
        simpa [reachBytes] using this
      rw [hlen] at h1
      exact Nat.le_trans (Nat.mul_le_mul_right _ (Nat.le_add_right _ _)) h1
    have hall : ∀ i : Nat, ∃ x : α, i < len → ∃ cs', w.cells? 0 (a.add (i * sz)) sz = some cs' ∧ Q x ∧ cs'.length = (mk x).length ∧ ∀ (j : Nat) (y : DV), (mk x)[j]? = some y → ∃ u, cs'[j]? = some u ∧ RoT w (fun b => b < w.heap.size) u y := by
      intro i
      by_cases hi : i < len
      · have h1 := hel i hi
        rw [hsz, List.getElem?_eq_getElem (by omega), Option.bind_eq_some_iff] at h1
        obtain ⟨cs', hc, h2⟩ := h1
        have hm : elems[i] ∈ elems := List.getElem_mem (by omega)
        obtain ⟨x, q1, q2, q3⟩ := he H enc w n cs' _ _ h2 (fun m hm' => hw m (by
          simp only [DataW.weights, ht, List.mem_cons, List.mem_append]
          exact .inr (.inl (mem_weightsAll (List.mem_map.mpr ⟨_, hm, rfl⟩) m hm'))))
        exact ⟨x, fun _ => ⟨cs', hc, q1, q2, q3⟩⟩
      · exact ⟨default, fun h => absurd h hi⟩
    obtain ⟨X, hX⟩ := Classical.axiomOfChoice hall
    refine ⟨(len, X), ⟨hbound, fun i hi => (hX i hi).choose_spec.2.1⟩, rfl, rd_one ?_⟩
    rcases Nat.eq_zero_or_pos len with h0 | h0
    · subst h0; exact .nl _ _ _ _
    · obtain ⟨cs0, hc0, _, hlen0, _⟩ := hX 0 h0
      obtain ⟨_, hl0, hg0⟩ := World.cells?_some hc0
      have hg1 := hg0 0 hpos
      have hcell : ∃ c t' fr, w.heap[a.block]? = some (.cells c t' fr) ∧ a.spot = none := by
        obtain ⟨c0, hc0'⟩ : ∃ c0, cs0[0]? = some c0 := ⟨cs0[0]'(by omega), List.getElem?_eq_getElem (by omega)⟩
        have hz : (a.add (0 * sz)).add 0 = a := by simp [Addr.add]
        rw [hz, hc0'] at hg1
        unfold World.cell? at hg1
        split at hg1
        · rename_i c t' fr hb
          refine ⟨c, t', fr, hb, ?_⟩
          split at hg1
          · cases hg1
          · rename_i hs
            cases hsp : a.spot with
            | none => rfl
            | some z => rw [hsp] at hs; simp at hs
        · cases hg1
      obtain ⟨c, t', fr, hb, hsp⟩ := hcell
      obtain ⟨b, off, spot⟩ := a
      simp at hb hsp
      subst hsp
      have hlt : b < w.heap.size := by
        rcases Nat.lt_or_ge b w.heap.size with h1 | h1
        · exact h1
        · rw [Array.getElem?_eq_none h1] at hb; cases hb
      have hcellAt : ∀ i j : Nat, i < len → j < sz → ∀ u, (hX' : ∃ cs', w.cells? 0 ((⟨b, off, none⟩ : Addr).add (i * sz)) sz = some cs' ∧ cs'[j]? = some u) → c[off + i * sz + j]? = some u := by
        intro i j hi hj u ⟨cs', hc', hu⟩
        obtain ⟨_, _, hg⟩ := World.cells?_some hc'
        have := hg j hj
        rw [hu] at this
        have e1 : ((⟨b, off, none⟩ : Addr).add (i * sz)).add j = ⟨b, off + i * sz + j, none⟩ := by
          unfold Addr.add
          split <;> split <;> simp_all
        rw [e1] at this
        unfold World.cell? at this
        simp only [hb] at this
        simpa using this
      have hvs : ∀ i j : Nat, ∃ v : Value, ∀ y, i < len → (mk (X i))[j]? = some y → c[off + i * sz + j]? = some v ∧ RoT w (fun b => b < w.heap.size) v y := by
        intro i j
        by_cases hi : i < len
        · obtain ⟨cs', hc', _, hl', hr⟩ := hX i hi
          cases hy : (mk (X i))[j]? with
          | none => exact ⟨.bool true, fun y _ h => by cases h⟩
          | some y =>
            obtain ⟨u, hu, hr'⟩ := hr j y hy
            have hj : j < sz := by
              have := (List.getElem?_eq_some_iff.mp hy).1
              rw [hmk] at this; exact this
            exact ⟨u, fun y' _ h => by cases h; exact ⟨hcellAt i j hi hj u ⟨cs', hc', hu⟩, hr'⟩⟩
        · exact ⟨.bool true, fun y h => absurd h hi⟩
      have hvs2 : ∀ i : Nat, ∃ v : Nat → Value, ∀ j y, i < len → (mk (X i))[j]? = some y → c[off + i * sz + j]? = some (v j) ∧ RoT w (fun b => b < w.heap.size) (v j) y := fun i => Classical.axiomOfChoice (hvs i)
      obtain ⟨vs, hvs3⟩ := Classical.axiomOfChoice hvs2
      exact .bl _ b off len cap sz _ c t' fr vs hlt hb hl (fun i _ => hmk _) (fun i j y hi hj => (hvs3 i j y hi hj).1) (fun i j y hi hj => (hvs3 i j y hi hj).2)

/-- Fields from a place on. -/
def RdF (P : Program) (fs : List Field) (off tot : Nat) {α : Type} (Q : α → Prop) (mk : α → List DV) : Prop :=
  ∀ (H : Type) (enc : TypeId × Value → H) (w : World) (n : Nat) (cs : List Value) (xs : List (DataW H × List MemPlace)), cs.length = tot → xs.length = fs.length →
    (∀ (i : Nat) (f : Field), fs[i]? = some f → DataW.trod enc P w 0 (fun _ => true) true n f.type ((cs.drop f.offset).take (P.cellsOf f.type)) = xs[i]?) →
    (∀ m ∈ DataW.weightsEach P (fs.map (·.type)) (xs.map (·.1)), m ≤ reachBytes) →
    ∃ x, Q x ∧ (cs.drop off).length = (mk x).length ∧ ∀ (j : Nat) (y : DV), (mk x)[j]? = some y → ∃ u, (cs.drop off)[j]? = some u ∧ RoT w (fun b => b < w.heap.size) u y
theorem rdF_nil {tot : Nat} : RdF P [] tot tot (fun _ : Unit => True) (fun _ => []) := by
  intro H enc w n cs xs hl _ _ _
  exact ⟨(), trivial, by simp [hl], fun j y h => by simp at h⟩
theorem rdF_cons {f : Field} {fs : List Field} {off tot c : Nat} {α β : Type} {Q : α → Prop} {mk : α → List DV} {Q' : β → Prop} {mk' : β → List DV} (ho : f.offset = off) (hc : P.cellsOf f.type = c) (hle : off + c ≤ tot)
    (h : Rd P f.type Q mk) (hf : RdF P fs (off + c) tot Q' mk') : RdF P (f :: fs) off tot (fun x : α × β => Q x.1 ∧ Q' x.2) (fun x => mk x.1 ++ mk' x.2) := by
  intro H enc w n cs xs hl hxl hx hw
  cases xs with
  | nil => simp at hxl
  | cons x0 xs =>
    have h0 := hx 0 f rfl
    rw [ho, hc] at h0
    simp only [List.getElem?_cons_zero] at h0
    simp only [List.map_cons, DataW.weightsEach, List.mem_append] at hw
    obtain ⟨a, q1, l1, r1⟩ := h H enc w n _ _ _ h0 (fun m hm => hw m (.inl hm))
    obtain ⟨b, q2, l2, r2⟩ := hf H enc w n cs xs hl (by simpa using hxl) (fun i g hg => by simpa using hx (i + 1) g (by simpa using hg)) (fun m hm => hw m (.inr hm))
    have hlen : ((cs.drop off).take c).length = c := by simp; omega
    have hdrop : cs.drop off = (cs.drop off).take c ++ cs.drop (off + c) := by rw [← List.drop_drop, List.take_append_drop]
    refine ⟨(a, b), ⟨q1, q2⟩, ?_, fun j y hy => ?_⟩
    · rw [hdrop, List.length_append, List.length_append, l1, l2]
    · rw [hdrop]
      rcases Nat.lt_or_ge j (mk a).length with hj | hj
      · rw [List.getElem?_append_left hj] at hy
        obtain ⟨u, hu, hr⟩ := r1 j y hy
        exact ⟨u, by rw [List.getElem?_append_left (by rw [l1]; exact hj)]; exact hu, hr⟩
      · rw [List.getElem?_append_right hj] at hy
        obtain ⟨u, hu, hr⟩ := r2 _ y hy
        exact ⟨u, by rw [List.getElem?_append_right (by rw [l1]; exact hj), l1]; exact hu, hr⟩
theorem rd_struct {fs : Array Field} {tot : Nat} (ht : P.underlying t = some (.struct fs)) (hc : P.cellsOf t = tot) {α : Type} {Q : α → Prop} {mk : α → List DV} (h : RdF P fs.toList 0 tot Q mk) : Rd P t Q mk := by
  intro H enc w fuel cs d ps hd hw
  obtain ⟨xs, n, _, hx, hl, hxl, hf⟩ := DataW.trod_struct ht hd
  cases hx
  obtain ⟨x, q, l, r⟩ := h H enc w n cs xs (by rw [hl, hc]) (by simpa using hxl) (fun i f hi => hf i f (by simpa using hi)) (fun m hm => hw m (by simpa [DataW.weights, ht] using hm))
  exact ⟨x, q, by simpa using l, fun j y hy => by simpa using r j y hy⟩
/-- The same, told in other words. -/
theorem rd_as {α β : Type} {Q : α → Prop} {mk : α → List DV} {Q' : β → Prop} {mk' : β → List DV} (h : Rd P t Q mk) (f : α → β) (hq : ∀ x, Q x → Q' (f x)) (hm : ∀ x, mk' (f x) = mk x) : Rd P t Q' mk' := by
  intro H enc w fuel cs d ps hd hw
  obtain ⟨x, q, l, r⟩ := h H enc w fuel cs d ps hd hw
  exact ⟨f x, hq x q, by rw [hm]; exact l, fun j y hy => r j y (by rw [← hm]; exact hy)⟩
end

/-! ### A law's call -/
section
variable {P : Program} {f : FuncId} {fn : Func} {c : Code}
theorem below_of_pret {das : List DP} (hf : P.funcs[f]? = some fn) (hname : (fn.name == "runtime.NumGoroutine") = false) (hb : fn.body = some c) (h : PRet P f (das.map AM.r) [.c (.s (.bool true))] []) (w : World) (htab : TabsOk w fun _ => False) (us : List Value)
    (hl : us.length = das.length) (ha : ∀ (i : Nat) (d : DP), das[i]? = some d → ∃ u, us[i]? = some u ∧ ArgT w (fun b => b < w.heap.size) d u) : Calls P f us.toArray w fun e w' => e = .returned (.bool true) ∧ Go.RowKit.Below w.heap.size w w' := by
  have hins : ∀ (das : List DP) (us : List Value), us.length = das.length → (∀ (i : Nat) (d : DP), das[i]? = some d → ∃ u, us[i]? = some u ∧ ArgT w (fun b => b < w.heap.size) d u) → InsT w (AnyL []) (das.map AM.r) us [] := by
    intro das
    induction das with
    | nil => intro us hl _; cases us with
      | nil => exact .nil
      | cons u us => simp at hl
    | cons d das ih => intro us hl ha; cases us with
      | nil => simp at hl
      | cons u us =>
        obtain ⟨u', hu, ha0⟩ := ha 0 d rfl
        simp at hu; subst hu
        exact .r _ d u _ us [] ha0 (fun b hb => ⟨hb, anyL_nil b⟩) (ih us (by simpa using hl) fun i d' hd => by simpa using ha (i + 1) d' (by simpa using hd))
  rcases h w us [] (hins das us hl ha) List.Pairwise.nil (fun x hx => absurd hx (anyL_nil x)) (fun g kk l hg => let ⟨t1, _, t3⟩ := htab g kk l hg; ⟨t1, anyL_nil g, t3⟩) with ⟨u, w', h1, _⟩ | ⟨_, h2⟩
  · rw [run_callFunc hf hname hb] at h1
    cases h1
  · refine h2.mono fun e w' ⟨u, he, rs, outs, vs, Gs, Hs, ⟨hr1, hr2⟩, hu, hown, _, _, _, hk⟩ => ?_
    subst hr1
    have hu' : u = .bool true := by
      cases hown with
      | cons F d v ds us Fs h ht =>
        cases ht
        rw [hu]
        cases h
        rfl
    rw [he, hu']
    exact ⟨rfl, hk.os, hk.tape, hk.output, hk.size, fun b hb => hk.old b hb (fun h => absurd h (anyL_nil b))⟩
end
end Go.AW
/- The tables that the row lists. -/
namespace Go.AW
open Go.Proofs
theorem tabsMet {W : World} (h : laidMet Tryd.prog YtjnjmbenbbcdjaaDoor.Rows.fnExactPaintRow.laid W) : TabsOk W fun _ => False := by
  have h1 := Lib.tabIs_of_head (k := .u64) (zs := Lib.pow10Tab) (g := 3) (t := 178) (e := 169) (n := 20) (by kernel_rfl) (by kernel_rfl) (by kernel_rfl) (by kernel_rfl) (by kernel_rfl) (by kernel_rfl) h.tail.tail
  unfold Lib.TabIs World.var? at h1
  rw [show Tryd.prog.globalNamed _ = some 3 by kernel_rfl] at h1
  simp only [Option.bind_some] at h1
  intro g k l e
  match g, e with
  | 3, e =>
    obtain ⟨rfl, rfl⟩ := by simpa [tabZ] using e
    cases hh : W.heap[3]? with
    | none => rw [hh] at h1; cases h1
    | some o =>
      rw [hh] at h1
      obtain ⟨hl, _⟩ := Array.getElem?_eq_some_iff.1 hh
      cases o <;> first
        | (exact ⟨hl, fun h => h, _, _, congrArg (fun x => some (Go.Obj.cells x _ _)) (Option.some.inj h1)⟩)
        | cases h1
end Go.AW
