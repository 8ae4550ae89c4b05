/- The abstract calculus, part 24: a contract out of a function's code. -/
import Derived.Test.YtkbmgodbnjbhdaaAw23
set_option linter.unusedVariables false
set_option linter.unusedSimpArgs false
namespace Go.AW

def inV : DP → V
  | .c d => .one (.lf (roLeaf d))
  | .a ds => .one (.ag (ds.map roLeaf))
  | .p row => .one (.lf (.rp row))
  | .fr f rows => .one (.lf (.fr f rows))
def startSt (ntmps : Nat) (das : List DP) : St := ⟨das.map inV ++ List.replicate (ntmps - das.length) undefV, [], 0⟩

def own1 (D : Ops) (st : List (Nat × Obj)) : V1 → Option (DP × List Nat)
  | .lf l => match ownC D st l with
    | some (d, ids) => some (.c d, ids)
    | none => none
  | .ag cs => match ownCs D st cs with
    | some (ds, ids) => some (.a ds, ids)
    | none => none
def own1s (D : Ops) (st : List (Nat × Obj)) : List V1 → Option (List DP)
  | [] => some []
  | v :: t => match own1 D st v with
    | some (d, ids) => match own1s D (ids.foldl drop st) t with
      | some ds => some (d :: ds)
      | none => none
    | none => none
def v1s (σ : St) : List Nat → Option (List V1)
  | [] => some []
  | t :: ts => match getN undefV σ.slots t with
    | .one v => match v1s σ ts with
      | some vs => some (v :: vs)
      | none => none
    | _ => none
def resP (D : Ops) (σ : St) (ts : List Nat) (post : DRes → Prop) : Prop :=
  match ts with
  | [t] => match getN undefV σ.slots t with
    | .one v => match own1 D σ.store v with
      | some (d, _) => post (.one d)
      | none => False
    | _ => False
  | ts => match v1s σ ts with
    | some vs => match own1s D σ.store vs with
      | some ds => post (.tup ds)
      | none => False
    | none => False
def exitP (D : Ops) (ts : List Nat) (post : DRes → Prop) : Exit → St → Prop
  | .normal, σ => resP D σ ts post
  | .ret, σ => resP D σ ts post
  | _, _ => False

section
variable {P : Program} {w0 w w' : World} {mine : FP} {γ γ' : Ghost} {σ : St} {a : Act} {k : V → St → Prop} {E : Env}

def resVal (tmps : Array Value) : List Nat → Value
  | [t] => tmps.getD t undef
  | ts => .tuple (ts.map fun t => tmps.getD t undef).toArray

theorem run_callFunc {f : FuncId} {fn : Func} {c : Code} (hf : P.funcs[f]? = some fn) (hname : (fn.name == "runtime.NumGoroutine") = false) (hb : fn.body = some c) (args : Array Value) (w : World) :
    (callFunc f args).run P w = .ok (.enter f args) w := by
  simp only [callFunc, Sem.run_bind, run_program, Result.andThen_ok, hf, hname, hb, Option.isNone_some, Bool.false_eq_true, if_false, Sem.run_pure]

theorem run_results (fn : Func) (ts : List Nat) (hres : fn.results = (ts.map ResultVar.tmp).toArray) (tmps : Array Value) :
    (results fn tmps).run P w = .ok (resVal tmps ts) w := by
  have hm : ∀ (f : ResultVar → Sem Value), (∀ t, f (.tmp t) = pure (tmps.getD t undef)) → ∀ (l : List Nat), ((l.map ResultVar.tmp).mapM f).run P w = .ok (l.map fun t => tmps.getD t undef) w := by
    intro f hf l
    induction l with
    | nil => rfl
    | cons t l ih => simp only [List.map_cons, List.mapM_cons, Sem.run_bind, hf, Sem.run_pure, Result.andThen_ok, ih]
  unfold results
  rw [hres]
  simp only [List.mapM_toArray, Sem.run_bind, Sem.run_map]
  rw [hm _ (fun t => rfl)]
  rcases ts with _ | ⟨t, _ | ⟨t', l⟩⟩
  · rfl
  · rfl
  · simp [resVal]

theorem own1_sound (R : RelS w0 mine γ σ.store σ.next w) {st : List (Nat × Obj)} (hst : ∀ i o, look st i = some o → look σ.store i = some o) {v : V1} {u : Value} (hv : RV1 γ w v u) {d : DP} {ids : List Nat} (h : own1 std st v = some (d, ids)) :
    (∀ i, i ∈ ids → ∃ o, look st i = some o) ∧ ∃ F : FP, OwnR w F d u ∧ ∀ x, F x → ∃ id, id ∈ ids ∧ γ.fp id x := by
  cases v with
  | lf l =>
    simp only [own1] at h
    split at h
    · rename_i d' ids' ho
      simp at h; obtain ⟨rfl, rfl⟩ := h
      obtain ⟨F, hF, hFs, _⟩ := ownC_sound R hv (ownC_less hst ho)
      exact ⟨ownC_in ho, F, hF, hFs⟩
    · simp at h
  | ag cs =>
    simp only [own1] at h
    split at h
    · rename_i ds ids' ho
      simp at h; obtain ⟨rfl, rfl⟩ := h
      obtain ⟨us, hu, hc⟩ := hv
      obtain ⟨hl, hin, G, hG, hGd, hval⟩ := ownCs_sound R cs us st ds ids' hst hc ho
      exact ⟨hin, fun x => ∃ j, G j x, ⟨us, G, hu, by rw [hc.1, hl], fun j x hx => ⟨j, hx⟩, hGd, hval⟩, fun x ⟨j, hj⟩ => hG j x hj⟩
    · simp at h

theorem own1s_sound (R : RelS w0 mine γ σ.store σ.next w) : ∀ (vs : List V1) (us : List Value) (st : List (Nat × Obj)) (ds : List DP), (∀ i o, look st i = some o → look σ.store i = some o) → us.length = vs.length → (∀ (j : Nat) (v : V1), vs[j]? = some v → ∃ u, us[j]? = some u ∧ RV1 γ w v u) → own1s std st vs = some ds →
    ds.length = vs.length ∧ ∃ G : Nat → FP, (∀ j x, G j x → ∃ id o, look st id = some o ∧ γ.fp id x) ∧ (∀ j j' x, G j x → G j' x → j = j') ∧ ∀ (j : Nat) (d : DP), ds[j]? = some d → ∃ u, us[j]? = some u ∧ OwnR w (G j) d u
  | [], us, st, ds, hst, hl, hr, h => by
    simp [own1s] at h; subst h
    exact ⟨rfl, fun _ _ => False, fun j x hx => hx.elim, fun j j' x hx => hx.elim, fun j d hd => by simp at hd⟩
  | v :: t, us, st, ds, hst, hl, hr, h => by
    simp only [own1s] at h
    split at h
    · rename_i d ids h1
      split at h
      · rename_i ds' h2
        simp at h; subst h
        obtain ⟨u0, us', rfl⟩ : ∃ u0 us', us = u0 :: us' := by
          cases us with
          | nil => simp at hl
          | cons u us => exact ⟨u, us, rfl⟩
        obtain ⟨u, hu, hru⟩ := hr 0 v rfl
        simp at hu; subst hu
        obtain ⟨hin, F, hF, hFs⟩ := own1_sound R hst hru h1
        have hst' : ∀ i o, look (ids.foldl drop st) i = some o → i ∉ ids ∧ look st i = some o := fun i o ho => by
          rw [dropsL_look] at ho
          split at ho
          · cases ho
          · rename_i hn; exact ⟨hn, ho⟩
        obtain ⟨hl', G, hG, hGd, hv⟩ := own1s_sound R t us' _ ds' (fun i o ho => hst i o (hst' i o ho).2) (by simpa using hl) (fun j v hj => by simpa using hr (j + 1) v (by simpa using hj)) h2
        have hcross : ∀ j x, F x → G j x → False := fun j x hf hg => by
          obtain ⟨i1, h3, h4⟩ := hFs x hf
          obtain ⟨i2, o2, h5, h6⟩ := hG j x hg
          obtain ⟨hn, h7⟩ := hst' i2 o2 h5
          obtain ⟨o1, h8⟩ := hin i1 h3
          exact R.disj i1 i2 o1 o2 (hst _ _ h8) (hst _ _ h7) (fun e => hn (e ▸ h3)) x h4 h6
        refine ⟨by simp [hl'], fun j => match j with | 0 => F | j + 1 => G j, ?_, ?_, ?_⟩
        · intro j x hx
          cases j with
          | zero =>
            obtain ⟨i1, h3, h4⟩ := hFs x hx
            obtain ⟨o1, h8⟩ := hin i1 h3
            exact ⟨i1, o1, h8, h4⟩
          | succ j =>
            obtain ⟨i2, o2, h5, h6⟩ := hG j x hx
            exact ⟨i2, o2, (hst' i2 o2 h5).2, h6⟩
        · intro j j' x hx hx'
          cases j with
          | zero => cases j' with
            | zero => rfl
            | succ j' => exact (hcross j' x hx hx').elim
          | succ j => cases j' with
            | zero => exact (hcross j x hx' hx).elim
            | succ j' => rw [hGd j j' x hx hx']
        · intro j d' hd'
          cases j with
          | zero => simp at hd'; subst hd'; exact ⟨u0, rfl, hF⟩
          | succ j => simpa using hv j d' (by simpa using hd')
      · simp at h
    · simp at h

theorem v1s_sound {tmps : Array Value} (hs : ∀ i, RV γ w (getN undefV σ.slots i) (tmps.getD i undef)) : ∀ (ts : List Nat) (vs : List V1), v1s σ ts = some vs → vs.length = ts.length ∧ ∀ (j : Nat) (v : V1), vs[j]? = some v → ∃ u, (ts.map fun t => tmps.getD t undef)[j]? = some u ∧ RV1 γ w v u
  | [], vs, h => by simp [v1s] at h; subst h; simp
  | t :: ts, vs, h => by
    simp only [v1s] at h
    split at h
    · rename_i v hv
      split at h
      · rename_i vs' h'
        simp at h; subst h
        obtain ⟨h1, h2⟩ := v1s_sound hs ts vs' h'
        refine ⟨by simp [h1], fun j y hj => ?_⟩
        cases j with
        | zero =>
          simp at hj; subst hj
          have := hs t
          rw [hv] at this
          exact ⟨_, rfl, this⟩
        | succ j => simpa using h2 j y (by simpa using hj)
      · simp at h
    · simp at h

theorem inV_rv {d : DP} {u : Value} {γ : Ghost} (h : ArgT w γ.ro d u) : RV γ w (inV d) u := by
  cases d with
  | c d => exact rleaf_ro h
  | a ds =>
    obtain ⟨us, hu, hl, hv⟩ := h
    refine ⟨us, hu, by simp [hl], fun j l hj => ?_⟩
    simp only [List.getElem?_map, Option.map_eq_some_iff] at hj
    obtain ⟨d, hd, rfl⟩ := hj
    obtain ⟨x, hx, hr⟩ := hv j d hd
    exact ⟨x, hx, rleaf_ro hr⟩
  | p row =>
    refine ⟨?_, h⟩
    obtain ⟨b, off, cs, t, fr, hu, _⟩ := h
    rw [hu]; rfl
  | fr f rows =>
    refine ⟨?_, h⟩
    obtain ⟨vs, hu, _⟩ := h
    rw [hu]; rfl

theorem pcon_of_awp (hE : EnvOk P E) (hm : P.follows .mixedOrders = true) {f : FuncId} {fn : Func} {c : Code} (hf : P.funcs[f]? = some fn) (hname : (fn.name == "runtime.NumGoroutine") = false) (hb : fn.body = some c) (ts : List Nat) (hres : fn.results = (ts.map ResultVar.tmp).toArray)
    {das : List DP} {post : DRes → Prop} (h : ∀ (w0 : World) (D : Ops) (C : CallT) (L : SubT), D = std → C = Csem P w0 (fun _ => False) → L = Ssem w0 (fun _ => False) → AWP D E C L c (startSt fn.ntmps das) (exitP D ts post)) : PCon P f das post := by
  intro w us hl hargs
  refine .inr ⟨run_callFunc hf hname hb _ _, ?_⟩
  refine calls_of_wp hf hb ?_
  let γ0 : Ghost := ⟨fun _ => none, fun _ _ => False, fun b => b < w.heap.size⟩
  let a0 : Act := { tmps := us.toArray ++ Array.replicate (fn.ntmps - us.toArray.size) undef, defers := [] }
  have hget : ∀ i, a0.tmps.getD i undef = us.getD i undef := by
    intro i
    simp only [a0, Array.getD_eq_getD_getElem?, List.getD_eq_getElem?_getD, Array.getElem?_append]
    by_cases hi : i < us.length
    · simp [hi]
    · simp only [List.size_toArray, hi, if_false, Array.getElem?_replicate]
      rw [List.getElem?_eq_none (by omega)]
      split <;> rfl
  have R0 : Rel w (fun _ => False) γ0 (startSt fn.ntmps das) a0 w := by
    refine ⟨by simp [a0, startSt, hl], fun i => ?_, ⟨fun id o h => by simp [startSt, look] at h, fun id id' o o' h => by simp [startSt, look] at h, fun id o h => by simp [startSt, look] at h, fun id g h => by simp [γ0] at h, fun id g h => by simp [γ0] at h, fun id o h => by simp [startSt, look] at h, fun b hb => hb, ⟨Nat.le_refl _, rfl, rfl, rfl, fun b _ _ => rfl⟩⟩⟩
    rw [hget, getN_getD]
    simp only [startSt, List.getD_eq_getElem?_getD]
    by_cases hi : i < das.length
    · rw [List.getElem?_append_left (by simpa using hi)]
      simp only [List.getElem?_map, List.getElem?_eq_getElem hi, Option.map_some, Option.getD_some]
      obtain ⟨u, hu, F, hA⟩ := hargs i _ (List.getElem?_eq_getElem hi)
      rw [hu]
      exact inV_rv hA.tight
    · rw [List.getElem?_append_right (by simpa using hi), List.getElem?_replicate, List.getElem?_eq_none (by omega)]
      have : (if i - (das.map inV).length < fn.ntmps - das.length then some undefV else none).getD undefV = undefV := by split <;> rfl
      rw [this]
      exact rv_undef
  have hw := AWP_sound (Q := bodyPost P fn fun e w' => ∃ u, e = .returned u ∧ ∃ r F, post r ∧ ResT w' F r u ∧ (∀ b, F b → w.heap.size ≤ b ∧ b < w'.heap.size) ∧ Keep w (fun _ => False) w') hE hm c _ _ [] γ0 a0 w R0 rfl ?_ (h w std _ _ rfl rfl rfl)
  · exact hw
  · intro e σ γ a w' he R hd
    have hfresh : ∀ id o, look σ.store id = some o → ∀ b, γ.fp id b → w.heap.size ≤ b ∧ b < w'.heap.size := fun id o ho b hb => by
      have := R.st.fp id o ho b hb
      exact ⟨this.2.resolve_right (fun h => h), this.1⟩
    have key : resP std σ ts post → a.defers = [] ∧ ∃ v, (results fn a.tmps).run P w' = .ok v w' ∧ ∃ u, Ending.returned v = .returned u ∧ ∃ r F, post r ∧ ResT w' F r u ∧ (∀ b, F b → w.heap.size ≤ b ∧ b < w'.heap.size) ∧ Keep w (fun _ => False) w' := by
      intro hr
      refine ⟨hd, _, run_results fn ts hres a.tmps, _, rfl, ?_⟩
      unfold resP at hr
      split at hr
      · rename_i t
        split at hr
        · rename_i v hv
          split at hr
          · rename_i d ids hown
            have hrv := R.slots t
            rw [hv] at hrv
            obtain ⟨hin, F, hF, hFs⟩ := own1_sound R.st (fun i o h => h) hrv hown
            exact ⟨.one d, F, hr, hF, fun b hb => by obtain ⟨id, hid, hf⟩ := hFs b hb; obtain ⟨o, ho⟩ := hin id hid; exact hfresh id o ho b hf, R.st.keep⟩
          · exact hr.elim
        · exact hr.elim
      · rename_i hts
        split at hr
        · rename_i vs hvs
          split at hr
          · rename_i ds hown
            obtain ⟨h1, h2⟩ := v1s_sound R.slots ts vs hvs
            obtain ⟨hl', G, hG, hGd, hv⟩ := own1s_sound R.st vs _ σ.store ds (fun i o h => h) (by simp [h1]) h2 hown
            refine ⟨.tup ds, fun x => ∃ j, G j x, hr, ?_, fun b ⟨j, hj⟩ => by obtain ⟨id, o, ho, hf⟩ := hG j b hj; exact hfresh id o ho b hf, R.st.keep⟩
            have : resVal a.tmps ts = .tuple (ts.map fun t => a.tmps.getD t undef).toArray := by
              unfold resVal
              split
              · rename_i t; exact absurd rfl (hts t)
              · rfl
            rw [this]
            exact ⟨_, G, rfl, by simp [h1, hl'], fun j x hx => ⟨j, hx⟩, hGd, hv⟩
          · exact hr.elim
        · exact hr.elim
    cases e <;> simp only [exitP, bodyPost] at he ⊢
    · exact key he
    · exact key he
end
end Go.AW
