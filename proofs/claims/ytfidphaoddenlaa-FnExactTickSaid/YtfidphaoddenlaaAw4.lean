/- The abstract calculus, part 4: what is read is so; values that turn no state. -/
import Derived.Test.YtfidphaoddenlaaAw3
import Derived.Lib.FrozenHead
import Derived.ChangeKeysEq
set_option linter.unusedVariables false
set_option linter.unusedSimpArgs false
namespace Go.AW

def Kok (P : Program) : K → TypeDesc → Prop
  | .bool, .bool => True
  | .int k, .int k' => k' = k
  | .str, .string => True
  | .ptr e, .pointer e' => e' = e
  | .sl e, .slice e' => e' = e
  | .arr n e, .array n' e' => n' = n ∧ e' = e
  | .st fs, .struct gs => gs.size = fs.length ∧ ∀ (i : Nat) (x : Nat × Nat), fs[i]? = some x → ∃ g : Field, gs[i]? = some g ∧ g.offset = x.1 ∧ (P.info? g.type).map (·.size) = some x.2
  | .fn, .func _ _ _ => True
  | .mp k e, .map k' e' => k' = k ∧ e' = e
  | _, _ => False

structure TIok (P : Program) (t : TypeId) (i : TI) : Prop where
  und : ∃ d, P.underlying t = some d ∧ Kok P i.k d
  size : (P.info? t).map (·.size) = some i.size
  bytes : (P.info? t).map (·.bytes) = some i.bytes
  zero : ∃ z, (P.info? t).map (·.zero) = some (some z) ∧ z.cells.toList = i.zero
  one : i.zero.all (·.oneCell') = true
  len : i.zero.length = i.size

def EnvOk (P : Program) (E : Env) : Prop := ∀ t, (E t).k ≠ .other → TIok P t (E t)

section
variable {P : Program} {t : TypeId} {i : TI} (w : World)
theorem TIok.run_size (h : TIok P t i) : (sizeOf t).run P w = .ok i.size w := by
  have := h.size
  cases hi : P.info? t with
  | none => simp [hi] at this
  | some x => simp [sizeOf, typeInfo, hi] at this ⊢; rw [this]
theorem TIok.run_info (h : TIok P t i) : ∃ x, P.info? t = some x ∧ x.size = i.size ∧ x.bytes = i.bytes ∧ ∃ z, x.zero = some z ∧ z.cells.toList = i.zero := by
  obtain ⟨z, hz, hc⟩ := h.zero
  have h1 := h.size; have h2 := h.bytes
  cases hi : P.info? t with
  | none => simp [hi] at h1
  | some x => simp [hi] at h1 h2 hz; exact ⟨x, rfl, h1, h2, z, hz, hc⟩
theorem TIok.run_isAgg (h : TIok P t i) : (isAgg t).run P w = .ok (isAg i.k) w := by
  obtain ⟨d, hd, hk⟩ := h.und
  simp only [isAgg, Sem.run_bind, run_underlying hd, Result.andThen_ok]
  cases hK : i.k <;> cases d <;> simp [Kok, hK, isAg] at hk ⊢
theorem TIok.sl (h : TIok P t i) {e : Nat} (hk : i.k = .sl e) : P.underlying t = some (.slice e) := by
  obtain ⟨d, hd, hK⟩ := h.und
  cases d <;> simp [Kok, hk] at hK
  rw [hd, hK]
theorem TIok.str (h : TIok P t i) (hk : i.k = .str) : P.underlying t = some .string := by
  obtain ⟨d, hd, hK⟩ := h.und
  cases d <;> simp [Kok, hk] at hK
  exact hd
theorem TIok.int (h : TIok P t i) {k : IntKind} (hk : i.k = .int k) : P.underlying t = some (.int k) := by
  obtain ⟨d, hd, hK⟩ := h.und
  cases d <;> simp [Kok, hk] at hK
  rw [hd, hK]
theorem TIok.st (h : TIok P t i) {fs : List (Nat × Nat)} (hk : i.k = .st fs) : ∃ gs, P.underlying t = some (.struct gs) ∧ gs.size = fs.length ∧
    ∀ (i : Nat) (x : Nat × Nat), fs[i]? = some x → ∃ g : Field, gs[i]? = some g ∧ g.offset = x.1 ∧ (P.info? g.type).map (·.size) = some x.2 := by
  obtain ⟨d, hd, hK⟩ := h.und
  rw [hk] at hK
  cases d <;> simp only [Kok] at hK
  exact ⟨_, hd, hK⟩
end

theorem nthO_getElem? {α : Type} : ∀ (l : List α) (n : Nat), nthO l n = l[n]?
  | [], n => by simp [nthO]
  | a :: l, 0 => by simp [nthO]
  | a :: l, n + 1 => by simp [nthO, nthO_getElem? l n]
theorem getN_getD {α : Type} (d : α) : ∀ (l : List α) (n : Nat), getN d l n = l.getD n d
  | [], n => by simp [getN]
  | a :: l, 0 => by simp [getN]
  | a :: l, n + 1 => by simp [getN, getN_getD d l n]
theorem setN_length {α : Type} (v : α) : ∀ (l : List α) (n : Nat), (setN l n v).length = l.length
  | [], n => by simp [setN]
  | a :: l, 0 => by simp [setN]
  | a :: l, n + 1 => by simp [setN, setN_length v l n]
theorem getN_setN {α : Type} (d v : α) : ∀ (l : List α) (n m : Nat), getN d (setN l n v) m = if m = n ∧ n < l.length then v else getN d l m
  | [], n, m => by simp [setN, getN]
  | a :: l, 0, 0 => by simp [setN, getN]
  | a :: l, 0, m + 1 => by simp [setN, getN]
  | a :: l, n + 1, 0 => by simp [setN, getN]
  | a :: l, n + 1, m + 1 => by simp [setN, getN, getN_setN d v l n m]

/-! ### Leaves -/
theorem rleaf_ofValue (γ : Ghost) (w : World) (v : Value) (h : v.oneCell' = true) : RLeaf γ w (leafOfValue v) v := by
  refine ⟨h, ?_⟩
  unfold leafOfValue
  split
  · rfl
  · rfl

theorem rv_ofValue (γ : Ghost) (w : World) (v : Value) : RV γ w (vOfValue v) v := by
  unfold vOfValue
  split
  · rename_i cs
    split
    · rename_i hall
      refine ⟨cs.toList, by simp, by simp, ?_⟩
      intro j l hl
      simp only [List.getElem?_map, Option.map_eq_some_iff] at hl
      obtain ⟨u, hu, rfl⟩ := hl
      exact ⟨u, hu, rleaf_ofValue γ w u (by
        have := List.all_eq_true.mp hall u (List.mem_of_getElem? hu)
        exact this)⟩
    · trivial
  · trivial
  · rename_i hag htu
    exact rleaf_ofValue γ w v (by cases v <;> simp_all [Value.oneCell'])

section
variable {w0 w : World} {mine : FP} {γ : Ghost} {σ : St} {a : Act}

theorem Rel.ev (R : Rel w0 mine γ σ a w) (x : Operand) : RV γ w (evA σ x) (a.eval x) := by
  cases x with
  | tmp t => exact R.slots t
  | const v => exact rv_ofValue γ w v
  | func f => exact ⟨rfl, [], rfl, rfl, by simp⟩
  | global g => trivial

/-- The state as it is, another value in a temporary. -/
theorem Rel.set (R : Rel w0 mine γ σ a w) (d : Option Tmp) (v : V) (u : Value) (hv : RV γ w v u) : Rel w0 mine γ (setD σ d v) (a.put d u) w := by
  cases d with
  | none => exact R
  | some t =>
    refine ⟨?_, ?_, R.st⟩
    · show (a.tmps.setIfInBounds t u).size = (setN σ.slots t v).length
      simp [setN_length, R.size]
    · intro i
      show RV γ w (getN undefV (setN σ.slots t v) i) ((a.tmps.setIfInBounds t u).getD i undef)
      rw [getN_setN]
      by_cases hi : i = t ∧ t < σ.slots.length
      · obtain ⟨rfl, hlt⟩ := hi
        rw [if_pos ⟨rfl, hlt⟩]
        have : i < a.tmps.size := by rw [R.size]; exact hlt
        simpa [Array.getD, this] using hv
      · rw [if_neg hi]
        have hR := R.slots i
        have : (a.tmps.setIfInBounds t u).getD i undef = a.tmps.getD i undef := by
          by_cases hit : i = t
          · subst hit
            have : ¬ i < a.tmps.size := by rw [R.size]; exact fun h => hi ⟨rfl, h⟩
            simp [Array.getD, this]
          · simp only [Array.getD_eq_getD_getElem?, Array.getElem?_setIfInBounds]
            rw [if_neg (by omega)]
        rw [this]
        exact hR

theorem scalarV_some {V : V} {v : Value} (h : scalarV V = some v) : V = .one (.lf (.s v)) := by
  unfold scalarV at h
  split at h
  · simp at h; rw [h]
  · simp at h
theorem intV_some {V : V} {n : Int} (h : intV V = some n) : ∃ k, V = .one (.lf (.s (.int k n))) := by
  unfold intV at h
  split at h
  · rename_i k m; simp at h; exact ⟨k, by rw [h]⟩
  · simp at h
theorem Rel.scalar (R : Rel w0 mine γ σ a w) {x : Operand} {v : Value} (h : scalarV (evA σ x) = some v) : a.eval x = v := by
  have := R.ev x
  rw [scalarV_some h] at this
  exact this.2
theorem Rel.int (R : Rel w0 mine γ σ a w) {x : Operand} {n : Int} (h : intV (evA σ x) = some n) : ∃ k, a.eval x = .int k n := by
  obtain ⟨k, hk⟩ := intV_some h
  have := R.ev x
  rw [hk] at this
  exact ⟨k, this.2⟩
end

/-- What an operation has come to: the value that goes into its temporary, and a state that fits. -/
def Post (w0 : World) (mine : FP) (a : Act) (k : V → St → Prop) (u : Value) (w : World) : Prop :=
  ∃ V σ γ, k V σ ∧ Rel w0 mine γ σ a w ∧ RV γ w V u

def Does (P : Program) (w0 : World) (mine : FP) (a : Act) (w : World) (o : Oper) (k : V → St → Prop) : Prop :=
  (∃ u w', (execOp a.eval o).run P w = .ok (.value u) w' ∧ Post w0 mine a k u w') ∨
  (∃ w', (execOp a.eval o).run P w = .ok .skip w' ∧ Post w0 mine a k undef w') ∨
  (∃ f args, (execOp a.eval o).run P w = .ok (.enter f args) w ∧ Calls P f args w fun e w' => ∃ u, e = .returned u ∧ Post w0 mine a k u w')

section
variable {P : Program} {w0 w : World} {mine : FP} {γ : Ghost} {σ : St} {a : Act} {k : V → St → Prop}
theorem Does.value {o : Oper} (R : Rel w0 mine γ σ a w) {V : V} {u : Value} (hk : k V σ) (hv : RV γ w V u) (hr : (execOp a.eval o).run P w = .ok (.value u) w) : Does P w0 mine a w o k :=
  .inl ⟨u, w, hr, V, σ, γ, hk, R, hv⟩

/-- It comes to a value and turns nothing. -/
def DoesQ (P : Program) (γ : Ghost) (σ : St) (a : Act) (w : World) (o : Oper) (k : V → St → Prop) : Prop :=
  ∃ V u, k V σ ∧ RV γ w V u ∧ (execOp a.eval o).run P w = .ok (.value u) w
theorem DoesQ.value {o : Oper} (R : Rel w0 mine γ σ a w) {V : V} {u : Value} (hk : k V σ) (hv : RV γ w V u) (hr : (execOp a.eval o).run P w = .ok (.value u) w) : DoesQ P γ σ a w o k :=
  ⟨V, u, hk, hv, hr⟩
theorem DoesQ.does {o : Oper} (h : DoesQ P γ σ a w o k) (R : Rel w0 mine γ σ a w) : Does P w0 mine a w o k :=
  let ⟨V, u, hk, hv, hr⟩ := h
  .inl ⟨u, w, hr, V, σ, γ, hk, R, hv⟩

theorem does_move (R : Rel w0 mine γ σ a w) {d t p af g} {x : Operand} (h : k (evA σ x) σ) : DoesQ P γ σ a w ⟨d, .move x, t, p, af, g⟩ k :=
  .value R h (R.ev x) (by simp [execOp])
theorem does_assign (R : Rel w0 mine γ σ a w) {d t p af g} {x : Operand} (h : k (evA σ x) σ) : DoesQ P γ σ a w ⟨d, .assign x, t, p, af, g⟩ k :=
  .value R h (R.ev x) (by simp [execOp])

theorem rv_s {v : Value} (h : v.oneCell' = true) : RV γ w (.one (.lf (.s v))) v := ⟨h, rfl⟩
theorem rv_bool (b : Bool) : RV γ w (.one (.lf (.s (.bool b)))) (.bool b) := rv_s rfl
theorem rv_int (kk : IntKind) (n : Int) : RV γ w (.one (.lf (.s (.int kk n)))) (.int kk n) := rv_s rfl

theorem does_pick (R : Rel w0 mine γ σ a w) {d t p af g} {c x y : Operand} {b : Bool} (hb : scalarV (evA σ c) = some (.bool b)) (h : condP b (fun _ => k (evA σ x) σ) (fun _ => k (evA σ y) σ)) :
    DoesQ P γ σ a w ⟨d, .pick c x y, t, p, af, g⟩ k := by
  have hc := R.scalar hb
  cases b with
  | true => exact .value R h (R.ev x) (by simp [execOp, hc, asBool])
  | false => exact .value R h (R.ev y) (by simp [execOp, hc, asBool])

theorem binP_sound (op : BinOp) (x y : Value) (t : TypeId) (ox oy : Operand) {K : Value → Prop} (h : binP std op x y K) :
    ∃ v, K v ∧ v.oneCell' = true ∧ (do eqGuard op t ox oy x y; binOp op t x y : Sem Value).run P w = .ok v w := by
  have hg : (x.oneCell' = true ∧ x ≠ .nilIface) → (eqGuard op t ox oy x y).run P w = .ok () w := by
    intro hx
    unfold eqGuard
    cases op <;> cases x <;> simp_all [Value.oneCell']
  unfold binP at h
  split at h
  · rename_i kx a ky b
    have hg' := hg ⟨rfl, by simp⟩
    simp only [Sem.run_bind, hg', Result.andThen_ok]
    have hk : isShift op = true ∨ kx = ky := by
      split at h
      · exact h.elim
      · rename_i hn
        cases hs : isShift op with
        | true => exact .inl rfl
        | false =>
          right
          cases kx <;> cases ky <;> first | rfl | (exfalso; exact hn hs rfl)
    have h' : intP std op kx a b K := by
      split at h
      · exact h.elim
      · exact h
    clear h
    cases op <;> simp only [need, intP] at h'
    all_goals first
      | (refine ⟨_, h', rfl, ?_⟩)
      | (refine ⟨_, h'.2, rfl, ?_⟩)
    all_goals first
      | (have h1 := h'.1; simp [std] at h1; first | (simp [binOp, Op.shift, std, h1, Int.not_lt.mpr h1]; done) | (obtain rfl := hk.resolve_left (by simp [isShift]); simp [binOp, Op.intDiv, std, h1]; done))
      | (obtain rfl := hk.resolve_left (by simp [isShift]); simp [binOp, Op.intArith, Op.intCmp, Op.intBits, std, bne]; done)
  · rename_i s1 s2
    have hg' := hg ⟨rfl, by simp⟩
    simp only [Sem.run_bind, hg', Result.andThen_ok]
    cases op <;> simp only [need] at h
    all_goals first
      | exact h.elim
      | (refine ⟨_, h, rfl, ?_⟩)
      | (refine ⟨_, h.2, rfl, ?_⟩)
    all_goals first
      | (simp [binOp, Op.stringOp, std, bne]; done)
      | (have h1 := h.1; simp [std] at h1; have hm : IntKind.max .i64 = 9223372036854775807 := by decide +kernel
         simp only [binOp, Op.stringOp, std, hm]; rw [if_neg (by omega)]; rfl)
  · exact h.elim

theorem does_binOp (R : Rel w0 mine γ σ a w) {d t p af g op xt yt} {x y : Operand} {vx vy : Value} (hx : scalarV (evA σ x) = some vx) (hy : scalarV (evA σ y) = some vy)
    (h : binP std op vx vy fun v => k (.one (.lf (.s v))) σ) : DoesQ P γ σ a w ⟨d, .binOp op xt x y yt, t, p, af, g⟩ k := by
  obtain ⟨v, hk, h1, hr⟩ := binP_sound (P := P) (w := w) op vx vy xt x y h
  refine .value R hk (rv_s h1) ?_
  simp only [execOp, R.scalar hx, R.scalar hy]
  rw [Sem.run_bind, hr]
  rfl

theorem does_unOp (R : Rel w0 mine γ σ a w) {d t p af g op xt} {x : Operand} {vx : Value} (hx : scalarV (evA σ x) = some vx)
    (h : unP std op vx fun v => k (.one (.lf (.s v))) σ) : DoesQ P γ σ a w ⟨d, .unOp op xt x, t, p, af, g⟩ k := by
  unfold unP at h
  split at h
  · exact .value R h (rv_int _ _) (by simp [execOp, R.scalar hx, Op.unary, Op.intArith, std])
  · rename_i b
    cases b with
    | true => exact .value R h (rv_bool _) (by simp [execOp, R.scalar hx, Op.unary])
    | false => exact .value R h (rv_bool _) (by simp [execOp, R.scalar hx, Op.unary])
  · exact h.elim

theorem does_extract (R : Rel w0 mine γ σ a w) {d t p af g} {x : Operand} {i : Nat} {vs : List V1} {v : V1} (hx : evA σ x = .tup vs) (hv : nthO vs i = some v) (h : k (.one v) σ) :
    DoesQ P γ σ a w ⟨d, .extract x i, t, p, af, g⟩ k := by
  have hr := R.ev x
  rw [hx] at hr
  obtain ⟨us, he, hl, hj⟩ := hr
  rw [nthO_getElem?] at hv
  obtain ⟨u, hu, hru⟩ := hj i v hv
  exact .value R h hru (by simp [execOp, he, Instr.extract, hu])

theorem does_nilCheck (R : Rel w0 mine γ σ a w) {d t p af g} {x : Operand} {l : Leaf} (hx : evA σ x = .one (.lf l)) (hl : match l with | .p _ _ | .pr _ _ _ | .qp _ _ _ _ _ _ | .rp _ | .sp _ _ | .fn _ _ | .fr _ _ => True | _ => False) (h : k (.one (.lf l)) σ) :
    DoesQ P γ σ a w ⟨d, .nilCheck x, t, p, af, g⟩ k := by
  have hr := R.ev x
  rw [hx] at hr
  refine .value R h hr ?_
  have h2 := hr.2
  cases l <;> simp only [RLeafC, RRow] at h2 hl
  · obtain ⟨g', b, _, _, he⟩ := h2; simp [execOp, he]
  · obtain ⟨g', b, _, _, _, he⟩ := h2; simp [execOp, he]
  · obtain ⟨c, b, o, N, cap, _, _, _, he⟩ := h2; simp [execOp, he]
  · obtain ⟨b, off, cs, t', fr, he, _⟩ := h2; simp [execOp, he]
  · obtain ⟨_, b, off, cs, t', fr, he, _⟩ := h2; simp [execOp, he]
  · obtain ⟨vs, he, _⟩ := h2; simp [execOp, he]
  · obtain ⟨vs, he, _⟩ := h2; simp [execOp, he]
end
end Go.AW
