/- The abstract calculus, part 19: regions in the text's order. -/
import Derived.Test.YtfidphaoddenlaaAw18
import Derived.Orders
set_option linter.unusedVariables false
set_option linter.unusedSimpArgs false
namespace Go.AW

theorem setN_self {α : Type} (d : α) : ∀ (l : List α) (n : Nat) (v : α), getN d l n = v → n < l.length → setN l n v = l
  | [], n, v, _, h => by simp at h
  | a :: l, 0, v, h, _ => by simp [getN] at h; simp [setN, h]
  | a :: l, n + 1, v, h, hn => by simp [getN] at h; simp [setN, setN_self d l n v h (by simpa using hn)]
theorem put_defers (a : Act) (d : Option Tmp) (v : Value) : (a.put d v).defers = a.defers := by cases d <;> rfl
theorem put_size (a : Act) (d : Option Tmp) (v : Value) : (a.put d v).tmps.size = a.tmps.size := by cases d <;> simp [Act.put]

/-- One operation in a region has come to a value (undef: passed over). -/
def StepTo (P : Program) (ops : Array Oper) (o : Oper) (w0 : World) (mine : FP) (a : Act) (w : World) (k : V → St → Prop) : Prop :=
  (Region.wanted o (yielded ops a.tmps) = true ∧ Does P w0 mine a w o k) ∨ (Region.wanted o (yielded ops a.tmps) = false ∧ Post w0 mine a k undef w)

section
variable {P : Program} {w0 w w' : World} {mine : FP} {γ γ' : Ghost} {σ : St} {a : Act} {k : V → St → Prop} {E : Env}

theorem rv_undef : RV γ w undefV undef := ⟨[], rfl, rfl, by simp⟩

theorem yielded_bool (R : Rel w0 mine γ σ a w) {ops : Array Oper} {j d : Nat} {oj : Oper} {b : Bool} (hj : nthO ops.toList j = some oj) (hd : oj.dst = some d) (hv : getN undefV σ.slots d = .one (.lf (.s (.bool b)))) :
    yielded ops a.tmps j = some b ∧ setN σ.slots d (.one (.lf (.s (.bool b)))) = σ.slots := by
  rw [nthO_getElem?, Array.getElem?_toList] at hj
  have hR := R.slots d
  rw [hv] at hR
  have he : a.tmps.getD d undef = .bool b := hR.2
  have hlt : d < a.tmps.size := by
    rcases Nat.lt_or_ge d a.tmps.size with h | h
    · exact h
    · simp [Array.getD, Nat.not_lt.mpr h, undef] at he
  have h1 : a.tmps[d]? = some (.bool b) := by
    rw [Array.getElem?_eq_getElem hlt]
    simpa [Array.getD, hlt] using he
  exact ⟨by simp [yielded, hj, hd, h1], setN_self undefV _ _ _ hv (by rw [← R.size]; exact hlt)⟩

theorem yielded_none (R : Rel w0 mine γ σ a w) {ops : Array Oper} {j d : Nat} {oj : Oper} (hj : nthO ops.toList j = some oj) (hd : oj.dst = some d) (hv : getN undefV σ.slots d = .tup []) :
    yielded ops a.tmps j = none := by
  rw [nthO_getElem?, Array.getElem?_toList] at hj
  have hR := R.slots d
  rw [hv] at hR
  obtain ⟨us, he, hl, _⟩ := hR
  have hus : us = [] := List.eq_nil_of_length_eq_zero hl
  subst hus
  simp only [yielded, hj, Option.bind_some, hd]
  cases ht : a.tmps[d]? with
  | none => rfl
  | some v =>
    have : a.tmps.getD d undef = v := by
      obtain ⟨hlt, h⟩ := Array.getElem?_eq_some_iff.mp ht
      simp [Array.getD, hlt, h]
    rw [this] at he
    simp [he]

theorem stepP_sound (hE : EnvOk P E) (R : Rel w0 mine γ σ a w) (ops : Array Oper) (o : Oper) (h : stepP std E (Csem P w0 mine) ops.toList σ o k) : StepTo P ops o w0 mine a w k := by
  unfold stepP at h
  split at h
  · rename_i hg
    exact .inl ⟨by simp [Region.wanted, hg], opP_sound hE R o h⟩
  · rename_i j want hg
    split at h
    · rename_i oj hj
      split at h
      · rename_i d hd
        split at h
        · rename_i b hv
          obtain ⟨hy, hs⟩ := yielded_bool R (ops := ops) hj hd hv
          have hwant : Region.wanted o (yielded ops a.tmps) = (some b == some want) := by simp [Region.wanted, hg, hy]
          cases b with
          | true =>
            rw [hs] at h
            cases want with
            | true => exact .inl ⟨by rw [hwant]; rfl, opP_sound hE R o h⟩
            | false => exact .inr ⟨by rw [hwant]; rfl, undefV, σ, γ, h, R, rv_undef⟩
          | false =>
            rw [hs] at h
            cases want with
            | true => exact .inr ⟨by rw [hwant]; rfl, undefV, σ, γ, h, R, rv_undef⟩
            | false => exact .inl ⟨by rw [hwant]; rfl, opP_sound hE R o h⟩
        · rename_i hv
          have hy := yielded_none R (ops := ops) hj hd hv
          exact .inr ⟨by simp [Region.wanted, hg, hy], undefV, σ, γ, h, R, rv_undef⟩
        · exact h.elim
      · exact h.elim
    · exact h.elim

/-- From what an operation comes to, on. -/
theorem wpOp_of {ops : Array Oper} {i : Nat} {o : Oper} {Q : Exit → Act → World → Prop} {K : Act → World → Prop} (hi : ops[i]? = some o) (h : StepTo P ops o w0 mine a w k)
    (hK : ∀ u w', Post w0 mine a k u w' → K (a.put o.dst u) w') : wpOp P ops Q i K a w := by
  unfold wpOp
  simp only [hi]
  rcases h with ⟨hw, hd⟩ | ⟨hw, hp⟩
  · rw [if_pos hw]
    refine .inl ?_
    unfold Oper.wp
    rcases hd with ⟨u, w', hr, hp⟩ | ⟨w', hr, hp⟩ | ⟨f, args, hr, hc⟩
    · rw [hr]; exact hK u w' hp
    · rw [hr]; exact hK undef w' hp
    · rw [hr]
      refine Calls.mono hc (fun e w' he => ?_)
      obtain ⟨u, rfl, hp⟩ := he
      exact hK u w' hp
  · rw [if_neg (by rw [hw]; simp)]
    exact hK undef w hp

/-- What is said of the frame stays, whatever comes into these operations' temporaries. -/
def KeepsO (Φ : Act → Prop) (ops : List Oper) : Prop := ∀ o, o ∈ ops → ∀ a u, Φ a → Φ (a.put o.dst u)

theorem opsP_sound (hE : EnvOk P E) {ops : Array Oper} {Q : Exit → Act → World → Prop} {K : St → Prop} {Φ : Act → Prop} (hΦ : KeepsO Φ ops.toList) (hQ : ∀ σ γ a w, K σ → Rel w0 mine γ σ a w → Φ a → Q .normal a w) :
    ∀ (n i : Nat) (σ : St) (γ : Ghost) (a : Act) (w : World), i + n = ops.size → Rel w0 mine γ σ a w → Φ a → opsP std E (Csem P w0 mine) ops.toList (ops.toList.drop i) σ K → wpOps P ops Q (List.range' i n) a w
  | 0, i, σ, γ, a, w, hn, R, hd, h => by
    rw [List.drop_eq_nil_of_le (by simp; omega)] at h
    exact hQ σ γ a w h R hd
  | n + 1, i, σ, γ, a, w, hn, R, hd, h => by
    have hlt : i < ops.size := by omega
    have hi : ops[i]? = some ops[i] := Array.getElem?_eq_getElem hlt
    rw [List.drop_eq_getElem_cons (by simpa using hlt)] at h
    simp only [Array.getElem_toList] at h
    rw [List.range'_succ, wpOps_cons]
    refine wpOp_of hi (stepP_sound hE R ops _ h) (fun u w' hp => ?_)
    obtain ⟨V, σ', γ', hk, R', hv⟩ := hp
    exact opsP_sound hE hΦ hQ n (i + 1) _ γ' _ w' (by omega) (R'.set _ V u hv) (hΦ ops[i] (by simp) a u hd) hk
end
end Go.AW
