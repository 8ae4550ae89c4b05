/- The abstract calculus, part 26: a state that tells less. -/
import Derived.Test.YtkbmgodbnjbhdaaAw25
set_option linter.unusedVariables false
set_option linter.unusedSimpArgs false
namespace Go.AW

def leqV (v v' : V) : Prop :=
  match v' with
  | .bad => True
  | v' => v = v'
def leqVs : List V → List V → Prop
  | [], [] => True
  | v :: l, v' :: l' => leqV v v' ∧ leqVs l l'
  | _, _ => False
theorem leqVs_spec : ∀ {l l' : List V}, leqVs l l' → l.length = l'.length ∧ ∀ i, leqV (getN undefV l i) (getN undefV l' i)
  | [], [], _ => ⟨rfl, fun i => by simp [getN, leqV]⟩
  | v :: l, v' :: l', h => by
    obtain ⟨h1, h2⟩ := leqVs_spec h.2
    refine ⟨by simp [h1], fun i => ?_⟩
    cases i with
    | zero => exact h.1
    | succ i => exact h2 i
  | [], v :: l, h => h.elim
  | v :: l, [], h => h.elim

theorem ssem_slots {w0 : World} {mine : FP} {s s' : List V} {st : List (Nat × Obj)} {n : Nat} (h : leqVs s s') : Ssem w0 mine ⟨s, st, n⟩ ⟨s', st, n⟩ := by
  intro γ a w R
  obtain ⟨h1, h2⟩ := leqVs_spec h
  refine ⟨γ, ⟨by rw [R.size]; exact h1, fun i => ?_, R.st⟩⟩
  have hR := R.slots i
  have hl := h2 i
  unfold leqV at hl
  show RV γ w (getN undefV s' i) _
  split at hl
  · rename_i hb; rw [hb]; trivial
  · rw [← hl]; exact hR

/-- Slots with some known. -/
def mkS (n : Nat) (l : List (Nat × V)) : List V := (List.range n).map fun i => (look l i).getD .bad

abbrev VI (n : Int) : V := .one (.lf (.s (.int .i64 n)))
abbrev VB (b : Bool) : V := .one (.lf (.s (.bool b)))
abbrev VS (s : ByteArray) : V := .one (.lf (.s (.string s)))
abbrev DI (n : Int) : DP := .c (.s (.int .i64 n))
abbrev DB (b : Bool) : DP := .c (.s (.bool b))
def bodyOf (f : Func) : Code := f.body.getD .skip
end Go.AW
namespace Go.AW
theorem wrap64 (n : Int) (h : -9223372036854775808 ≤ n ∧ n ≤ 9223372036854775807) : IntKind.wrap .i64 n = n := IntWalk.i64_in n h
/-- A contract of one result. -/
def PRet (P : Program) (f : FuncId) (das : List DP) (r : DRes) : Prop := PCon P f das fun x => x = r
theorem pret_of {P : Program} {f : FuncId} {das : List DP} {r : DRes} (h : ∀ post : DRes → Prop, post r → PCon P f das post) : PRet P f das r := h _ rfl
theorem call_of {P : Program} {w0 : World} {mine : FP} {σ : St} {k : V → St → Prop} {f : FuncId} {das : List DP} {r : DRes} {D : Ops} {C : CallT} {vs : List V} (hD : D = std) (hC : C = Csem P w0 mine) (h : PRet P f das r) (hargs : allS (roP D σ.store) vs = some das) (hk : k (instR σ r).1 (instR σ r).2) : C f vs σ k := by
  subst hD hC
  exact csem_of_pcon h hargs (fun r' e => by subst e; exact hk)
theorem sub_of {w0 : World} {mine : FP} {L : SubT} {s s' : List V} {st : List (Nat × Obj)} {n : Nat} (hL : L = Ssem w0 mine) (h : leqVs s s') : L ⟨s, st, n⟩ ⟨s', st, n⟩ := by
  subst hL
  exact ssem_slots h
theorem mB {A B : Prop} {c : Bool} (h1 : c = true → A) (h2 : c = false → B) : condP c (fun _ => A) (fun _ => B) := by
  cases c with
  | true => exact h1 rfl
  | false => exact h2 rfl
-- On, to the leaves: tests are parted, conditions told apart.
theorem nc (j : Nat) : @NatCast.natCast Int instNatCastInt j = Int.ofNat j := rfl
-- At a leaf: the data's operations as they are.
end Go.AW
