/- laws.FnExactRuneWidth returns true for every argument, and the argument reads as it did. -/
import Derived.Test.YtkbmgodbnjbhdaaRows
import Derived.Test.YtkbmgodbnjbhdaaC2
import Derived.ProofKit
import Derived.OpenShut
import Derived.ShutString
import Derived.ChangeOld
import Derived.SizedLaws
namespace Go.AW
open Go.RowKit
/-- A contract's call, in the world's words. -/
theorem below_of_pret {P : Program} {f : FuncId} {fn : Func} {c : Code} {das : List DP} (hf : P.funcs[f]? = some fn) (hname : (fn.name == "runtime.NumGoroutine") = false) (hb : fn.body = some c) (h : PRet P f das (.one (.c (.s (.bool true))))) (w : World) (us : List Value)
    (hl : us.length = das.length) (ha : ∀ (i : Nat) (d : DP), das[i]? = some d → ∃ u, us[i]? = some u ∧ ∃ F, ArgT w F d u) : Calls P f us.toArray w fun e w' => e = .returned (.bool true) ∧ Below w.heap.size w w' := by
  rcases h w us hl ha with ⟨u, w', h1, _⟩ | ⟨_, h2⟩
  · rw [run_callFunc hf hname hb] at h1
    cases h1
  · refine h2.mono fun e w' ⟨u, he, r, F, hr, hres, _, hk⟩ => ?_
    subst hr
    have hu : u = .bool true := (hres.ro.s_inv).1
    rw [he, hu]
    exact ⟨rfl, hk.os, hk.tape, hk.output, hk.size, fun b hb => hk.old b hb (fun h => h)⟩
end Go.AW
namespace Go.Proofs.Ytkbmgodbnjbhdaa.fnExactRuneWidth
open Go.ChangeShapes Go.WideShapes Go.ChangeAt Go.RowKit
set_option linter.unusedVariables false
theorem own : ownKnob Try.prog.godebug = none := by kernel_rfl
theorem walk (r : Int) (W : World) (h : (Lit.int .i32 r).wf = true) : Calls Try.prog 4 #[.int .i32 r] W fun e w' => e = .returned (.bool true) ∧ Below W.heap.size W w' := by
  have hr : -2147483648 ≤ r ∧ r ≤ 2147483647 := by
    have h1 : IntKind.min .i32 = -2147483648 := by decide +kernel
    have h2 : IntKind.max .i32 = 2147483647 := by decide +kernel
    simp [Lit.wf, h1, h2] at h
    omega
  exact AW.below_of_pret (fn := Try.f4) (c := AW.bodyOf Try.f4) (by kernel_rfl) (by kernel_rfl) (by kernel_rfl) (AW.con4 r hr) W [.int .i32 r] rfl (fun i d hd => by
    cases i with
    | zero => simp at hd; subst hd; exact ⟨_, rfl, fun _ => False, .s _ rfl⟩
    | succ i => simp at hd)
set_option maxRecDepth 100000 in
theorem lifted (os : Os) (started : os.Started) (H : Type) (enc : TypeId × Value → H) :
    ReturnsInHanded {} Try.checked os 4 .any (Rows.fnExactRuneWidthSpec.pre6 enc Try.prog Try.f4 Rows.fnExactRuneWidthRow.domain false) (Rows.fnExactRuneWidthSpec.post enc Try.prog Try.f4 false true false false) := by
  refine returnsInHanded_of_change_sized (C := Try.checked) own started (by kernel_rfl) Try.func4
    (ChangeSpec.witness6 (enc := enc) (C := Try.checked) false ⟨#[], #[.int .i32 0], []⟩ 8 (by kernel_rfl) (by kernel_rfl) (by kernel_rfl) (by kernel_rfl)) ?_
  intro W base args ds gs before hval0 hW hcnd hsz0 _
  have hsz : (DataW.weightsEach Try.prog (Try.f4.params.toList ++ Rows.fnExactRuneWidthSpec.plain.varTypes Try.prog) (ds ++ gs)).all (· ≤ reachBytes) = true := hsz0
  have hval : ∀ (j : Nat) t v, Try.f4.params[j]? = some t → args[j]? = some v → Value.okWide Try.prog W .any base t v := hval0
  have hW' := hW
  obtain ⟨p, q, hA0, hV, rfl, hfz, hnd⟩ := hW
  have hA : DataW.TrodAll enc Try.prog W 0 (fun _ => true) true Try.f4.params.toList args.toList ds p := hA0
  rw [Try.params4] at hA hval hsz
  obtain ⟨v0, vs0, d0, ds0, p0, q0, hargs, rfl, rfl, h0, r0⟩ := trodAll_cons hA
  obtain ⟨rfl, rfl, rfl⟩ := trodAll_nil r0
  obtain rfl : args = #[v0] := by cases args; simp_all
  obtain ⟨rfl, rfl⟩ := trodVars_none hV
  obtain ⟨a0, rfl, rfl, rfl, w0⟩ := open_int Try.underlying21 (hval 0 21 v0 rfl rfl) h0
  clear hA0 hval0 hsz0 hsz
  refine (walk a0 W w0).mono fun e W' ⟨he, bel⟩ => ?_
  subst he
  exact ⟨_, rfl, _, _, _, [], _, [], hW', trodAll_mk1 (shut_bool Try.underlying4 _), (trodAll_cons_mk (shut_int Try.underlying21 w0) trodAll_mk0), rfl, bel.frame _, fun h => by cases h⟩
theorem over : Rows.fnExactRuneWidthRow.holds Try.pinned (OpenSpec.ofChange Rows.fnExactRuneWidthSpec) :=
  OpenClaim.holds_of_wide 4 Try.f4 rfl rfl rfl rfl rfl rfl rfl ⟨rfl, rfl, rfl, rfl, rfl⟩ rfl rfl rfl rfl rfl (by kernel_rfl) Try.func4 (by kernel_rfl)
    (of_decide_eq_true (by kernel_rfl)) (by unfold Func.isWrapper; first | (rw [if_pos (by decide +kernel)]; kernel_rfl) | (rw [if_neg (by decide +kernel)]; exact ⟨rfl, rfl⟩))
    (fun os started H enc _ => lifted os started H enc)
theorem proved : Rows.FnExactRuneWidthSaid := over
#print axioms proved
end Go.Proofs.Ytkbmgodbnjbhdaa.fnExactRuneWidth
namespace Go.Proofs.Ytkbmgodbnjbhdaa
/-- The row, under a short name, for the claim. -/
theorem fnExactRuneWidth_holds : Rows.FnExactRuneWidthSaid := fnExactRuneWidth.proved
end Go.Proofs.Ytkbmgodbnjbhdaa
