/- laws.FnExactTick returns true for every argument, and the argument reads as it did. -/
import Derived.Test.YtfidphaoddenlaaRows
import Derived.Test.YtfidphaoddenlaaTy
import Derived.Test.YtfidphaoddenlaaB9
set_option linter.unusedSimpArgs false
set_option linter.unusedVariables false
namespace Go.Proofs.Ytfidphaoddenlaa.fnExactTick
open Go.ChangeShapes Go.WideShapes Go.ChangeAt Go.RowKit
set_option linter.unusedVariables false
theorem own : ownKnob Try.prog.godebug = none := by kernel_rfl
theorem laidOut : laidOutB Try.prog = true := by kernel_rfl
set_option maxRecDepth 100000 in
theorem lifted (os : Os) (started : os.Started) (H : Type) (enc : TypeId × Value → H) :
    ReturnsInHanded {} Try.checked os 5 .any (Rows.fnExactTickSpec.pre6 enc Try.prog Try.f5 Rows.fnExactTickRow.domain false) (Rows.fnExactTickSpec.post enc Try.prog Try.f5 false true false false) := by
  refine returnsInHanded_of_change_sized (C := Try.checked) own started (by kernel_rfl) Try.func5
    (ChangeSpec.witness6 (enc := enc) (C := Try.checked) false ⟨#[], #[.agg #[.slice none 0 0, .bool false]], []⟩ 8 (by kernel_rfl) (by kernel_rfl) (by kernel_rfl) (by kernel_rfl)) ?_
  intro W base args ds gs before hval0 hW hcnd hsz0 _
  have hsz : (DataW.weightsEach Try.prog (Try.f5.params.toList ++ Rows.fnExactTickSpec.plain.varTypes Try.prog) (ds ++ gs)).all (· ≤ reachBytes) = true := hsz0
  have hval : ∀ (j : Nat) t v, Try.f5.params[j]? = some t → args[j]? = some v → Value.okWide Try.prog W .any base t v := hval0
  have hW' := hW
  obtain ⟨p, q, hA0, hV, rfl, hfz, hnd⟩ := hW
  have hA : DataW.TrodAll enc Try.prog W 0 (fun _ => true) true Try.f5.params.toList args.toList ds p := hA0
  rw [Try.params5] at hA hval hsz
  obtain ⟨v0, vs0, d0, ds0, p0, q0, hargs, rfl, rfl, h0, r0⟩ := trodAll_cons hA
  obtain ⟨rfl, rfl, rfl⟩ := trodAll_nil r0
  obtain rfl : args = #[v0] := by cases args; simp_all
  obtain ⟨rfl, rfl⟩ := trodVars_none hV
  have k0 := h0
  have lt0 : ∀ x ∈ p0, x.block < W.heap.size := by obtain ⟨m, hm⟩ := k0; exact DataW.trod_lt m _ _ _ hm
  have hv0 := hval 0 39 v0 rfl rfl
  unfold Value.okWide at hv0
  rw [Try.underlying39] at hv0
  obtain ⟨cs0, rfl, hs0, _⟩ := hv0
  obtain ⟨x, hx, ha⟩ : ∃ x : (Nat × (Nat → Int)) × Bool, (x.1.1 * 1 ≤ 140737488351232 ∧ ∀ i, i < x.1.1 → 0 ≤ x.1.2 i ∧ x.1.2 i ≤ 255) ∧ AW.ArgT W (fun b => b < W.heap.size) (.a [AW.dI .u8 x.1.1 x.1.2, .s (.bool x.2)]) (.agg cs0) := by
    obtain ⟨fuel, hf⟩ := h0
    obtain ⟨x, q, l, r⟩ := AW.rd_keyReader H enc W fuel _ _ _ hf (fun m hm => by
      have := List.all_eq_true.1 hsz m (DataW.weights_mem_each (j := 0) rfl rfl m hm)
      simpa using this)
    exact ⟨x, q, cs0.toList, by simp, l, r⟩
  clear hA0 hval0 hsz0 hsz
  refine (AW.below_of_pret (das := [.a _]) (fn := Try.f5) (c := AW.bodyOf Try.f5) (by kernel_rfl) (by kernel_rfl) (by kernel_rfl) (AW.con_FnExactTick x.1.1 x.1.2 x.2 (by omega)) W [.agg cs0] rfl (fun i d hd => by
    cases i with
    | zero => simp at hd; subst hd; exact ⟨_, rfl, ha⟩
    | succ i => simp at hd)).mono fun e W' ⟨he, bel⟩ => ?_
  subst he
  exact ⟨_, rfl, _, _, _, [], _, [], hW', trodAll_mk1 (shut_bool Try.underlying4 _), (trodAll_cons_mk (Below.trod laidOut (by kernel_rfl) (of_decide_eq_true (by kernel_rfl)) k0 bel lt0) trodAll_mk0), rfl, bel.frame _, fun h => by cases h⟩
theorem over : Rows.fnExactTickRow.holds Try.pinned (OpenSpec.ofChange Rows.fnExactTickSpec) :=
  OpenClaim.holds_of_wide 5 Try.f5 rfl rfl rfl rfl rfl rfl rfl ⟨rfl, rfl, rfl, rfl, rfl⟩ rfl rfl rfl rfl rfl (by kernel_rfl) Try.func5 (by kernel_rfl)
    (of_decide_eq_true (by kernel_rfl)) (by unfold Func.isWrapper; first | (rw [if_pos (by decide +kernel)]; kernel_rfl) | (rw [if_neg (by decide +kernel)]; exact ⟨rfl, rfl⟩))
    (fun os started H enc _ => lifted os started H enc)
theorem proved : Rows.FnExactTickSaid := over
#print axioms proved
end Go.Proofs.Ytfidphaoddenlaa.fnExactTick
namespace Go.Proofs.Ytfidphaoddenlaa
/-- The row, under a short name, for the claim. -/
theorem fnExactTick_holds : Rows.FnExactTickSaid := fnExactTick.proved
end Go.Proofs.Ytfidphaoddenlaa
