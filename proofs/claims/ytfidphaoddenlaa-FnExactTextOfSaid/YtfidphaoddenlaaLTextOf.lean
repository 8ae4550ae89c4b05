/- laws.FnExactTextOf returns true for every argument, and the argument reads as it did. -/
import Derived.Test.YtfidphaoddenlaaRows
import Derived.Test.YtfidphaoddenlaaTy
import Derived.Test.YtfidphaoddenlaaK7
set_option linter.unusedSimpArgs false
set_option linter.unusedVariables false
namespace Go.Proofs.Ytfidphaoddenlaa.fnExactTextOf
open Go.ChangeShapes Go.WideShapes Go.ChangeAt Go.RowKit
set_option linter.unusedVariables false
theorem own : ownKnob Try.prog.godebug = none := by kernel_rfl
theorem laidOut : laidOutB Try.prog = true := by kernel_rfl
set_option maxRecDepth 100000 in
theorem lifted (os : Os) (started : os.Started) (H : Type) (enc : TypeId × Value → H) :
    ReturnsInHanded {} Try.checked os 3 .any (Rows.fnExactTextOfSpec.pre6 enc Try.prog Try.f3 Rows.fnExactTextOfRow.domain false) (Rows.fnExactTextOfSpec.post enc Try.prog Try.f3 false true false false) := by
  refine returnsInHanded_of_change_sized (C := Try.checked) own started (by kernel_rfl) Try.func3
    (ChangeSpec.witness6 (enc := enc) (C := Try.checked) false ⟨#[], #[.slice none 0 0], []⟩ 8 (by kernel_rfl) (by kernel_rfl) (by kernel_rfl) (by kernel_rfl)) ?_
  intro W base args ds gs before hval0 hW hcnd hsz0 _
  have hsz : (DataW.weightsEach Try.prog (Try.f3.params.toList ++ Rows.fnExactTextOfSpec.plain.varTypes Try.prog) (ds ++ gs)).all (· ≤ reachBytes) = true := hsz0
  have hval : ∀ (j : Nat) t v, Try.f3.params[j]? = some t → args[j]? = some v → Value.okWide Try.prog W .any base t v := hval0
  have hW' := hW
  obtain ⟨p, q, hA0, hV, rfl, hfz, hnd⟩ := hW
  have hA : DataW.TrodAll enc Try.prog W 0 (fun _ => true) true Try.f3.params.toList args.toList ds p := hA0
  rw [Try.params3] at hA hval hsz
  obtain ⟨v0, vs0, d0, ds0, p0, q0, hargs, rfl, rfl, h0, r0⟩ := trodAll_cons hA
  obtain ⟨rfl, rfl, rfl⟩ := trodAll_nil r0
  obtain rfl : args = #[v0] := by cases args; simp_all
  obtain ⟨rfl, rfl⟩ := trodVars_none hV
  have k0 := h0
  have lt0 : ∀ x ∈ p0, x.block < W.heap.size := by obtain ⟨m, hm⟩ := k0; exact DataW.trod_lt m _ _ _ hm
  obtain ⟨a0, len0, cap0, rfl⟩ := okWide_slice Try.underlying22 (hval 0 22 v0 rfl rfl)
  obtain ⟨x, hx, ha⟩ : ∃ x : Nat × (Nat → (Nat × (Nat → Int)) × Int), (x.1 * 32 ≤ 140737488351232 ∧ ∀ i, i < x.1 → (x.2 i).1.1 * 4 ≤ 140737488351232 ∧ (∀ j, j < (x.2 i).1.1 → -2147483648 ≤ (x.2 i).1.2 j ∧ (x.2 i).1.2 j ≤ 2147483647) ∧ -9223372036854775808 ≤ (x.2 i).2 ∧ (x.2 i).2 ≤ 9223372036854775807) ∧ AW.RoT W (fun b => b < W.heap.size) (.slice a0 len0 cap0) (AW.dCl x.1 (fun i => (x.2 i).1.1) (fun i => (x.2 i).1.2) (fun i => (x.2 i).2)) := by
    obtain ⟨fuel, hf⟩ := h0
    obtain ⟨x, q, l, r⟩ := AW.rd_clusters H enc W fuel _ _ _ hf (fun m hm => by
      have := List.all_eq_true.1 hsz m (DataW.weights_mem_each (j := 0) rfl rfl m hm)
      simpa using this)
    obtain ⟨u, hu, hr⟩ := r 0 _ rfl
    simp [Value.cells] at hu
    subst hu
    exact ⟨x, q, hr⟩
  clear hA0 hval0 hsz0 hsz
  refine (AW.below_of_pret (das := [.c _]) (fn := Try.f3) (c := AW.bodyOf Try.f3) (by kernel_rfl) (by kernel_rfl) (by kernel_rfl) (AW.con_FnExactTextOf x.1 _ _ _ (by omega) (fun i hi => by have := (hx.2 i hi).1; omega) (fun i hi j hj => (hx.2 i hi).2.1 j hj)) W [.slice a0 len0 cap0] rfl (fun i d hd => by
    cases i with
    | zero => simp at hd; subst hd; exact ⟨_, rfl, ha⟩
    | succ i => simp at hd)).mono fun e W' ⟨he, bel⟩ => ?_
  subst he
  exact ⟨_, rfl, _, _, _, [], _, [], hW', trodAll_mk1 (shut_bool Try.underlying4 _), (trodAll_cons_mk (Below.trod laidOut (by kernel_rfl) (of_decide_eq_true (by kernel_rfl)) k0 bel lt0) trodAll_mk0), rfl, bel.frame _, fun h => by cases h⟩
theorem over : Rows.fnExactTextOfRow.holds Try.pinned (OpenSpec.ofChange Rows.fnExactTextOfSpec) :=
  OpenClaim.holds_of_wide 3 Try.f3 rfl rfl rfl rfl rfl rfl rfl ⟨rfl, rfl, rfl, rfl, rfl⟩ rfl rfl rfl rfl rfl (by kernel_rfl) Try.func3 (by kernel_rfl)
    (of_decide_eq_true (by kernel_rfl)) (by unfold Func.isWrapper; first | (rw [if_pos (by decide +kernel)]; kernel_rfl) | (rw [if_neg (by decide +kernel)]; exact ⟨rfl, rfl⟩))
    (fun os started H enc _ => lifted os started H enc)
theorem proved : Rows.FnExactTextOfSaid := over
#print axioms proved
end Go.Proofs.Ytfidphaoddenlaa.fnExactTextOf
namespace Go.Proofs.Ytfidphaoddenlaa
/-- The row, under a short name, for the claim. -/
theorem fnExactTextOf_holds : Rows.FnExactTextOfSaid := fnExactTextOf.proved
end Go.Proofs.Ytfidphaoddenlaa
