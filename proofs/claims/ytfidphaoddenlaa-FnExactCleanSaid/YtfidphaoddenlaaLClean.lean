/- laws.FnExactClean returns true for every argument, and the argument reads as it did. -/
import Derived.Test.YtfidphaoddenlaaRows
import Derived.Test.YtfidphaoddenlaaTy
import Derived.Test.YtfidphaoddenlaaB6
set_option linter.unusedSimpArgs false
set_option linter.unusedVariables false
namespace Go.Proofs.Ytfidphaoddenlaa.fnExactClean
open Go.ChangeShapes Go.WideShapes Go.ChangeAt Go.RowKit
set_option linter.unusedVariables false
theorem own : ownKnob Try.prog.godebug = none := by kernel_rfl
theorem laidOut : laidOutB Try.prog = true := by kernel_rfl
set_option maxRecDepth 100000 in
theorem lifted (os : Os) (started : os.Started) (H : Type) (enc : TypeId × Value → H) :
    ReturnsInHanded {} Try.checked os 4 .any (Rows.fnExactCleanSpec.pre6 enc Try.prog Try.f4 Rows.fnExactCleanRow.domain false) (Rows.fnExactCleanSpec.post enc Try.prog Try.f4 false true false false) := by
  refine returnsInHanded_of_change_sized (C := Try.checked) own started (by kernel_rfl) Try.func4
    (ChangeSpec.witness6 (enc := enc) (C := Try.checked) false ⟨#[], #[.slice none 0 0], []⟩ 8 (by kernel_rfl) (by kernel_rfl) (by kernel_rfl) (by kernel_rfl)) ?_
  intro W base args ds gs before hval0 hW hcnd hsz0 _
  have hsz : (DataW.weightsEach Try.prog (Try.f4.params.toList ++ Rows.fnExactCleanSpec.plain.varTypes Try.prog) (ds ++ gs)).all (· ≤ reachBytes) = true := hsz0
  have hval : ∀ (j : Nat) t v, Try.f4.params[j]? = some t → args[j]? = some v → Value.okWide Try.prog W .any base t v := hval0
  have hW' := hW
  obtain ⟨p, q, hA0, hV, rfl, hfz, hnd⟩ := hW
  have hA : DataW.TrodAll enc Try.prog W 0 (fun _ => true) true Try.f4.params.toList args.toList ds p := hA0
  rw [Try.params4] at hA hval hsz
  obtain ⟨v0, vs0, d0, ds0, p0, q0, hargs, rfl, rfl, h0, r0⟩ := trodAll_cons hA
  obtain ⟨rfl, rfl, rfl⟩ := trodAll_nil r0
  obtain rfl : args = #[v0] := by cases args; simp_all
  obtain ⟨rfl, rfl⟩ := trodVars_none hV
  have k0 := h0
  have lt0 : ∀ x ∈ p0, x.block < W.heap.size := by obtain ⟨m, hm⟩ := k0; exact DataW.trod_lt m _ _ _ hm
  obtain ⟨a0, len0, cap0, rfl⟩ := okWide_slice Try.underlying29 (hval 0 29 v0 rfl rfl)
  obtain ⟨x, hx, ha⟩ : ∃ x : Nat × (Nat → Int), (x.1 * 1 ≤ 140737488351232 ∧ ∀ i, i < x.1 → 0 ≤ x.2 i ∧ x.2 i ≤ 255) ∧ AW.RoT W (fun b => b < W.heap.size) (.slice a0 len0 cap0) (AW.dI .u8 x.1 x.2) := by
    obtain ⟨fuel, hf⟩ := h0
    obtain ⟨x, q, l, r⟩ := AW.rd_bytes H enc W fuel _ _ _ hf (fun m hm => by
      have := List.all_eq_true.1 hsz m (DataW.weights_mem_each (j := 0) rfl rfl m hm)
      simpa using this)
    obtain ⟨u, hu, hr⟩ := r 0 _ rfl
    simp [Value.cells] at hu
    subst hu
    exact ⟨x, q, hr⟩
  clear hA0 hval0 hsz0 hsz
  refine (AW.below_of_pret (das := [.c _]) (fn := Try.f4) (c := AW.bodyOf Try.f4) (by kernel_rfl) (by kernel_rfl) (by kernel_rfl) (AW.con_FnExactClean x.1 x.2 (by omega) hx.2) W [.slice a0 len0 cap0] rfl (fun i d hd => by
    cases i with
    | zero => simp at hd; subst hd; exact ⟨_, rfl, ha⟩
    | succ i => simp at hd)).mono fun e W' ⟨he, bel⟩ => ?_
  subst he
  exact ⟨_, rfl, _, _, _, [], _, [], hW', trodAll_mk1 (shut_bool Try.underlying4 _), (trodAll_cons_mk (Below.trod laidOut (by kernel_rfl) (of_decide_eq_true (by kernel_rfl)) k0 bel lt0) trodAll_mk0), rfl, bel.frame _, fun h => by cases h⟩
theorem over : Rows.fnExactCleanRow.holds Try.pinned (OpenSpec.ofChange Rows.fnExactCleanSpec) :=
  OpenClaim.holds_of_wide 4 Try.f4 rfl rfl rfl rfl rfl rfl rfl ⟨rfl, rfl, rfl, rfl, rfl⟩ rfl rfl rfl rfl rfl (by kernel_rfl) Try.func4 (by kernel_rfl)
    (of_decide_eq_true (by kernel_rfl)) (by unfold Func.isWrapper; first | (rw [if_pos (by decide +kernel)]; kernel_rfl) | (rw [if_neg (by decide +kernel)]; exact ⟨rfl, rfl⟩))
    (fun os started H enc _ => lifted os started H enc)
theorem proved : Rows.FnExactCleanSaid := over
#print axioms proved
end Go.Proofs.Ytfidphaoddenlaa.fnExactClean
namespace Go.Proofs.Ytfidphaoddenlaa
/-- The row, under a short name, for the claim. -/
theorem fnExactClean_holds : Rows.FnExactCleanSaid := fnExactClean.proved
end Go.Proofs.Ytfidphaoddenlaa
