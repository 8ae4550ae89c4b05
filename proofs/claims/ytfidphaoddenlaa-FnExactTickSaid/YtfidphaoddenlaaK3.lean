/- Clusters: sizes. -/
import Derived.Test.YtfidphaoddenlaaT1
import Derived.Test.YtfidphaoddenlaaH1
set_option linter.unusedVariables false
set_option linter.unusedSimpArgs false
namespace Go.AW
open Go.Proofs
set_option maxRecDepth 100000
/-- A sum over rows. -/
def sumN (f : Nat → Nat) : Nat → Nat
  | 0 => 0
  | n + 1 => sumN f n + f n
theorem sumN_le (f : Nat → Nat) {k n : Nat} (h : k ≤ n) : sumN f k ≤ sumN f n := by
  induction n with
  | zero => rw [Nat.le_zero.mp h]; exact Nat.le_refl _
  | succ n ih =>
    rcases Nat.lt_or_ge n k with h1 | h1
    · rw [show k = n + 1 by omega]; exact Nat.le_refl _
    · exact Nat.le_trans (ih h1) (Nat.le_add_right _ _)
theorem le_sumN (f : Nat → Nat) {k n : Nat} (h : k < n) : f k ≤ sumN f n :=
  Nat.le_trans (Nat.le_add_left _ _) (sumN_le f (show k + 1 ≤ n from h))
theorem clip_or {x r : Int} (h : r = if x < 0 then -1 else x) : (x < 0 ∧ r = -1) ∨ (0 ≤ x ∧ r = x) := by
  split at h <;> omega
/-- Clusters as data. -/
abbrev rCl (rn : Nat → Nat) (rf : Nat → Nat → Int) (wd : Nat → Int) : Nat → List DV := fun i => [dI .i32 (rn i) (rf i), .s (.int .i64 (wd i))]
abbrev dCl (n : Nat) (rn : Nat → Nat) (rf : Nat → Nat → Int) (wd : Nat → Int) : DV := .l 2 n (rCl rn rf wd)
theorem con_szCluster (rn : Nat) (rf : Nat → Int) (wd left r : Int) (h : -1 ≤ left ∧ left ≤ 1048576) (hn : rn ≤ 140737488355328) (hr : r = if left - rn < 0 then -1 else left - rn) : PRet Try.prog 67 [.r (.a [dI .i32 rn rf, .s (.int .i64 wd)]), AI left] [RI r] [] := by
  refine pret_of_awp (fn := Try.f67) (c := bodyOf Try.f67) envOk (by kernel_rfl) (by kernel_rfl) (by kernel_rfl) (by kernel_rfl) rfl (by kernel_rfl) (by kernel_rfl) ?_
  intro w0 mine D C L hD hC hL
  ((try cbv); repeat' (first | (with_reducible refine mS hD ?_; try cbv) | (with_reducible refine mT hD ?_; try cbv) | (with_reducible refine mF hD ?_; try cbv) | (with_reducible refine mB hD (fun _ => ?_) (fun _ => ?_) <;> try cbv) | (with_reducible exact True.intro) | (with_reducible refine And.intro ?_ ?_)))
  refine call_of hD hC (con_szInt32S 1 (rI .i32 rf) rn left r h hn hr) ?_
  ((try cbv); repeat' (first | (with_reducible refine mS hD ?_; try cbv) | (with_reducible refine mT hD ?_; try cbv) | (with_reducible refine mF hD ?_; try cbv) | (with_reducible refine mB hD (fun _ => ?_) (fun _ => ?_) <;> try cbv) | (with_reducible exact True.intro) | (with_reducible refine And.intro ?_ ?_)))
  all_goals try (first | exact trivial | assumption | rfl | exact DEq.rfl' _ | ((subst hD; (try simp only [nc] at *); (try simp only [Int.ofNat_eq_natCast] at *); (try simp (disch := omega) only [std, wrap64, Int.toNat_natCast, Nat.succ_eq_add_one, Int.natCast_add, Int.natCast_one, decide_eq_true_eq, decide_eq_false_iff_not, Int.not_lt, Int.not_le, Nat.not_lt, Nat.not_le, beq_iff_eq, beq_eq_false_iff_ne, Bool.not_eq_true', Bool.not_eq_false', ne_eq] at *)) <;> first | omega | exact int_eq (by omega) | assumption | rfl | exact DEq.rfl' _))
theorem con_szClusterS (n : Nat) (rn : Nat → Nat) (rf : Nat → Nat → Int) (wd : Nat → Int) (left r : Int) (h : -1 ≤ left ∧ left ≤ 1048576) (hn : n ≤ 140737488355328) (hrn : ∀ i, i < n → rn i ≤ 140737488355328) (hr : r = if left - n - sumN rn n < 0 then -1 else left - n - sumN rn n) :
    PRet Try.prog 13 [.r (.c (dCl n rn rf wd)), AI left] [RI r] [] := by
  refine pret_of_awp (fn := Try.f13) (c := bodyOf Try.f13) envOk (by kernel_rfl) (by kernel_rfl) (by kernel_rfl) (by kernel_rfl) rfl (by kernel_rfl) (by kernel_rfl) ?_
  intro w0 mine D C L hD hC hL
  obtain ⟨M, hM⟩ : ∃ M : Nat → Int, ∀ k, M k = left - n - sumN rn k := ⟨_, fun _ => rfl⟩
  ((try cbv); repeat' (first | (with_reducible refine mS hD ?_; try cbv) | (with_reducible refine mT hD ?_; try cbv) | (with_reducible refine mF hD ?_; try cbv) | (with_reducible refine mB hD (fun _ => ?_) (fun _ => ?_) <;> try cbv) | (with_reducible exact True.intro) | (with_reducible refine And.intro ?_ ?_)))
  · (subst hD; (try simp only [nc] at *); (try simp only [Int.ofNat_eq_natCast] at *); (try simp (disch := omega) only [std, wrap64, Int.toNat_natCast, Nat.succ_eq_add_one, Int.natCast_add, Int.natCast_one, decide_eq_true_eq, decide_eq_false_iff_not, Int.not_lt, Int.not_le, Nat.not_lt, Nat.not_le, beq_iff_eq, beq_eq_false_iff_ne, Bool.not_eq_true', Bool.not_eq_false', ne_eq] at *))
    exact int_eq (by have h1 := clip_or hr; clear hr; omega)
  refine loop_nat hL n (fun k => [(1, VI (M k)), (5, VI k)]) (fun k => []) (fun k => 0 ≤ M k) ?_ ?_ ?_
  · have h0 : sumN rn 0 = 0 := rfl
    (subst hD; (try simp only [nc] at *); (try simp only [Int.ofNat_eq_natCast] at *); (try simp (disch := omega) only [std, wrap64, Int.toNat_natCast, Nat.succ_eq_add_one, Int.natCast_add, Int.natCast_one, decide_eq_true_eq, decide_eq_false_iff_not, Int.not_lt, Int.not_le, Nat.not_lt, Nat.not_le, beq_iff_eq, beq_eq_false_iff_ne, Bool.not_eq_true', Bool.not_eq_false', ne_eq, hM] at *))
    omega
  · have h0 : sumN rn 0 = 0 := rfl
    ((try cbv); repeat' (first | (with_reducible refine mS hD ?_; try cbv) | (with_reducible refine mT hD ?_; try cbv) | (with_reducible refine mF hD ?_; try cbv) | (with_reducible refine mB hD (fun _ => ?_) (fun _ => ?_) <;> try cbv) | (with_reducible exact True.intro) | (with_reducible refine And.intro ?_ ?_)))
    all_goals try (first | exact trivial | assumption | rfl | exact DEq.rfl' _ | ((subst hD; (try simp only [nc] at *); (try simp only [Int.ofNat_eq_natCast] at *); (try simp (disch := omega) only [std, wrap64, Int.toNat_natCast, Nat.succ_eq_add_one, Int.natCast_add, Int.natCast_one, decide_eq_true_eq, decide_eq_false_iff_not, Int.not_lt, Int.not_le, Nat.not_lt, Nat.not_le, beq_iff_eq, beq_eq_false_iff_ne, Bool.not_eq_true', Bool.not_eq_false', ne_eq, hM] at *)) <;> first | omega | exact int_eq (by omega) | assumption | rfl | exact DEq.rfl' _))
  · intro k hk
    have hs := sumN_le rn hk.1
    have hs1 : sumN rn (k + 1) = sumN rn k + rn k := rfl
    have hMk := hM k
    have hMk1 := hM (k + 1)
    have hs2 : k < n → sumN rn (k + 1) ≤ sumN rn n := fun h => sumN_le rn h
    ((try cbv); repeat' (first | (with_reducible refine mS hD ?_; try cbv) | (with_reducible refine mT hD ?_; try cbv) | (with_reducible refine mF hD ?_; try cbv) | (with_reducible refine mB hD (fun _ => ?_) (fun _ => ?_) <;> try cbv) | (with_reducible exact True.intro) | (with_reducible refine And.intro ?_ ?_)))
    all_goals try (first | exact trivial | assumption | rfl | exact DEq.rfl' _ | ((subst hD; (try simp only [nc] at *); (try simp only [Int.ofNat_eq_natCast] at *); (try simp (disch := omega) only [std, wrap64, Int.toNat_natCast, Nat.succ_eq_add_one, Int.natCast_add, Int.natCast_one, decide_eq_true_eq, decide_eq_false_iff_not, Int.not_lt, Int.not_le, Nat.not_lt, Nat.not_le, beq_iff_eq, beq_eq_false_iff_ne, Bool.not_eq_true', Bool.not_eq_false', ne_eq, hM] at *)) <;> first | omega | exact int_eq (by omega) | assumption | rfl | exact DEq.rfl' _))
    · refine call_of hD hC (con_szCluster (rn k) (rf k) (wd k) (M k) (if M k - rn k < 0 then -1 else M k - rn k) (by (subst hD; (try simp only [nc] at *); (try simp only [Int.ofNat_eq_natCast] at *); (try simp (disch := omega) only [std, wrap64, Int.toNat_natCast, Nat.succ_eq_add_one, Int.natCast_add, Int.natCast_one, decide_eq_true_eq, decide_eq_false_iff_not, Int.not_lt, Int.not_le, Nat.not_lt, Nat.not_le, beq_iff_eq, beq_eq_false_iff_ne, Bool.not_eq_true', Bool.not_eq_false', ne_eq, hM] at *)); omega) (by (subst hD; (try simp only [nc] at *); (try simp only [Int.ofNat_eq_natCast] at *); (try simp (disch := omega) only [std, wrap64, Int.toNat_natCast, Nat.succ_eq_add_one, Int.natCast_add, Int.natCast_one, decide_eq_true_eq, decide_eq_false_iff_not, Int.not_lt, Int.not_le, Nat.not_lt, Nat.not_le, beq_iff_eq, beq_eq_false_iff_ne, Bool.not_eq_true', Bool.not_eq_false', ne_eq, hM] at *)); exact hrn k (by omega)) rfl) ?_
      obtain ⟨r1, hr1⟩ := opq (if M k - rn k < 0 then -1 else M k - rn k)
      rw [← hr1]
      ((try cbv); repeat' (first | (with_reducible refine mS hD ?_; try cbv) | (with_reducible refine mT hD ?_; try cbv) | (with_reducible refine mF hD ?_; try cbv) | (with_reducible refine mB hD (fun _ => ?_) (fun _ => ?_) <;> try cbv) | (with_reducible exact True.intro) | (with_reducible refine And.intro ?_ ?_)))
      all_goals try (first | exact trivial | assumption | rfl | exact DEq.rfl' _ | ((subst hD; (try simp only [nc] at *); (try simp only [Int.ofNat_eq_natCast] at *); (try simp (disch := omega) only [std, wrap64, Int.toNat_natCast, Nat.succ_eq_add_one, Int.natCast_add, Int.natCast_one, decide_eq_true_eq, decide_eq_false_iff_not, Int.not_lt, Int.not_le, Nat.not_lt, Nat.not_le, beq_iff_eq, beq_eq_false_iff_ne, Bool.not_eq_true', Bool.not_eq_false', ne_eq, hM] at *)) <;> first | omega | exact int_eq (by omega) | assumption | rfl | exact DEq.rfl' _))
      · have e : r1 = M (k + 1) ∧ k < n := by (subst hD; (try simp only [nc] at *); (try simp only [Int.ofNat_eq_natCast] at *); (try simp (disch := omega) only [std, wrap64, Int.toNat_natCast, Nat.succ_eq_add_one, Int.natCast_add, Int.natCast_one, decide_eq_true_eq, decide_eq_false_iff_not, Int.not_lt, Int.not_le, Nat.not_lt, Nat.not_le, beq_iff_eq, beq_eq_false_iff_ne, Bool.not_eq_true', Bool.not_eq_false', ne_eq] at *)); exact ⟨by have h2 := clip_or hr1; clear hr1; omega, by omega⟩
        obtain ⟨e, e2⟩ := e
        subst e
        refine ⟨k + 1, ⟨e2, ?_⟩, ssem_of ?_, ?_⟩
        · (first | exact trivial | assumption | rfl | exact DEq.rfl' _ | ((subst hD; (try simp only [nc] at *); (try simp only [Int.ofNat_eq_natCast] at *); (try simp (disch := omega) only [std, wrap64, Int.toNat_natCast, Nat.succ_eq_add_one, Int.natCast_add, Int.natCast_one, decide_eq_true_eq, decide_eq_false_iff_not, Int.not_lt, Int.not_le, Nat.not_lt, Nat.not_le, beq_iff_eq, beq_eq_false_iff_ne, Bool.not_eq_true', Bool.not_eq_false', ne_eq] at *)) <;> first | omega | exact int_eq (by omega) | assumption | rfl | exact DEq.rfl' _))
        · ((try cbv); repeat' (first | (with_reducible refine mS hD ?_; try cbv) | (with_reducible refine mT hD ?_; try cbv) | (with_reducible refine mF hD ?_; try cbv) | (with_reducible refine mB hD (fun _ => ?_) (fun _ => ?_) <;> try cbv) | (with_reducible exact True.intro) | (with_reducible refine And.intro ?_ ?_)))
          all_goals try (first | exact trivial | assumption | rfl | exact DEq.rfl' _ | ((subst hD; (try simp only [nc] at *); (try simp only [Int.ofNat_eq_natCast] at *); (try simp (disch := omega) only [std, wrap64, Int.toNat_natCast, Nat.succ_eq_add_one, Int.natCast_add, Int.natCast_one, decide_eq_true_eq, decide_eq_false_iff_not, Int.not_lt, Int.not_le, Nat.not_lt, Nat.not_le, beq_iff_eq, beq_eq_false_iff_ne, Bool.not_eq_true', Bool.not_eq_false', ne_eq] at *)) <;> first | omega | exact int_eq (by omega) | assumption | rfl | exact DEq.rfl' _))
        · omega
    · (subst hD; (try simp only [nc] at *); (try simp only [Int.ofNat_eq_natCast] at *); (try simp (disch := omega) only [std, wrap64, Int.toNat_natCast, Nat.succ_eq_add_one, Int.natCast_add, Int.natCast_one, decide_eq_true_eq, decide_eq_false_iff_not, Int.not_lt, Int.not_le, Nat.not_lt, Nat.not_le, beq_iff_eq, beq_eq_false_iff_ne, Bool.not_eq_true', Bool.not_eq_false', ne_eq] at *))
      have ek : k = n := by omega
      subst ek
      exact int_eq (by have h1 := clip_or hr; clear hr; omega)
end Go.AW
