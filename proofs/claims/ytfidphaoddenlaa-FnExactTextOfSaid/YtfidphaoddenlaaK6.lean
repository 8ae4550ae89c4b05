/- The text of clusters. -/
import Derived.Test.YtfidphaoddenlaaK2
import Derived.Test.YtfidphaoddenlaaK3
set_option linter.unusedVariables false
set_option linter.unusedSimpArgs false
namespace Go.AW
open Go.Proofs
set_option maxRecDepth 100000
/-- The runes of a row as bytes. -/
def runB (g : Nat → Int) : Nat → List UInt8
  | 0 => []
  | j + 1 => runB g j ++ enc (g j)
def textB (rn : Nat → Nat) (rf : Nat → Nat → Int) : Nat → List UInt8
  | 0 => []
  | k + 1 => textB rn rf k ++ runB (rf k) (rn k)
theorem runB_len (g : Nat → Int) (j : Nat) : (runB g j).length ≤ 4 * j := by
  induction j with
  | zero => simp [runB]
  | succ j ih => have := enc_len (g j); simp [runB]; omega
theorem textB_len (rn : Nat → Nat) (rf : Nat → Nat → Int) (k : Nat) : (textB rn rf k).length ≤ 4 * sumN rn k := by
  induction k with
  | zero => simp [textB]
  | succ k ih => have := runB_len (rf k) (rn k); simp [textB, sumN]; omega
theorem con_implTextOf (n : Nat) (rn : Nat → Nat) (rf : Nat → Nat → Int) (wd : Nat → Int) (s : ByteArray) (hn : n ≤ 1048576) (hs : sumN rn n ≤ 1048576) (hrf : ∀ i, i < n → ∀ j, j < rn i → -2147483648 ≤ rf i j ∧ rf i j ≤ 2147483647) (hsd : s = ⟨(textB rn rf n).toArray⟩) :
    PRet Try.prog 16 [.r (.c (dCl n rn rf wd))] [RS s] [] := by
  refine pret_of_awp (fn := Try.f16) (c := bodyOf Try.f16) envOk (by kernel_rfl) (by kernel_rfl) (by kernel_rfl) (by kernel_rfl) rfl (by kernel_rfl) (by kernel_rfl) ?_
  intro w0 mine D C L hD hC hL
  obtain ⟨N, B, hB⟩ := isB_fam fun p : Nat × Nat => textB rn rf p.1 ++ runB (rf p.1) p.2
  ((try cbv); repeat' (first | (with_reducible refine mS hD ?_; try cbv) | (with_reducible refine mT hD ?_; try cbv) | (with_reducible refine mF hD ?_; try cbv) | (with_reducible refine mB hD (fun _ => ?_) (fun _ => ?_) <;> try cbv) | (with_reducible exact True.intro) | (with_reducible refine And.intro ?_ ?_)))
  all_goals try (first | exact trivial | assumption | rfl | exact DEq.rfl' _ | ((subst hD; (try simp only [nc] at *); (try simp only [Int.ofNat_eq_natCast] at *); (try simp (disch := omega) only [std, wrap64, Int.toNat_natCast, Nat.succ_eq_add_one, Int.natCast_add, Int.natCast_one, decide_eq_true_eq, decide_eq_false_iff_not, Int.not_lt, Int.not_le, Nat.not_lt, Nat.not_le, beq_iff_eq, beq_eq_false_iff_ne, Bool.not_eq_true', Bool.not_eq_false', ne_eq] at *)) <;> first | omega | exact int_eq (by omega) | assumption | rfl | exact DEq.rfl' _))
  refine loop_nat hL n (fun k => [(3, VO 0 (N (k, 0))), (8, .bad), (11, VI k)]) (fun k => [(0, .deep 1 (N (k, 0)) (rI .u8 (B (k, 0))))]) (fun k => True) trivial ?_ ?_
  · ((try cbv); repeat' (first | (with_reducible refine mS hD ?_; try cbv) | (with_reducible refine mT hD ?_; try cbv) | (with_reducible refine mF hD ?_; try cbv) | (with_reducible refine mB hD (fun _ => ?_) (fun _ => ?_) <;> try cbv) | (with_reducible exact True.intro) | (with_reducible refine And.intro ?_ ?_)))
    all_goals try (first | exact trivial | assumption | rfl | exact DEq.rfl' _ | ((subst hD; (try simp only [nc] at *); (try simp only [Int.ofNat_eq_natCast] at *); (try simp (disch := omega) only [std, wrap64, Int.toNat_natCast, Nat.succ_eq_add_one, Int.natCast_add, Int.natCast_one, decide_eq_true_eq, decide_eq_false_iff_not, Int.not_lt, Int.not_le, Nat.not_lt, Nat.not_le, beq_iff_eq, beq_eq_false_iff_ne, Bool.not_eq_true', Bool.not_eq_false', ne_eq] at *)) <;> first | omega | exact int_eq (by omega) | assumption | rfl | exact DEq.rfl' _))
    all_goals first | exact (hB (0, 0)).1.symm | (have e := (hB (0, 0)).1; simp only [textB, runB, List.append_nil, List.length_nil] at e; first | exact e.symm | exact deq_rows fun i hi => absurd hi (Nat.not_lt_zero i))
  · intro k hk
    ((try cbv); repeat' (first | (with_reducible refine mS hD ?_; try cbv) | (with_reducible refine mT hD ?_; try cbv) | (with_reducible refine mF hD ?_; try cbv) | (with_reducible refine mB hD (fun _ => ?_) (fun _ => ?_) <;> try cbv) | (with_reducible exact True.intro) | (with_reducible refine And.intro ?_ ?_)))
    all_goals try (first | exact trivial | assumption | rfl | exact DEq.rfl' _ | ((subst hD; (try simp only [nc] at *); (try simp only [Int.ofNat_eq_natCast] at *); (try simp (disch := omega) only [std, wrap64, Int.toNat_natCast, Nat.succ_eq_add_one, Int.natCast_add, Int.natCast_one, decide_eq_true_eq, decide_eq_false_iff_not, Int.not_lt, Int.not_le, Nat.not_lt, Nat.not_le, beq_iff_eq, beq_eq_false_iff_ne, Bool.not_eq_true', Bool.not_eq_false', ne_eq] at *)) <;> first | omega | exact int_eq (by omega) | assumption | rfl | exact DEq.rfl' _))
    · have hk1 : k < n := by (subst hD; (try simp only [nc] at *); (try simp only [Int.ofNat_eq_natCast] at *); (try simp (disch := omega) only [std, wrap64, Int.toNat_natCast, Nat.succ_eq_add_one, Int.natCast_add, Int.natCast_one, decide_eq_true_eq, decide_eq_false_iff_not, Int.not_lt, Int.not_le, Nat.not_lt, Nat.not_le, beq_iff_eq, beq_eq_false_iff_ne, Bool.not_eq_true', Bool.not_eq_false', ne_eq] at *)); omega
      have hb := le_sumN rn hk1
      refine loop_nat hL (rn k) (fun j => [(3, VO 0 (N (k, j))), (8, .bad), (18, VI j)]) (fun j => [(0, .deep 1 (N (k, j)) (rI .u8 (B (k, j))))]) (fun k => True) trivial ?_ ?_
      · ((try cbv); repeat' (first | (with_reducible refine mS hD ?_; try cbv) | (with_reducible refine mT hD ?_; try cbv) | (with_reducible refine mF hD ?_; try cbv) | (with_reducible refine mB hD (fun _ => ?_) (fun _ => ?_) <;> try cbv) | (with_reducible exact True.intro) | (with_reducible refine And.intro ?_ ?_)))
        all_goals try (first | exact trivial | assumption | rfl | exact DEq.rfl' _ | ((subst hD; (try simp only [nc] at *); (try simp only [Int.ofNat_eq_natCast] at *); (try simp (disch := omega) only [std, wrap64, Int.toNat_natCast, Nat.succ_eq_add_one, Int.natCast_add, Int.natCast_one, decide_eq_true_eq, decide_eq_false_iff_not, Int.not_lt, Int.not_le, Nat.not_lt, Nat.not_le, beq_iff_eq, beq_eq_false_iff_ne, Bool.not_eq_true', Bool.not_eq_false', ne_eq] at *)) <;> first | omega | exact int_eq (by omega) | assumption | rfl | exact DEq.rfl' _))
      · intro j hj
        have hNj : N (k, j) ≤ 1099511627776 := by
          rw [(hB (k, j)).1]
          have h1 := runB_len (rf k) j
          have h2 := textB_len rn rf k
          have h3 := sumN_le rn (show k ≤ n by omega)
          have h4 := le_sumN rn hk1
          simp only [List.length_append]
          omega
        ((try cbv); repeat' (first | (with_reducible refine mS hD ?_; try cbv) | (with_reducible refine mT hD ?_; try cbv) | (with_reducible refine mF hD ?_; try cbv) | (with_reducible refine mB hD (fun _ => ?_) (fun _ => ?_) <;> try cbv) | (with_reducible exact True.intro) | (with_reducible refine And.intro ?_ ?_)))
        all_goals try (first | exact trivial | assumption | rfl | exact DEq.rfl' _ | ((subst hD; (try simp only [nc] at *); (try simp only [Int.ofNat_eq_natCast] at *); (try simp (disch := omega) only [std, wrap64, Int.toNat_natCast, Nat.succ_eq_add_one, Int.natCast_add, Int.natCast_one, decide_eq_true_eq, decide_eq_false_iff_not, Int.not_lt, Int.not_le, Nat.not_lt, Nat.not_le, beq_iff_eq, beq_eq_false_iff_ne, Bool.not_eq_true', Bool.not_eq_false', ne_eq] at *)) <;> first | omega | exact int_eq (by omega) | assumption | rfl | exact DEq.rfl' _))
        · have hj1 : j < rn k := by (subst hD; (try simp only [nc] at *); (try simp only [Int.ofNat_eq_natCast] at *); (try simp (disch := omega) only [std, wrap64, Int.toNat_natCast, Nat.succ_eq_add_one, Int.natCast_add, Int.natCast_one, decide_eq_true_eq, decide_eq_false_iff_not, Int.not_lt, Int.not_le, Nat.not_lt, Nat.not_le, beq_iff_eq, beq_eq_false_iff_ne, Bool.not_eq_true', Bool.not_eq_false', ne_eq] at *)); omega
          refine call_of hD hC (con_AppendRune (textB rn rf k ++ runB (rf k) j) (N (k, j)) (N (k, j + 1)) (B (k, j)) (B (k, j + 1)) (rf k j) (hrf k hk1 j hj1) (hB (k, j)) (by rw [List.append_assoc]; exact hB (k, j + 1)) hNj) ?_
          ((try cbv); repeat' (first | (with_reducible refine mS hD ?_; try cbv) | (with_reducible refine mT hD ?_; try cbv) | (with_reducible refine mF hD ?_; try cbv) | (with_reducible refine mB hD (fun _ => ?_) (fun _ => ?_) <;> try cbv) | (with_reducible exact True.intro) | (with_reducible refine And.intro ?_ ?_)))
          all_goals try (first | exact trivial | assumption | rfl | exact DEq.rfl' _ | ((subst hD; (try simp only [nc] at *); (try simp only [Int.ofNat_eq_natCast] at *); (try simp (disch := omega) only [std, wrap64, Int.toNat_natCast, Nat.succ_eq_add_one, Int.natCast_add, Int.natCast_one, decide_eq_true_eq, decide_eq_false_iff_not, Int.not_lt, Int.not_le, Nat.not_lt, Nat.not_le, beq_iff_eq, beq_eq_false_iff_ne, Bool.not_eq_true', Bool.not_eq_false', ne_eq] at *)) <;> first | omega | exact int_eq (by omega) | assumption | rfl | exact DEq.rfl' _))
          refine ⟨j + 1, ⟨hj1, trivial⟩, ssem_of ?_, ?_⟩
          · ((try cbv); repeat' (first | (with_reducible refine mS hD ?_; try cbv) | (with_reducible refine mT hD ?_; try cbv) | (with_reducible refine mF hD ?_; try cbv) | (with_reducible refine mB hD (fun _ => ?_) (fun _ => ?_) <;> try cbv) | (with_reducible exact True.intro) | (with_reducible refine And.intro ?_ ?_)))
            all_goals try (first | exact trivial | assumption | rfl | exact DEq.rfl' _ | ((subst hD; (try simp only [nc] at *); (try simp only [Int.ofNat_eq_natCast] at *); (try simp (disch := omega) only [std, wrap64, Int.toNat_natCast, Nat.succ_eq_add_one, Int.natCast_add, Int.natCast_one, decide_eq_true_eq, decide_eq_false_iff_not, Int.not_lt, Int.not_le, Nat.not_lt, Nat.not_le, beq_iff_eq, beq_eq_false_iff_ne, Bool.not_eq_true', Bool.not_eq_false', ne_eq] at *)) <;> first | omega | exact int_eq (by omega) | assumption | rfl | exact DEq.rfl' _))
          · omega
        · have hj1 : j = rn k := by (subst hD; (try simp only [nc] at *); (try simp only [Int.ofNat_eq_natCast] at *); (try simp (disch := omega) only [std, wrap64, Int.toNat_natCast, Nat.succ_eq_add_one, Int.natCast_add, Int.natCast_one, decide_eq_true_eq, decide_eq_false_iff_not, Int.not_lt, Int.not_le, Nat.not_lt, Nat.not_le, beq_iff_eq, beq_eq_false_iff_ne, Bool.not_eq_true', Bool.not_eq_false', ne_eq] at *)); omega
          have hk2 := hB (k, j)
          have hk3 := hB (k + 1, 0)
          simp only [textB, runB, List.append_nil] at hk2 hk3
          rw [hj1] at hk2
          have hd := hk2.uniq hk3
          rw [← hj1] at hd
          refine ⟨k + 1, ⟨hk1, trivial⟩, ssem_of ?_, ?_⟩
          · ((try cbv); repeat' (first | (with_reducible refine mS hD ?_; try cbv) | (with_reducible refine mT hD ?_; try cbv) | (with_reducible refine mF hD ?_; try cbv) | (with_reducible refine mB hD (fun _ => ?_) (fun _ => ?_) <;> try cbv) | (with_reducible exact True.intro) | (with_reducible refine And.intro ?_ ?_)))
            all_goals try (first | exact trivial | assumption | rfl | exact DEq.rfl' _ | ((subst hD; (try simp only [nc] at *); (try simp only [Int.ofNat_eq_natCast] at *); (try simp (disch := omega) only [std, wrap64, Int.toNat_natCast, Nat.succ_eq_add_one, Int.natCast_add, Int.natCast_one, decide_eq_true_eq, decide_eq_false_iff_not, Int.not_lt, Int.not_le, Nat.not_lt, Nat.not_le, beq_iff_eq, beq_eq_false_iff_ne, Bool.not_eq_true', Bool.not_eq_false', ne_eq] at *)) <;> first | omega | exact int_eq (by omega) | assumption | rfl | exact DEq.rfl' _))
            all_goals first | exact hd.1 | exact hd.1.symm | exact deq_I hd.2
          · omega
    · subst hD; exact fun i _ => ⟨_, rfl⟩
    · have hk1 : k = n := by (subst hD; (try simp only [nc] at *); (try simp only [Int.ofNat_eq_natCast] at *); (try simp (disch := omega) only [std, wrap64, Int.toNat_natCast, Nat.succ_eq_add_one, Int.natCast_add, Int.natCast_one, decide_eq_true_eq, decide_eq_false_iff_not, Int.not_lt, Int.not_le, Nat.not_lt, Nat.not_le, beq_iff_eq, beq_eq_false_iff_ne, Bool.not_eq_true', Bool.not_eq_false', ne_eq] at *)); omega
      subst hD hk1
      refine str_eq ((strF_B (hB (k, 0))).trans ?_)
      rw [hsd]
      simp [runB]
theorem con_specTextOf (n : Nat) (rn : Nat → Nat) (rf : Nat → Nat → Int) (wd : Nat → Int) (s : ByteArray) (hn : n ≤ 1048576) (hs : sumN rn n ≤ 1048576) (hrf : ∀ i, i < n → ∀ j, j < rn i → -2147483648 ≤ rf i j ∧ rf i j ≤ 2147483647) (hsd : s = ⟨(textB rn rf n).toArray⟩) :
    PRet Try.prog 14 [.r (.c (dCl n rn rf wd))] [RS s] [] := by
  refine pret_of_awp (fn := Try.f14) (c := bodyOf Try.f14) envOk (by kernel_rfl) (by kernel_rfl) (by kernel_rfl) (by kernel_rfl) rfl (by kernel_rfl) (by kernel_rfl) ?_
  intro w0 mine D C L hD hC hL
  obtain ⟨N, B, hB⟩ := isB_fam fun p : Nat × Nat => textB rn rf p.1 ++ runB (rf p.1) p.2
  ((try cbv); repeat' (first | (with_reducible refine mS hD ?_; try cbv) | (with_reducible refine mT hD ?_; try cbv) | (with_reducible refine mF hD ?_; try cbv) | (with_reducible refine mB hD (fun _ => ?_) (fun _ => ?_) <;> try cbv) | (with_reducible exact True.intro) | (with_reducible refine And.intro ?_ ?_)))
  all_goals try (first | exact trivial | assumption | rfl | exact DEq.rfl' _ | ((subst hD; (try simp only [nc] at *); (try simp only [Int.ofNat_eq_natCast] at *); (try simp (disch := omega) only [std, wrap64, Int.toNat_natCast, Nat.succ_eq_add_one, Int.natCast_add, Int.natCast_one, decide_eq_true_eq, decide_eq_false_iff_not, Int.not_lt, Int.not_le, Nat.not_lt, Nat.not_le, beq_iff_eq, beq_eq_false_iff_ne, Bool.not_eq_true', Bool.not_eq_false', ne_eq] at *)) <;> first | omega | exact int_eq (by omega) | assumption | rfl | exact DEq.rfl' _))
  refine loop_nat hL n (fun k => [(3, VO 0 (N (k, 0))), (7, .bad), (4, VI k)]) (fun k => [(0, .deep 1 (N (k, 0)) (rI .u8 (B (k, 0))))]) (fun k => True) trivial ?_ ?_
  · ((try cbv); repeat' (first | (with_reducible refine mS hD ?_; try cbv) | (with_reducible refine mT hD ?_; try cbv) | (with_reducible refine mF hD ?_; try cbv) | (with_reducible refine mB hD (fun _ => ?_) (fun _ => ?_) <;> try cbv) | (with_reducible exact True.intro) | (with_reducible refine And.intro ?_ ?_)))
    all_goals try (first | exact trivial | assumption | rfl | exact DEq.rfl' _ | ((subst hD; (try simp only [nc] at *); (try simp only [Int.ofNat_eq_natCast] at *); (try simp (disch := omega) only [std, wrap64, Int.toNat_natCast, Nat.succ_eq_add_one, Int.natCast_add, Int.natCast_one, decide_eq_true_eq, decide_eq_false_iff_not, Int.not_lt, Int.not_le, Nat.not_lt, Nat.not_le, beq_iff_eq, beq_eq_false_iff_ne, Bool.not_eq_true', Bool.not_eq_false', ne_eq] at *)) <;> first | omega | exact int_eq (by omega) | assumption | rfl | exact DEq.rfl' _))
    all_goals first | exact (hB (0, 0)).1.symm | (have e := (hB (0, 0)).1; simp only [textB, runB, List.append_nil, List.length_nil] at e; first | exact e.symm | exact deq_rows fun i hi => absurd hi (Nat.not_lt_zero i))
  · intro k hk
    ((try cbv); repeat' (first | (with_reducible refine mS hD ?_; try cbv) | (with_reducible refine mT hD ?_; try cbv) | (with_reducible refine mF hD ?_; try cbv) | (with_reducible refine mB hD (fun _ => ?_) (fun _ => ?_) <;> try cbv) | (with_reducible exact True.intro) | (with_reducible refine And.intro ?_ ?_)))
    all_goals try (first | exact trivial | assumption | rfl | exact DEq.rfl' _ | ((subst hD; (try simp only [nc] at *); (try simp only [Int.ofNat_eq_natCast] at *); (try simp (disch := omega) only [std, wrap64, Int.toNat_natCast, Nat.succ_eq_add_one, Int.natCast_add, Int.natCast_one, decide_eq_true_eq, decide_eq_false_iff_not, Int.not_lt, Int.not_le, Nat.not_lt, Nat.not_le, beq_iff_eq, beq_eq_false_iff_ne, Bool.not_eq_true', Bool.not_eq_false', ne_eq] at *)) <;> first | omega | exact int_eq (by omega) | assumption | rfl | exact DEq.rfl' _))
    · have hk1 : k < n := by (subst hD; (try simp only [nc] at *); (try simp only [Int.ofNat_eq_natCast] at *); (try simp (disch := omega) only [std, wrap64, Int.toNat_natCast, Nat.succ_eq_add_one, Int.natCast_add, Int.natCast_one, decide_eq_true_eq, decide_eq_false_iff_not, Int.not_lt, Int.not_le, Nat.not_lt, Nat.not_le, beq_iff_eq, beq_eq_false_iff_ne, Bool.not_eq_true', Bool.not_eq_false', ne_eq] at *)); omega
      have hb := le_sumN rn hk1
      refine loop_nat hL (rn k) (fun j => [(3, VO 0 (N (k, j))), (7, .bad), (5, VI j)]) (fun j => [(0, .deep 1 (N (k, j)) (rI .u8 (B (k, j))))]) (fun k => True) trivial ?_ ?_
      · ((try cbv); repeat' (first | (with_reducible refine mS hD ?_; try cbv) | (with_reducible refine mT hD ?_; try cbv) | (with_reducible refine mF hD ?_; try cbv) | (with_reducible refine mB hD (fun _ => ?_) (fun _ => ?_) <;> try cbv) | (with_reducible exact True.intro) | (with_reducible refine And.intro ?_ ?_)))
        all_goals try (first | exact trivial | assumption | rfl | exact DEq.rfl' _ | ((subst hD; (try simp only [nc] at *); (try simp only [Int.ofNat_eq_natCast] at *); (try simp (disch := omega) only [std, wrap64, Int.toNat_natCast, Nat.succ_eq_add_one, Int.natCast_add, Int.natCast_one, decide_eq_true_eq, decide_eq_false_iff_not, Int.not_lt, Int.not_le, Nat.not_lt, Nat.not_le, beq_iff_eq, beq_eq_false_iff_ne, Bool.not_eq_true', Bool.not_eq_false', ne_eq] at *)) <;> first | omega | exact int_eq (by omega) | assumption | rfl | exact DEq.rfl' _))
      · intro j hj
        have hNj : N (k, j) ≤ 1099511627776 := by
          rw [(hB (k, j)).1]
          have h1 := runB_len (rf k) j
          have h2 := textB_len rn rf k
          have h3 := sumN_le rn (show k ≤ n by omega)
          have h4 := le_sumN rn hk1
          simp only [List.length_append]
          omega
        ((try cbv); repeat' (first | (with_reducible refine mS hD ?_; try cbv) | (with_reducible refine mT hD ?_; try cbv) | (with_reducible refine mF hD ?_; try cbv) | (with_reducible refine mB hD (fun _ => ?_) (fun _ => ?_) <;> try cbv) | (with_reducible exact True.intro) | (with_reducible refine And.intro ?_ ?_)))
        all_goals try (first | exact trivial | assumption | rfl | exact DEq.rfl' _ | ((subst hD; (try simp only [nc] at *); (try simp only [Int.ofNat_eq_natCast] at *); (try simp (disch := omega) only [std, wrap64, Int.toNat_natCast, Nat.succ_eq_add_one, Int.natCast_add, Int.natCast_one, decide_eq_true_eq, decide_eq_false_iff_not, Int.not_lt, Int.not_le, Nat.not_lt, Nat.not_le, beq_iff_eq, beq_eq_false_iff_ne, Bool.not_eq_true', Bool.not_eq_false', ne_eq] at *)) <;> first | omega | exact int_eq (by omega) | assumption | rfl | exact DEq.rfl' _))
        · have hj1 : j < rn k := by (subst hD; (try simp only [nc] at *); (try simp only [Int.ofNat_eq_natCast] at *); (try simp (disch := omega) only [std, wrap64, Int.toNat_natCast, Nat.succ_eq_add_one, Int.natCast_add, Int.natCast_one, decide_eq_true_eq, decide_eq_false_iff_not, Int.not_lt, Int.not_le, Nat.not_lt, Nat.not_le, beq_iff_eq, beq_eq_false_iff_ne, Bool.not_eq_true', Bool.not_eq_false', ne_eq] at *)); omega
          have hr := hrf k hk1 j hj1
          obtain ⟨b, hbv⟩ := opq (validR (rf k j))
          refine call_of hD hC (con_l1Valid (rf k j) b hbv) ?_
          ((try cbv); repeat' (first | (with_reducible refine mS hD ?_; try cbv) | (with_reducible refine mT hD ?_; try cbv) | (with_reducible refine mF hD ?_; try cbv) | (with_reducible refine mB hD (fun _ => ?_) (fun _ => ?_) <;> try cbv) | (with_reducible exact True.intro) | (with_reducible refine And.intro ?_ ?_)))
          all_goals try (first | exact trivial | assumption | rfl | exact DEq.rfl' _ | ((subst hD; (try simp only [nc] at *); (try simp only [Int.ofNat_eq_natCast] at *); (try simp (disch := omega) only [std, wrap64, Int.toNat_natCast, Nat.succ_eq_add_one, Int.natCast_add, Int.natCast_one, decide_eq_true_eq, decide_eq_false_iff_not, Int.not_lt, Int.not_le, Nat.not_lt, Nat.not_le, beq_iff_eq, beq_eq_false_iff_ne, Bool.not_eq_true', Bool.not_eq_false', ne_eq] at *)) <;> first | omega | exact int_eq (by omega) | assumption | rfl | exact DEq.rfl' _))
          · have hbf : validR (rf k j) = true := by rw [← hbv]; assumption
            obtain ⟨u, hu⟩ := opq (Utf8.encode (rf k j))
            have hen2 : u.data.toList = enc (rf k j) := by rw [hu]; rfl
            have hus : u.size ≤ 4 := by have h4 := (enc_len (rf k j)).1; rw [← hen2] at h4; simpa using h4
            have hc := hB (k, j + 1)
            simp only [runB] at hc
            rw [← List.append_assoc, ← hen2] at hc
            refine call_of hD hC (con_l1Utf8 (rf k j) u hbf hu) ?_
            ((try cbv); repeat' (first | (with_reducible refine mS hD ?_; try cbv) | (with_reducible refine mT hD ?_; try cbv) | (with_reducible refine mF hD ?_; try cbv) | (with_reducible refine mB hD (fun _ => ?_) (fun _ => ?_) <;> try cbv) | (with_reducible exact True.intro) | (with_reducible refine And.intro ?_ ?_)))
            all_goals try (subst hD; exact flat1)
            all_goals try (first | exact trivial | assumption | rfl | exact DEq.rfl' _ | ((subst hD; (try simp only [nc] at *); (try simp only [Int.ofNat_eq_natCast] at *); (try simp (disch := omega) only [std, wrap64, Int.toNat_natCast, Nat.succ_eq_add_one, Int.natCast_add, Int.natCast_one, decide_eq_true_eq, decide_eq_false_iff_not, Int.not_lt, Int.not_le, Nat.not_lt, Nat.not_le, beq_iff_eq, beq_eq_false_iff_ne, Bool.not_eq_true', Bool.not_eq_false', ne_eq, wrap64] at *)) <;> first | omega | exact int_eq (by omega) | assumption | rfl | exact DEq.rfl' _))
            refine ⟨j + 1, ⟨hj1, trivial⟩, ssem_of ?_, ?_⟩
            · ((try cbv); repeat' (first | (with_reducible refine mS hD ?_; try cbv) | (with_reducible refine mT hD ?_; try cbv) | (with_reducible refine mF hD ?_; try cbv) | (with_reducible refine mB hD (fun _ => ?_) (fun _ => ?_) <;> try cbv) | (with_reducible exact True.intro) | (with_reducible refine And.intro ?_ ?_)))
              all_goals try (first | exact trivial | assumption | rfl | exact DEq.rfl' _ | ((subst hD; (try simp only [nc] at *); (try simp only [Int.ofNat_eq_natCast] at *); (try simp (disch := omega) only [std, wrap64, Int.toNat_natCast, Nat.succ_eq_add_one, Int.natCast_add, Int.natCast_one, decide_eq_true_eq, decide_eq_false_iff_not, Int.not_lt, Int.not_le, Nat.not_lt, Nat.not_le, beq_iff_eq, beq_eq_false_iff_ne, Bool.not_eq_true', Bool.not_eq_false', ne_eq] at *)) <;> first | omega | exact int_eq (by omega) | assumption | rfl | exact DEq.rfl' _))
              all_goals subst hD
              all_goals first | exact (cat_BS (hB (k, j)) hc).1 | exact cat_BS_d (hB (k, j)) hc
            · omega
          · have hbf : validR (rf k j) = false := by rw [← hbv]; assumption
            have hen := enc_invalid hbf
            obtain ⟨u, hu⟩ := opq (Utf8.encode 65533)
            have hen2 : u.data.toList = enc (rf k j) := by rw [hu, hen]; decide
            have hus : u.size ≤ 4 := by have h4 := (enc_len (rf k j)).1; rw [← hen2] at h4; simpa using h4
            have hc := hB (k, j + 1)
            simp only [runB] at hc
            rw [← List.append_assoc, ← hen2] at hc
            refine call_of hD hC (con_l1Utf8 65533 u (by decide) hu) ?_
            ((try cbv); repeat' (first | (with_reducible refine mS hD ?_; try cbv) | (with_reducible refine mT hD ?_; try cbv) | (with_reducible refine mF hD ?_; try cbv) | (with_reducible refine mB hD (fun _ => ?_) (fun _ => ?_) <;> try cbv) | (with_reducible exact True.intro) | (with_reducible refine And.intro ?_ ?_)))
            all_goals try (subst hD; exact flat1)
            all_goals try (first | exact trivial | assumption | rfl | exact DEq.rfl' _ | ((subst hD; (try simp only [nc] at *); (try simp only [Int.ofNat_eq_natCast] at *); (try simp (disch := omega) only [std, wrap64, Int.toNat_natCast, Nat.succ_eq_add_one, Int.natCast_add, Int.natCast_one, decide_eq_true_eq, decide_eq_false_iff_not, Int.not_lt, Int.not_le, Nat.not_lt, Nat.not_le, beq_iff_eq, beq_eq_false_iff_ne, Bool.not_eq_true', Bool.not_eq_false', ne_eq, wrap64] at *)) <;> first | omega | exact int_eq (by omega) | assumption | rfl | exact DEq.rfl' _))
            refine ⟨j + 1, ⟨hj1, trivial⟩, ssem_of ?_, ?_⟩
            · ((try cbv); repeat' (first | (with_reducible refine mS hD ?_; try cbv) | (with_reducible refine mT hD ?_; try cbv) | (with_reducible refine mF hD ?_; try cbv) | (with_reducible refine mB hD (fun _ => ?_) (fun _ => ?_) <;> try cbv) | (with_reducible exact True.intro) | (with_reducible refine And.intro ?_ ?_)))
              all_goals try (first | exact trivial | assumption | rfl | exact DEq.rfl' _ | ((subst hD; (try simp only [nc] at *); (try simp only [Int.ofNat_eq_natCast] at *); (try simp (disch := omega) only [std, wrap64, Int.toNat_natCast, Nat.succ_eq_add_one, Int.natCast_add, Int.natCast_one, decide_eq_true_eq, decide_eq_false_iff_not, Int.not_lt, Int.not_le, Nat.not_lt, Nat.not_le, beq_iff_eq, beq_eq_false_iff_ne, Bool.not_eq_true', Bool.not_eq_false', ne_eq] at *)) <;> first | omega | exact int_eq (by omega) | assumption | rfl | exact DEq.rfl' _))
              all_goals subst hD
              all_goals first | exact (cat_BS (hB (k, j)) hc).1 | exact cat_BS_d (hB (k, j)) hc
            · omega
        · have hj1 : j = rn k := by (subst hD; (try simp only [nc] at *); (try simp only [Int.ofNat_eq_natCast] at *); (try simp (disch := omega) only [std, wrap64, Int.toNat_natCast, Nat.succ_eq_add_one, Int.natCast_add, Int.natCast_one, decide_eq_true_eq, decide_eq_false_iff_not, Int.not_lt, Int.not_le, Nat.not_lt, Nat.not_le, beq_iff_eq, beq_eq_false_iff_ne, Bool.not_eq_true', Bool.not_eq_false', ne_eq] at *)); omega
          have hk2 := hB (k, j)
          have hk3 := hB (k + 1, 0)
          simp only [textB, runB, List.append_nil] at hk2 hk3
          rw [hj1] at hk2
          have hd := hk2.uniq hk3
          rw [← hj1] at hd
          refine ⟨k + 1, ⟨hk1, trivial⟩, ssem_of ?_, ?_⟩
          · ((try cbv); repeat' (first | (with_reducible refine mS hD ?_; try cbv) | (with_reducible refine mT hD ?_; try cbv) | (with_reducible refine mF hD ?_; try cbv) | (with_reducible refine mB hD (fun _ => ?_) (fun _ => ?_) <;> try cbv) | (with_reducible exact True.intro) | (with_reducible refine And.intro ?_ ?_)))
            all_goals try (first | exact trivial | assumption | rfl | exact DEq.rfl' _ | ((subst hD; (try simp only [nc] at *); (try simp only [Int.ofNat_eq_natCast] at *); (try simp (disch := omega) only [std, wrap64, Int.toNat_natCast, Nat.succ_eq_add_one, Int.natCast_add, Int.natCast_one, decide_eq_true_eq, decide_eq_false_iff_not, Int.not_lt, Int.not_le, Nat.not_lt, Nat.not_le, beq_iff_eq, beq_eq_false_iff_ne, Bool.not_eq_true', Bool.not_eq_false', ne_eq] at *)) <;> first | omega | exact int_eq (by omega) | assumption | rfl | exact DEq.rfl' _))
            all_goals first | exact hd.1 | exact hd.1.symm | exact deq_I hd.2
          · omega
    · subst hD; exact fun i _ => ⟨_, rfl⟩
    · have hk1 : k = n := by (subst hD; (try simp only [nc] at *); (try simp only [Int.ofNat_eq_natCast] at *); (try simp (disch := omega) only [std, wrap64, Int.toNat_natCast, Nat.succ_eq_add_one, Int.natCast_add, Int.natCast_one, decide_eq_true_eq, decide_eq_false_iff_not, Int.not_lt, Int.not_le, Nat.not_lt, Nat.not_le, beq_iff_eq, beq_eq_false_iff_ne, Bool.not_eq_true', Bool.not_eq_false', ne_eq] at *)); omega
      subst hD hk1
      refine str_eq ((strF_B (hB (k, 0))).trans ?_)
      rw [hsd]
      simp [runB]
end Go.AW
