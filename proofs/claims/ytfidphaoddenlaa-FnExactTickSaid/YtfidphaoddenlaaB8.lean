/- Tick: what both sides compute. -/
import Derived.Test.YtfidphaoddenlaaB7
set_option linter.unusedVariables false
set_option linter.unusedSimpArgs false
namespace Go.AW
open Go.Proofs
set_option maxRecDepth 100000
theorem con_cloneB (n : Nat) (g : Nat → Int) (hn : n ≤ 1099511627776) : PRet Try.prog 77 [.r (.c (dI .u8 n g))] [.c (dI .u8 n g)] [] := by
  refine pret_of_awp (fn := Try.f77) (c := bodyOf Try.f77) envOk (by kernel_rfl) (by kernel_rfl) (by kernel_rfl) (by kernel_rfl) rfl (by kernel_rfl) (by kernel_rfl) ?_
  intro w0 mine D C L hD hC hL
  ((try cbv); repeat' (first | (with_reducible refine mS hD ?_; try cbv) | (with_reducible refine mT hD ?_; try cbv) | (with_reducible refine mF hD ?_; try cbv) | (with_reducible refine mB hD (fun _ => ?_) (fun _ => ?_) <;> try cbv) | (with_reducible exact True.intro) | (with_reducible refine And.intro ?_ ?_)))
  all_goals try (first | exact trivial | assumption | rfl | exact DEq.rfl' _ | ((subst hD; (try simp only [nc] at *); (try simp only [Int.ofNat_eq_natCast] at *); (try simp (disch := omega) only [std, wrap64, Int.toNat_natCast, Nat.succ_eq_add_one, Int.natCast_add, Int.natCast_one, decide_eq_true_eq, decide_eq_false_iff_not, Int.not_lt, Int.not_le, Nat.not_lt, Nat.not_le, beq_iff_eq, beq_eq_false_iff_ne, Bool.not_eq_true', Bool.not_eq_false', ne_eq] at *)) <;> first | omega | exact int_eq (by omega) | assumption | rfl | exact DEq.rfl' _))
  all_goals try exact DEq.z _ _ _
  all_goals subst hD
  all_goals first | exact flat1 | exact cat_0 (sz := 1) (n := n) (f := fun _ => []) (g := fun i => [.s (.int .u8 (g i))])
def TickM (n : Nat) (B : Nat → Int) (p : Bool) (n' : Nat) (B' : Nat → Int) (p' : Bool) (N : Nat) (kd : Nat → Int) (rn : Nat → Nat) (rf : Nat → Nat → Int) : Prop :=
  (p = true ∧ n' = n ∧ B' = B ∧ p' = true ∧ N = 0) ∨
  (p = false ∧ n = 0 ∧ n' = 0 ∧ B' = B ∧ p' = false ∧ N = 0) ∨
  (p = false ∧ 0 < n ∧ n' = 0 ∧ p' = false ∧ B 0 = 27 ∧ N = 1 ∧ kd 0 = (if n = 1 then 22 else 23) ∧ rn 0 = 0) ∨
  (p = false ∧ 0 < n ∧ n' = 0 ∧ p' = false ∧ B 0 ≠ 27 ∧ N = n ∧ (∀ i, i < n → kd i = 1 ∧ rn i = 1 ∧ rf i 0 = 65533))
theorem con_implTick (n : Nat) (B : Nat → Int) (p : Bool) (n' : Nat) (B' : Nat → Int) (p' : Bool) (N : Nat) (kd : Nat → Int) (rn : Nat → Nat) (rf : Nat → Nat → Int) (hn : n ≤ 1048576) (T : TickM n B p n' B' p' N kd rn rf) :
    PRet Try.prog 29 [.r (.a [dI .u8 n B, .s (.bool p)])] [.a [dI .u8 n' B', .s (.bool p')], .c (dKey N kd rn rf)] [] := by
  refine pret_of_awp (fn := Try.f29) (c := bodyOf Try.f29) envOk (by kernel_rfl) (by kernel_rfl) (by kernel_rfl) (by kernel_rfl) rfl (by kernel_rfl) (by kernel_rfl) ?_
  intro w0 mine D C L hD hC hL
  rcases T with ⟨rfl, rfl, rfl, rfl, rfl⟩ | ⟨rfl, rfl, rfl, rfl, rfl, rfl⟩ | ⟨rfl, h0, rfl, rfl, hB, rfl, hk, hr⟩ | ⟨rfl, h0, rfl, rfl, hB, rfl, hk⟩
  · ((try cbv); repeat' (first | (with_reducible refine mS hD ?_; try cbv) | (with_reducible refine mT hD ?_; try cbv) | (with_reducible refine mF hD ?_; try cbv) | (with_reducible refine mB hD (fun _ => ?_) (fun _ => ?_) <;> try cbv) | (with_reducible exact True.intro) | (with_reducible refine And.intro ?_ ?_)))
    refine call_of hD hC (con_cloneB n' B' (by omega)) ?_
    ((try cbv); repeat' (first | (with_reducible refine mS hD ?_; try cbv) | (with_reducible refine mT hD ?_; try cbv) | (with_reducible refine mF hD ?_; try cbv) | (with_reducible refine mB hD (fun _ => ?_) (fun _ => ?_) <;> try cbv) | (with_reducible exact True.intro) | (with_reducible refine And.intro ?_ ?_)))
    all_goals try (first | exact trivial | assumption | rfl | exact DEq.rfl' _ | ((subst hD; (try simp only [nc] at *); (try simp only [Int.ofNat_eq_natCast] at *); (try simp (disch := omega) only [std, wrap64, Int.toNat_natCast, Nat.succ_eq_add_one, Int.natCast_add, Int.natCast_one, decide_eq_true_eq, decide_eq_false_iff_not, Int.not_lt, Int.not_le, Nat.not_lt, Nat.not_le, beq_iff_eq, beq_eq_false_iff_ne, Bool.not_eq_true', Bool.not_eq_false', ne_eq] at *)) <;> first | omega | exact int_eq (by omega) | assumption | rfl | exact DEq.rfl' _))
    all_goals exact DEq.z _ _ _
  · ((try cbv); repeat' (first | (with_reducible refine mS hD ?_; try cbv) | (with_reducible refine mT hD ?_; try cbv) | (with_reducible refine mF hD ?_; try cbv) | (with_reducible refine mB hD (fun _ => ?_) (fun _ => ?_) <;> try cbv) | (with_reducible exact True.intro) | (with_reducible refine And.intro ?_ ?_)))
    all_goals try (first | exact trivial | assumption | rfl | exact DEq.rfl' _ | ((subst hD; (try simp only [nc] at *); (try simp only [Int.ofNat_eq_natCast] at *); (try simp (disch := omega) only [std, wrap64, Int.toNat_natCast, Nat.succ_eq_add_one, Int.natCast_add, Int.natCast_one, decide_eq_true_eq, decide_eq_false_iff_not, Int.not_lt, Int.not_le, Nat.not_lt, Nat.not_le, beq_iff_eq, beq_eq_false_iff_ne, Bool.not_eq_true', Bool.not_eq_false', ne_eq] at *)) <;> first | omega | exact int_eq (by omega) | assumption | rfl | exact DEq.rfl' _))
    refine call_of hD hC (con_cloneB 0 B' (by omega)) ?_
    ((try cbv); repeat' (first | (with_reducible refine mS hD ?_; try cbv) | (with_reducible refine mT hD ?_; try cbv) | (with_reducible refine mF hD ?_; try cbv) | (with_reducible refine mB hD (fun _ => ?_) (fun _ => ?_) <;> try cbv) | (with_reducible exact True.intro) | (with_reducible refine And.intro ?_ ?_)))
    all_goals try (first | exact trivial | assumption | rfl | exact DEq.rfl' _ | ((subst hD; (try simp only [nc] at *); (try simp only [Int.ofNat_eq_natCast] at *); (try simp (disch := omega) only [std, wrap64, Int.toNat_natCast, Nat.succ_eq_add_one, Int.natCast_add, Int.natCast_one, decide_eq_true_eq, decide_eq_false_iff_not, Int.not_lt, Int.not_le, Nat.not_lt, Nat.not_le, beq_iff_eq, beq_eq_false_iff_ne, Bool.not_eq_true', Bool.not_eq_false', ne_eq] at *)) <;> first | omega | exact int_eq (by omega) | assumption | rfl | exact DEq.rfl' _))
    all_goals exact DEq.z _ _ _
  · ((try cbv); repeat' (first | (with_reducible refine mS hD ?_; try cbv) | (with_reducible refine mT hD ?_; try cbv) | (with_reducible refine mF hD ?_; try cbv) | (with_reducible refine mB hD (fun _ => ?_) (fun _ => ?_) <;> try cbv) | (with_reducible exact True.intro) | (with_reducible refine And.intro ?_ ?_)))
    all_goals try exact DEq.z _ _ _
    all_goals try (first | exact trivial | assumption | rfl | exact DEq.rfl' _ | ((subst hD; (try simp only [nc] at *); (try simp only [Int.ofNat_eq_natCast] at *); (try simp (disch := omega) only [std, wrap64, Int.toNat_natCast, Nat.succ_eq_add_one, Int.natCast_add, Int.natCast_one, decide_eq_true_eq, decide_eq_false_iff_not, Int.not_lt, Int.not_le, Nat.not_lt, Nat.not_le, beq_iff_eq, beq_eq_false_iff_ne, Bool.not_eq_true', Bool.not_eq_false', ne_eq] at *)) <;> first | omega | exact int_eq (by omega) | assumption | rfl | exact DEq.rfl' _))
    · exfalso; rename_i hc; subst hD; simp [std, hB] at hc
    all_goals (
      have hn1 : (n = 1 ∧ kd 0 = 22) ∨ (n ≠ 1 ∧ kd 0 = 23) := by
        by_cases c : n = 1
        · exact .inl ⟨c, by rw [hk, if_pos c]⟩
        · exact .inr ⟨c, by rw [hk, if_neg c]⟩
      clear hk
      (subst hD; (try simp only [nc] at *); (try simp only [Int.ofNat_eq_natCast] at *); (try simp (disch := omega) only [std, wrap64, Int.toNat_natCast, Nat.succ_eq_add_one, Int.natCast_add, Int.natCast_one, decide_eq_true_eq, decide_eq_false_iff_not, Int.not_lt, Int.not_le, Nat.not_lt, Nat.not_le, beq_iff_eq, beq_eq_false_iff_ne, Bool.not_eq_true', Bool.not_eq_false', ne_eq] at *))
      refine deq_all fun i hi => ?_
      obtain rfl : i = 0 := by omega
      exact ⟨deq_s (by omega), deq_z hr, trivial⟩)
  · ((try cbv); repeat' (first | (with_reducible refine mS hD ?_; try cbv) | (with_reducible refine mT hD ?_; try cbv) | (with_reducible refine mF hD ?_; try cbv) | (with_reducible refine mB hD (fun _ => ?_) (fun _ => ?_) <;> try cbv) | (with_reducible exact True.intro) | (with_reducible refine And.intro ?_ ?_)))
    all_goals try exact DEq.z _ _ _
    all_goals try (first | exact trivial | assumption | rfl | exact DEq.rfl' _ | ((subst hD; (try simp only [nc] at *); (try simp only [Int.ofNat_eq_natCast] at *); (try simp (disch := omega) only [std, wrap64, Int.toNat_natCast, Nat.succ_eq_add_one, Int.natCast_add, Int.natCast_one, decide_eq_true_eq, decide_eq_false_iff_not, Int.not_lt, Int.not_le, Nat.not_lt, Nat.not_le, beq_iff_eq, beq_eq_false_iff_ne, Bool.not_eq_true', Bool.not_eq_false', ne_eq] at *)) <;> first | omega | exact int_eq (by omega) | assumption | rfl | exact DEq.rfl' _))
    · refine loop_nat hL N (fun k => [(4, VO 2 k), (24, .bad), (28, VI k)]) (fun k => [(2, .deep 2 k (rKey kd rn rf))]) (fun k => True) trivial ?_ ?_
      · ((try cbv); repeat' (first | (with_reducible refine mS hD ?_; try cbv) | (with_reducible refine mT hD ?_; try cbv) | (with_reducible refine mF hD ?_; try cbv) | (with_reducible refine mB hD (fun _ => ?_) (fun _ => ?_) <;> try cbv) | (with_reducible exact True.intro) | (with_reducible refine And.intro ?_ ?_)))
        all_goals try (first | exact trivial | assumption | rfl | exact DEq.rfl' _ | ((subst hD; (try simp only [nc] at *); (try simp only [Int.ofNat_eq_natCast] at *); (try simp (disch := omega) only [std, wrap64, Int.toNat_natCast, Nat.succ_eq_add_one, Int.natCast_add, Int.natCast_one, decide_eq_true_eq, decide_eq_false_iff_not, Int.not_lt, Int.not_le, Nat.not_lt, Nat.not_le, beq_iff_eq, beq_eq_false_iff_ne, Bool.not_eq_true', Bool.not_eq_false', ne_eq] at *)) <;> first | omega | exact int_eq (by omega) | assumption | rfl | exact DEq.rfl' _))
        all_goals exact deq_rows fun i hi => absurd hi (Nat.not_lt_zero i)
      · intro k hk1
        ((try cbv); repeat' (first | (with_reducible refine mS hD ?_; try cbv) | (with_reducible refine mT hD ?_; try cbv) | (with_reducible refine mF hD ?_; try cbv) | (with_reducible refine mB hD (fun _ => ?_) (fun _ => ?_) <;> try cbv) | (with_reducible exact True.intro) | (with_reducible refine And.intro ?_ ?_)))
        all_goals try (first | exact trivial | assumption | rfl | exact DEq.rfl' _ | ((subst hD; (try simp only [nc] at *); (try simp only [Int.ofNat_eq_natCast] at *); (try simp (disch := omega) only [std, wrap64, Int.toNat_natCast, Nat.succ_eq_add_one, Int.natCast_add, Int.natCast_one, decide_eq_true_eq, decide_eq_false_iff_not, Int.not_lt, Int.not_le, Nat.not_lt, Nat.not_le, beq_iff_eq, beq_eq_false_iff_ne, Bool.not_eq_true', Bool.not_eq_false', ne_eq] at *)) <;> first | omega | exact int_eq (by omega) | assumption | rfl | exact DEq.rfl' _))
        · have hkN : k < N := by (subst hD; (try simp only [nc] at *); (try simp only [Int.ofNat_eq_natCast] at *); (try simp (disch := omega) only [std, wrap64, Int.toNat_natCast, Nat.succ_eq_add_one, Int.natCast_add, Int.natCast_one, decide_eq_true_eq, decide_eq_false_iff_not, Int.not_lt, Int.not_le, Nat.not_lt, Nat.not_le, beq_iff_eq, beq_eq_false_iff_ne, Bool.not_eq_true', Bool.not_eq_false', ne_eq] at *)); omega
          have h3 := hk k hkN
          refine ⟨k + 1, ⟨hkN, trivial⟩, ssem_of ?_, ?_⟩
          · ((try cbv); repeat' (first | (with_reducible refine mS hD ?_; try cbv) | (with_reducible refine mT hD ?_; try cbv) | (with_reducible refine mF hD ?_; try cbv) | (with_reducible refine mB hD (fun _ => ?_) (fun _ => ?_) <;> try cbv) | (with_reducible exact True.intro) | (with_reducible refine And.intro ?_ ?_)))
            all_goals try (first | exact trivial | assumption | rfl | exact DEq.rfl' _ | ((subst hD; (try simp only [nc] at *); (try simp only [Int.ofNat_eq_natCast] at *); (try simp (disch := omega) only [std, wrap64, Int.toNat_natCast, Nat.succ_eq_add_one, Int.natCast_add, Int.natCast_one, decide_eq_true_eq, decide_eq_false_iff_not, Int.not_lt, Int.not_le, Nat.not_lt, Nat.not_le, beq_iff_eq, beq_eq_false_iff_ne, Bool.not_eq_true', Bool.not_eq_false', ne_eq] at *)) <;> first | omega | exact int_eq (by omega) | assumption | rfl | exact DEq.rfl' _))
            subst hD
            have hj0 : ∀ j, j < 1 → ([DV.s (.int .i32 65533)] : List DV) = [.s (.int .i32 (rf k j))] := fun j hj => by
              obtain rfl : j = 0 := by omega
              rw [h3.2.2]
            refine cat_row (k := k) (f := rKey kd rn rf) (g := fun _ => [.s (.int .i64 1), .l 1 1 fun _ => [.s (.int .i32 65533)]]) ?_
            exact ⟨deq_s h3.1.symm, deq_l h3.2.1.symm hj0, trivial⟩
          · omega
        all_goals exact DEq.z _ _ _
    all_goals (exfalso; (subst hD; (try simp only [nc] at *); (try simp only [Int.ofNat_eq_natCast] at *); (try simp (disch := omega) only [std, wrap64, Int.toNat_natCast, Nat.succ_eq_add_one, Int.natCast_add, Int.natCast_one, decide_eq_true_eq, decide_eq_false_iff_not, Int.not_lt, Int.not_le, Nat.not_lt, Nat.not_le, beq_iff_eq, beq_eq_false_iff_ne, Bool.not_eq_true', Bool.not_eq_false', ne_eq, Int.toNat_zero] at *)); exact absurd (by assumption) hB)
theorem con_specTick (n : Nat) (B : Nat → Int) (p : Bool) (n' : Nat) (B' : Nat → Int) (p' : Bool) (N : Nat) (kd : Nat → Int) (rn : Nat → Nat) (rf : Nat → Nat → Int) (hn : n ≤ 1048576) (T : TickM n B p n' B' p' N kd rn rf) :
    PRet Try.prog 27 [.r (.a [dI .u8 n B, .s (.bool p)])] [.a [dI .u8 n' B', .s (.bool p')], .c (dKey N kd rn rf)] [] := by
  refine pret_of_awp (fn := Try.f27) (c := bodyOf Try.f27) envOk (by kernel_rfl) (by kernel_rfl) (by kernel_rfl) (by kernel_rfl) rfl (by kernel_rfl) (by kernel_rfl) ?_
  intro w0 mine D C L hD hC hL
  rcases T with ⟨rfl, rfl, rfl, rfl, rfl⟩ | ⟨rfl, rfl, rfl, rfl, rfl, rfl⟩ | ⟨rfl, h0, rfl, rfl, hB, rfl, hk, hr⟩ | ⟨rfl, h0, rfl, rfl, hB, rfl, hk⟩
  · ((try cbv); repeat' (first | (with_reducible refine mS hD ?_; try cbv) | (with_reducible refine mT hD ?_; try cbv) | (with_reducible refine mF hD ?_; try cbv) | (with_reducible refine mB hD (fun _ => ?_) (fun _ => ?_) <;> try cbv) | (with_reducible exact True.intro) | (with_reducible refine And.intro ?_ ?_)))
    all_goals try exact DEq.z _ _ _
    all_goals try exact deq_nil
    all_goals try (first | exact trivial | assumption | rfl | exact DEq.rfl' _ | ((subst hD; (try simp only [nc] at *); (try simp only [Int.ofNat_eq_natCast] at *); (try simp (disch := omega) only [std, wrap64, Int.toNat_natCast, Nat.succ_eq_add_one, Int.natCast_add, Int.natCast_one, decide_eq_true_eq, decide_eq_false_iff_not, Int.not_lt, Int.not_le, Nat.not_lt, Nat.not_le, beq_iff_eq, beq_eq_false_iff_ne, Bool.not_eq_true', Bool.not_eq_false', ne_eq] at *)) <;> first | omega | exact int_eq (by omega) | assumption | rfl | exact DEq.rfl' _))
    all_goals subst hD
    all_goals first | exact flat1 | exact cat_0 (sz := 1) (n := n') (f := fun _ => []) (g := fun i => [.s (.int .u8 (B' i))])
  · ((try cbv); repeat' (first | (with_reducible refine mS hD ?_; try cbv) | (with_reducible refine mT hD ?_; try cbv) | (with_reducible refine mF hD ?_; try cbv) | (with_reducible refine mB hD (fun _ => ?_) (fun _ => ?_) <;> try cbv) | (with_reducible exact True.intro) | (with_reducible refine And.intro ?_ ?_)))
    all_goals try exact DEq.z _ _ _
    all_goals try exact deq_nil
    all_goals try (first | exact trivial | assumption | rfl | exact DEq.rfl' _ | ((subst hD; (try simp only [nc] at *); (try simp only [Int.ofNat_eq_natCast] at *); (try simp (disch := omega) only [std, wrap64, Int.toNat_natCast, Nat.succ_eq_add_one, Int.natCast_add, Int.natCast_one, decide_eq_true_eq, decide_eq_false_iff_not, Int.not_lt, Int.not_le, Nat.not_lt, Nat.not_le, beq_iff_eq, beq_eq_false_iff_ne, Bool.not_eq_true', Bool.not_eq_false', ne_eq] at *)) <;> first | omega | exact int_eq (by omega) | assumption | rfl | exact DEq.rfl' _))
    all_goals subst hD
    all_goals first | exact flat1 | exact cat_0 (sz := 1) (n := 0) (f := fun _ => []) (g := fun i => [.s (.int .u8 (B' i))])
  · have hn1 : (n = 1 ∧ kd 0 = 22) ∨ (n ≠ 1 ∧ kd 0 = 23) := by
      by_cases c : n = 1
      · exact .inl ⟨c, by rw [hk, if_pos c]⟩
      · exact .inr ⟨c, by rw [hk, if_neg c]⟩
    clear hk
    ((try cbv); repeat' (first | (with_reducible refine mS hD ?_; try cbv) | (with_reducible refine mT hD ?_; try cbv) | (with_reducible refine mF hD ?_; try cbv) | (with_reducible refine mB hD (fun _ => ?_) (fun _ => ?_) <;> try cbv) | (with_reducible exact True.intro) | (with_reducible refine And.intro ?_ ?_)))
    all_goals try exact DEq.z _ _ _
    all_goals try exact deq_nil
    all_goals try (first | exact trivial | assumption | rfl | exact DEq.rfl' _ | ((subst hD; (try simp only [nc] at *); (try simp only [Int.ofNat_eq_natCast] at *); (try simp (disch := omega) only [std, wrap64, Int.toNat_natCast, Nat.succ_eq_add_one, Int.natCast_add, Int.natCast_one, decide_eq_true_eq, decide_eq_false_iff_not, Int.not_lt, Int.not_le, Nat.not_lt, Nat.not_le, beq_iff_eq, beq_eq_false_iff_ne, Bool.not_eq_true', Bool.not_eq_false', ne_eq] at *)) <;> first | omega | exact int_eq (by omega) | assumption | rfl | exact DEq.rfl' _))
    · have hc : kd 0 = 22 := by (subst hD; (try simp only [nc] at *); (try simp only [Int.ofNat_eq_natCast] at *); (try simp (disch := omega) only [std, wrap64, Int.toNat_natCast, Nat.succ_eq_add_one, Int.natCast_add, Int.natCast_one, decide_eq_true_eq, decide_eq_false_iff_not, Int.not_lt, Int.not_le, Nat.not_lt, Nat.not_le, beq_iff_eq, beq_eq_false_iff_ne, Bool.not_eq_true', Bool.not_eq_false', ne_eq] at *)); omega
      subst hD
      exact cat_one (f := fun _ => []) (g := fun _ => [.s (.int .i64 22), .l 1 0 fun _ => []]) (h := rKey kd rn rf) ⟨deq_s hc.symm, deq_l hr.symm fun j hj => absurd hj (Nat.not_lt_zero j), trivial⟩
    · have hc : kd 0 = 23 := by (subst hD; (try simp only [nc] at *); (try simp only [Int.ofNat_eq_natCast] at *); (try simp (disch := omega) only [std, wrap64, Int.toNat_natCast, Nat.succ_eq_add_one, Int.natCast_add, Int.natCast_one, decide_eq_true_eq, decide_eq_false_iff_not, Int.not_lt, Int.not_le, Nat.not_lt, Nat.not_le, beq_iff_eq, beq_eq_false_iff_ne, Bool.not_eq_true', Bool.not_eq_false', ne_eq] at *)); omega
      subst hD
      exact cat_one (f := fun _ => []) (g := fun _ => [.s (.int .i64 23), .l 1 0 fun _ => []]) (h := rKey kd rn rf) ⟨deq_s hc.symm, deq_l hr.symm fun j hj => absurd hj (Nat.not_lt_zero j), trivial⟩
    all_goals (exfalso; (subst hD; (try simp only [nc] at *); (try simp only [Int.ofNat_eq_natCast] at *); (try simp (disch := omega) only [std, wrap64, Int.toNat_natCast, Nat.succ_eq_add_one, Int.natCast_add, Int.natCast_one, decide_eq_true_eq, decide_eq_false_iff_not, Int.not_lt, Int.not_le, Nat.not_lt, Nat.not_le, beq_iff_eq, beq_eq_false_iff_ne, Bool.not_eq_true', Bool.not_eq_false', ne_eq, Int.toNat_zero] at *)); simp_all)
  · ((try cbv); repeat' (first | (with_reducible refine mS hD ?_; try cbv) | (with_reducible refine mT hD ?_; try cbv) | (with_reducible refine mF hD ?_; try cbv) | (with_reducible refine mB hD (fun _ => ?_) (fun _ => ?_) <;> try cbv) | (with_reducible exact True.intro) | (with_reducible refine And.intro ?_ ?_)))
    all_goals try exact DEq.z _ _ _
    all_goals try exact deq_nil
    all_goals try (first | exact trivial | assumption | rfl | exact DEq.rfl' _ | ((subst hD; (try simp only [nc] at *); (try simp only [Int.ofNat_eq_natCast] at *); (try simp (disch := omega) only [std, wrap64, Int.toNat_natCast, Nat.succ_eq_add_one, Int.natCast_add, Int.natCast_one, decide_eq_true_eq, decide_eq_false_iff_not, Int.not_lt, Int.not_le, Nat.not_lt, Nat.not_le, beq_iff_eq, beq_eq_false_iff_ne, Bool.not_eq_true', Bool.not_eq_false', ne_eq] at *)) <;> first | omega | exact int_eq (by omega) | assumption | rfl | exact DEq.rfl' _))
    · exfalso; (subst hD; (try simp only [nc] at *); (try simp only [Int.ofNat_eq_natCast] at *); (try simp (disch := omega) only [std, wrap64, Int.toNat_natCast, Nat.succ_eq_add_one, Int.natCast_add, Int.natCast_one, decide_eq_true_eq, decide_eq_false_iff_not, Int.not_lt, Int.not_le, Nat.not_lt, Nat.not_le, beq_iff_eq, beq_eq_false_iff_ne, Bool.not_eq_true', Bool.not_eq_false', ne_eq, Int.toNat_zero] at *)); exact absurd (by assumption) hB
    · exfalso; (subst hD; (try simp only [nc] at *); (try simp only [Int.ofNat_eq_natCast] at *); (try simp (disch := omega) only [std, wrap64, Int.toNat_natCast, Nat.succ_eq_add_one, Int.natCast_add, Int.natCast_one, decide_eq_true_eq, decide_eq_false_iff_not, Int.not_lt, Int.not_le, Nat.not_lt, Nat.not_le, beq_iff_eq, beq_eq_false_iff_ne, Bool.not_eq_true', Bool.not_eq_false', ne_eq, Int.toNat_zero] at *)); exact absurd (by assumption) hB
    · exfalso; (subst hD; (try simp only [nc] at *); (try simp only [Int.ofNat_eq_natCast] at *); (try simp (disch := omega) only [std, wrap64, Int.toNat_natCast, Nat.succ_eq_add_one, Int.natCast_add, Int.natCast_one, decide_eq_true_eq, decide_eq_false_iff_not, Int.not_lt, Int.not_le, Nat.not_lt, Nat.not_le, beq_iff_eq, beq_eq_false_iff_ne, Bool.not_eq_true', Bool.not_eq_false', ne_eq, Int.toNat_zero] at *)); exact absurd (by assumption) hB
    refine loop_nat hL N (fun k => [(4, VO 2 k), (8, .bad), (7, VI k)]) (fun k => [(2, .deep 2 k (rKey kd rn rf))]) (fun k => True) trivial ?_ ?_
    · ((try cbv); repeat' (first | (with_reducible refine mS hD ?_; try cbv) | (with_reducible refine mT hD ?_; try cbv) | (with_reducible refine mF hD ?_; try cbv) | (with_reducible refine mB hD (fun _ => ?_) (fun _ => ?_) <;> try cbv) | (with_reducible exact True.intro) | (with_reducible refine And.intro ?_ ?_)))
      all_goals try (first | exact trivial | assumption | rfl | exact DEq.rfl' _ | ((subst hD; (try simp only [nc] at *); (try simp only [Int.ofNat_eq_natCast] at *); (try simp (disch := omega) only [std, wrap64, Int.toNat_natCast, Nat.succ_eq_add_one, Int.natCast_add, Int.natCast_one, decide_eq_true_eq, decide_eq_false_iff_not, Int.not_lt, Int.not_le, Nat.not_lt, Nat.not_le, beq_iff_eq, beq_eq_false_iff_ne, Bool.not_eq_true', Bool.not_eq_false', ne_eq] at *)) <;> first | omega | exact int_eq (by omega) | assumption | rfl | exact DEq.rfl' _))
      all_goals exact deq_nil
    · intro k hk1
      ((try cbv); repeat' (first | (with_reducible refine mS hD ?_; try cbv) | (with_reducible refine mT hD ?_; try cbv) | (with_reducible refine mF hD ?_; try cbv) | (with_reducible refine mB hD (fun _ => ?_) (fun _ => ?_) <;> try cbv) | (with_reducible exact True.intro) | (with_reducible refine And.intro ?_ ?_)))
      all_goals try exact deq_nil
      all_goals try (first | exact trivial | assumption | rfl | exact DEq.rfl' _ | ((subst hD; (try simp only [nc] at *); (try simp only [Int.ofNat_eq_natCast] at *); (try simp (disch := omega) only [std, wrap64, Int.toNat_natCast, Nat.succ_eq_add_one, Int.natCast_add, Int.natCast_one, decide_eq_true_eq, decide_eq_false_iff_not, Int.not_lt, Int.not_le, Nat.not_lt, Nat.not_le, beq_iff_eq, beq_eq_false_iff_ne, Bool.not_eq_true', Bool.not_eq_false', ne_eq] at *)) <;> first | omega | exact int_eq (by omega) | assumption | rfl | exact DEq.rfl' _))
      · have hkN : k < N := by (subst hD; (try simp only [nc] at *); (try simp only [Int.ofNat_eq_natCast] at *); (try simp (disch := omega) only [std, wrap64, Int.toNat_natCast, Nat.succ_eq_add_one, Int.natCast_add, Int.natCast_one, decide_eq_true_eq, decide_eq_false_iff_not, Int.not_lt, Int.not_le, Nat.not_lt, Nat.not_le, beq_iff_eq, beq_eq_false_iff_ne, Bool.not_eq_true', Bool.not_eq_false', ne_eq] at *)); omega
        have h3 := hk k hkN
        refine ⟨k + 1, ⟨hkN, trivial⟩, ssem_of ?_, ?_⟩
        · ((try cbv); repeat' (first | (with_reducible refine mS hD ?_; try cbv) | (with_reducible refine mT hD ?_; try cbv) | (with_reducible refine mF hD ?_; try cbv) | (with_reducible refine mB hD (fun _ => ?_) (fun _ => ?_) <;> try cbv) | (with_reducible exact True.intro) | (with_reducible refine And.intro ?_ ?_)))
          all_goals try (first | exact trivial | assumption | rfl | exact DEq.rfl' _ | ((subst hD; (try simp only [nc] at *); (try simp only [Int.ofNat_eq_natCast] at *); (try simp (disch := omega) only [std, wrap64, Int.toNat_natCast, Nat.succ_eq_add_one, Int.natCast_add, Int.natCast_one, decide_eq_true_eq, decide_eq_false_iff_not, Int.not_lt, Int.not_le, Nat.not_lt, Nat.not_le, beq_iff_eq, beq_eq_false_iff_ne, Bool.not_eq_true', Bool.not_eq_false', ne_eq] at *)) <;> first | omega | exact int_eq (by omega) | assumption | rfl | exact DEq.rfl' _))
          subst hD
          have hj0 : ∀ j, j < 1 → ([DV.s (.int .i32 65533)] : List DV) = [.s (.int .i32 (rf k j))] := fun j hj => by
            obtain rfl : j = 0 := by omega
            rw [h3.2.2]
          refine cat_row (k := k) (f := rKey kd rn rf) (g := fun _ => [.s (.int .i64 1), .l 1 1 fun _ => [.s (.int .i32 65533)]]) ?_
          exact ⟨deq_s h3.1.symm, deq_l h3.2.1.symm hj0, trivial⟩
        · omega
end Go.AW
