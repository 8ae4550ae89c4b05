/- A rune out of bytes: its value. -/
import Derived.Test.YtfidphaoddenlaaB2
set_option linter.unusedVariables false
set_option linter.unusedSimpArgs false
namespace Go.AW
open Go.Proofs
set_option maxRecDepth 100000
def ContB (B : Nat → Int) (i d : Nat) : Prop := ∀ k, 1 ≤ k → k < d → 128 ≤ B (i + k) ∧ B (i + k) ≤ 191
def valM (B : Nat → Int) (i : Nat) (m0 : Int) : Nat → Int
  | 0 => m0
  | k + 1 => valM B i m0 k * 64 + B (i + (k + 1)) - 128
def headB (b : Int) (d : Nat) : Int := match d with
  | 2 => b % 32
  | 3 => b % 16
  | 4 => b % 8
  | _ => b
theorem con_l1Value (d : Nat) (hd : d = 1 ∨ d = 2 ∨ d = 3 ∨ d = 4) (n : Nat) (B : Nat → Int) (i : Nat) (r : Int) (hB : ∀ j, j < n → 0 ≤ B j ∧ B j ≤ 255) (hi : i + d ≤ n) (hn : n ≤ 1099511627776)
    (hr1 : ContB B i d → r = valM B i (headB (B i) d) (d - 1)) (hr2 : ¬ ContB B i d → r = -1) :
    PRet Try.prog 109 [.r (.c (dI .u8 n B)), AI i, AI d] [RI r] [] := by
  refine pret_of_awp (fn := Try.f109) (c := bodyOf Try.f109) envOk (by kernel_rfl) (by kernel_rfl) (by kernel_rfl) (by kernel_rfl) rfl (by kernel_rfl) (by kernel_rfl) ?_
  intro w0 mine D C L hD hC hL
  obtain ⟨M, hM⟩ : ∃ M : Nat → Int, ∀ k, M k = valM B i (headB (B i) d) k := ⟨_, fun _ => rfl⟩
  obtain ⟨I, hI⟩ : ∃ I : Nat → Int, ∀ k, I k = (k : Int) + 1 := ⟨_, fun _ => rfl⟩
  have hI0 : I 0 = 1 := by rw [hI]; rfl
  have hM0 : M 0 = headB (B i) d := by rw [hM]; rfl
  have hMs : ∀ k, M (k + 1) = M k * 64 + B (i + (k + 1)) - 128 := fun k => by rw [hM, hM]; rfl
  have hb0 := hB i (by omega)
  have hdv : d = 1 ∧ headB (B i) d = B i ∨ d = 2 ∧ headB (B i) d = B i % 32 ∨ d = 3 ∧ headB (B i) d = B i % 16 ∨ d = 4 ∧ headB (B i) d = B i % 8 := by
    rcases hd with rfl | rfl | rfl | rfl
    · exact .inl ⟨rfl, rfl⟩
    · exact .inr (.inl ⟨rfl, rfl⟩)
    · exact .inr (.inr (.inl ⟨rfl, rfl⟩))
    · exact .inr (.inr (.inr ⟨rfl, rfl⟩))
  have hnth : (d = 1 → ([0, 0, 32, 16, 8] : List Int).getD d 0 = 0) ∧ (d = 2 → ([0, 0, 32, 16, 8] : List Int).getD d 0 = 32) ∧ (d = 3 → ([0, 0, 32, 16, 8] : List Int).getD d 0 = 16) ∧ (d = 4 → ([0, 0, 32, 16, 8] : List Int).getD d 0 = 8) := by
    refine ⟨?_, ?_, ?_, ?_⟩ <;> (intro h; subst h; rfl)
  have hrem : ∀ x : Int, 0 ≤ x → ∀ y, x.tmod y = x % y := fun x h y => Int.tmod_eq_emod_of_nonneg h
  -- the loop, from either side
  have hbd : ∀ k, k < 4 → (∀ j, 1 ≤ j → j ≤ k → 128 ≤ B (i + j) ∧ B (i + j) ≤ 191) → 0 ≤ M k ∧ M k ≤ 67108863 := by
    intro k hk hc
    have c1 := fun h : 1 ≤ k => hc 1 (by omega) h
    have c2 := fun h : 2 ≤ k => hc 2 (by omega) h
    have c3 := fun h : 3 ≤ k => hc 3 (by omega) h
    have m0 : 0 ≤ M 0 ∧ M 0 ≤ 255 := by rw [hM0]; omega
    have m1 := hMs 0
    have m2 := hMs 1
    have m3 := hMs 2
    simp only [Nat.zero_add, Nat.reduceAdd] at m1 m2 m3
    obtain rfl | rfl | rfl | rfl : k = 0 ∨ k = 1 ∨ k = 2 ∨ k = 3 := by omega
    all_goals simp at c1 c2 c3
    all_goals omega
  ((try cbv); repeat' (first | (with_reducible refine mS hD ?_; try cbv) | (with_reducible refine mT hD ?_; try cbv) | (with_reducible refine mF hD ?_; try cbv) | (with_reducible refine mB hD (fun _ => ?_) (fun _ => ?_) <;> try cbv) | (with_reducible exact True.intro) | (with_reducible refine And.intro ?_ ?_)))
  all_goals try (first | exact trivial | assumption | rfl | exact DEq.rfl' _ | ((subst hD; (try simp only [nc] at *); (try simp only [Int.ofNat_eq_natCast] at *); (try simp (disch := omega) only [std, wrap64, Int.toNat_natCast, Nat.succ_eq_add_one, Int.natCast_add, Int.natCast_one, decide_eq_true_eq, decide_eq_false_iff_not, Int.not_lt, Int.not_le, Nat.not_lt, Nat.not_le, beq_iff_eq, beq_eq_false_iff_ne, Bool.not_eq_true', Bool.not_eq_false', ne_eq] at *)) <;> first | omega | exact int_eq (by omega) | assumption | rfl | exact DEq.rfl' _))
  all_goals refine loop_nat hL 3 (fun k => [(7, VI (M k)), (8, VI (I k))]) (fun k => []) (fun k => k + 1 ≤ d ∧ ∀ j, 1 ≤ j → j ≤ k → 128 ≤ B (i + j) ∧ B (i + j) ≤ 191) ⟨by omega, fun j h1 h2 => by omega⟩ ?_ ?_
  · ((try cbv); repeat' (first | (with_reducible refine mS hD ?_; try cbv) | (with_reducible refine mT hD ?_; try cbv) | (with_reducible refine mF hD ?_; try cbv) | (with_reducible refine mB hD (fun _ => ?_) (fun _ => ?_) <;> try cbv) | (with_reducible exact True.intro) | (with_reducible refine And.intro ?_ ?_)))
    all_goals try (first | exact trivial | assumption | rfl | exact DEq.rfl' _ | ((subst hD; (try simp only [nc] at *); (try simp only [Int.ofNat_eq_natCast] at *); (try simp (disch := omega) only [std, wrap64, Int.toNat_natCast, Nat.succ_eq_add_one, Int.natCast_add, Int.natCast_one, decide_eq_true_eq, decide_eq_false_iff_not, Int.not_lt, Int.not_le, Nat.not_lt, Nat.not_le, beq_iff_eq, beq_eq_false_iff_ne, Bool.not_eq_true', Bool.not_eq_false', ne_eq, hI, hrem] at *)) <;> first | omega | exact int_eq (by omega) | assumption | rfl | exact DEq.rfl' _))
    (subst hD; (try simp only [nc] at *); (try simp only [Int.ofNat_eq_natCast] at *); (try simp (disch := omega) only [std, wrap64, Int.toNat_natCast, Nat.succ_eq_add_one, Int.natCast_add, Int.natCast_one, decide_eq_true_eq, decide_eq_false_iff_not, Int.not_lt, Int.not_le, Nat.not_lt, Nat.not_le, beq_iff_eq, beq_eq_false_iff_ne, Bool.not_eq_true', Bool.not_eq_false', ne_eq, hI, hrem] at *))
    refine int_eq ?_
    have e : B i % ([0, 0, 32, 16, 8] : List Int).getD d 0 = M 0 := by
      rw [hM0]
      rcases hdv with h | h | h | h
      · omega
      · rw [hnth.2.1 h.1, h.2]
      · rw [hnth.2.2.1 h.1, h.2]
      · rw [hnth.2.2.2 h.1, h.2]
    rw [← e]
  · intro k hk
    have hM1 := hbd k (by omega) hk.2.2
    have hMs1 := hMs k
    have ei : (((i : Int) + ((k : Int) + 1)).toNat) = i + (k + 1) := by omega
    have hbk := fun h : i + (k + 1) < n => hB (i + (k + 1)) h
    ((try cbv); repeat' (first | (with_reducible refine mS hD ?_; try cbv) | (with_reducible refine mT hD ?_; try cbv) | (with_reducible refine mF hD ?_; try cbv) | (with_reducible refine mB hD (fun _ => ?_) (fun _ => ?_) <;> try cbv) | (with_reducible exact True.intro) | (with_reducible refine And.intro ?_ ?_)))
    all_goals try (first | exact trivial | assumption | rfl | exact DEq.rfl' _ | ((subst hD; (try simp only [nc] at *); (try simp only [Int.ofNat_eq_natCast] at *); (try simp (disch := omega) only [std, wrap64, Int.toNat_natCast, Nat.succ_eq_add_one, Int.natCast_add, Int.natCast_one, decide_eq_true_eq, decide_eq_false_iff_not, Int.not_lt, Int.not_le, Nat.not_lt, Nat.not_le, beq_iff_eq, beq_eq_false_iff_ne, Bool.not_eq_true', Bool.not_eq_false', ne_eq, hI, ei] at *)) <;> first | omega | exact int_eq (by omega) | assumption | rfl | exact DEq.rfl' _))
    iterate 2
      · (subst hD; (try simp only [nc] at *); (try simp only [Int.ofNat_eq_natCast] at *); (try simp (disch := omega) only [std, wrap64, Int.toNat_natCast, Nat.succ_eq_add_one, Int.natCast_add, Int.natCast_one, decide_eq_true_eq, decide_eq_false_iff_not, Int.not_lt, Int.not_le, Nat.not_lt, Nat.not_le, beq_iff_eq, beq_eq_false_iff_ne, Bool.not_eq_true', Bool.not_eq_false', ne_eq, hI, ei] at *))
        refine int_eq (hr2 fun hc => ?_).symm
        have := hc (k + 1) (by omega) (by omega)
        omega
    · have hk1 : k + 1 < d ∧ 128 ≤ B (i + (k + 1)) ∧ B (i + (k + 1)) ≤ 191 := by
        (subst hD; (try simp only [nc] at *); (try simp only [Int.ofNat_eq_natCast] at *); (try simp (disch := omega) only [std, wrap64, Int.toNat_natCast, Nat.succ_eq_add_one, Int.natCast_add, Int.natCast_one, decide_eq_true_eq, decide_eq_false_iff_not, Int.not_lt, Int.not_le, Nat.not_lt, Nat.not_le, beq_iff_eq, beq_eq_false_iff_ne, Bool.not_eq_true', Bool.not_eq_false', ne_eq, hI, ei] at *))
        omega
      have hM2 := hbd (k + 1) (by omega) (fun j h1 h2 => by
        rcases Nat.lt_or_ge k j with h3 | h3
        · rw [show j = k + 1 by omega]; exact hk1.2
        · exact hk.2.2 j h1 h3)
      refine ⟨k + 1, ⟨by omega, by omega, fun j h1 h2 => ?_⟩, ssem_of ?_, ?_⟩
      · rcases Nat.lt_or_ge k j with h3 | h3
        · rw [show j = k + 1 by omega]; exact hk1.2
        · exact hk.2.2 j h1 h3
      · ((try cbv); repeat' (first | (with_reducible refine mS hD ?_; try cbv) | (with_reducible refine mT hD ?_; try cbv) | (with_reducible refine mF hD ?_; try cbv) | (with_reducible refine mB hD (fun _ => ?_) (fun _ => ?_) <;> try cbv) | (with_reducible exact True.intro) | (with_reducible refine And.intro ?_ ?_)))
        all_goals try (first | exact trivial | assumption | rfl | exact DEq.rfl' _ | ((subst hD; (try simp only [nc] at *); (try simp only [Int.ofNat_eq_natCast] at *); (try simp (disch := omega) only [std, wrap64, Int.toNat_natCast, Nat.succ_eq_add_one, Int.natCast_add, Int.natCast_one, decide_eq_true_eq, decide_eq_false_iff_not, Int.not_lt, Int.not_le, Nat.not_lt, Nat.not_le, beq_iff_eq, beq_eq_false_iff_ne, Bool.not_eq_true', Bool.not_eq_false', ne_eq, hI, ei] at *)) <;> first | omega | exact int_eq (by omega) | assumption | rfl | exact DEq.rfl' _))
      · omega
    · have hk1 : k + 1 = d := by
        (subst hD; (try simp only [nc] at *); (try simp only [Int.ofNat_eq_natCast] at *); (try simp (disch := omega) only [std, wrap64, Int.toNat_natCast, Nat.succ_eq_add_one, Int.natCast_add, Int.natCast_one, decide_eq_true_eq, decide_eq_false_iff_not, Int.not_lt, Int.not_le, Nat.not_lt, Nat.not_le, beq_iff_eq, beq_eq_false_iff_ne, Bool.not_eq_true', Bool.not_eq_false', ne_eq, hI, ei] at *))
        omega
      have hc : ContB B i d := fun j h1 h2 => hk.2.2 j h1 (by omega)
      refine int_eq ?_
      rw [hr1 hc, hM, ← hk1]
      rfl
  · ((try cbv); repeat' (first | (with_reducible refine mS hD ?_; try cbv) | (with_reducible refine mT hD ?_; try cbv) | (with_reducible refine mF hD ?_; try cbv) | (with_reducible refine mB hD (fun _ => ?_) (fun _ => ?_) <;> try cbv) | (with_reducible exact True.intro) | (with_reducible refine And.intro ?_ ?_)))
    all_goals try (first | exact trivial | assumption | rfl | exact DEq.rfl' _ | ((subst hD; (try simp only [nc] at *); (try simp only [Int.ofNat_eq_natCast] at *); (try simp (disch := omega) only [std, wrap64, Int.toNat_natCast, Nat.succ_eq_add_one, Int.natCast_add, Int.natCast_one, decide_eq_true_eq, decide_eq_false_iff_not, Int.not_lt, Int.not_le, Nat.not_lt, Nat.not_le, beq_iff_eq, beq_eq_false_iff_ne, Bool.not_eq_true', Bool.not_eq_false', ne_eq, hI] at *)) <;> first | omega | exact int_eq (by omega) | assumption | rfl | exact DEq.rfl' _))
  · intro k hk
    have hM1 := hbd k (by omega) hk.2.2
    have hMs1 := hMs k
    have ei : (((i : Int) + ((k : Int) + 1)).toNat) = i + (k + 1) := by omega
    have hbk := fun h : i + (k + 1) < n => hB (i + (k + 1)) h
    ((try cbv); repeat' (first | (with_reducible refine mS hD ?_; try cbv) | (with_reducible refine mT hD ?_; try cbv) | (with_reducible refine mF hD ?_; try cbv) | (with_reducible refine mB hD (fun _ => ?_) (fun _ => ?_) <;> try cbv) | (with_reducible exact True.intro) | (with_reducible refine And.intro ?_ ?_)))
    all_goals try (first | exact trivial | assumption | rfl | exact DEq.rfl' _ | ((subst hD; (try simp only [nc] at *); (try simp only [Int.ofNat_eq_natCast] at *); (try simp (disch := omega) only [std, wrap64, Int.toNat_natCast, Nat.succ_eq_add_one, Int.natCast_add, Int.natCast_one, decide_eq_true_eq, decide_eq_false_iff_not, Int.not_lt, Int.not_le, Nat.not_lt, Nat.not_le, beq_iff_eq, beq_eq_false_iff_ne, Bool.not_eq_true', Bool.not_eq_false', ne_eq, hI, ei] at *)) <;> first | omega | exact int_eq (by omega) | assumption | rfl | exact DEq.rfl' _))
    · have hk1 : k + 1 = d := by
        (subst hD; (try simp only [nc] at *); (try simp only [Int.ofNat_eq_natCast] at *); (try simp (disch := omega) only [std, wrap64, Int.toNat_natCast, Nat.succ_eq_add_one, Int.natCast_add, Int.natCast_one, decide_eq_true_eq, decide_eq_false_iff_not, Int.not_lt, Int.not_le, Nat.not_lt, Nat.not_le, beq_iff_eq, beq_eq_false_iff_ne, Bool.not_eq_true', Bool.not_eq_false', ne_eq, hI, ei] at *))
        omega
      have hc : ContB B i d := fun j h1 h2 => hk.2.2 j h1 (by omega)
      refine int_eq ?_
      rw [hr1 hc, hM, ← hk1]
      rfl
end Go.AW
