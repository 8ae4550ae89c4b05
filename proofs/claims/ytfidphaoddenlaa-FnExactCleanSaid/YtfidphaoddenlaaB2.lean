/- A rune out of bytes: what the functions compute. -/
import Derived.Test.YtfidphaoddenlaaK1
set_option linter.unusedVariables false
set_option linter.unusedSimpArgs false
namespace Go.AW
open Go.Proofs
set_option maxRecDepth 100000
/-- How many bytes a first byte asks for. -/
def needB (b : Int) : Int := if b < 128 then 1 else if b < 192 ∨ 248 ≤ b then 0 else if b < 224 then 2 else if b < 240 then 3 else 4
theorem con_l1Need (b r : Int) (hb : 0 ≤ b ∧ b ≤ 255) (hr : r = needB b) : PRet Try.prog 108 [AK .u8 b] [RI r] [] := by
  refine pret_of_awp (fn := Try.f108) (c := bodyOf Try.f108) envOk (by kernel_rfl) (by kernel_rfl) (by kernel_rfl) (by kernel_rfl) rfl (by kernel_rfl) (by kernel_rfl) ?_
  intro w0 mine D C L hD hC hL
  ((try cbv); repeat' (first | (with_reducible refine mS hD ?_; try cbv) | (with_reducible refine mT hD ?_; try cbv) | (with_reducible refine mF hD ?_; try cbv) | (with_reducible refine mB hD (fun _ => ?_) (fun _ => ?_) <;> try cbv) | (with_reducible exact True.intro) | (with_reducible refine And.intro ?_ ?_)))
  all_goals ((subst hD; (try simp only [nc] at *); (try simp only [Int.ofNat_eq_natCast] at *); (try simp (disch := omega) only [std, wrap64, Int.toNat_natCast, Nat.succ_eq_add_one, Int.natCast_add, Int.natCast_one, decide_eq_true_eq, decide_eq_false_iff_not, Int.not_lt, Int.not_le, Nat.not_lt, Nat.not_le, beq_iff_eq, beq_eq_false_iff_ne, Bool.not_eq_true', Bool.not_eq_false', ne_eq] at *)); subst hr; refine int_eq ?_; unfold needB; omega)
/-- What is shown for a rune. -/
def shownR (r : Int) : Int := if validR r = true ∧ 32 ≤ r ∧ ¬ (127 ≤ r ∧ r ≤ 159) then r else 65533
theorem con_l1Shown (r s : Int) (hs : s = shownR r) : PRet Try.prog 74 [AI r] [RI s] [] := by
  refine pret_of_awp (fn := Try.f74) (c := bodyOf Try.f74) envOk (by kernel_rfl) (by kernel_rfl) (by kernel_rfl) (by kernel_rfl) rfl (by kernel_rfl) (by kernel_rfl) ?_
  intro w0 mine D C L hD hC hL
  obtain ⟨b, hb⟩ := opq (validR r)
  ((try cbv); repeat' (first | (with_reducible refine mS hD ?_; try cbv) | (with_reducible refine mT hD ?_; try cbv) | (with_reducible refine mF hD ?_; try cbv) | (with_reducible refine mB hD (fun _ => ?_) (fun _ => ?_) <;> try cbv) | (with_reducible exact True.intro) | (with_reducible refine And.intro ?_ ?_)))
  refine call_of hD hC (con_l1Valid r b hb) ?_
  ((try cbv); repeat' (first | (with_reducible refine mS hD ?_; try cbv) | (with_reducible refine mT hD ?_; try cbv) | (with_reducible refine mF hD ?_; try cbv) | (with_reducible refine mB hD (fun _ => ?_) (fun _ => ?_) <;> try cbv) | (with_reducible exact True.intro) | (with_reducible refine And.intro ?_ ?_)))
  all_goals ((subst hD; (try simp only [nc] at *); (try simp only [Int.ofNat_eq_natCast] at *); (try simp (disch := omega) only [std, wrap64, Int.toNat_natCast, Nat.succ_eq_add_one, Int.natCast_add, Int.natCast_one, decide_eq_true_eq, decide_eq_false_iff_not, Int.not_lt, Int.not_le, Nat.not_lt, Nat.not_le, beq_iff_eq, beq_eq_false_iff_ne, Bool.not_eq_true', Bool.not_eq_false', ne_eq] at *)); subst hs; refine int_eq ?_; unfold shownR; rw [← hb]; simp_all <;> omega)
theorem con_ValidRune (r : Int) (b : Bool) (hb : b = validR r) : PRet Try.prog 110 [AK .i32 r] [RB b] [] := by
  refine pret_of_awp (fn := Try.f110) (c := bodyOf Try.f110) envOk (by kernel_rfl) (by kernel_rfl) (by kernel_rfl) (by kernel_rfl) rfl (by kernel_rfl) (by kernel_rfl) ?_
  intro w0 mine D C L hD hC hL
  ((try cbv); repeat' (first | (with_reducible refine mS hD ?_; try cbv) | (with_reducible refine mT hD ?_; try cbv) | (with_reducible refine mF hD ?_; try cbv) | (with_reducible refine mB hD (fun _ => ?_) (fun _ => ?_) <;> try cbv) | (with_reducible exact True.intro) | (with_reducible refine And.intro ?_ ?_)))
  all_goals (subst hb; refine congrArg Value.bool ?_; (subst hD; (try simp only [nc] at *); (try simp only [Int.ofNat_eq_natCast] at *); (try simp (disch := omega) only [std, wrap64, Int.toNat_natCast, Nat.succ_eq_add_one, Int.natCast_add, Int.natCast_one, decide_eq_true_eq, decide_eq_false_iff_not, Int.not_lt, Int.not_le, Nat.not_lt, Nat.not_le, beq_iff_eq, beq_eq_false_iff_ne, Bool.not_eq_true', Bool.not_eq_false', ne_eq] at *)); unfold validR; first | (rw [eq_comm, Bool.eq_iff_iff]; simp; omega) | (rw [Bool.eq_iff_iff]; simp; omega))
theorem con_shown (r s : Int) (hs : s = shownR r) : PRet Try.prog 75 [AK .i32 r] [RK .i32 s] [] := by
  refine pret_of_awp (fn := Try.f75) (c := bodyOf Try.f75) envOk (by kernel_rfl) (by kernel_rfl) (by kernel_rfl) (by kernel_rfl) rfl (by kernel_rfl) (by kernel_rfl) ?_
  intro w0 mine D C L hD hC hL
  obtain ⟨b, hb⟩ := opq (validR r)
  ((try cbv); repeat' (first | (with_reducible refine mS hD ?_; try cbv) | (with_reducible refine mT hD ?_; try cbv) | (with_reducible refine mF hD ?_; try cbv) | (with_reducible refine mB hD (fun _ => ?_) (fun _ => ?_) <;> try cbv) | (with_reducible exact True.intro) | (with_reducible refine And.intro ?_ ?_)))
  all_goals try (refine call_of hD hC (con_ValidRune r b hb) ?_; ((try cbv); repeat' (first | (with_reducible refine mS hD ?_; try cbv) | (with_reducible refine mT hD ?_; try cbv) | (with_reducible refine mF hD ?_; try cbv) | (with_reducible refine mB hD (fun _ => ?_) (fun _ => ?_) <;> try cbv) | (with_reducible exact True.intro) | (with_reducible refine And.intro ?_ ?_))))
  all_goals ((subst hD; (try simp only [nc] at *); (try simp only [Int.ofNat_eq_natCast] at *); (try simp (disch := omega) only [std, wrap64, Int.toNat_natCast, Nat.succ_eq_add_one, Int.natCast_add, Int.natCast_one, decide_eq_true_eq, decide_eq_false_iff_not, Int.not_lt, Int.not_le, Nat.not_lt, Nat.not_le, beq_iff_eq, beq_eq_false_iff_ne, Bool.not_eq_true', Bool.not_eq_false', ne_eq] at *)); subst hs; refine int_eq ?_; unfold shownR; rw [← hb]; simp_all <;> omega)
end Go.AW
