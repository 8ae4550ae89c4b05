/- Runes appended. -/
import Derived.Test.YtfidphaoddenlaaK1
set_option linter.unusedVariables false
set_option linter.unusedSimpArgs false
namespace Go.AW
open Go.Proofs
set_option maxRecDepth 100000
theorem con_appendRuneNonASCII (l : List UInt8) (n n' : Nat) (B B' : Nat → Int) (r : Int) (hr : -2147483648 ≤ r ∧ r ≤ 2147483647) (hr2 : r < 0 ∨ 127 < r) (hl : IsB l n B) (hl' : IsB (l ++ enc r) n' B') (hn : n ≤ 1099511627776) :
    PRet Try.prog 107 [.g (.c (dI .u8 n B)), AK .i32 r] [.c (dI .u8 n' B')] [] := by
  refine pret_of_awp (fn := Try.f107) (c := bodyOf Try.f107) envOk (by kernel_rfl) (by kernel_rfl) (by kernel_rfl) (by kernel_rfl) rfl (by kernel_rfl) (by kernel_rfl) ?_
  intro w0 mine D C L hD hC hL
  ((try cbv); repeat' (first | (with_reducible refine mS hD ?_; try cbv) | (with_reducible refine mT hD ?_; try cbv) | (with_reducible refine mF hD ?_; try cbv) | (with_reducible refine mB hD (fun _ => ?_) (fun _ => ?_) <;> try cbv) | (with_reducible exact True.intro) | (with_reducible refine And.intro ?_ ?_)))
  all_goals try exact trivial
  all_goals try (first | exact trivial | assumption | rfl | exact DEq.rfl' _ | ((subst hD; (try simp only [nc] at *); (try simp only [Int.ofNat_eq_natCast] at *); (try simp (disch := omega) only [std, wrap64, Int.toNat_natCast, Nat.succ_eq_add_one, Int.natCast_add, Int.natCast_one, decide_eq_true_eq, decide_eq_false_iff_not, Int.not_lt, Int.not_le, Nat.not_lt, Nat.not_le, beq_iff_eq, beq_eq_false_iff_ne, Bool.not_eq_true', Bool.not_eq_false', ne_eq] at *)) <;> first | omega | exact int_eq (by omega) | assumption | rfl | exact DEq.rfl' _))
  all_goals try (subst hD; exact flat1)
  all_goals first
    | ( have he : enc r = [b8 (192 + r / 64), b8 (128 + r % 64)] ∧ 128 ≤ r ∧ r < 2048 := by (subst hD; (try simp only [nc] at *); (try simp only [Int.ofNat_eq_natCast] at *); (try simp (disch := omega) only [std, wrap64, Int.toNat_natCast, Nat.succ_eq_add_one, Int.natCast_add, Int.natCast_one, decide_eq_true_eq, decide_eq_false_iff_not, Int.not_lt, Int.not_le, Nat.not_lt, Nat.not_le, beq_iff_eq, beq_eq_false_iff_ne, Bool.not_eq_true', Bool.not_eq_false', ne_eq, wU32] at *)); exact ⟨enc_2 (by omega), by omega, by omega⟩
        subst hD
        first
        | exact cat_lit_n hl hl' (by rw [he.1]; rfl)
        | (refine cat_lit_d hl hl' (by rw [he.1]; rfl) ?_
           rw [he.1, shr6 _ bits32, ← lead2 _ (by omega), ← tail8]; rfl))
    | ( have he : enc r = [b8 (224 + r / 4096), b8 (128 + r / 64 % 64), b8 (128 + r % 64)] ∧ 2048 ≤ r ∧ r < 65536 := by (subst hD; (try simp only [nc] at *); (try simp only [Int.ofNat_eq_natCast] at *); (try simp (disch := omega) only [std, wrap64, Int.toNat_natCast, Nat.succ_eq_add_one, Int.natCast_add, Int.natCast_one, decide_eq_true_eq, decide_eq_false_iff_not, Int.not_lt, Int.not_le, Nat.not_lt, Nat.not_le, beq_iff_eq, beq_eq_false_iff_ne, Bool.not_eq_true', Bool.not_eq_false', ne_eq, wU32] at *)); exact ⟨enc_3 (validR_of (by omega)) (by omega), by omega, by omega⟩
        subst hD
        first
        | exact cat_lit_n hl hl' (by rw [he.1]; rfl)
        | (refine cat_lit_d hl hl' (by rw [he.1]; rfl) ?_
           rw [he.1, shr6 _ bits32, shr12 _ bits32, ← lead3 _ (by omega), ← tail8, ← tail8]; rfl))
    | ( have he : enc r = [b8 (240 + r / 262144), b8 (128 + r / 4096 % 64), b8 (128 + r / 64 % 64), b8 (128 + r % 64)] ∧ 65536 ≤ r ∧ r ≤ 1114111 := by (subst hD; (try simp only [nc] at *); (try simp only [Int.ofNat_eq_natCast] at *); (try simp (disch := omega) only [std, wrap64, Int.toNat_natCast, Nat.succ_eq_add_one, Int.natCast_add, Int.natCast_one, decide_eq_true_eq, decide_eq_false_iff_not, Int.not_lt, Int.not_le, Nat.not_lt, Nat.not_le, beq_iff_eq, beq_eq_false_iff_ne, Bool.not_eq_true', Bool.not_eq_false', ne_eq, wU32] at *)); exact ⟨enc_4 (validR_of (by omega)) (by omega), by omega, by omega⟩
        subst hD
        first
        | exact cat_lit_n hl hl' (by rw [he.1]; rfl)
        | (refine cat_lit_d hl hl' (by rw [he.1]; rfl) ?_
           rw [he.1, shr6 _ bits32, shr12 _ bits32, shr18 _ bits32, ← lead4 _ (by omega), ← tail8, ← tail8, ← tail8]; rfl))
    | ( have he : enc r = [239, 191, 189] := by (subst hD; (try simp only [nc] at *); (try simp only [Int.ofNat_eq_natCast] at *); (try simp (disch := omega) only [std, wrap64, Int.toNat_natCast, Nat.succ_eq_add_one, Int.natCast_add, Int.natCast_one, decide_eq_true_eq, decide_eq_false_iff_not, Int.not_lt, Int.not_le, Nat.not_lt, Nat.not_le, beq_iff_eq, beq_eq_false_iff_ne, Bool.not_eq_true', Bool.not_eq_false', ne_eq, wU32] at *)); exact enc_invalid (validR_not (by omega))
        subst hD
        first
        | exact cat_lit_n hl hl' (by rw [he]; rfl)
        | exact cat_lit_d hl hl' (by rw [he]; rfl) (by rw [he]; rfl))
theorem con_AppendRune (l : List UInt8) (n n' : Nat) (B B' : Nat → Int) (r : Int) (hr : -2147483648 ≤ r ∧ r ≤ 2147483647) (hl : IsB l n B) (hl' : IsB (l ++ enc r) n' B') (hn : n ≤ 1099511627776) :
    PRet Try.prog 71 [.g (.c (dI .u8 n B)), AK .i32 r] [.c (dI .u8 n' B')] [] := by
  refine pret_of_awp (fn := Try.f71) (c := bodyOf Try.f71) envOk (by kernel_rfl) (by kernel_rfl) (by kernel_rfl) (by kernel_rfl) rfl (by kernel_rfl) (by kernel_rfl) ?_
  intro w0 mine D C L hD hC hL
  ((try cbv); repeat' (first | (with_reducible refine mS hD ?_; try cbv) | (with_reducible refine mT hD ?_; try cbv) | (with_reducible refine mF hD ?_; try cbv) | (with_reducible refine mB hD (fun _ => ?_) (fun _ => ?_) <;> try cbv) | (with_reducible exact True.intro) | (with_reducible refine And.intro ?_ ?_)))
  all_goals try exact trivial
  all_goals try (first | exact trivial | assumption | rfl | exact DEq.rfl' _ | ((subst hD; (try simp only [nc] at *); (try simp only [Int.ofNat_eq_natCast] at *); (try simp (disch := omega) only [std, wrap64, Int.toNat_natCast, Nat.succ_eq_add_one, Int.natCast_add, Int.natCast_one, decide_eq_true_eq, decide_eq_false_iff_not, Int.not_lt, Int.not_le, Nat.not_lt, Nat.not_le, beq_iff_eq, beq_eq_false_iff_ne, Bool.not_eq_true', Bool.not_eq_false', ne_eq] at *)) <;> first | omega | exact int_eq (by omega) | assumption | rfl | exact DEq.rfl' _))
  all_goals try (subst hD; exact flat1)
  iterate 2
    have he : enc r = [b8 r] ∧ 0 ≤ r ∧ r < 128 := by (subst hD; (try simp only [nc] at *); (try simp only [Int.ofNat_eq_natCast] at *); (try simp (disch := omega) only [std, wrap64, Int.toNat_natCast, Nat.succ_eq_add_one, Int.natCast_add, Int.natCast_one, decide_eq_true_eq, decide_eq_false_iff_not, Int.not_lt, Int.not_le, Nat.not_lt, Nat.not_le, beq_iff_eq, beq_eq_false_iff_ne, Bool.not_eq_true', Bool.not_eq_false', ne_eq, wU32] at *)); exact ⟨enc_1 (by omega), by omega, by omega⟩
    subst hD
    first
    | exact cat_lit_n hl hl' (by rw [he.1]; rfl)
    | (have h1 := (cat_B (k := 1) (g := fun x => [.s (.int .u8 (std.wrapI .u8 r))]) hl (by rw [he.1]; rfl) (fun i hi => by
         obtain rfl : i = 0 := by omega
         rw [he.1, std_wrap, wrapU8 _ (by omega)]
         exact congrArg (fun x => [DV.s (.int .u8 x)]) (b8_toNat _ (by omega)).symm) hl')
       have h2 := h1.2
       rw [← h1.1] at h2
       exact h2)
  refine call_of hD hC (con_appendRuneNonASCII l n n' B B' r hr (by (subst hD; (try simp only [nc] at *); (try simp only [Int.ofNat_eq_natCast] at *); (try simp (disch := omega) only [std, wrap64, Int.toNat_natCast, Nat.succ_eq_add_one, Int.natCast_add, Int.natCast_one, decide_eq_true_eq, decide_eq_false_iff_not, Int.not_lt, Int.not_le, Nat.not_lt, Nat.not_le, beq_iff_eq, beq_eq_false_iff_ne, Bool.not_eq_true', Bool.not_eq_false', ne_eq, wU32] at *)); omega) hl hl' hn) ?_
  ((try cbv); repeat' (first | (with_reducible refine mS hD ?_; try cbv) | (with_reducible refine mT hD ?_; try cbv) | (with_reducible refine mF hD ?_; try cbv) | (with_reducible refine mB hD (fun _ => ?_) (fun _ => ?_) <;> try cbv) | (with_reducible exact True.intro) | (with_reducible refine And.intro ?_ ?_)))
  all_goals try exact trivial
  all_goals try (first | exact trivial | assumption | rfl | exact DEq.rfl' _ | ((subst hD; (try simp only [nc] at *); (try simp only [Int.ofNat_eq_natCast] at *); (try simp (disch := omega) only [std, wrap64, Int.toNat_natCast, Nat.succ_eq_add_one, Int.natCast_add, Int.natCast_one, decide_eq_true_eq, decide_eq_false_iff_not, Int.not_lt, Int.not_le, Nat.not_lt, Nat.not_le, beq_iff_eq, beq_eq_false_iff_ne, Bool.not_eq_true', Bool.not_eq_false', ne_eq] at *)) <;> first | omega | exact int_eq (by omega) | assumption | rfl | exact DEq.rfl' _))
end Go.AW
