/- Runes as bytes: what the functions compute. -/
import Derived.Test.YtfidphaoddenlaaEnv
import Derived.Test.YtfidphaoddenlaaH1
set_option linter.unusedVariables false
set_option linter.unusedSimpArgs false
namespace Go.AW
open Go.Proofs
set_option maxRecDepth 100000
theorem con_l1Valid (r : Int) (b : Bool) (hb : b = validR r) : PRet Try.prog 68 [AI r] [RB b] [] := by
  refine pret_of_awp (fn := Try.f68) (c := bodyOf Try.f68) envOk (by kernel_rfl) (by kernel_rfl) (by kernel_rfl) (by kernel_rfl) rfl (by kernel_rfl) (by kernel_rfl) ?_
  intro w0 mine D C L hD hC hL
  ((try cbv); repeat' (first | (with_reducible refine mS hD ?_; try cbv) | (with_reducible refine mT hD ?_; try cbv) | (with_reducible refine mF hD ?_; try cbv) | (with_reducible refine mB hD (fun _ => ?_) (fun _ => ?_) <;> try cbv) | (with_reducible exact True.intro) | (with_reducible refine And.intro ?_ ?_)))
  all_goals try exact trivial
  all_goals (subst hb; refine congrArg Value.bool ?_; (subst hD; (try simp only [nc] at *); (try simp only [Int.ofNat_eq_natCast] at *); (try simp (disch := omega) only [std, wrap64, Int.toNat_natCast, Nat.succ_eq_add_one, Int.natCast_add, Int.natCast_one, decide_eq_true_eq, decide_eq_false_iff_not, Int.not_lt, Int.not_le, Nat.not_lt, Nat.not_le, beq_iff_eq, beq_eq_false_iff_ne, Bool.not_eq_true', Bool.not_eq_false', ne_eq] at *)); unfold validR; first | (rw [eq_comm, Bool.eq_iff_iff]; simp; omega) | (rw [Bool.eq_iff_iff]; simp; omega))
theorem con_l1Utf8 (r : Int) (s : ByteArray) (hv : validR r = true) (hs : s = Utf8.encode r) : PRet Try.prog 69 [AI r] [RS s] [] := by
  refine pret_of_awp (fn := Try.f69) (c := bodyOf Try.f69) envOk (by kernel_rfl) (by kernel_rfl) (by kernel_rfl) (by kernel_rfl) rfl (by kernel_rfl) (by kernel_rfl) ?_
  intro w0 mine D C L hD hC hL
  ((try cbv); repeat' (first | (with_reducible refine mS hD ?_; try cbv) | (with_reducible refine mT hD ?_; try cbv) | (with_reducible refine mF hD ?_; try cbv) | (with_reducible refine mB hD (fun _ => ?_) (fun _ => ?_) <;> try cbv) | (with_reducible exact True.intro) | (with_reducible refine And.intro ?_ ?_)))
  all_goals try exact trivial
  all_goals try (first | exact trivial | assumption | rfl | exact DEq.rfl' _ | ((subst hD; (try simp only [nc] at *); (try simp only [Int.ofNat_eq_natCast] at *); (try simp (disch := omega) only [std, wrap64, Int.toNat_natCast, Nat.succ_eq_add_one, Int.natCast_add, Int.natCast_one, decide_eq_true_eq, decide_eq_false_iff_not, Int.not_lt, Int.not_le, Nat.not_lt, Nat.not_le, beq_iff_eq, beq_eq_false_iff_ne, Bool.not_eq_true', Bool.not_eq_false', ne_eq] at *)) <;> first | omega | exact int_eq (by omega) | assumption | rfl | exact DEq.rfl' _))
  all_goals (try (subst hD; exact fun i _ => ⟨_, rfl⟩))
  all_goals (
    refine str_eq (str_ext ?_)
    subst hs
    show _ = enc r
    have h0 := hv
    unfold validR at h0
    simp at h0
    (subst hD; (try simp only [nc] at *); (try simp only [Int.ofNat_eq_natCast] at *); (try simp (disch := omega) only [std, wrap64, Int.toNat_natCast, Nat.succ_eq_add_one, Int.natCast_add, Int.natCast_one, decide_eq_true_eq, decide_eq_false_iff_not, Int.not_lt, Int.not_le, Nat.not_lt, Nat.not_le, beq_iff_eq, beq_eq_false_iff_ne, Bool.not_eq_true', Bool.not_eq_false', ne_eq, wU8, quo64, rem64] at *))
    first
    | rw [enc_1 (by omega)]
    | rw [enc_2 (by omega)]
    | rw [enc_3 hv (by omega)]
    | rw [enc_4 hv (by omega)])
  · show [b8 _] = _
    refine congrArg (fun x => [b8 x]) ?_
    omega
  · show [b8 _, b8 _] = _
    exact congr (congrArg _ (congrArg b8 (by simp (disch := omega) only [List.getD_cons_zero, List.getD_cons_succ, Int.tdiv_eq_ediv_of_nonneg, Int.tmod_eq_emod_of_nonneg, wrap64] <;> omega))) (congrArg (fun x => [b8 x]) (by simp (disch := omega) only [List.getD_cons_zero, List.getD_cons_succ, Int.tdiv_eq_ediv_of_nonneg, Int.tmod_eq_emod_of_nonneg, wrap64] <;> omega))
  · show [b8 _, b8 _, b8 _] = _
    exact congr (congrArg _ (congrArg b8 (by simp (disch := omega) only [List.getD_cons_zero, List.getD_cons_succ, Int.tdiv_eq_ediv_of_nonneg, Int.tmod_eq_emod_of_nonneg, wrap64] <;> omega))) (congr (congrArg _ (congrArg b8 (by simp (disch := omega) only [List.getD_cons_zero, List.getD_cons_succ, Int.tdiv_eq_ediv_of_nonneg, Int.tmod_eq_emod_of_nonneg, wrap64] <;> omega))) (congrArg (fun x => [b8 x]) (by simp (disch := omega) only [List.getD_cons_zero, List.getD_cons_succ, Int.tdiv_eq_ediv_of_nonneg, Int.tmod_eq_emod_of_nonneg, wrap64] <;> omega)))
  · show [b8 _, b8 _, b8 _, b8 _] = _
    exact congr (congrArg _ (congrArg b8 (by simp (disch := omega) only [List.getD_cons_zero, List.getD_cons_succ, Int.tdiv_eq_ediv_of_nonneg, Int.tmod_eq_emod_of_nonneg, wrap64] <;> omega))) (congr (congrArg _ (congrArg b8 (by simp (disch := omega) only [List.getD_cons_zero, List.getD_cons_succ, Int.tdiv_eq_ediv_of_nonneg, Int.tmod_eq_emod_of_nonneg, wrap64] <;> omega))) (congr (congrArg _ (congrArg b8 (by simp (disch := omega) only [List.getD_cons_zero, List.getD_cons_succ, Int.tdiv_eq_ediv_of_nonneg, Int.tmod_eq_emod_of_nonneg, wrap64] <;> omega))) (congrArg (fun x => [b8 x]) (by simp (disch := omega) only [List.getD_cons_zero, List.getD_cons_succ, Int.tdiv_eq_ediv_of_nonneg, Int.tmod_eq_emod_of_nonneg, wrap64] <;> omega))))
end Go.AW
