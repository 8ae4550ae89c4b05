import Derived.Test.YtkbmgodbnjbhdaaAw26
import Derived.Test.YtkbmgodbnjbhdaaEnv1
namespace Go.AW
open Go.Proofs
set_option maxRecDepth 10000
def l1In (x : Int) (f : Nat → Int) (n : Nat) : Bool := (List.range (n / 2)).any fun i => decide (f (2 * i) ≤ x) && decide (x ≤ f (2 * i + 1))
def ok39 (n : Nat) (f : Nat → Int) (x : Int) (i : Int) : Prop := ∃ j : Nat, i = 2 * (j : Int) ∧ 2 * j ≤ n ∧ ∀ i, i < j → ¬ (f (2 * i) ≤ x ∧ x ≤ f (2 * i + 1))
theorem ok39_next {n : Nat} {f : Nat → Int} {x i : Int} {j : Nat} (h1 : i = 2 * (j : Int)) (h2 : 2 * (j + 1) ≤ n) (h3 : ∀ i, i < j → ¬ (f (2 * i) ≤ x ∧ x ≤ f (2 * i + 1))) (h : ¬ (f (2 * j) ≤ x ∧ x ≤ f (2 * j + 1))) : ok39 n f x (i + 2) := by
  refine ⟨j + 1, by omega, h2, fun i' hi' => ?_⟩
  by_cases he : i' = j
  · subst he; exact h
  · exact h3 i' (by omega)
theorem con39 (z n : Nat) (f : Nat → Int) (x : Int) (hn : n ≤ 1000) : PRet Try.prog 39 [DI x, .c (.l z n (fun i => [.s (.int .i64 (f i))]))] (.one (DB (l1In x f n))) := by
  refine pret_of fun post hp => pcon_of_awp (fn := Try.f39) (c := bodyOf Try.f39) envOk (by kernel_rfl) (by kernel_rfl) (by kernel_rfl) rfl [4] rfl ?_
  intro w0 D C L hD hC hL
  cbv
  refine ⟨Int, fun (i : Int) => ⟨mkS 28 [(0, VI x), (1, .one (.lf (.r n (fun i => [.s (.int .i64 (f i))])))), (4, VB false), (5, VI i)], [], 0⟩, ok39 n f x, fun (j : Int) => ((n : Int) - j).toNat, ⟨0, ⟨0, by simp⟩, ?_⟩, ?_⟩
  · (refine sub_of hL ?_; cbv)
  intro i hi
  ((try cbv); repeat' (first | (refine mB (fun _ => ?_) (fun _ => ?_) <;> try cbv) | refine And.intro ?_ ?_))
  all_goals obtain ⟨j, h4, h5, h6⟩ := hi
  · (subst hD; (try simp only [nc] at *); (try simp only [Int.ofNat_eq_natCast] at *); simp (disch := omega) only [std, wrap64, decide_eq_true_eq, decide_eq_false_iff_not, Int.not_lt, Int.not_le, Nat.not_lt, Nat.not_le, beq_iff_eq, beq_eq_false_iff_ne, Bool.not_eq_true', Bool.not_eq_false', ne_eq] at *); omega
  · (subst hD; (try simp only [nc] at *); (try simp only [Int.ofNat_eq_natCast] at *); simp (disch := omega) only [std, wrap64, decide_eq_true_eq, decide_eq_false_iff_not, Int.not_lt, Int.not_le, Nat.not_lt, Nat.not_le, beq_iff_eq, beq_eq_false_iff_ne, Bool.not_eq_true', Bool.not_eq_false', ne_eq] at *); omega
  · (subst hD; (try simp only [nc] at *); (try simp only [Int.ofNat_eq_natCast] at *); simp (disch := omega) only [std, wrap64, decide_eq_true_eq, decide_eq_false_iff_not, Int.not_lt, Int.not_le, Nat.not_lt, Nat.not_le, beq_iff_eq, beq_eq_false_iff_ne, Bool.not_eq_true', Bool.not_eq_false', ne_eq] at *); omega
  · (subst hD; (try simp only [nc] at *); (try simp only [Int.ofNat_eq_natCast] at *); simp (disch := omega) only [std, wrap64, decide_eq_true_eq, decide_eq_false_iff_not, Int.not_lt, Int.not_le, Nat.not_lt, Nat.not_le, beq_iff_eq, beq_eq_false_iff_ne, Bool.not_eq_true', Bool.not_eq_false', ne_eq] at *); omega
  · (subst hD; (try simp only [nc] at *); (try simp only [Int.ofNat_eq_natCast] at *); simp (disch := omega) only [std, wrap64, decide_eq_true_eq, decide_eq_false_iff_not, Int.not_lt, Int.not_le, Nat.not_lt, Nat.not_le, beq_iff_eq, beq_eq_false_iff_ne, Bool.not_eq_true', Bool.not_eq_false', ne_eq] at *)
    rename_i h1 h2 h3
    have : l1In x f n = true := by
      simp only [l1In, List.any_eq_true, List.mem_range, Bool.and_eq_true, decide_eq_true_eq]
      rw [show i.toNat = 2 * j by omega] at h2
      rw [show (i + 1).toNat = 2 * j + 1 by omega] at h3
      exact ⟨j, by omega, h2, h3⟩
    rw [this] at hp
    exact hp
  · refine ⟨D.addI .i64 i 2, ?_, ?_, ?_⟩
    · (subst hD; (try simp only [nc] at *); (try simp only [Int.ofNat_eq_natCast] at *); simp (disch := omega) only [std, wrap64, decide_eq_true_eq, decide_eq_false_iff_not, Int.not_lt, Int.not_le, Nat.not_lt, Nat.not_le, beq_iff_eq, beq_eq_false_iff_ne, Bool.not_eq_true', Bool.not_eq_false', ne_eq] at *)
      rename_i h1 h2 h3
      refine ok39_next h4 (by omega) h6 ?_
      rw [show 2 * j + 1 = (i + 1).toNat by omega]
      omega
    · (refine sub_of hL ?_; cbv)
    · (subst hD; (try simp only [nc] at *); (try simp only [Int.ofNat_eq_natCast] at *); simp (disch := omega) only [std, wrap64, decide_eq_true_eq, decide_eq_false_iff_not, Int.not_lt, Int.not_le, Nat.not_lt, Nat.not_le, beq_iff_eq, beq_eq_false_iff_ne, Bool.not_eq_true', Bool.not_eq_false', ne_eq] at *)
      omega
  · refine ⟨D.addI .i64 i 2, ?_, ?_, ?_⟩
    · (subst hD; (try simp only [nc] at *); (try simp only [Int.ofNat_eq_natCast] at *); simp (disch := omega) only [std, wrap64, decide_eq_true_eq, decide_eq_false_iff_not, Int.not_lt, Int.not_le, Nat.not_lt, Nat.not_le, beq_iff_eq, beq_eq_false_iff_ne, Bool.not_eq_true', Bool.not_eq_false', ne_eq] at *)
      rename_i h1 h2
      refine ok39_next h4 (by omega) h6 ?_
      rw [show 2 * j = i.toNat by omega]
      omega
    · (refine sub_of hL ?_; cbv)
    · (subst hD; (try simp only [nc] at *); (try simp only [Int.ofNat_eq_natCast] at *); simp (disch := omega) only [std, wrap64, decide_eq_true_eq, decide_eq_false_iff_not, Int.not_lt, Int.not_le, Nat.not_lt, Nat.not_le, beq_iff_eq, beq_eq_false_iff_ne, Bool.not_eq_true', Bool.not_eq_false', ne_eq] at *)
      omega
  · (subst hD; (try simp only [nc] at *); (try simp only [Int.ofNat_eq_natCast] at *); simp (disch := omega) only [std, wrap64, decide_eq_true_eq, decide_eq_false_iff_not, Int.not_lt, Int.not_le, Nat.not_lt, Nat.not_le, beq_iff_eq, beq_eq_false_iff_ne, Bool.not_eq_true', Bool.not_eq_false', ne_eq] at *)
    rename_i h1
    have : l1In x f n = false := by
      simp only [l1In, List.any_eq_false, List.mem_range, Bool.and_eq_true, decide_eq_true_eq]
      exact fun i' hi' => h6 i' (by omega)
    rw [this] at hp
    exact hp
end Go.AW
