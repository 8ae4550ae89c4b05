/- Lines and histories: settled texts. -/
import Derived.Test.YtkimeddfdcjlpaaG5
set_option linter.unusedVariables false
set_option linter.unusedSimpArgs false
set_option linter.unusedVariables false
set_option linter.unusedSimpArgs false
namespace Go.AW
open Go.Proofs
set_option maxRecDepth 100000
set_option maxHeartbeats 4000000
/-- A text that is settled and has at most m runes. -/
def within (s : Str) (m : Int) : Bool := decide ((s.length : Int) ≤ 4 * m) && decide (((runesOf s).length : Int) ≤ m) && (settleT s == s)
theorem within_not {s : Str} {m : Int} (h : 4 * m < (s.length : Int) ∨ m < ((runesOf s).length : Int)) : within s m = false := by
  unfold within
  rcases h with h | h
  · rw [decide_eq_false (by omega : ¬ (s.length : Int) ≤ 4 * m)]; rfl
  · rw [decide_eq_false (by omega : ¬ ((runesOf s).length : Int) ≤ m), Bool.and_false]; rfl
theorem within_eq {s : Str} {m : Int} (h : (s.length : Int) ≤ 4 * m ∧ ((runesOf s).length : Int) ≤ m) : within s m = (settleT s == s) := by
  unfold within
  rw [decide_eq_true h.1, decide_eq_true h.2]
  rfl
structure CtI (b : Str) (s : Nat × Nat) : Prop where
  h1 : s.1 ≤ b.length
  h2 : s.2 + (runesOf (b.drop s.1)).length = (runesOf b).length
  h3 : s.2 ≤ s.1
theorem CtI.step {b : Str} {s : Nat × Nat} (h : CtI b s) (hi : s.1 < b.length) : CtI b (s.1 + (dec (b.drop s.1)).2, s.2 + 1) := by
  have hp : 0 < (b.drop s.1).length := by rw [List.length_drop]; omega
  have hw := dec_width hp
  rw [List.length_drop] at hw
  refine ⟨by simp only; omega, ?_, by simp only; have := h.h3; omega⟩
  have := h.h2
  rw [runesOf_cons hp, List.drop_drop] at this
  simp only [List.length_cons] at this ⊢
  omega
theorem CtI.fin {b : Str} {s : Nat × Nat} (h : CtI b s) (hi : ¬ s.1 < b.length) : s.2 = (runesOf b).length := by
  have := h.h2
  rw [List.drop_eq_nil_of_le (by omega), runesOf_nil] at this
  simpa using this
theorem x_RuneCountInString (b : Str) (hn : b.length ≤ 1000000000) : PX Try.prog 110 (fun D u => [.r (.c (.s (.string (D.strB (u _ b)))))]) (fun D u => [RI (u _ ((runesOf b).length))]) (fun D u => []) := by
  refine px_of_awp (fn := Try.f110) (c := bodyOf Try.f110) envOk (by kernel_rfl) (by kernel_rfl) (by kernel_rfl) (by kernel_rfl) rfl (by kernel_rfl) (by kernel_rfl) ?_
  intro w0 mine D u C L hD hu hC hL
  ((try conv => cbv); (repeat' (first | (with_reducible refine mK hD ?_; kernel_rfl) | (with_reducible first | refine mS hD ?_ | refine mJ hL ?_ | refine mT hD ?_ | refine mF hD ?_ | refine mB hD (fun _ => ?_) (fun _ => ?_) | exact True.intro | refine And.intro ?_ ?_) <;> try conv => cbv)); all_goals try (first | trivial | (subst hD; first | exact fun _ _ => ⟨_, rfl⟩ | exact fl1 | exact fl1') | (((try subst hD hu); (try simp only [nc] at *); (try simp only [Int.ofNat_eq_natCast] at *); try simp (disch := omega) only [std, uid, S0] at *) <;> first | omega | rfl | (exfalso; simp_all only [Bool.true_eq_false, Bool.false_eq_true]; done))))
  refine loop_mu hL (CtI b) (fun s => b.length - s.1) (0, 0) (fun s => [(2, VI (u _ (s.2)))]) (fun s => [(0, .it (D.strB (u _ b)) (u _ (s.1)))]) ⟨by simp, by simp, by simp⟩ ?_ ?_
  · ((try conv => cbv); (repeat' (first | (with_reducible refine mK hD ?_; kernel_rfl) | (with_reducible first | refine mS hD ?_ | refine mJ hL ?_ | refine mT hD ?_ | refine mF hD ?_ | refine mB hD (fun _ => ?_) (fun _ => ?_) | exact True.intro | refine And.intro ?_ ?_) <;> try conv => cbv)); all_goals try (first | trivial | (subst hD; first | exact fun _ _ => ⟨_, rfl⟩ | exact fl1 | exact fl1') | (((try subst hD hu); (try simp only [nc] at *); (try simp only [Int.ofNat_eq_natCast] at *); try simp (disch := omega) only [std, uid, S0] at *) <;> first | omega | rfl | (exfalso; simp_all only [Bool.true_eq_false, Bool.false_eq_true]; done))))
  · intro s hs
    have h1 := hs.h1
    have h3 := hs.h3
    ((try conv => cbv); (repeat' (first | (with_reducible refine mK hD ?_; kernel_rfl) | (with_reducible first | refine mS hD ?_ | refine mJ hL ?_ | refine mT hD ?_ | refine mF hD ?_ | refine mB hD (fun _ => ?_) (fun _ => ?_) | exact True.intro | refine And.intro ?_ ?_) <;> try conv => cbv)); all_goals try (first | trivial | (subst hD; first | exact fun _ _ => ⟨_, rfl⟩ | exact fl1 | exact fl1') | (((try subst hD hu); (try simp only [nc] at *); (try simp only [Int.ofNat_eq_natCast] at *); try simp (disch := omega) only [std, uid, S0] at *) <;> first | omega | rfl | (exfalso; simp_all only [Bool.true_eq_false, Bool.false_eq_true]; done))))
    · have hi : s.1 < b.length := by ((try subst hD hu); (try simp only [nc] at *); (try simp only [Int.ofNat_eq_natCast] at *); try simp (disch := omega) only [std, uid, S0] at *); omega
      have hp : 0 < (b.drop s.1).length := by rw [List.length_drop]; omega
      have hw := dec_width hp
      rw [List.length_drop] at hw
      obtain ⟨hda1, hda2⟩ := dec_at hi
      refine ⟨_, hs.step hi, ssem_of ?_, by simp only; omega⟩
      ((try conv => cbv); (repeat' (first | (with_reducible refine mK hD ?_; kernel_rfl) | (with_reducible first | refine mS hD ?_ | refine mJ hL ?_ | refine mT hD ?_ | refine mF hD ?_ | refine mB hD (fun _ => ?_) (fun _ => ?_) | exact True.intro | refine And.intro ?_ ?_) <;> try conv => cbv)); all_goals try (first | trivial | (subst hD; first | exact fun _ _ => ⟨_, rfl⟩ | exact fl1 | exact fl1') | (((try subst hD hu); (try simp only [nc] at *); (try simp only [Int.ofNat_eq_natCast] at *); try simp (disch := omega) only [std, uid, S0] at *) <;> first | omega | rfl | (exfalso; simp_all only [Bool.true_eq_false, Bool.false_eq_true]; done))))
    · have := hs.fin (by ((try subst hD hu); (try simp only [nc] at *); (try simp only [Int.ofNat_eq_natCast] at *); try simp (disch := omega) only [std, uid, S0] at *); omega)
      ((try subst hD hu); (try simp only [nc] at *); (try simp only [Int.ofNat_eq_natCast] at *); try simp (disch := omega) only [std, uid, S0] at *)
      omega
theorem x_l4Count (s : Str) (hn : s.length ≤ 100000000) : PX Try.prog 97 (fun D u => [.r (.c (.s (.string (D.strB (u _ s)))))]) (fun D u => [RI (u _ ((runesOf s).length))]) (fun D u => []) := by
  refine px_of_awp (fn := Try.f97) (c := bodyOf Try.f97) envOk (by kernel_rfl) (by kernel_rfl) (by kernel_rfl) (by kernel_rfl) rfl (by kernel_rfl) (by kernel_rfl) ?_
  intro w0 mine D u C L hD hu hC hL
  have h1 := clean_len s
  have h2 : (clean s).length = (runesOf s).length := by simp [clean]
  ((try conv => cbv); (repeat' (first | (with_reducible refine mK hD ?_; kernel_rfl) | (with_reducible first | refine mS hD ?_ | refine mJ hL ?_ | refine mT hD ?_ | refine mF hD ?_ | refine mB hD (fun _ => ?_) (fun _ => ?_) | exact True.intro | refine And.intro ?_ ?_) <;> try conv => cbv)); all_goals try (first | trivial | (subst hD; first | exact fun _ _ => ⟨_, rfl⟩ | exact fl1 | exact fl1') | (((try subst hD hu); (try simp only [nc] at *); (try simp only [Int.ofNat_eq_natCast] at *); try simp (disch := omega) only [std, uid, S0] at *) <;> first | omega | rfl | (exfalso; simp_all only [Bool.true_eq_false, Bool.false_eq_true]; done))))
  refine callx hD hu hC (x_specClean s (by omega)) ?_
  ((try conv => cbv); (repeat' (first | (with_reducible refine mK hD ?_; kernel_rfl) | (with_reducible first | refine mS hD ?_ | refine mJ hL ?_ | refine mT hD ?_ | refine mF hD ?_ | refine mB hD (fun _ => ?_) (fun _ => ?_) | exact True.intro | refine And.intro ?_ ?_) <;> try conv => cbv)); all_goals try (first | trivial | (subst hD; first | exact fun _ _ => ⟨_, rfl⟩ | exact fl1 | exact fl1') | (((try subst hD hu); (try simp only [nc] at *); (try simp only [Int.ofNat_eq_natCast] at *); try simp (disch := omega) only [std, uid, S0] at *) <;> first | omega | rfl | (exfalso; simp_all only [Bool.true_eq_false, Bool.false_eq_true]; done))))
theorem x_l4TextOk (s : Str) (m : Int) (hn : s.length ≤ 100000000) (hm : 0 ≤ m ∧ m ≤ 1000000) : PX Try.prog 43 (fun D u => [.r (.c (.s (.string (D.strB (u _ s))))), AI (u _ m)]) (fun D u => [RB (u _ (within s m))]) (fun D u => []) := by
  refine px_of_awp (fn := Try.f43) (c := bodyOf Try.f43) envOk (by kernel_rfl) (by kernel_rfl) (by kernel_rfl) (by kernel_rfl) rfl (by kernel_rfl) (by kernel_rfl) ?_
  intro w0 mine D u C L hD hu hC hL
  ((try conv => cbv); (repeat' (first | (with_reducible refine mK hD ?_; kernel_rfl) | (with_reducible first | refine mS hD ?_ | refine mJ hL ?_ | refine mT hD ?_ | refine mF hD ?_ | refine mB hD (fun _ => ?_) (fun _ => ?_) | exact True.intro | refine And.intro ?_ ?_) <;> try conv => cbv)); all_goals try (first | trivial | (subst hD; first | exact fun _ _ => ⟨_, rfl⟩ | exact fl1 | exact fl1') | (((try subst hD hu); (try simp only [nc] at *); (try simp only [Int.ofNat_eq_natCast] at *); try simp (disch := omega) only [std, uid, S0] at *) <;> first | omega | rfl | (exfalso; simp_all only [Bool.true_eq_false, Bool.false_eq_true]; done))))
  all_goals try (refine callx hD hu hC (x_l4Count s hn) ?_; ((try conv => cbv); (repeat' (first | (with_reducible refine mK hD ?_; kernel_rfl) | (with_reducible first | refine mS hD ?_ | refine mJ hL ?_ | refine mT hD ?_ | refine mF hD ?_ | refine mB hD (fun _ => ?_) (fun _ => ?_) | exact True.intro | refine And.intro ?_ ?_) <;> try conv => cbv)); all_goals try (first | trivial | (subst hD; first | exact fun _ _ => ⟨_, rfl⟩ | exact fl1 | exact fl1') | (((try subst hD hu); (try simp only [nc] at *); (try simp only [Int.ofNat_eq_natCast] at *); try simp (disch := omega) only [std, uid, S0] at *) <;> first | omega | rfl | (exfalso; simp_all only [Bool.true_eq_false, Bool.false_eq_true]; done)))))
  all_goals try (refine callx hD hu hC (x_specSettle s hn) ?_; ((try conv => cbv); (repeat' (first | (with_reducible refine mK hD ?_; kernel_rfl) | (with_reducible first | refine mS hD ?_ | refine mJ hL ?_ | refine mT hD ?_ | refine mF hD ?_ | refine mB hD (fun _ => ?_) (fun _ => ?_) | exact True.intro | refine And.intro ?_ ?_) <;> try conv => cbv)); all_goals try (first | trivial | (subst hD; first | exact fun _ _ => ⟨_, rfl⟩ | exact fl1 | exact fl1') | (((try subst hD hu); (try simp only [nc] at *); (try simp only [Int.ofNat_eq_natCast] at *); try simp (disch := omega) only [std, uid, S0] at *) <;> first | omega | rfl | (exfalso; simp_all only [Bool.true_eq_false, Bool.false_eq_true]; done)))))
  all_goals (((try subst hD hu); (try simp only [nc] at *); (try simp only [Int.ofNat_eq_natCast] at *); try simp (disch := omega) only [std, uid, S0] at *); first | exact (within_not (by omega)).symm | exact (within_eq (by omega)).symm)
theorem x_settledWithin (s : Str) (m : Int) (hn : s.length ≤ 100000000) (hm : 0 ≤ m ∧ m ≤ 1000000) : PX Try.prog 49 (fun D u => [.r (.c (.s (.string (D.strB (u _ s))))), AI (u _ m)]) (fun D u => [RB (u _ (within s m))]) (fun D u => []) := by
  refine px_of_awp (fn := Try.f49) (c := bodyOf Try.f49) envOk (by kernel_rfl) (by kernel_rfl) (by kernel_rfl) (by kernel_rfl) rfl (by kernel_rfl) (by kernel_rfl) ?_
  intro w0 mine D u C L hD hu hC hL
  ((try conv => cbv); (repeat' (first | (with_reducible refine mK hD ?_; kernel_rfl) | (with_reducible first | refine mS hD ?_ | refine mJ hL ?_ | refine mT hD ?_ | refine mF hD ?_ | refine mB hD (fun _ => ?_) (fun _ => ?_) | exact True.intro | refine And.intro ?_ ?_) <;> try conv => cbv)); all_goals try (first | trivial | (subst hD; first | exact fun _ _ => ⟨_, rfl⟩ | exact fl1 | exact fl1') | (((try subst hD hu); (try simp only [nc] at *); (try simp only [Int.ofNat_eq_natCast] at *); try simp (disch := omega) only [std, uid, S0] at *) <;> first | omega | rfl | (exfalso; simp_all only [Bool.true_eq_false, Bool.false_eq_true]; done))))
  · refine callx hD hu hC (x_RuneCountInString s (by omega)) ?_
    ((try conv => cbv); (repeat' (first | (with_reducible refine mK hD ?_; kernel_rfl) | (with_reducible first | refine mS hD ?_ | refine mJ hL ?_ | refine mT hD ?_ | refine mF hD ?_ | refine mB hD (fun _ => ?_) (fun _ => ?_) | exact True.intro | refine And.intro ?_ ?_) <;> try conv => cbv)); all_goals try (first | trivial | (subst hD; first | exact fun _ _ => ⟨_, rfl⟩ | exact fl1 | exact fl1') | (((try subst hD hu); (try simp only [nc] at *); (try simp only [Int.ofNat_eq_natCast] at *); try simp (disch := omega) only [std, uid, S0] at *) <;> first | omega | rfl | (exfalso; simp_all only [Bool.true_eq_false, Bool.false_eq_true]; done))))
    all_goals try (refine callx hD hu hC (x_implSettle s hn) ?_; ((try conv => cbv); (repeat' (first | (with_reducible refine mK hD ?_; kernel_rfl) | (with_reducible first | refine mS hD ?_ | refine mJ hL ?_ | refine mT hD ?_ | refine mF hD ?_ | refine mB hD (fun _ => ?_) (fun _ => ?_) | exact True.intro | refine And.intro ?_ ?_) <;> try conv => cbv)); all_goals try (first | trivial | (subst hD; first | exact fun _ _ => ⟨_, rfl⟩ | exact fl1 | exact fl1') | (((try subst hD hu); (try simp only [nc] at *); (try simp only [Int.ofNat_eq_natCast] at *); try simp (disch := omega) only [std, uid, S0] at *) <;> first | omega | rfl | (exfalso; simp_all only [Bool.true_eq_false, Bool.false_eq_true]; done)))))
    all_goals (((try subst hD hu); (try simp only [nc] at *); (try simp only [Int.ofNat_eq_natCast] at *); try simp (disch := omega) only [std, uid, S0] at *); first | exact (within_not (by omega)).symm | exact (within_eq (by omega)).symm)
  · ((try subst hD hu); (try simp only [nc] at *); (try simp only [Int.ofNat_eq_natCast] at *); try simp (disch := omega) only [std, uid, S0] at *)
    exact (within_not (by omega)).symm
end Go.AW
/- LineOk on both sides. -/
set_option linter.unusedVariables false
set_option linter.unusedSimpArgs false
namespace Go.AW
open Go.Proofs
set_option maxRecDepth 100000
set_option maxHeartbeats 4000000
def snapB (s : Snp) : Bool := within s.left 300 && within s.right 300 && decide (((runesOf s.left).length : Int) + (runesOf s.right).length ≤ 300)
structure LinOk (l : Lin) : Prop where
  undo : l.undo.length ≤ 50
  cur : snapB ⟨l.left, l.right⟩ = true
  kill : snapB ⟨l.kill, []⟩ = true
  all : ∀ i, i < l.undo.length → snapB (l.undo.getD i dSnp) = true
noncomputable def lineOk (l : Lin) : Bool := @decide (LinOk l) (Classical.propDecidable _)
theorem lineOk_iff (l : Lin) : lineOk l = true ↔ LinOk l := by unfold lineOk; exact @decide_eq_true_iff _ (Classical.propDecidable _)
theorem lineOk_not {l : Lin} (hn : ¬ LinOk l) : lineOk l = false := by
  cases e : lineOk l with
  | false => rfl
  | true => exact absurd ((lineOk_iff l).mp e) hn
theorem x_snapOk (s : Snp) (h1 : s.left.length ≤ 100000000) (h2 : s.right.length ≤ 100000000) : PX Try.prog 109 (fun D u => [.r (.a (rSnp D u (u _ s)))]) (fun D u => [RB (u _ (snapB s))]) (fun D u => []) := by
  refine px_of_awp (fn := Try.f109) (c := bodyOf Try.f109) envOk (by kernel_rfl) (by kernel_rfl) (by kernel_rfl) (by kernel_rfl) rfl (by kernel_rfl) (by kernel_rfl) ?_
  intro w0 mine D u C L hD hu hC hL
  have hr1 := runesOf_len s.left
  have hr2 := runesOf_len s.right
  ((try conv => cbv); (repeat' (first | (with_reducible refine mK hD ?_; kernel_rfl) | (with_reducible first | refine mS hD ?_ | refine mJ hL ?_ | refine mT hD ?_ | refine mF hD ?_ | refine mB hD (fun _ => ?_) (fun _ => ?_) | exact True.intro | refine And.intro ?_ ?_) <;> try conv => cbv)); all_goals try (first | trivial | (subst hD; first | exact fun _ _ => ⟨_, rfl⟩ | exact fl1 | exact fl1') | (((try subst hD hu); (try simp only [nc] at *); (try simp only [Int.ofNat_eq_natCast] at *); try simp (disch := omega) only [std, uid, S0] at *) <;> first | omega | rfl | (exfalso; simp_all only [Bool.true_eq_false, Bool.false_eq_true]; done))))
  refine callx hD hu hC (x_settledWithin s.left 300 h1 (by omega)) ?_
  ((try conv => cbv); (repeat' (first | (with_reducible refine mK hD ?_; kernel_rfl) | (with_reducible first | refine mS hD ?_ | refine mJ hL ?_ | refine mT hD ?_ | refine mF hD ?_ | refine mB hD (fun _ => ?_) (fun _ => ?_) | exact True.intro | refine And.intro ?_ ?_) <;> try conv => cbv)); all_goals try (first | trivial | (subst hD; first | exact fun _ _ => ⟨_, rfl⟩ | exact fl1 | exact fl1') | (((try subst hD hu); (try simp only [nc] at *); (try simp only [Int.ofNat_eq_natCast] at *); try simp (disch := omega) only [std, uid, S0] at *) <;> first | omega | rfl | (exfalso; simp_all only [Bool.true_eq_false, Bool.false_eq_true]; done))))
  · refine callx hD hu hC (x_settledWithin s.right 300 h2 (by omega)) ?_
    ((try conv => cbv); (repeat' (first | (with_reducible refine mK hD ?_; kernel_rfl) | (with_reducible first | refine mS hD ?_ | refine mJ hL ?_ | refine mT hD ?_ | refine mF hD ?_ | refine mB hD (fun _ => ?_) (fun _ => ?_) | exact True.intro | refine And.intro ?_ ?_) <;> try conv => cbv)); all_goals try (first | trivial | (subst hD; first | exact fun _ _ => ⟨_, rfl⟩ | exact fl1 | exact fl1') | (((try subst hD hu); (try simp only [nc] at *); (try simp only [Int.ofNat_eq_natCast] at *); try simp (disch := omega) only [std, uid, S0] at *) <;> first | omega | rfl | (exfalso; simp_all only [Bool.true_eq_false, Bool.false_eq_true]; done))))
    · refine callx hD hu hC (x_RuneCountInString s.left (by omega)) ?_
      ((try conv => cbv); (repeat' (first | (with_reducible refine mK hD ?_; kernel_rfl) | (with_reducible first | refine mS hD ?_ | refine mJ hL ?_ | refine mT hD ?_ | refine mF hD ?_ | refine mB hD (fun _ => ?_) (fun _ => ?_) | exact True.intro | refine And.intro ?_ ?_) <;> try conv => cbv)); all_goals try (first | trivial | (subst hD; first | exact fun _ _ => ⟨_, rfl⟩ | exact fl1 | exact fl1') | (((try subst hD hu); (try simp only [nc] at *); (try simp only [Int.ofNat_eq_natCast] at *); try simp (disch := omega) only [std, uid, S0] at *) <;> first | omega | rfl | (exfalso; simp_all only [Bool.true_eq_false, Bool.false_eq_true]; done))))
      refine callx hD hu hC (x_RuneCountInString s.right (by omega)) ?_
      ((try conv => cbv); (repeat' (first | (with_reducible refine mK hD ?_; kernel_rfl) | (with_reducible first | refine mS hD ?_ | refine mJ hL ?_ | refine mT hD ?_ | refine mF hD ?_ | refine mB hD (fun _ => ?_) (fun _ => ?_) | exact True.intro | refine And.intro ?_ ?_) <;> try conv => cbv)); all_goals try (first | trivial | (subst hD; first | exact fun _ _ => ⟨_, rfl⟩ | exact fl1 | exact fl1') | (((try subst hD hu); (try simp only [nc] at *); (try simp only [Int.ofNat_eq_natCast] at *); try simp (disch := omega) only [std, uid, S0] at *) <;> first | omega | rfl | (exfalso; simp_all only [Bool.true_eq_false, Bool.false_eq_true]; done))))
      all_goals (((try subst hD hu); (try simp only [nc] at *); (try simp only [Int.ofNat_eq_natCast] at *); try simp (disch := omega) only [std, uid, S0, snapB] at *); simp_all)
    · ((try subst hD hu); (try simp only [nc] at *); (try simp only [Int.ofNat_eq_natCast] at *); try simp (disch := omega) only [std, uid, S0, snapB] at *)
      simp_all
  · ((try subst hD hu); (try simp only [nc] at *); (try simp only [Int.ofNat_eq_natCast] at *); try simp (disch := omega) only [std, uid, S0, snapB] at *)
    simp_all
theorem LR_lit2 (a b c d : Str) : LR (rSnp std uid) dSnp (fun j => List.map (fun c => c j) [fun i => DV.s (.string (std.nthS [std.strB a, std.strB b] i)), fun i => DV.s (.string (std.nthS [std.strB c, std.strB d] i))]) 2 [⟨a, c⟩, ⟨b, d⟩] := by
  refine ⟨rfl, fun i hi => ?_⟩
  match i, hi with
  | 0, _ => exact aLe_rfl _
  | 1, _ => exact aLe_rfl _
theorem x_implLineOk (l : Lin) (hb : bdELin 100000000 l) (hk : okLin l) : PX Try.prog 48 (fun D u => [.r (.a (rLin D u (u _ l)))]) (fun D u => [RB (u _ (lineOk l))]) (fun D u => []) := by
  refine px_of_awp (fn := Try.f48) (c := bodyOf Try.f48) envOk (by kernel_rfl) (by kernel_rfl) (by kernel_rfl) (by kernel_rfl) rfl (by kernel_rfl) (by kernel_rfl) ?_
  intro w0 mine D u C L hD hu hC hL
  have hb1 := hb.1
  have hb2 := hb.2.1
  have hb3 := hb.2.2.1
  have hb4 := hb.2.2.2
  ((try conv => cbv); (repeat' (first | (with_reducible refine mK hD ?_; kernel_rfl) | (with_reducible first | refine mS hD ?_ | refine mJ hL ?_ | refine mT hD ?_ | refine mF hD ?_ | refine mB hD (fun _ => ?_) (fun _ => ?_) | exact True.intro | refine And.intro ?_ ?_) <;> try conv => cbv)); all_goals try (first | trivial | (subst hD; first | exact fun _ _ => ⟨_, rfl⟩ | exact fl1 | exact fl1') | (((try subst hD hu); (try simp only [nc] at *); (try simp only [Int.ofNat_eq_natCast] at *); try simp (disch := omega) only [std, uid, S0] at *) <;> first | omega | rfl | (exfalso; simp_all only [Bool.true_eq_false, Bool.false_eq_true]; done))))
  · have hn : ¬ LinOk l := fun h => by have := h.undo; ((try subst hD hu); (try simp only [nc] at *); (try simp only [Int.ofNat_eq_natCast] at *); try simp (disch := omega) only [std, uid, S0] at *); omega
    ((try subst hD hu); (try simp only [nc] at *); (try simp only [Int.ofNat_eq_natCast] at *); try simp (disch := omega) only [std, uid, S0, lineOk_not hn] at *)
  · have hu1 : l.undo.length ≤ 50 := by ((try subst hD hu); (try simp only [nc] at *); (try simp only [Int.ofNat_eq_natCast] at *); try simp (disch := omega) only [std, uid, S0] at *); omega
    refine callx hD hu hC (x_snapOk ⟨l.left, l.right⟩ hb1 hb2) ?_
    ((try conv => cbv); (repeat' (first | (with_reducible refine mK hD ?_; kernel_rfl) | (with_reducible first | refine mS hD ?_ | refine mJ hL ?_ | refine mT hD ?_ | refine mF hD ?_ | refine mB hD (fun _ => ?_) (fun _ => ?_) | exact True.intro | refine And.intro ?_ ?_) <;> try conv => cbv)); all_goals try (first | trivial | (subst hD; first | exact fun _ _ => ⟨_, rfl⟩ | exact fl1 | exact fl1') | (((try subst hD hu); (try simp only [nc] at *); (try simp only [Int.ofNat_eq_natCast] at *); try simp (disch := omega) only [std, uid, S0] at *) <;> first | omega | rfl | (exfalso; simp_all only [Bool.true_eq_false, Bool.false_eq_true]; done))))
    · refine callx hD hu hC (x_snapOk ⟨l.kill, []⟩ hb3 (by simp)) ?_
      ((try conv => cbv); (repeat' (first | (with_reducible refine mK hD ?_; kernel_rfl) | (with_reducible first | refine mS hD ?_ | refine mJ hL ?_ | refine mT hD ?_ | refine mF hD ?_ | refine mB hD (fun _ => ?_) (fun _ => ?_) | exact True.intro | refine And.intro ?_ ?_) <;> try conv => cbv)); all_goals try (first | trivial | (subst hD; first | exact fun _ _ => ⟨_, rfl⟩ | exact fl1 | exact fl1') | (((try subst hD hu); (try simp only [nc] at *); (try simp only [Int.ofNat_eq_natCast] at *); try simp (disch := omega) only [std, uid, S0] at *) <;> first | omega | rfl | (exfalso; simp_all only [Bool.true_eq_false, Bool.false_eq_true]; done))))
      all_goals try ((subst hD hu; (try simp only [std, uid, rR, rB, rT, rN, rClu, rCel, rSnp, rKey, rCluS, rCelS, lR, lB, lT, lN, lClu, lCel, eL, dClu, dCel, dSnp, dKey, Int.toNat_natCast, Int.ofNat_eq_natCast]) <;> rfl))
      · have hc : snapB ⟨l.left, l.right⟩ = true := by ((try subst hD hu); (try simp only [nc] at *); (try simp only [Int.ofNat_eq_natCast] at *); try simp (disch := omega) only [std, uid, S0] at *); assumption
        have hki : snapB ⟨l.kill, []⟩ = true := by ((try subst hD hu); (try simp only [nc] at *); (try simp only [Int.ofNat_eq_natCast] at *); try simp (disch := omega) only [std, uid, S0] at *); assumption
        refine loop_st hL l.undo.length (fun k (_ : Unit) => ∀ i, i < k → snapB (l.undo.getD i dSnp) = true) () (fun k _ => [(28, VI (u _ k))]) (fun k _ => []) (fun i hi => absurd hi (Nat.not_lt_zero i)) ?_ ?_
        · ((try conv => cbv); (repeat' (first | (with_reducible refine mK hD ?_; kernel_rfl) | (with_reducible first | refine mS hD ?_ | refine mJ hL ?_ | refine mT hD ?_ | refine mF hD ?_ | refine mB hD (fun _ => ?_) (fun _ => ?_) | exact True.intro | refine And.intro ?_ ?_) <;> try conv => cbv)); all_goals try (first | trivial | (subst hD; first | exact fun _ _ => ⟨_, rfl⟩ | exact fl1 | exact fl1') | (((try subst hD hu); (try simp only [nc] at *); (try simp only [Int.ofNat_eq_natCast] at *); try simp (disch := omega) only [std, uid, S0] at *) <;> first | omega | rfl | (exfalso; simp_all only [Bool.true_eq_false, Bool.false_eq_true]; done))))
        · intro k _ hkk hit
          ((try conv => cbv); (repeat' (first | (with_reducible refine mK hD ?_; kernel_rfl) | (with_reducible first | refine mS hD ?_ | refine mJ hL ?_ | refine mT hD ?_ | refine mF hD ?_ | refine mB hD (fun _ => ?_) (fun _ => ?_) | exact True.intro | refine And.intro ?_ ?_) <;> try conv => cbv)); all_goals try (first | trivial | (subst hD; first | exact fun _ _ => ⟨_, rfl⟩ | exact fl1 | exact fl1') | (((try subst hD hu); (try simp only [nc] at *); (try simp only [Int.ofNat_eq_natCast] at *); try simp (disch := omega) only [std, uid, S0] at *) <;> first | omega | rfl | (exfalso; simp_all only [Bool.true_eq_false, Bool.false_eq_true]; done))))
          · have hkn : k < l.undo.length := by ((try subst hD hu); (try simp only [nc] at *); (try simp only [Int.ofNat_eq_natCast] at *); try simp (disch := omega) only [std, uid, S0] at *); omega
            have hx := hb4.2 _ (getD_mem l.undo dSnp k hkn)
            refine callx hD hu hC (x_snapOk (l.undo.getD k dSnp) hx.1 hx.2) ?_
            ((try conv => cbv); (repeat' (first | (with_reducible refine mK hD ?_; kernel_rfl) | (with_reducible first | refine mS hD ?_ | refine mJ hL ?_ | refine mT hD ?_ | refine mF hD ?_ | refine mB hD (fun _ => ?_) (fun _ => ?_) | exact True.intro | refine And.intro ?_ ?_) <;> try conv => cbv)); all_goals try (first | trivial | (subst hD; first | exact fun _ _ => ⟨_, rfl⟩ | exact fl1 | exact fl1') | (((try subst hD hu); (try simp only [nc] at *); (try simp only [Int.ofNat_eq_natCast] at *); try simp (disch := omega) only [std, uid, S0] at *) <;> first | omega | rfl | (exfalso; simp_all only [Bool.true_eq_false, Bool.false_eq_true]; done))))
            · have hok : snapB (l.undo.getD k dSnp) = true := by ((try subst hD hu); (try simp only [nc] at *); (try simp only [Int.ofNat_eq_natCast] at *); try simp (disch := omega) only [std, uid, S0] at *); assumption
              refine ⟨k + 1, (), hkn, fun i hi => ?_, ssem_of ?_, by omega⟩
              · rcases Nat.lt_or_ge i k with q | q
                · exact hit i q
                · rw [show i = k by omega]; exact hok
              · ((try conv => cbv); (repeat' (first | (with_reducible refine mK hD ?_; kernel_rfl) | (with_reducible first | refine mS hD ?_ | refine mJ hL ?_ | refine mT hD ?_ | refine mF hD ?_ | refine mB hD (fun _ => ?_) (fun _ => ?_) | exact True.intro | refine And.intro ?_ ?_) <;> try conv => cbv)); all_goals try (first | trivial | (subst hD; first | exact fun _ _ => ⟨_, rfl⟩ | exact fl1 | exact fl1') | (((try subst hD hu); (try simp only [nc] at *); (try simp only [Int.ofNat_eq_natCast] at *); try simp (disch := omega) only [std, uid, S0] at *) <;> first | omega | rfl | (exfalso; simp_all only [Bool.true_eq_false, Bool.false_eq_true]; done))))
            · have hn : ¬ LinOk l := fun h => by have := h.all k hkn; ((try subst hD hu); (try simp only [nc] at *); (try simp only [Int.ofNat_eq_natCast] at *); try simp (disch := omega) only [std, uid, S0] at *); simp_all
              ((try subst hD hu); (try simp only [nc] at *); (try simp only [Int.ofNat_eq_natCast] at *); try simp (disch := omega) only [std, uid, S0, lineOk_not hn] at *)
          · have ek : k = l.undo.length := by ((try subst hD hu); (try simp only [nc] at *); (try simp only [Int.ofNat_eq_natCast] at *); try simp (disch := omega) only [std, uid, S0] at *); omega
            subst ek
            have := (lineOk_iff l).mpr ⟨hu1, hc, hki, hit⟩
            ((try subst hD hu); (try simp only [nc] at *); (try simp only [Int.ofNat_eq_natCast] at *); try simp (disch := omega) only [std, uid, S0, this] at *)
      · have hn : ¬ LinOk l := fun h => by have := h.kill; ((try subst hD hu); (try simp only [nc] at *); (try simp only [Int.ofNat_eq_natCast] at *); try simp (disch := omega) only [std, uid, S0] at *); simp_all
        ((try subst hD hu); (try simp only [nc] at *); (try simp only [Int.ofNat_eq_natCast] at *); try simp (disch := omega) only [std, uid, S0, lineOk_not hn] at *)
    · have hn : ¬ LinOk l := fun h => by have := h.cur; ((try subst hD hu); (try simp only [nc] at *); (try simp only [Int.ofNat_eq_natCast] at *); try simp (disch := omega) only [std, uid, S0] at *); simp_all
      ((try subst hD hu); (try simp only [nc] at *); (try simp only [Int.ofNat_eq_natCast] at *); try simp (disch := omega) only [std, uid, S0, lineOk_not hn] at *)
theorem x_specLineOk (l : Lin) (hb : bdELin 100000000 l) (hk : okLin l) : PX Try.prog 42 (fun D u => [.r (.a (rLin D u (u _ l)))]) (fun D u => [RB (u _ (lineOk l))]) (fun D u => []) := by
  refine px_of_awp (fn := Try.f42) (c := bodyOf Try.f42) envOk (by kernel_rfl) (by kernel_rfl) (by kernel_rfl) (by kernel_rfl) rfl (by kernel_rfl) (by kernel_rfl) ?_
  intro w0 mine D u C L hD hu hC hL
  have hb1 := hb.1
  have hb2 := hb.2.1
  have hb3 := hb.2.2.1
  have hb4 := hb.2.2.2
  ((try conv => cbv); (repeat' (first | (with_reducible refine mK hD ?_; kernel_rfl) | (with_reducible first | refine mS hD ?_ | refine mJ hL ?_ | refine mT hD ?_ | refine mF hD ?_ | refine mB hD (fun _ => ?_) (fun _ => ?_) | exact True.intro | refine And.intro ?_ ?_) <;> try conv => cbv)); all_goals try (first | trivial | (subst hD; first | exact fun _ _ => ⟨_, rfl⟩ | exact fl1 | exact fl1') | (((try subst hD hu); (try simp only [nc] at *); (try simp only [Int.ofNat_eq_natCast] at *); try simp (disch := omega) only [std, uid, S0] at *) <;> first | omega | rfl | (exfalso; simp_all only [Bool.true_eq_false, Bool.false_eq_true]; done))))
  · have hn : ¬ LinOk l := fun h => by have := h.undo; ((try subst hD hu); (try simp only [nc] at *); (try simp only [Int.ofNat_eq_natCast] at *); try simp (disch := omega) only [std, uid, S0] at *); omega
    ((try subst hD hu); (try simp only [nc] at *); (try simp only [Int.ofNat_eq_natCast] at *); try simp (disch := omega) only [std, uid, S0, lineOk_not hn] at *)
  · ((try subst hD hu); (try simp only [nc] at *); (try simp only [Int.ofNat_eq_natCast] at *); try simp (disch := omega) only [std, uid, S0] at *)
    exact fun i hi => ⟨rfl, fun d hd => by simp only [rSnp, List.mem_cons, List.not_mem_nil, or_false] at hd; rcases hd with rfl | rfl <;> exact ⟨_, rfl⟩⟩
  · refine Exists.elim (opq (⟨l.left, l.right⟩ :: ⟨l.kill, []⟩ :: l.undo)) fun al hal => ?_
    refine loop_st hL al.length (fun k (_ : Unit) => ∀ i, i < k → snapB (al.getD i dSnp) = true) () (fun k _ => [(3, vO D 1 (u _ al)), (18, .bad), (22, .bad), (4, VI (u _ k))]) (fun k _ => [(1, oSnp D u (u _ al))]) (fun i hi => absurd hi (Nat.not_lt_zero i)) ?_ ?_
    · ((try conv => cbv); (repeat' (first | (with_reducible refine mK hD ?_; kernel_rfl) | (with_reducible first | refine mS hD ?_ | refine mJ hL ?_ | refine mT hD ?_ | refine mF hD ?_ | refine mB hD (fun _ => ?_) (fun _ => ?_) | exact True.intro | refine And.intro ?_ ?_) <;> try conv => cbv)); all_goals try (first | trivial | (subst hD; first | exact fun _ _ => ⟨_, rfl⟩ | exact fl1 | exact fl1') | (((try subst hD hu); (try simp only [nc] at *); (try simp only [Int.ofNat_eq_natCast] at *); try simp (disch := omega) only [std, uid, S0] at *) <;> first | omega | rfl | (exfalso; simp_all only [Bool.true_eq_false, Bool.false_eq_true]; done))))
      · subst hD hu
        simp only [uid, std, hal, List.length_cons]
        omega
      · subst hD hu
        exact qSnp ((LR_lit2 l.left l.kill l.right []).cat' LR.refl) hal.symm
      · subst hD hu
        simp only [uid, std, hal, List.length_cons]
        omega
    · intro k _ hkk hit
      have hall : ∀ q, q ∈ al → q.left.length ≤ 100000000 ∧ q.right.length ≤ 100000000 := by
        rw [hal]
        intro q hq
        simp only [List.mem_cons] at hq
        rcases hq with rfl | rfl | hq
        · exact ⟨hb1, hb2⟩
        · exact ⟨hb3, by simp⟩
        · exact hb4.2 q hq
      have hlok : (∀ i, i < al.length → snapB (al.getD i dSnp) = true) ↔ (snapB ⟨l.left, l.right⟩ = true ∧ snapB ⟨l.kill, []⟩ = true ∧ ∀ i, i < l.undo.length → snapB (l.undo.getD i dSnp) = true) := by
        rw [hal]
        constructor
        · intro h
          exact ⟨h 0 (by simp), h 1 (by simp), fun i hi => by simpa using h (i + 2) (by simpa using hi)⟩
        · rintro ⟨h1, h2, h3⟩ i hi
          match i, hi with
          | 0, _ => exact h1
          | 1, _ => exact h2
          | i + 2, hi => simpa using h3 i (by simpa using hi)
      have hbl := hb4.1
      have hlen : al.length = l.undo.length + 2 := by rw [hal]; simp
      ((try conv => cbv); (repeat' (first | (with_reducible refine mK hD ?_; kernel_rfl) | (with_reducible first | refine mS hD ?_ | refine mJ hL ?_ | refine mT hD ?_ | refine mF hD ?_ | refine mB hD (fun _ => ?_) (fun _ => ?_) | exact True.intro | refine And.intro ?_ ?_) <;> try conv => cbv)); all_goals try (first | trivial | (subst hD; first | exact fun _ _ => ⟨_, rfl⟩ | exact fl1 | exact fl1') | (((try subst hD hu); (try simp only [nc] at *); (try simp only [Int.ofNat_eq_natCast] at *); try simp (disch := omega) only [std, uid, S0] at *) <;> first | omega | rfl | (exfalso; simp_all only [Bool.true_eq_false, Bool.false_eq_true]; done))))
      · have hkn : k < al.length := by ((try subst hD hu); (try simp only [nc] at *); (try simp only [Int.ofNat_eq_natCast] at *); try simp (disch := omega) only [std, uid, S0] at *); omega
        have hx := hall _ (getD_mem al dSnp k hkn)
        generalize hsk : al.getD k dSnp = sk at *
        have hno : snapB sk = false → lineOk l = false := fun h => lineOk_not fun q => by
          have := hlok.mpr ⟨q.cur, q.kill, q.all⟩ k hkn
          rw [hsk, h] at this
          cases this
        have hyes : snapB sk = true → ∀ i, i < k + 1 → snapB (al.getD i dSnp) = true := fun h i hi => by
          rcases Nat.lt_or_ge i k with q | q
          · exact hit i q
          · rw [show i = k by omega, hsk]; exact h
        have hr1 := runesOf_len sk.left
        have hr2 := runesOf_len sk.right
        refine callx hD hu hC (x_l4TextOk sk.left 300 hx.1 (by omega)) ?_
        ((try conv => cbv); (repeat' (first | (with_reducible refine mK hD ?_; kernel_rfl) | (with_reducible first | refine mS hD ?_ | refine mJ hL ?_ | refine mT hD ?_ | refine mF hD ?_ | refine mB hD (fun _ => ?_) (fun _ => ?_) | exact True.intro | refine And.intro ?_ ?_) <;> try conv => cbv)); all_goals try (first | trivial | (subst hD; first | exact fun _ _ => ⟨_, rfl⟩ | exact fl1 | exact fl1') | (((try subst hD hu); (try simp only [nc] at *); (try simp only [Int.ofNat_eq_natCast] at *); try simp (disch := omega) only [std, uid, S0] at *) <;> first | omega | rfl | (exfalso; simp_all only [Bool.true_eq_false, Bool.false_eq_true]; done))))
        all_goals try ((subst hD hu; (try simp only [std, uid, rR, rB, rT, rN, rClu, rCel, rSnp, rKey, rCluS, rCelS, lR, lB, lT, lN, lClu, lCel, eL, dClu, dCel, dSnp, dKey, Int.toNat_natCast, Int.ofNat_eq_natCast, hsk]) <;> rfl))
        · refine callx hD hu hC (x_l4TextOk sk.right 300 hx.2 (by omega)) ?_
          ((try conv => cbv); (repeat' (first | (with_reducible refine mK hD ?_; kernel_rfl) | (with_reducible first | refine mS hD ?_ | refine mJ hL ?_ | refine mT hD ?_ | refine mF hD ?_ | refine mB hD (fun _ => ?_) (fun _ => ?_) | exact True.intro | refine And.intro ?_ ?_) <;> try conv => cbv)); all_goals try (first | trivial | (subst hD; first | exact fun _ _ => ⟨_, rfl⟩ | exact fl1 | exact fl1') | (((try subst hD hu); (try simp only [nc] at *); (try simp only [Int.ofNat_eq_natCast] at *); try simp (disch := omega) only [std, uid, S0] at *) <;> first | omega | rfl | (exfalso; simp_all only [Bool.true_eq_false, Bool.false_eq_true]; done))))
          all_goals try ((subst hD hu; (try simp only [std, uid, rR, rB, rT, rN, rClu, rCel, rSnp, rKey, rCluS, rCelS, lR, lB, lT, lN, lClu, lCel, eL, dClu, dCel, dSnp, dKey, Int.toNat_natCast, Int.ofNat_eq_natCast, hsk]) <;> rfl))
          · refine callx hD hu hC (x_l4Count sk.left hx.1) ?_
            ((try conv => cbv); (repeat' (first | (with_reducible refine mK hD ?_; kernel_rfl) | (with_reducible first | refine mS hD ?_ | refine mJ hL ?_ | refine mT hD ?_ | refine mF hD ?_ | refine mB hD (fun _ => ?_) (fun _ => ?_) | exact True.intro | refine And.intro ?_ ?_) <;> try conv => cbv)); all_goals try (first | trivial | (subst hD; first | exact fun _ _ => ⟨_, rfl⟩ | exact fl1 | exact fl1') | (((try subst hD hu); (try simp only [nc] at *); (try simp only [Int.ofNat_eq_natCast] at *); try simp (disch := omega) only [std, uid, S0] at *) <;> first | omega | rfl | (exfalso; simp_all only [Bool.true_eq_false, Bool.false_eq_true]; done))))
            all_goals try ((subst hD hu; (try simp only [std, uid, rR, rB, rT, rN, rClu, rCel, rSnp, rKey, rCluS, rCelS, lR, lB, lT, lN, lClu, lCel, eL, dClu, dCel, dSnp, dKey, Int.toNat_natCast, Int.ofNat_eq_natCast, hsk]) <;> rfl))
            refine callx hD hu hC (x_l4Count sk.right hx.2) ?_
            ((try conv => cbv); (repeat' (first | (with_reducible refine mK hD ?_; kernel_rfl) | (with_reducible first | refine mS hD ?_ | refine mJ hL ?_ | refine mT hD ?_ | refine mF hD ?_ | refine mB hD (fun _ => ?_) (fun _ => ?_) | exact True.intro | refine And.intro ?_ ?_) <;> try conv => cbv)); all_goals try (first | trivial | (subst hD; first | exact fun _ _ => ⟨_, rfl⟩ | exact fl1 | exact fl1') | (((try subst hD hu); (try simp only [nc] at *); (try simp only [Int.ofNat_eq_natCast] at *); try simp (disch := omega) only [std, uid, S0] at *) <;> first | omega | rfl | (exfalso; simp_all only [Bool.true_eq_false, Bool.false_eq_true]; done))))
            all_goals try ((subst hD hu; (try simp only [std, uid, rR, rB, rT, rN, rClu, rCel, rSnp, rKey, rCluS, rCelS, lR, lB, lT, lN, lClu, lCel, eL, dClu, dCel, dSnp, dKey, Int.toNat_natCast, Int.ofNat_eq_natCast, hsk]) <;> rfl))
            · have hf : snapB sk = false := by
                have h1 : ¬ ((runesOf sk.left).length : Int) + (runesOf sk.right).length ≤ 300 := by ((try subst hD hu); (try simp only [nc] at *); (try simp only [Int.ofNat_eq_natCast] at *); try simp (disch := omega) only [std, uid, S0] at *); omega
                simp only [snapB, decide_eq_false h1, Bool.and_false]
              ((try subst hD hu); (try simp only [nc] at *); (try simp only [Int.ofNat_eq_natCast] at *); try simp (disch := omega) only [std, uid, S0, hno hf] at *)
            · have hf : snapB sk = true := by
                have h1 : ((runesOf sk.left).length : Int) + (runesOf sk.right).length ≤ 300 := by ((try subst hD hu); (try simp only [nc] at *); (try simp only [Int.ofNat_eq_natCast] at *); try simp (disch := omega) only [std, uid, S0] at *); omega
                have h2 : within sk.left 300 = true := by ((try subst hD hu); (try simp only [nc] at *); (try simp only [Int.ofNat_eq_natCast] at *); try simp (disch := omega) only [std, uid, S0] at *); assumption
                have h3 : within sk.right 300 = true := by ((try subst hD hu); (try simp only [nc] at *); (try simp only [Int.ofNat_eq_natCast] at *); try simp (disch := omega) only [std, uid, S0] at *); assumption
                simp only [snapB, decide_eq_true h1, h2, h3, Bool.and_true]
              refine ⟨k + 1, (), hkn, hyes hf, ssem_of ?_, by omega⟩
              ((try conv => cbv); (repeat' (first | (with_reducible refine mK hD ?_; kernel_rfl) | (with_reducible first | refine mS hD ?_ | refine mJ hL ?_ | refine mT hD ?_ | refine mF hD ?_ | refine mB hD (fun _ => ?_) (fun _ => ?_) | exact True.intro | refine And.intro ?_ ?_) <;> try conv => cbv)); all_goals try (first | trivial | (subst hD; first | exact fun _ _ => ⟨_, rfl⟩ | exact fl1 | exact fl1') | (((try subst hD hu); (try simp only [nc] at *); (try simp only [Int.ofNat_eq_natCast] at *); try simp (disch := omega) only [std, uid, S0] at *) <;> first | omega | rfl | (exfalso; simp_all only [Bool.true_eq_false, Bool.false_eq_true]; done))))
          · have hf : snapB sk = false := by
              have h3 : within sk.right 300 = false := by ((try subst hD hu); (try simp only [nc] at *); (try simp only [Int.ofNat_eq_natCast] at *); try simp (disch := omega) only [std, uid, S0] at *); assumption
              simp only [snapB, h3, Bool.and_false, Bool.false_and]
            ((try subst hD hu); (try simp only [nc] at *); (try simp only [Int.ofNat_eq_natCast] at *); try simp (disch := omega) only [std, uid, S0, hno hf] at *)
        · have hf : snapB sk = false := by
            have h3 : within sk.left 300 = false := by ((try subst hD hu); (try simp only [nc] at *); (try simp only [Int.ofNat_eq_natCast] at *); try simp (disch := omega) only [std, uid, S0] at *); assumption
            simp only [snapB, h3, Bool.false_and]
          ((try subst hD hu); (try simp only [nc] at *); (try simp only [Int.ofNat_eq_natCast] at *); try simp (disch := omega) only [std, uid, S0, hno hf] at *)
      · have ek : k = al.length := by ((try subst hD hu); (try simp only [nc] at *); (try simp only [Int.ofNat_eq_natCast] at *); try simp (disch := omega) only [std, uid, S0] at *); omega
        subst ek
        have h2 := hlok.mp hit
        have hu1 : l.undo.length ≤ 50 := by ((try subst hD hu); (try simp only [nc] at *); (try simp only [Int.ofNat_eq_natCast] at *); try simp (disch := omega) only [std, uid, S0] at *); omega
        have := (lineOk_iff l).mpr ⟨hu1, h2.1, h2.2.1, h2.2.2⟩
        ((try subst hD hu); (try simp only [nc] at *); (try simp only [Int.ofNat_eq_natCast] at *); try simp (disch := omega) only [std, uid, S0, this] at *)
end Go.AW
/- Layout: the plain part. -/
set_option linter.unusedVariables false
set_option linter.unusedSimpArgs false
namespace Go.AW
open Go.Proofs
set_option maxRecDepth 100000
set_option maxHeartbeats 8000000
def fromOf (r rows : Int) (n : Nat) : Int := if r - rows + 1 < 0 ∨ (n : Int) ≤ rows then 0 else r - rows + 1
def rowsT (all : List Clu) (st : List Int) (f : Nat) (k : Nat) : List Str := (((rowsOf all st all.length).drop f).take k).map textOf
def layMk (all : List Clu) (st : List Int) (r col rows : Int) : Blk :=
  ⟨rowsT all st (fromOf r rows st.length).toNat rows.toNat, r - fromOf r rows st.length, col⟩
def layF (prompt : Str) (l : Lin) : List Clu := cutT prompt ++ cutT l.left
def layA (prompt : Str) (l : Lin) : List Clu := layF prompt l ++ cutT l.right
def laySt (prompt : Str) (l : Lin) (cols : Int) : List Int := starts (layA prompt l) cols
def layR (prompt : Str) (l : Lin) (cols : Int) : Nat := rowOf (laySt prompt l cols) (layF prompt l).length
def layC (prompt : Str) (l : Lin) (cols : Int) : Int := widthsOf (seg (layA prompt l) ((laySt prompt l cols).getD (layR prompt l cols) 0) (layF prompt l).length)
def layExt (prompt : Str) (l : Lin) (cols : Int) : Prop := (layF prompt l).length = (layA prompt l).length ∧ layC prompt l cols = cols
open Classical in
noncomputable def layout (prompt : Str) (l : Lin) (cols rows : Int) : Blk :=
  if sizeOk cols rows = true then
    if layExt prompt l cols then
      layMk (layA prompt l) (laySt prompt l cols ++ [((layA prompt l).length : Int)]) ((layR prompt l cols : Nat) + 1) 0 rows
    else layMk (layA prompt l) (laySt prompt l cols) (layR prompt l cols : Nat) (layC prompt l cols) rows
  else dBlk
theorem layout_no {prompt : Str} {l : Lin} {cols rows : Int} (h : sizeOk cols rows = false) : layout prompt l cols rows = dBlk := by
  unfold layout; rw [h]; rfl
theorem layout_ext {prompt : Str} {l : Lin} {cols rows : Int} (h : sizeOk cols rows = true) (hx : layExt prompt l cols) : layout prompt l cols rows = layMk (layA prompt l) (laySt prompt l cols ++ [((layA prompt l).length : Int)]) ((layR prompt l cols : Nat) + 1) 0 rows := by
  unfold layout; rw [if_pos h, if_pos hx]
theorem layout_nor {prompt : Str} {l : Lin} {cols rows : Int} (h : sizeOk cols rows = true) (hx : ¬ layExt prompt l cols) : layout prompt l cols rows = layMk (layA prompt l) (laySt prompt l cols) (layR prompt l cols : Nat) (layC prompt l cols) rows := by
  unfold layout; rw [if_pos h, if_neg hx]
/-- Places where rows begin. -/
structure StOk (st : List Int) (n : Nat) : Prop where
  pos : 0 < st.length
  len : st.length ≤ n + 2
  rng : ∀ i, i < st.length → 0 ≤ st.getD i 0 ∧ st.getD i 0 ≤ (st ++ [(n : Int)]).getD (i + 1) 0 ∧ (st ++ [(n : Int)]).getD (i + 1) 0 ≤ n
theorem starts_ok (cs : List Clu) (cols : Int) : StOk (starts cs cols) cs.length := by
  have hI := stF_inv cols cs cs.length
  refine ⟨hI.pos, by have := hI.len; unfold starts; omega, fun i hi => ?_⟩
  have h1 := hI.rng i hi
  have h2 := hI.inc i
  have h3 := hI.rng (i + 1)
  unfold starts at hi ⊢
  rcases Nat.lt_or_ge (i + 1) (stF cols cs cs.length).1.length with q | q
  · rw [getD_app_l _ _ _ _ q]
    have := h2 q
    have := h3 q
    omega
  · rw [show i + 1 = (stF cols cs cs.length).1.length by omega, getD_end]
    omega
theorem starts_snoc (cs : List Clu) (cols : Int) : StOk (starts cs cols ++ [(cs.length : Int)]) cs.length := by
  have h := starts_ok cs cols
  have hI := stF_inv cols cs cs.length
  refine ⟨by simp, by have := hI.len; unfold starts; simp only [List.length_append, List.length_singleton]; omega, fun i hi => ?_⟩
  rw [List.length_append, List.length_singleton] at hi
  rcases Nat.lt_or_ge i (starts cs cols).length with q | q
  · rw [getD_app_l (starts cs cols ++ [(cs.length : Int)]) _ _ _ (by simp; omega), getD_app_l _ _ _ _ q]
    exact h.rng i q
  · rw [show i = (starts cs cols).length by omega, getD_end]
    have : (starts cs cols).length + 1 = (starts cs cols ++ [(cs.length : Int)]).length := by simp
    rw [this, getD_end]
    omega
theorem rowsT_len (all : List Clu) (st : List Int) (f k : Nat) : (rowsT all st f k).length = min k (st.length - f) := by
  simp [rowsT, rowsOf_len]
theorem rowsT_0 (all : List Clu) (st : List Int) (f : Nat) : rowsT all st f 0 = [] := by simp [rowsT]
theorem rowsT_snoc (all : List Clu) (st : List Int) (f k : Nat) (h : f + k < st.length) : rowsT all st f (k + 1) = rowsT all st f k ++ [textOf (seg all (st.getD (f + k) 0) ((st ++ [(all.length : Int)]).getD (f + k + 1) 0))] := by
  unfold rowsT
  rw [take_snoc _ [] _ (by rw [List.length_drop, rowsOf_len]; omega), List.map_append]
  have : ((rowsOf all st all.length).drop f).getD k [] = (rowsOf all st all.length).getD (f + k) [] := by
    simp [List.getD_eq_getElem?_getD, List.getElem?_drop]
  rw [this, rowsOf_get _ _ _ _ h]
  rfl
theorem rowsT_all (all : List Clu) (st : List Int) (f k m : Nat) (h : st.length ≤ f + k) (hm : k ≤ m) : rowsT all st f m = rowsT all st f k := by
  unfold rowsT
  rw [List.take_of_length_le (by rw [List.length_drop, rowsOf_len]; omega), List.take_of_length_le (by rw [List.length_drop, rowsOf_len]; omega)]
theorem ends_get (st : List Int) (n : Int) (i : Nat) : ((st ++ [n]).drop 1).getD i 0 = (st ++ [n]).getD (i + 1) 0 := by
  simp [List.getD_eq_getElem?_getD, List.getElem?_drop, Nat.add_comm]
theorem ends_eq {st : List Int} {n : Int} (h : 0 < st.length) : st.drop 1 ++ [n] = (st ++ [n]).drop 1 := by
  rw [List.drop_append_of_le_length h]
theorem seg_tot (cs : List Clu) (a b : Int) : totL toEClu (seg cs a b) ≤ totL toEClu cs := by
  have h1 := cntL_append toEClu (cs.take a.toNat) (cs.drop a.toNat)
  rw [List.take_append_drop] at h1
  have h2 := cntL_append toEClu ((cs.drop a.toNat).take (b.toNat - a.toNat)) ((cs.drop a.toNat).drop (b.toNat - a.toNat))
  rw [List.take_append_drop] at h2
  simp only [totL, seg, List.length_take, List.length_drop]
  omega
theorem layA_tot (prompt : Str) (l : Lin) : totL toEClu (layA prompt l) ≤ 2 * prompt.length + 2 * l.left.length + 2 * l.right.length + 3 := by
  have h1 := cut_tot prompt
  have h2 := cut_tot l.left
  have h3 := cut_tot l.right
  have h4 := cntL_append toEClu (cutT prompt) (cutT l.left)
  have h5 := cntL_append toEClu (cutT prompt ++ cutT l.left) (cutT l.right)
  simp only [totL, layA, layF, List.length_append] at *
  omega
theorem layA_ok (prompt : Str) (l : Lin) : ∀ c, c ∈ layA prompt l → okClu c := fun c h => by
  simp only [layA, layF, List.mem_append] at h
  rcases h with (h | h) | h
  · exact cut_ok _ c h
  · exact cut_ok _ c h
  · exact cut_ok _ c h
theorem layA_w (prompt : Str) (l : Lin) : ∀ c, c ∈ layA prompt l → wOk c := fun c h => by
  simp only [layA, layF, List.mem_append] at h
  rcases h with (h | h) | h
  · exact cut_w _ c h
  · exact cut_w _ c h
  · exact cut_w _ c h
theorem layA_len (prompt : Str) (l : Lin) : (layA prompt l).length = (cutT prompt).length + (cutT l.left).length + (cutT l.right).length := by simp [layA, layF, Nat.add_assoc]
theorem layF_len (prompt : Str) (l : Lin) : (layF prompt l).length = (cutT prompt).length + (cutT l.left).length := by simp [layF]
theorem st_okI {st : List Int} {n : Nat} (h : StOk st n) (hn : n ≤ 1000000000) : ∀ x, x ∈ st → okI x := fun x hx => by
  obtain ⟨i, hi, rfl⟩ := List.mem_iff_getElem.mp hx
  have := h.rng i hi
  have e : st.getD i 0 = st[i] := by rw [List.getD_eq_getElem?_getD, List.getElem?_eq_getElem hi]; rfl
  rw [e] at this
  unfold okI
  omega
/-- The row of a place: told by what it is. -/
theorem rowOf_eq {st : List Int} {p : Int} {k : Nat} (h0 : st.getD 0 0 ≤ p) (hk : k < st.length) (h1 : st.getD k 0 ≤ p) (h2 : ∀ i, k < i → i < st.length → p < st.getD i 0) : rowOf st p = k := by
  have h := rowK_hold st p h0 st.length (by omega)
  have h3 : rowOf st p = rowK st p st.length := rfl
  rw [← h3] at h
  rcases Nat.lt_trichotomy (rowOf st p) k with q | q | q
  · have := h.2.1 k q hk; omega
  · exact q
  · have := h2 _ q h.2.2; omega
/-- Later rows begin later. -/
theorem stF_mono (cols : Int) (cs : List Clu) (k : Nat) : ∀ i j, i < j → j < (stF cols cs k).1.length → (stF cols cs k).1.getD i 0 < (stF cols cs k).1.getD j 0
  | i, 0, h, _ => by omega
  | i, j + 1, h, hj => by
    have hI := stF_inv cols cs k
    have h1 := hI.inc j hj
    rcases Nat.lt_or_ge i j with q | q
    · have := stF_mono cols cs k i j q (by omega); omega
    · rw [show i = j by omega]; exact h1
theorem from_cases (r rows : Int) (n : Nat) : (fromOf r rows n = 0 ∧ (r - rows + 1 < 0 ∨ (n : Int) ≤ rows)) ∨ (fromOf r rows n = r - rows + 1 ∧ 0 ≤ r - rows + 1 ∧ rows < n) := by
  unfold fromOf
  split
  · left; exact ⟨rfl, by assumption⟩
  · right; exact ⟨rfl, by omega, by omega⟩
theorem LR.shF2 {α : Type} {row : α → List DV} {d : α} {f : Nat → List DV} {n a m : Nat} {l : List α} (h : LR row d f n l) (hm : m = l.length - a) : LR row d (Go.AW.shF std a f) m (l.drop a) := by
  subst hm
  have hn := h.len
  rcases Nat.lt_or_ge a l.length with q | q
  · have := h.shF (a := a) (m := l.length - a) (by omega)
    rwa [List.take_of_length_le (by rw [List.length_drop]; exact Nat.le_refl _)] at this
  · rw [List.drop_of_length_le q, show l.length - a = 0 by omega]
    exact LR.nil
end Go.AW
/- More tactics (development; written out in claims). -/
namespace Go.AW
/-- An equation that simp does not see. -/
def Is {α : Type} (a b : α) : Prop := a = b
theorem is_eq {α : Type} (a b : α) : Is a b = (a = b) := rfl
end Go.AW
/- Layout: shared words. -/
set_option linter.unusedVariables false
set_option linter.unusedSimpArgs false
namespace Go.AW
open Go.Proofs
theorem lay_ext {prompt : Str} {l : Lin} {cols rows : Int} {A F : List Clu} {st : List Int} {r : Nat} {c : Int} {b : Blk} (hA : A = layA prompt l) (hF : F = layF prompt l) (hst : st = starts A cols) (hR : r = rowOf st F.length) (hcc : c = widthsOf (seg A (st.getD r 0) F.length)) (hbk : b = layout prompt l cols rows)
    (hs : sizeOk cols rows = true) (h : F.length = A.length ∧ c = cols) : b = layMk A (st ++ [(A.length : Int)]) ((r : Nat) + 1) 0 rows := by
  subst hcc hR hst hA hF
  rw [hbk, layout_ext hs h]; rfl
theorem lay_nor {prompt : Str} {l : Lin} {cols rows : Int} {A F : List Clu} {st : List Int} {r : Nat} {c : Int} {b : Blk} (hA : A = layA prompt l) (hF : F = layF prompt l) (hst : st = starts A cols) (hR : r = rowOf st F.length) (hcc : c = widthsOf (seg A (st.getD r 0) F.length)) (hbk : b = layout prompt l cols rows)
    (hs : sizeOk cols rows = true) (h : ¬ (F.length = A.length ∧ c = cols)) : b = layMk A st (r : Nat) c rows := by
  subst hcc hR hst hA hF
  rw [hbk, layout_nor hs h]; rfl
/-- What is known of Layout's middle: the places of rows with the last one, the cursor, the first row shown, the rows shown. -/
structure LayI (A : List Clu) (F : Nat) (cols rows : Int) (st : List Int) (r : Nat) (c : Int) (b : Blk) (st2 : List Int) (r2 c2 : Int) (f m : Nat) : Prop where
  so : StOk st A.length
  so2 : StOk st2 A.length
  r1 : r < st.length
  r2' : 0 ≤ st.getD r 0 ∧ st.getD r 0 ≤ F
  ra : ∀ i, i ≤ r → st.getD i 0 ≤ F
  rb : ∀ i, r < i → i < st.length → (F : Int) < st.getD i 0
  ext : F = A.length → c = cols → st2 = st ++ [(A.length : Int)] ∧ r2 = (r : Int) + 1 ∧ c2 = 0
  nor : (F = A.length → c ≠ cols) → st2 = st ∧ r2 = (r : Int) ∧ c2 = c
  r3 : 0 ≤ r2 ∧ r2 < st2.length
  f1 : f < st2.length
  fc : ((f : Int) = 0 ∧ (r2 - rows + 1 < 0 ∨ (st2.length : Int) ≤ rows)) ∨ ((f : Int) = r2 - rows + 1 ∧ 0 ≤ r2 - rows + 1 ∧ rows < st2.length)
  m1 : m = min rows.toNat (st2.length - f)
  b1 : b.rows = rowsT A st2 f m
  b2 : b.row = r2 - f
  b3 : b.col = c2
theorem lay_i {prompt : Str} {l : Lin} {cols rows : Int} {A F : List Clu} {st : List Int} {r : Nat} {c : Int} {b : Blk} (hA : A = layA prompt l) (hF : F = layF prompt l) (hst : st = starts A cols) (hR : r = rowOf st F.length) (hcc : c = widthsOf (seg A (st.getD r 0) F.length)) (hbk : b = layout prompt l cols rows)
    (hs : sizeOk cols rows = true) : ∃ st2 r2 c2 f m, LayI A F.length cols rows st r c b st2 r2 c2 f m := by
  have hso : StOk st A.length := hst ▸ starts_ok A cols
  have hso2 : StOk (st ++ [(A.length : Int)]) A.length := hst ▸ starts_snoc A cols
  have hsz := (sizeOk_iff cols rows).mp hs
  have hra : r < st.length ∧ 0 ≤ st.getD r 0 ∧ st.getD r 0 ≤ F.length ∧ ∀ i, r < i → i < st.length → (F.length : Int) < st.getD i 0 := by
    have := row_at A cols (F.length : Nat) (by omega)
    subst hR hst
    exact this
  have hle : ∀ i, i ≤ r → st.getD i 0 ≤ F.length := fun i hi => by
    rcases Nat.lt_or_ge i r with q | q
    · have h1 := hra.1
      have h3 := hra.2.2.1
      rw [hst] at h1 h3 ⊢
      have := stF_mono cols A A.length i r q h1
      unfold starts at *
      omega
    · rw [show i = r by omega]; exact hra.2.2.1
  have key : ∃ st2 r2 c2, StOk st2 A.length ∧ b = layMk A st2 r2 c2 rows ∧ (F.length = A.length → c = cols → st2 = st ++ [(A.length : Int)] ∧ r2 = (r : Int) + 1 ∧ c2 = 0) ∧ ((F.length = A.length → c ≠ cols) → st2 = st ∧ r2 = (r : Int) ∧ c2 = c) := by
    by_cases hx : F.length = A.length ∧ c = cols
    · exact ⟨_, _, _, hso2, lay_ext hA hF hst hR hcc hbk hs hx, fun _ _ => ⟨rfl, rfl, rfl⟩, fun h => absurd hx.2 (h hx.1)⟩
    · exact ⟨_, _, _, hso, lay_nor hA hF hst hR hcc hbk hs hx, fun h1 h2 => absurd ⟨h1, h2⟩ hx, fun _ => ⟨rfl, rfl, rfl⟩⟩
  obtain ⟨st2, r2, c2, hso3, hbm, hx1, hx2⟩ := key
  have hr2 : 0 ≤ r2 ∧ r2 < st2.length := by
    by_cases hx : F.length = A.length → c ≠ cols
    · obtain ⟨rfl, rfl, _⟩ := hx2 hx
      omega
    · have h1 : F.length = A.length := Classical.byContradiction fun h => hx fun h' => absurd h' h
      have h2 : c = cols := Classical.byContradiction fun h => hx fun _ => h
      obtain ⟨rfl, rfl, _⟩ := hx1 h1 h2
      simp only [List.length_append, List.length_singleton]
      omega
  have hfc := from_cases r2 rows st2.length
  obtain ⟨f, hf⟩ : ∃ f : Nat, (f : Int) = fromOf r2 rows st2.length := ⟨(fromOf r2 rows st2.length).toNat, by omega⟩
  rw [← hf] at hfc
  have hb1 : b.rows = rowsT A st2 f rows.toNat := by rw [hbm]; simp only [layMk, ← hf, Int.toNat_natCast]
  have hb2 : b.row = r2 - f := by rw [hbm]; simp only [layMk, ← hf]
  have hb3 : b.col = c2 := by rw [hbm]; rfl
  refine ⟨st2, r2, c2, f, min rows.toNat (st2.length - f), hso, hso3, hra.1, ⟨hra.2.1, hra.2.2.1⟩, hle, hra.2.2.2, hx1, hx2, hr2, by omega, hfc, rfl, ?_, hb2, hb3⟩
  rw [hb1]
  rcases Nat.le_total rows.toNat (st2.length - f) with q | q
  · rw [Nat.min_eq_left q]
  · rw [Nat.min_eq_right q]
    exact rowsT_all A st2 f _ _ (by omega) q
end Go.AW
/- SetText on both sides. -/
set_option linter.unusedVariables false
set_option linter.unusedSimpArgs false
namespace Go.AW
open Go.Proofs
set_option maxRecDepth 100000
set_option maxHeartbeats 8000000
def pushU (u : List Snp) (s : Snp) : List Snp := if 50 < u.length + 1 then (u ++ [s]).drop 1 else u ++ [s]
def setLine (l : Lin) (left right : Str) : Lin := ⟨left, right, l.kill, pushU l.undo ⟨l.left, l.right⟩⟩
noncomputable def setText (l : Lin) (text : Str) : Lin := if lineOk l && within text 300 then setLine l text [] else l
theorem cntL_drop {α : Type} (c : α → Nat) (l : List α) (n : Nat) : cntL c (l.drop n) ≤ cntL c l := by
  have := cntL_append c (l.take n) (l.drop n)
  rw [List.take_append_drop] at this
  omega
theorem setText_tot (l : Lin) (t : Str) : toELin (setText l t) ≤ 2 * toELin l + t.length + 1 := by
  unfold setText
  split
  · have h1 : totL toESnp (pushU l.undo ⟨l.left, l.right⟩) ≤ totL toESnp l.undo + 1 + l.left.length + l.right.length := by
      have h2 := cntL_append toESnp l.undo [⟨l.left, l.right⟩]
      have h3 : cntL toESnp [(⟨l.left, l.right⟩ : Snp)] = l.left.length + l.right.length := by simp [cntL, toESnp]
      have h4 := cntL_drop toESnp (l.undo ++ [⟨l.left, l.right⟩]) 1
      unfold pushU
      split
      · simp only [totL, List.length_drop, List.length_append, List.length_singleton]; omega
      · simp only [totL, List.length_append, List.length_singleton]; omega
    simp only [setLine, toELin, List.length_nil]
    omega
  · simp only [toELin]; omega
theorem flat_snp (s : Snp) : (rSnp std uid s).length = 2 ∧ ∀ d, d ∈ rSnp std uid s → ∃ v, d = .s v :=
  ⟨rfl, fun d hd => by simp only [rSnp, List.mem_cons, List.not_mem_nil, or_false] at hd; rcases hd with rfl | rfl <;> exact ⟨_, rfl⟩⟩
theorem flat_snpL (l : List Snp) (n : Nat) : std.FlatRows n (fun i => rSnp std uid (std.nthL Snp dSnp l i)) 2 := fun i _ => flat_snp _
theorem flat_cat {n m sz : Nat} {f g : Nat → List DV} (hf : std.FlatRows n f sz) (hg : std.FlatRows m g sz) : std.FlatRows (n + m) (catR n f m g) sz := fun i hi => by
  simp only [catR]
  split
  · exact hg _ (by omega)
  · exact hf _ (by omega)
theorem flat_sh {n a m sz : Nat} {f : Nat → List DV} (h : std.FlatRows n f sz) (ha : a + m ≤ n) : std.FlatRows m (fun i => f (a + i)) sz := fun i hi => h _ (by omega)
theorem pushU_len (u : List Snp) (s : Snp) (h : u.length ≤ 1000000000) : (pushU u s).length ≤ u.length + 1 := by
  unfold pushU
  split <;> simp
theorem pushU_pos {u : List Snp} {s : Snp} (h : 50 < u.length + 1) : pushU u s = ((u ++ [s]).drop 1).take ((u ++ [s]).length - 1) := by
  rw [pushU, if_pos h, List.take_of_length_le (by rw [List.length_drop]; exact Nat.le_refl _)]
theorem pushU_neg {u : List Snp} {s : Snp} (h : ¬ 50 < u.length + 1) : pushU u s = u ++ [s] := by rw [pushU, if_neg h]
theorem x_CloneSnp (s : List Snp) (hn : s.length ≤ 1000000000) : PX Try.prog 108 (fun D u => [.r (.c (lSnp D u (u _ s)))]) (fun D u => [.c (lSnp D u (u _ s))]) (fun D u => []) := by
  refine px_of_awp (fn := Try.f108) (c := bodyOf Try.f108) envOk (by kernel_rfl) (by kernel_rfl) (by kernel_rfl) (by kernel_rfl) rfl (by kernel_rfl) (by kernel_rfl) ?_
  intro w0 mine D u C L hD hu hC hL
  ((try conv => cbv); (repeat' (first | (with_reducible refine mK hD ?_; kernel_rfl) | (with_reducible first | refine mS hD ?_ | refine mJ hL ?_ | refine mT hD ?_ | refine mF hD ?_ | refine mB hD (fun _ => ?_) (fun _ => ?_) | exact True.intro | refine And.intro ?_ ?_) <;> try conv => cbv)); all_goals try (first | trivial | (subst hD; first | exact fun _ _ => ⟨_, rfl⟩ | exact fl1 | exact fl1') | (((try subst hD hu); (try simp only [nc] at *); (try simp only [Int.ofNat_eq_natCast] at *); try simp (disch := omega) only [std, uid, S0] at *) <;> first | omega | rfl | (exfalso; simp_all only [Bool.true_eq_false, Bool.false_eq_true]; done))))
  · have h0 : s = [] := by ((try subst hD hu); (try simp only [nc] at *); (try simp only [Int.ofNat_eq_natCast] at *); try simp (disch := omega) only [std, uid, S0] at *); exact List.length_eq_zero_iff.mp (by omega)
    subst h0
    exact DEq.z _ _ _
  · (subst hD hu; apply qSnp; (focus repeat' (first | exact LR.refl | exact LR_bytes | apply mClu | apply mCel | apply mKey | apply mSnp | apply mKRd | apply mLin | apply mHis | apply mBlk | apply mScr | apply mSes | exact zR | exact zB | exact zT | exact zN | exact zClu | exact zCel | exact zCelS | exact zSnp | exact zKey | exact zSes | exact zScr | apply LR.deq | exact LR.nil | apply LR.one | apply LR.rep | apply LR.cat | apply LR.cat' | apply LR.set | exact u8_0 | exact DEq.s _ | (apply str_deq; (repeat' apply sr_cat) <;> rfl) | apply aLe_1 | (apply LR.rfl'; simp only [uid, std, S0]; omega))); all_goals try simp only [uid, std, Int.toNat_natCast, Int.ofNat_eq_natCast])
    simp
  · subst hD hu
    exact flat_snpL _ _
  · (subst hD hu; apply qSnp; (focus repeat' (first | exact LR.refl | exact LR_bytes | apply mClu | apply mCel | apply mKey | apply mSnp | apply mKRd | apply mLin | apply mHis | apply mBlk | apply mScr | apply mSes | exact zR | exact zB | exact zT | exact zN | exact zClu | exact zCel | exact zCelS | exact zSnp | exact zKey | exact zSes | exact zScr | apply LR.deq | exact LR.nil | apply LR.one | apply LR.rep | apply LR.cat | apply LR.cat' | apply LR.set | exact u8_0 | exact DEq.s _ | (apply str_deq; (repeat' apply sr_cat) <;> rfl) | apply aLe_1 | (apply LR.rfl'; simp only [uid, std, S0]; omega))); all_goals try simp only [uid, std, Int.toNat_natCast, Int.ofNat_eq_natCast])
    simp
theorem x_l4Copy (l : Lin) (hb : bdELin 100000000 l) : PX Try.prog 44 (fun D u => [.r (.a (rLin D u (u _ l)))]) (fun D u => [.a (rLin D u (u _ l))]) (fun D u => []) := by
  refine px_of_awp (fn := Try.f44) (c := bodyOf Try.f44) envOk (by kernel_rfl) (by kernel_rfl) (by kernel_rfl) (by kernel_rfl) rfl (by kernel_rfl) (by kernel_rfl) ?_
  intro w0 mine D u C L hD hu hC hL
  have hb4 := hb.2.2.2.1
  ((try conv => cbv); (repeat' (first | (with_reducible refine mK hD ?_; kernel_rfl) | (with_reducible first | refine mS hD ?_ | refine mJ hL ?_ | refine mT hD ?_ | refine mF hD ?_ | refine mB hD (fun _ => ?_) (fun _ => ?_) | exact True.intro | refine And.intro ?_ ?_) <;> try conv => cbv)); all_goals try (first | trivial | (subst hD; first | exact fun _ _ => ⟨_, rfl⟩ | exact fl1 | exact fl1') | (((try subst hD hu); (try simp only [nc] at *); (try simp only [Int.ofNat_eq_natCast] at *); try simp (disch := omega) only [std, uid, S0] at *) <;> first | omega | rfl | (exfalso; simp_all only [Bool.true_eq_false, Bool.false_eq_true]; done))))
  · subst hD hu
    exact flat_snpL _ _
  · (subst hD hu; apply qSnp; (focus repeat' (first | exact LR.refl | exact LR_bytes | apply mClu | apply mCel | apply mKey | apply mSnp | apply mKRd | apply mLin | apply mHis | apply mBlk | apply mScr | apply mSes | exact zR | exact zB | exact zT | exact zN | exact zClu | exact zCel | exact zCelS | exact zSnp | exact zKey | exact zSes | exact zScr | apply LR.deq | exact LR.nil | apply LR.one | apply LR.rep | apply LR.cat | apply LR.cat' | apply LR.set | exact u8_0 | exact DEq.s _ | (apply str_deq; (repeat' apply sr_cat) <;> rfl) | apply aLe_1 | (apply LR.rfl'; simp only [uid, std, S0]; omega))); all_goals try simp only [uid, std, Int.toNat_natCast, Int.ofNat_eq_natCast])
    simp
theorem x_l4Set (l : Lin) (left right : Str) (hb : bdELin 100000000 l) : PX Try.prog 45 (fun D u => [.r (.a (rLin D u (u _ l))), .r (.c (.s (.string (D.strB (u _ left))))), .r (.c (.s (.string (D.strB (u _ right)))))]) (fun D u => [.a (rLin D u (u _ (setLine l left right)))]) (fun D u => []) := by
  refine px_of_awp (fn := Try.f45) (c := bodyOf Try.f45) envOk (by kernel_rfl) (by kernel_rfl) (by kernel_rfl) (by kernel_rfl) rfl (by kernel_rfl) (by kernel_rfl) ?_
  intro w0 mine D u C L hD hu hC hL
  have hb4 := hb.2.2.2.1
  ((try conv => cbv); (repeat' (first | (with_reducible refine mK hD ?_; kernel_rfl) | (with_reducible first | refine mS hD ?_ | refine mJ hL ?_ | refine mT hD ?_ | refine mF hD ?_ | refine mB hD (fun _ => ?_) (fun _ => ?_) | exact True.intro | refine And.intro ?_ ?_) <;> try conv => cbv)); all_goals try (first | trivial | (subst hD; first | exact fun _ _ => ⟨_, rfl⟩ | exact fl1 | exact fl1') | (((try subst hD hu); (try simp only [nc] at *); (try simp only [Int.ofNat_eq_natCast] at *); try simp (disch := omega) only [std, uid, S0] at *) <;> first | omega | rfl | (exfalso; simp_all only [Bool.true_eq_false, Bool.false_eq_true]; done))))
  refine callx hD hu hC (x_l4Copy l hb) ?_
  ((try conv => cbv); (repeat' (first | (with_reducible refine mK hD ?_; kernel_rfl) | (with_reducible first | refine mS hD ?_ | refine mJ hL ?_ | refine mT hD ?_ | refine mF hD ?_ | refine mB hD (fun _ => ?_) (fun _ => ?_) | exact True.intro | refine And.intro ?_ ?_) <;> try conv => cbv)); all_goals try (first | trivial | (subst hD; first | exact fun _ _ => ⟨_, rfl⟩ | exact fl1 | exact fl1') | (((try subst hD hu); (try simp only [nc] at *); (try simp only [Int.ofNat_eq_natCast] at *); try simp (disch := omega) only [std, uid, S0] at *) <;> first | omega | rfl | (exfalso; simp_all only [Bool.true_eq_false, Bool.false_eq_true]; done))))
  · subst hD hu
    exact flat_sh (n := l.undo.length + 1) (a := 1) (flat_cat (flat_snpL _ _) (fun i _ => flat_snp ⟨l.left, l.right⟩)) (by simp only [std, uid]; omega)
  · have h1 : 50 < l.undo.length + 1 := by ((try subst hD hu); (try simp only [nc] at *); (try simp only [Int.ofNat_eq_natCast] at *); try simp (disch := omega) only [std, uid, S0] at *); omega
    ((try subst hD hu); (try simp only [nc] at *); (try simp only [Int.ofNat_eq_natCast] at *); try simp (disch := omega) only [std, uid, S0, setLine, pushU_pos h1] at *)
    omega
  · have h1 : 50 < l.undo.length + 1 := by ((try subst hD hu); (try simp only [nc] at *); (try simp only [Int.ofNat_eq_natCast] at *); try simp (disch := omega) only [std, uid, S0] at *); omega
    subst hD hu
    refine qSnp (LR.cat' LR.nil (LR.sh (a := 1) (LR.cat' LR.refl (LR.one (x := ⟨l.left, l.right⟩) (aLe_rfl _))) (by simp only [std, uid]; omega))) ?_
    simp only [uid, setLine, pushU_pos h1, std]
    simp
  · have h1 : ¬ 50 < l.undo.length + 1 := by ((try subst hD hu); (try simp only [nc] at *); (try simp only [Int.ofNat_eq_natCast] at *); try simp (disch := omega) only [std, uid, S0] at *); omega
    ((try subst hD hu); (try simp only [nc] at *); (try simp only [Int.ofNat_eq_natCast] at *); try simp (disch := omega) only [std, uid, S0, setLine, pushU_neg h1] at *)
  · have h1 : ¬ 50 < l.undo.length + 1 := by ((try subst hD hu); (try simp only [nc] at *); (try simp only [Int.ofNat_eq_natCast] at *); try simp (disch := omega) only [std, uid, S0] at *); omega
    (subst hD hu; apply qSnp; (focus repeat' (first | exact LR.refl | exact LR_bytes | apply mClu | apply mCel | apply mKey | apply mSnp | apply mKRd | apply mLin | apply mHis | apply mBlk | apply mScr | apply mSes | exact zR | exact zB | exact zT | exact zN | exact zClu | exact zCel | exact zCelS | exact zSnp | exact zKey | exact zSes | exact zScr | apply LR.deq | exact LR.nil | apply LR.one | apply LR.rep | apply LR.cat | apply LR.cat' | apply LR.set | exact u8_0 | exact DEq.s _ | (apply str_deq; (repeat' apply sr_cat) <;> rfl) | apply aLe_1 | (apply LR.rfl'; simp only [uid, std, S0]; omega))); all_goals try simp only [uid, std, Int.toNat_natCast, Int.ofNat_eq_natCast])
    simp only [setLine, pushU_neg h1]
theorem x_specSetText (l : Lin) (text : Str) (hb : bdELin 100000000 l) (hk : okLin l) (ht : text.length ≤ 100000000) : PX Try.prog 10 (fun D u => [.r (.a (rLin D u (u _ l))), .r (.c (.s (.string (D.strB (u _ text)))))]) (fun D u => [.a (rLin D u (u _ (setText l text))), RB (u _ (lineOk l && within text 300))]) (fun D u => []) := by
  refine px_of_awp (fn := Try.f10) (c := bodyOf Try.f10) envOk (by kernel_rfl) (by kernel_rfl) (by kernel_rfl) (by kernel_rfl) rfl (by kernel_rfl) (by kernel_rfl) ?_
  intro w0 mine D u C L hD hu hC hL
  cases h1 : lineOk l with
  | false =>
    have e : setText l text = l := by rw [setText, h1]; rfl
    rw [e, Bool.false_and]
    ((try conv => cbv); (repeat' (first | (with_reducible refine mK hD ?_; kernel_rfl) | (with_reducible first | refine mS hD ?_ | refine mJ hL ?_ | refine mT hD ?_ | refine mF hD ?_ | refine mB hD (fun _ => ?_) (fun _ => ?_) | exact True.intro | refine And.intro ?_ ?_) <;> try conv => cbv)); all_goals try (first | trivial | (subst hD; first | exact fun _ _ => ⟨_, rfl⟩ | exact fl1 | exact fl1') | (((try subst hD hu); (try simp only [nc] at *); (try simp only [Int.ofNat_eq_natCast] at *); try simp (disch := omega) only [std, uid, S0] at *) <;> first | omega | rfl | (exfalso; simp_all only [Bool.true_eq_false, Bool.false_eq_true]; done))))
    refine callx hD hu hC (x_specLineOk l hb hk) ?_
    rw [h1]
    ((try conv => cbv); (repeat' (first | (with_reducible refine mK hD ?_; kernel_rfl) | (with_reducible first | refine mS hD ?_ | refine mJ hL ?_ | refine mT hD ?_ | refine mF hD ?_ | refine mB hD (fun _ => ?_) (fun _ => ?_) | exact True.intro | refine And.intro ?_ ?_) <;> try conv => cbv)); all_goals try (first | trivial | (subst hD; first | exact fun _ _ => ⟨_, rfl⟩ | exact fl1 | exact fl1') | (((try subst hD hu); (try simp only [nc] at *); (try simp only [Int.ofNat_eq_natCast] at *); try simp (disch := omega) only [std, uid, S0] at *) <;> first | omega | rfl | (exfalso; simp_all only [Bool.true_eq_false, Bool.false_eq_true]; done))))
    refine callx hD hu hC (x_l4Copy l hb) ?_
    ((try conv => cbv); (repeat' (first | (with_reducible refine mK hD ?_; kernel_rfl) | (with_reducible first | refine mS hD ?_ | refine mJ hL ?_ | refine mT hD ?_ | refine mF hD ?_ | refine mB hD (fun _ => ?_) (fun _ => ?_) | exact True.intro | refine And.intro ?_ ?_) <;> try conv => cbv)); all_goals try (first | trivial | (subst hD; first | exact fun _ _ => ⟨_, rfl⟩ | exact fl1 | exact fl1') | (((try subst hD hu); (try simp only [nc] at *); (try simp only [Int.ofNat_eq_natCast] at *); try simp (disch := omega) only [std, uid, S0] at *) <;> first | omega | rfl | (exfalso; simp_all only [Bool.true_eq_false, Bool.false_eq_true]; done))))
  | true =>
    rw [Bool.true_and]
    cases h2 : within text 300 with
    | false =>
      have e : setText l text = l := by rw [setText, h1, h2]; rfl
      rw [e]
      ((try conv => cbv); (repeat' (first | (with_reducible refine mK hD ?_; kernel_rfl) | (with_reducible first | refine mS hD ?_ | refine mJ hL ?_ | refine mT hD ?_ | refine mF hD ?_ | refine mB hD (fun _ => ?_) (fun _ => ?_) | exact True.intro | refine And.intro ?_ ?_) <;> try conv => cbv)); all_goals try (first | trivial | (subst hD; first | exact fun _ _ => ⟨_, rfl⟩ | exact fl1 | exact fl1') | (((try subst hD hu); (try simp only [nc] at *); (try simp only [Int.ofNat_eq_natCast] at *); try simp (disch := omega) only [std, uid, S0] at *) <;> first | omega | rfl | (exfalso; simp_all only [Bool.true_eq_false, Bool.false_eq_true]; done))))
      refine callx hD hu hC (x_specLineOk l hb hk) ?_
      rw [h1]
      ((try conv => cbv); (repeat' (first | (with_reducible refine mK hD ?_; kernel_rfl) | (with_reducible first | refine mS hD ?_ | refine mJ hL ?_ | refine mT hD ?_ | refine mF hD ?_ | refine mB hD (fun _ => ?_) (fun _ => ?_) | exact True.intro | refine And.intro ?_ ?_) <;> try conv => cbv)); all_goals try (first | trivial | (subst hD; first | exact fun _ _ => ⟨_, rfl⟩ | exact fl1 | exact fl1') | (((try subst hD hu); (try simp only [nc] at *); (try simp only [Int.ofNat_eq_natCast] at *); try simp (disch := omega) only [std, uid, S0] at *) <;> first | omega | rfl | (exfalso; simp_all only [Bool.true_eq_false, Bool.false_eq_true]; done))))
      refine callx hD hu hC (x_l4TextOk text 300 ht (by omega)) ?_
      rw [h2]
      ((try conv => cbv); (repeat' (first | (with_reducible refine mK hD ?_; kernel_rfl) | (with_reducible first | refine mS hD ?_ | refine mJ hL ?_ | refine mT hD ?_ | refine mF hD ?_ | refine mB hD (fun _ => ?_) (fun _ => ?_) | exact True.intro | refine And.intro ?_ ?_) <;> try conv => cbv)); all_goals try (first | trivial | (subst hD; first | exact fun _ _ => ⟨_, rfl⟩ | exact fl1 | exact fl1') | (((try subst hD hu); (try simp only [nc] at *); (try simp only [Int.ofNat_eq_natCast] at *); try simp (disch := omega) only [std, uid, S0] at *) <;> first | omega | rfl | (exfalso; simp_all only [Bool.true_eq_false, Bool.false_eq_true]; done))))
      refine callx hD hu hC (x_l4Copy l hb) ?_
      ((try conv => cbv); (repeat' (first | (with_reducible refine mK hD ?_; kernel_rfl) | (with_reducible first | refine mS hD ?_ | refine mJ hL ?_ | refine mT hD ?_ | refine mF hD ?_ | refine mB hD (fun _ => ?_) (fun _ => ?_) | exact True.intro | refine And.intro ?_ ?_) <;> try conv => cbv)); all_goals try (first | trivial | (subst hD; first | exact fun _ _ => ⟨_, rfl⟩ | exact fl1 | exact fl1') | (((try subst hD hu); (try simp only [nc] at *); (try simp only [Int.ofNat_eq_natCast] at *); try simp (disch := omega) only [std, uid, S0] at *) <;> first | omega | rfl | (exfalso; simp_all only [Bool.true_eq_false, Bool.false_eq_true]; done))))
    | true =>
      have e : setText l text = setLine l text [] := by rw [setText, h1, h2]; rfl
      rw [e]
      ((try conv => cbv); (repeat' (first | (with_reducible refine mK hD ?_; kernel_rfl) | (with_reducible first | refine mS hD ?_ | refine mJ hL ?_ | refine mT hD ?_ | refine mF hD ?_ | refine mB hD (fun _ => ?_) (fun _ => ?_) | exact True.intro | refine And.intro ?_ ?_) <;> try conv => cbv)); all_goals try (first | trivial | (subst hD; first | exact fun _ _ => ⟨_, rfl⟩ | exact fl1 | exact fl1') | (((try subst hD hu); (try simp only [nc] at *); (try simp only [Int.ofNat_eq_natCast] at *); try simp (disch := omega) only [std, uid, S0] at *) <;> first | omega | rfl | (exfalso; simp_all only [Bool.true_eq_false, Bool.false_eq_true]; done))))
      refine callx hD hu hC (x_specLineOk l hb hk) ?_
      rw [h1]
      ((try conv => cbv); (repeat' (first | (with_reducible refine mK hD ?_; kernel_rfl) | (with_reducible first | refine mS hD ?_ | refine mJ hL ?_ | refine mT hD ?_ | refine mF hD ?_ | refine mB hD (fun _ => ?_) (fun _ => ?_) | exact True.intro | refine And.intro ?_ ?_) <;> try conv => cbv)); all_goals try (first | trivial | (subst hD; first | exact fun _ _ => ⟨_, rfl⟩ | exact fl1 | exact fl1') | (((try subst hD hu); (try simp only [nc] at *); (try simp only [Int.ofNat_eq_natCast] at *); try simp (disch := omega) only [std, uid, S0] at *) <;> first | omega | rfl | (exfalso; simp_all only [Bool.true_eq_false, Bool.false_eq_true]; done))))
      refine callx hD hu hC (x_l4TextOk text 300 ht (by omega)) ?_
      rw [h2]
      ((try conv => cbv); (repeat' (first | (with_reducible refine mK hD ?_; kernel_rfl) | (with_reducible first | refine mS hD ?_ | refine mJ hL ?_ | refine mT hD ?_ | refine mF hD ?_ | refine mB hD (fun _ => ?_) (fun _ => ?_) | exact True.intro | refine And.intro ?_ ?_) <;> try conv => cbv)); all_goals try (first | trivial | (subst hD; first | exact fun _ _ => ⟨_, rfl⟩ | exact fl1 | exact fl1') | (((try subst hD hu); (try simp only [nc] at *); (try simp only [Int.ofNat_eq_natCast] at *); try simp (disch := omega) only [std, uid, S0] at *) <;> first | omega | rfl | (exfalso; simp_all only [Bool.true_eq_false, Bool.false_eq_true]; done))))
      refine callx hD hu hC (x_l4Set l text [] hb) ?_
      ((try conv => cbv); (repeat' (first | (with_reducible refine mK hD ?_; kernel_rfl) | (with_reducible first | refine mS hD ?_ | refine mJ hL ?_ | refine mT hD ?_ | refine mF hD ?_ | refine mB hD (fun _ => ?_) (fun _ => ?_) | exact True.intro | refine And.intro ?_ ?_) <;> try conv => cbv)); all_goals try (first | trivial | (subst hD; first | exact fun _ _ => ⟨_, rfl⟩ | exact fl1 | exact fl1') | (((try subst hD hu); (try simp only [nc] at *); (try simp only [Int.ofNat_eq_natCast] at *); try simp (disch := omega) only [std, uid, S0] at *) <;> first | omega | rfl | (exfalso; simp_all only [Bool.true_eq_false, Bool.false_eq_true]; done))))
      all_goals try ((subst hD hu; (try simp only [std, uid, rR, rB, rT, rN, rClu, rCel, rSnp, rKey, rCluS, rCelS, lR, lB, lT, lN, lClu, lCel, eL, dClu, dCel, dSnp, dKey, Int.toNat_natCast, Int.ofNat_eq_natCast]) <;> rfl))
theorem x_implSetText (l : Lin) (text : Str) (hb : bdELin 100000000 l) (hk : okLin l) (ht : text.length ≤ 100000000) : PX Try.prog 12 (fun D u => [.r (.a (rLin D u (u _ l))), .r (.c (.s (.string (D.strB (u _ text)))))]) (fun D u => [.a (rLin D u (u _ (setText l text))), RB (u _ (lineOk l && within text 300))]) (fun D u => []) := by
  refine px_of_awp (fn := Try.f12) (c := bodyOf Try.f12) envOk (by kernel_rfl) (by kernel_rfl) (by kernel_rfl) (by kernel_rfl) rfl (by kernel_rfl) (by kernel_rfl) ?_
  intro w0 mine D u C L hD hu hC hL
  have hb4 := hb.2.2.2.1
  have hpl := pushU_len l.undo ⟨l.left, l.right⟩ (by omega)
  cases h1 : lineOk l with
  | false =>
    have e : setText l text = l := by rw [setText, h1]; rfl
    rw [e, Bool.false_and]
    ((try conv => cbv); (repeat' (first | (with_reducible refine mK hD ?_; kernel_rfl) | (with_reducible first | refine mS hD ?_ | refine mJ hL ?_ | refine mT hD ?_ | refine mF hD ?_ | refine mB hD (fun _ => ?_) (fun _ => ?_) | exact True.intro | refine And.intro ?_ ?_) <;> try conv => cbv)); all_goals try (first | trivial | (subst hD; first | exact fun _ _ => ⟨_, rfl⟩ | exact fl1 | exact fl1') | (((try subst hD hu); (try simp only [nc] at *); (try simp only [Int.ofNat_eq_natCast] at *); try simp (disch := omega) only [std, uid, S0] at *) <;> first | omega | rfl | (exfalso; simp_all only [Bool.true_eq_false, Bool.false_eq_true]; done))))
    refine call_in (fn := Try.f47) (c := bodyOf Try.f47) envOk (by kernel_rfl) (by kernel_rfl) (by kernel_rfl) (by kernel_rfl) rfl hD hC hL (by kernel_rfl) ?_; intro _
    ((try conv => cbv); (repeat' (first | (with_reducible refine mK hD ?_; kernel_rfl) | (with_reducible first | refine mS hD ?_ | refine mJ hL ?_ | refine mT hD ?_ | refine mF hD ?_ | refine mB hD (fun _ => ?_) (fun _ => ?_) | exact True.intro | refine And.intro ?_ ?_) <;> try conv => cbv)); all_goals try (first | trivial | (subst hD; first | exact fun _ _ => ⟨_, rfl⟩ | exact fl1 | exact fl1') | (((try subst hD hu); (try simp only [nc] at *); (try simp only [Int.ofNat_eq_natCast] at *); try simp (disch := omega) only [std, uid, S0] at *) <;> first | omega | rfl | (exfalso; simp_all only [Bool.true_eq_false, Bool.false_eq_true]; done))))
    refine callx hD hu hC (x_CloneSnp l.undo (by omega)) ?_
    ((try conv => cbv); (repeat' (first | (with_reducible refine mK hD ?_; kernel_rfl) | (with_reducible first | refine mS hD ?_ | refine mJ hL ?_ | refine mT hD ?_ | refine mF hD ?_ | refine mB hD (fun _ => ?_) (fun _ => ?_) | exact True.intro | refine And.intro ?_ ?_) <;> try conv => cbv)); all_goals try (first | trivial | (subst hD; first | exact fun _ _ => ⟨_, rfl⟩ | exact fl1 | exact fl1') | (((try subst hD hu); (try simp only [nc] at *); (try simp only [Int.ofNat_eq_natCast] at *); try simp (disch := omega) only [std, uid, S0] at *) <;> first | omega | rfl | (exfalso; simp_all only [Bool.true_eq_false, Bool.false_eq_true]; done))))
    refine callx hD hu hC (x_clustersOf l.left hb.1) ?_
    ((try conv => cbv); (repeat' (first | (with_reducible refine mK hD ?_; kernel_rfl) | (with_reducible first | refine mS hD ?_ | refine mJ hL ?_ | refine mT hD ?_ | refine mF hD ?_ | refine mB hD (fun _ => ?_) (fun _ => ?_) | exact True.intro | refine And.intro ?_ ?_) <;> try conv => cbv)); all_goals try (first | trivial | (subst hD; first | exact fun _ _ => ⟨_, rfl⟩ | exact fl1 | exact fl1') | (((try subst hD hu); (try simp only [nc] at *); (try simp only [Int.ofNat_eq_natCast] at *); try simp (disch := omega) only [std, uid, S0] at *) <;> first | omega | rfl | (exfalso; simp_all only [Bool.true_eq_false, Bool.false_eq_true]; done))))
    refine callx hD hu hC (x_clustersOf l.right hb.2.1) ?_
    ((try conv => cbv); (repeat' (first | (with_reducible refine mK hD ?_; kernel_rfl) | (with_reducible first | refine mS hD ?_ | refine mJ hL ?_ | refine mT hD ?_ | refine mF hD ?_ | refine mB hD (fun _ => ?_) (fun _ => ?_) | exact True.intro | refine And.intro ?_ ?_) <;> try conv => cbv)); all_goals try (first | trivial | (subst hD; first | exact fun _ _ => ⟨_, rfl⟩ | exact fl1 | exact fl1') | (((try subst hD hu); (try simp only [nc] at *); (try simp only [Int.ofNat_eq_natCast] at *); try simp (disch := omega) only [std, uid, S0] at *) <;> first | omega | rfl | (exfalso; simp_all only [Bool.true_eq_false, Bool.false_eq_true]; done))))
    refine callx hD hu hC (x_implLineOk l hb hk) ?_
    rw [h1]
    ((try conv => cbv); (repeat' (first | (with_reducible refine mK hD ?_; kernel_rfl) | (with_reducible first | refine mS hD ?_ | refine mJ hL ?_ | refine mT hD ?_ | refine mF hD ?_ | refine mB hD (fun _ => ?_) (fun _ => ?_) | exact True.intro | refine And.intro ?_ ?_) <;> try conv => cbv)); all_goals try (first | trivial | (subst hD; first | exact fun _ _ => ⟨_, rfl⟩ | exact fl1 | exact fl1') | (((try subst hD hu); (try simp only [nc] at *); (try simp only [Int.ofNat_eq_natCast] at *); try simp (disch := omega) only [std, uid, S0] at *) <;> first | omega | rfl | (exfalso; simp_all only [Bool.true_eq_false, Bool.false_eq_true]; done))))
  | true =>
    rw [Bool.true_and]
    cases h2 : within text 300 with
    | false =>
      have e : setText l text = l := by rw [setText, h1, h2]; rfl
      rw [e]
      ((try conv => cbv); (repeat' (first | (with_reducible refine mK hD ?_; kernel_rfl) | (with_reducible first | refine mS hD ?_ | refine mJ hL ?_ | refine mT hD ?_ | refine mF hD ?_ | refine mB hD (fun _ => ?_) (fun _ => ?_) | exact True.intro | refine And.intro ?_ ?_) <;> try conv => cbv)); all_goals try (first | trivial | (subst hD; first | exact fun _ _ => ⟨_, rfl⟩ | exact fl1 | exact fl1') | (((try subst hD hu); (try simp only [nc] at *); (try simp only [Int.ofNat_eq_natCast] at *); try simp (disch := omega) only [std, uid, S0] at *) <;> first | omega | rfl | (exfalso; simp_all only [Bool.true_eq_false, Bool.false_eq_true]; done))))
      refine call_in (fn := Try.f47) (c := bodyOf Try.f47) envOk (by kernel_rfl) (by kernel_rfl) (by kernel_rfl) (by kernel_rfl) rfl hD hC hL (by kernel_rfl) ?_; intro _
      ((try conv => cbv); (repeat' (first | (with_reducible refine mK hD ?_; kernel_rfl) | (with_reducible first | refine mS hD ?_ | refine mJ hL ?_ | refine mT hD ?_ | refine mF hD ?_ | refine mB hD (fun _ => ?_) (fun _ => ?_) | exact True.intro | refine And.intro ?_ ?_) <;> try conv => cbv)); all_goals try (first | trivial | (subst hD; first | exact fun _ _ => ⟨_, rfl⟩ | exact fl1 | exact fl1') | (((try subst hD hu); (try simp only [nc] at *); (try simp only [Int.ofNat_eq_natCast] at *); try simp (disch := omega) only [std, uid, S0] at *) <;> first | omega | rfl | (exfalso; simp_all only [Bool.true_eq_false, Bool.false_eq_true]; done))))
      refine callx hD hu hC (x_CloneSnp l.undo (by omega)) ?_
      ((try conv => cbv); (repeat' (first | (with_reducible refine mK hD ?_; kernel_rfl) | (with_reducible first | refine mS hD ?_ | refine mJ hL ?_ | refine mT hD ?_ | refine mF hD ?_ | refine mB hD (fun _ => ?_) (fun _ => ?_) | exact True.intro | refine And.intro ?_ ?_) <;> try conv => cbv)); all_goals try (first | trivial | (subst hD; first | exact fun _ _ => ⟨_, rfl⟩ | exact fl1 | exact fl1') | (((try subst hD hu); (try simp only [nc] at *); (try simp only [Int.ofNat_eq_natCast] at *); try simp (disch := omega) only [std, uid, S0] at *) <;> first | omega | rfl | (exfalso; simp_all only [Bool.true_eq_false, Bool.false_eq_true]; done))))
      refine callx hD hu hC (x_clustersOf l.left hb.1) ?_
      ((try conv => cbv); (repeat' (first | (with_reducible refine mK hD ?_; kernel_rfl) | (with_reducible first | refine mS hD ?_ | refine mJ hL ?_ | refine mT hD ?_ | refine mF hD ?_ | refine mB hD (fun _ => ?_) (fun _ => ?_) | exact True.intro | refine And.intro ?_ ?_) <;> try conv => cbv)); all_goals try (first | trivial | (subst hD; first | exact fun _ _ => ⟨_, rfl⟩ | exact fl1 | exact fl1') | (((try subst hD hu); (try simp only [nc] at *); (try simp only [Int.ofNat_eq_natCast] at *); try simp (disch := omega) only [std, uid, S0] at *) <;> first | omega | rfl | (exfalso; simp_all only [Bool.true_eq_false, Bool.false_eq_true]; done))))
      refine callx hD hu hC (x_clustersOf l.right hb.2.1) ?_
      ((try conv => cbv); (repeat' (first | (with_reducible refine mK hD ?_; kernel_rfl) | (with_reducible first | refine mS hD ?_ | refine mJ hL ?_ | refine mT hD ?_ | refine mF hD ?_ | refine mB hD (fun _ => ?_) (fun _ => ?_) | exact True.intro | refine And.intro ?_ ?_) <;> try conv => cbv)); all_goals try (first | trivial | (subst hD; first | exact fun _ _ => ⟨_, rfl⟩ | exact fl1 | exact fl1') | (((try subst hD hu); (try simp only [nc] at *); (try simp only [Int.ofNat_eq_natCast] at *); try simp (disch := omega) only [std, uid, S0] at *) <;> first | omega | rfl | (exfalso; simp_all only [Bool.true_eq_false, Bool.false_eq_true]; done))))
      refine callx hD hu hC (x_implLineOk l hb hk) ?_
      rw [h1]
      ((try conv => cbv); (repeat' (first | (with_reducible refine mK hD ?_; kernel_rfl) | (with_reducible first | refine mS hD ?_ | refine mJ hL ?_ | refine mT hD ?_ | refine mF hD ?_ | refine mB hD (fun _ => ?_) (fun _ => ?_) | exact True.intro | refine And.intro ?_ ?_) <;> try conv => cbv)); all_goals try (first | trivial | (subst hD; first | exact fun _ _ => ⟨_, rfl⟩ | exact fl1 | exact fl1') | (((try subst hD hu); (try simp only [nc] at *); (try simp only [Int.ofNat_eq_natCast] at *); try simp (disch := omega) only [std, uid, S0] at *) <;> first | omega | rfl | (exfalso; simp_all only [Bool.true_eq_false, Bool.false_eq_true]; done))))
      refine callx hD hu hC (x_settledWithin text 300 ht (by omega)) ?_
      rw [h2]
      ((try conv => cbv); (repeat' (first | (with_reducible refine mK hD ?_; kernel_rfl) | (with_reducible first | refine mS hD ?_ | refine mJ hL ?_ | refine mT hD ?_ | refine mF hD ?_ | refine mB hD (fun _ => ?_) (fun _ => ?_) | exact True.intro | refine And.intro ?_ ?_) <;> try conv => cbv)); all_goals try (first | trivial | (subst hD; first | exact fun _ _ => ⟨_, rfl⟩ | exact fl1 | exact fl1') | (((try subst hD hu); (try simp only [nc] at *); (try simp only [Int.ofNat_eq_natCast] at *); try simp (disch := omega) only [std, uid, S0] at *) <;> first | omega | rfl | (exfalso; simp_all only [Bool.true_eq_false, Bool.false_eq_true]; done))))
    | true =>
      have e : setText l text = setLine l text [] := by rw [setText, h1, h2]; rfl
      rw [e]
      ((try conv => cbv); (repeat' (first | (with_reducible refine mK hD ?_; kernel_rfl) | (with_reducible first | refine mS hD ?_ | refine mJ hL ?_ | refine mT hD ?_ | refine mF hD ?_ | refine mB hD (fun _ => ?_) (fun _ => ?_) | exact True.intro | refine And.intro ?_ ?_) <;> try conv => cbv)); all_goals try (first | trivial | (subst hD; first | exact fun _ _ => ⟨_, rfl⟩ | exact fl1 | exact fl1') | (((try subst hD hu); (try simp only [nc] at *); (try simp only [Int.ofNat_eq_natCast] at *); try simp (disch := omega) only [std, uid, S0] at *) <;> first | omega | rfl | (exfalso; simp_all only [Bool.true_eq_false, Bool.false_eq_true]; done))))
      refine call_in (fn := Try.f47) (c := bodyOf Try.f47) envOk (by kernel_rfl) (by kernel_rfl) (by kernel_rfl) (by kernel_rfl) rfl hD hC hL (by kernel_rfl) ?_; intro _
      ((try conv => cbv); (repeat' (first | (with_reducible refine mK hD ?_; kernel_rfl) | (with_reducible first | refine mS hD ?_ | refine mJ hL ?_ | refine mT hD ?_ | refine mF hD ?_ | refine mB hD (fun _ => ?_) (fun _ => ?_) | exact True.intro | refine And.intro ?_ ?_) <;> try conv => cbv)); all_goals try (first | trivial | (subst hD; first | exact fun _ _ => ⟨_, rfl⟩ | exact fl1 | exact fl1') | (((try subst hD hu); (try simp only [nc] at *); (try simp only [Int.ofNat_eq_natCast] at *); try simp (disch := omega) only [std, uid, S0] at *) <;> first | omega | rfl | (exfalso; simp_all only [Bool.true_eq_false, Bool.false_eq_true]; done))))
      refine callx hD hu hC (x_CloneSnp l.undo (by omega)) ?_
      ((try conv => cbv); (repeat' (first | (with_reducible refine mK hD ?_; kernel_rfl) | (with_reducible first | refine mS hD ?_ | refine mJ hL ?_ | refine mT hD ?_ | refine mF hD ?_ | refine mB hD (fun _ => ?_) (fun _ => ?_) | exact True.intro | refine And.intro ?_ ?_) <;> try conv => cbv)); all_goals try (first | trivial | (subst hD; first | exact fun _ _ => ⟨_, rfl⟩ | exact fl1 | exact fl1') | (((try subst hD hu); (try simp only [nc] at *); (try simp only [Int.ofNat_eq_natCast] at *); try simp (disch := omega) only [std, uid, S0] at *) <;> first | omega | rfl | (exfalso; simp_all only [Bool.true_eq_false, Bool.false_eq_true]; done))))
      refine callx hD hu hC (x_clustersOf l.left hb.1) ?_
      ((try conv => cbv); (repeat' (first | (with_reducible refine mK hD ?_; kernel_rfl) | (with_reducible first | refine mS hD ?_ | refine mJ hL ?_ | refine mT hD ?_ | refine mF hD ?_ | refine mB hD (fun _ => ?_) (fun _ => ?_) | exact True.intro | refine And.intro ?_ ?_) <;> try conv => cbv)); all_goals try (first | trivial | (subst hD; first | exact fun _ _ => ⟨_, rfl⟩ | exact fl1 | exact fl1') | (((try subst hD hu); (try simp only [nc] at *); (try simp only [Int.ofNat_eq_natCast] at *); try simp (disch := omega) only [std, uid, S0] at *) <;> first | omega | rfl | (exfalso; simp_all only [Bool.true_eq_false, Bool.false_eq_true]; done))))
      refine callx hD hu hC (x_clustersOf l.right hb.2.1) ?_
      ((try conv => cbv); (repeat' (first | (with_reducible refine mK hD ?_; kernel_rfl) | (with_reducible first | refine mS hD ?_ | refine mJ hL ?_ | refine mT hD ?_ | refine mF hD ?_ | refine mB hD (fun _ => ?_) (fun _ => ?_) | exact True.intro | refine And.intro ?_ ?_) <;> try conv => cbv)); all_goals try (first | trivial | (subst hD; first | exact fun _ _ => ⟨_, rfl⟩ | exact fl1 | exact fl1') | (((try subst hD hu); (try simp only [nc] at *); (try simp only [Int.ofNat_eq_natCast] at *); try simp (disch := omega) only [std, uid, S0] at *) <;> first | omega | rfl | (exfalso; simp_all only [Bool.true_eq_false, Bool.false_eq_true]; done))))
      refine callx hD hu hC (x_implLineOk l hb hk) ?_
      rw [h1]
      ((try conv => cbv); (repeat' (first | (with_reducible refine mK hD ?_; kernel_rfl) | (with_reducible first | refine mS hD ?_ | refine mJ hL ?_ | refine mT hD ?_ | refine mF hD ?_ | refine mB hD (fun _ => ?_) (fun _ => ?_) | exact True.intro | refine And.intro ?_ ?_) <;> try conv => cbv)); all_goals try (first | trivial | (subst hD; first | exact fun _ _ => ⟨_, rfl⟩ | exact fl1 | exact fl1') | (((try subst hD hu); (try simp only [nc] at *); (try simp only [Int.ofNat_eq_natCast] at *); try simp (disch := omega) only [std, uid, S0] at *) <;> first | omega | rfl | (exfalso; simp_all only [Bool.true_eq_false, Bool.false_eq_true]; done))))
      refine callx hD hu hC (x_settledWithin text 300 ht (by omega)) ?_
      rw [h2]
      ((try conv => cbv); (repeat' (first | (with_reducible refine mK hD ?_; kernel_rfl) | (with_reducible first | refine mS hD ?_ | refine mJ hL ?_ | refine mT hD ?_ | refine mF hD ?_ | refine mB hD (fun _ => ?_) (fun _ => ?_) | exact True.intro | refine And.intro ?_ ?_) <;> try conv => cbv)); all_goals try (first | trivial | (subst hD; first | exact fun _ _ => ⟨_, rfl⟩ | exact fl1 | exact fl1') | (((try subst hD hu); (try simp only [nc] at *); (try simp only [Int.ofNat_eq_natCast] at *); try simp (disch := omega) only [std, uid, S0] at *) <;> first | omega | rfl | (exfalso; simp_all only [Bool.true_eq_false, Bool.false_eq_true]; done))))
      refine call_in (fn := Try.f50) (c := bodyOf Try.f50) envOk (by kernel_rfl) (by kernel_rfl) (by kernel_rfl) (by kernel_rfl) rfl hD hC hL (by kernel_rfl) ?_; intro _
      ((try conv => cbv); (repeat' (first | (with_reducible refine mK hD ?_; kernel_rfl) | (with_reducible first | refine mS hD ?_ | refine mJ hL ?_ | refine mT hD ?_ | refine mF hD ?_ | refine mB hD (fun _ => ?_) (fun _ => ?_) | exact True.intro | refine And.intro ?_ ?_) <;> try conv => cbv)); all_goals try (first | trivial | (subst hD; first | exact fun _ _ => ⟨_, rfl⟩ | exact fl1 | exact fl1') | (((try subst hD hu); (try simp only [nc] at *); (try simp only [Int.ofNat_eq_natCast] at *); try simp (disch := omega) only [std, uid, S0] at *) <;> first | omega | rfl | (exfalso; simp_all only [Bool.true_eq_false, Bool.false_eq_true]; done))))
      · have h3 : 50 < l.undo.length + 1 := by ((try subst hD hu); (try simp only [nc] at *); (try simp only [Int.ofNat_eq_natCast] at *); try simp (disch := omega) only [std, uid, S0] at *); omega
        refine callx hD hu hC (x_CloneSnp (pushU l.undo ⟨l.left, l.right⟩) (by omega)) ?_
        ((try conv => cbv); (repeat' (first | (with_reducible refine mK hD ?_; kernel_rfl) | (with_reducible first | refine mS hD ?_ | refine mJ hL ?_ | refine mT hD ?_ | refine mF hD ?_ | refine mB hD (fun _ => ?_) (fun _ => ?_) | exact True.intro | refine And.intro ?_ ?_) <;> try conv => cbv)); all_goals try (first | trivial | (subst hD; first | exact fun _ _ => ⟨_, rfl⟩ | exact fl1 | exact fl1') | (((try subst hD hu); (try simp only [nc] at *); (try simp only [Int.ofNat_eq_natCast] at *); try simp (disch := omega) only [std, uid, S0] at *) <;> first | omega | rfl | (exfalso; simp_all only [Bool.true_eq_false, Bool.false_eq_true]; done))))
        · ((try subst hD hu); (try simp only [nc] at *); (try simp only [Int.ofNat_eq_natCast] at *); try simp (disch := omega) only [std, uid, S0, pushU_pos h3] at *)
          omega
        · subst hD hu
          refine ((LR.sh (a := 1) (LR.cat' LR.refl (LR.one (x := ⟨l.left, l.right⟩) (aLe_rfl _))) (by simp only [std, uid]; omega)).to ?_).deq2
          simp only [uid, pushU_pos h3, std]
          simp
      · have h3 : ¬ 50 < l.undo.length + 1 := by ((try subst hD hu); (try simp only [nc] at *); (try simp only [Int.ofNat_eq_natCast] at *); try simp (disch := omega) only [std, uid, S0] at *); omega
        refine callx hD hu hC (x_CloneSnp (pushU l.undo ⟨l.left, l.right⟩) (by omega)) ?_
        ((try conv => cbv); (repeat' (first | (with_reducible refine mK hD ?_; kernel_rfl) | (with_reducible first | refine mS hD ?_ | refine mJ hL ?_ | refine mT hD ?_ | refine mF hD ?_ | refine mB hD (fun _ => ?_) (fun _ => ?_) | exact True.intro | refine And.intro ?_ ?_) <;> try conv => cbv)); all_goals try (first | trivial | (subst hD; first | exact fun _ _ => ⟨_, rfl⟩ | exact fl1 | exact fl1') | (((try subst hD hu); (try simp only [nc] at *); (try simp only [Int.ofNat_eq_natCast] at *); try simp (disch := omega) only [std, uid, S0] at *) <;> first | omega | rfl | (exfalso; simp_all only [Bool.true_eq_false, Bool.false_eq_true]; done))))
        · ((try subst hD hu); (try simp only [nc] at *); (try simp only [Int.ofNat_eq_natCast] at *); try simp (disch := omega) only [std, uid, S0, pushU_neg h3] at *)
        · subst hD hu
          refine LR.deq2 (LR.to (l := l.undo ++ [(⟨l.left, l.right⟩ : Snp)]) ?_ (pushU_neg h3).symm)
          exact LR.cat' LR.refl (LR.one (x := (⟨l.left, l.right⟩ : Snp)) (aLe_rfl _))
end Go.AW
/- Layout of the specification. -/
set_option linter.unusedVariables false
set_option linter.unusedSimpArgs false
namespace Go.AW
open Go.Proofs
set_option maxRecDepth 100000
set_option maxHeartbeats 16000000
theorem x_specCut (s : Str) (hn : s.length ≤ 100000000) : PX Try.prog 55 (fun D u => [.r (.c (.s (.string (D.strB (u _ s)))))]) (fun D u => [.c (lClu D u (u _ (cutT s)))]) (fun D u => []) := by
  refine px_of_awp (fn := Try.f55) (c := bodyOf Try.f55) envOk (by kernel_rfl) (by kernel_rfl) (by kernel_rfl) (by kernel_rfl) rfl (by kernel_rfl) (by kernel_rfl) ?_
  intro w0 mine D u C L hD hu hC hL
  have h1 := clean_len s
  ((try conv => cbv); (repeat' (first | (with_reducible refine mK hD ?_; kernel_rfl) | (with_reducible first | refine mS hD ?_ | refine mJ hL ?_ | refine mT hD ?_ | refine mF hD ?_ | refine mB hD (fun _ => ?_) (fun _ => ?_) | exact True.intro | refine And.intro ?_ ?_) <;> try conv => cbv)); all_goals try (first | trivial | (subst hD; first | exact fun _ _ => ⟨_, rfl⟩ | exact fl1 | exact fl1') | (((try subst hD hu); (try simp only [nc] at *); (try simp only [Int.ofNat_eq_natCast] at *); try simp (disch := omega) only [std, uid, S0] at *) <;> first | omega | rfl | (exfalso; simp_all only [Bool.true_eq_false, Bool.false_eq_true]; done))))
  refine callx hD hu hC (x_specClean s (by omega)) ?_
  ((try conv => cbv); (repeat' (first | (with_reducible refine mK hD ?_; kernel_rfl) | (with_reducible first | refine mS hD ?_ | refine mJ hL ?_ | refine mT hD ?_ | refine mF hD ?_ | refine mB hD (fun _ => ?_) (fun _ => ?_) | exact True.intro | refine And.intro ?_ ?_) <;> try conv => cbv)); all_goals try (first | trivial | (subst hD; first | exact fun _ _ => ⟨_, rfl⟩ | exact fl1 | exact fl1') | (((try subst hD hu); (try simp only [nc] at *); (try simp only [Int.ofNat_eq_natCast] at *); try simp (disch := omega) only [std, uid, S0] at *) <;> first | omega | rfl | (exfalso; simp_all only [Bool.true_eq_false, Bool.false_eq_true]; done))))
  refine callx hD hu hC (x_specClusters (clean s) (by omega) (clean_ok s)) ?_
  ((try conv => cbv); (repeat' (first | (with_reducible refine mK hD ?_; kernel_rfl) | (with_reducible first | refine mS hD ?_ | refine mJ hL ?_ | refine mT hD ?_ | refine mF hD ?_ | refine mB hD (fun _ => ?_) (fun _ => ?_) | exact True.intro | refine And.intro ?_ ?_) <;> try conv => cbv)); all_goals try (first | trivial | (subst hD; first | exact fun _ _ => ⟨_, rfl⟩ | exact fl1 | exact fl1') | (((try subst hD hu); (try simp only [nc] at *); (try simp only [Int.ofNat_eq_natCast] at *); try simp (disch := omega) only [std, uid, S0] at *) <;> first | omega | rfl | (exfalso; simp_all only [Bool.true_eq_false, Bool.false_eq_true]; done))))
theorem x_specStarts' (cs : List Clu) (cols : Int) (st : List Int) (h : st = starts cs cols) (hn : cs.length ≤ 1000000000) (hc : okI cols) : PX Try.prog 56 (fun D u => [.r (.c (lClu D u (u _ cs))), AI (u _ cols)]) (fun D u => [.c (lN D u (u _ st))]) (fun D u => []) := h ▸ x_specStarts cs cols hn hc
theorem x_specLayout1 (prompt : Str) (l : Lin) (cols rows : Int) (hp : prompt.length ≤ 10000000) (hb : bdELin 10000000 l) (hc : okI cols) (hr : okI rows) (hs : sizeOk cols rows = true)
    (A F : List Clu) (hA : A = layA prompt l) (hF : F = layF prompt l) (st : List Int) (hst : Is st (starts A cols)) (r : Nat) (hR' : Is r (rowOf st F.length)) (c : Int) (hcc' : Is c (widthsOf (seg A (st.getD r 0) F.length))) (b : Blk) (hbk : Is b (layout prompt l cols rows))
    (st2 : List Int) (r2 c2 : Int) (f m : Nat) (hL2 : LayI A F.length cols rows st r c b st2 r2 c2 f m) :
    PX Try.prog 16 (fun D u => [.r (.c (.s (.string (D.strB (u _ prompt))))), .r (.a (rLin D u (u _ l))), AI (u _ cols), AI (u _ rows)]) (fun D u => [.a (rBlk D u (u _ b))]) (fun D u => []) := by
  have hl1 := cut_len prompt
  have hl2 := cut_len l.left
  have hl3 := cut_len l.right
  have hb1 := hb.1
  have hb2 := hb.2.1
  have e1 := layA_len prompt l
  have e2 := layF_len prompt l
  have ht := layA_tot prompt l
  rw [← hA] at e1 ht
  rw [← hF] at e2
  have hso := hL2.so
  have hra1 := hL2.r1
  have hra2 := hL2.r2'
  have hra3 := hso.rng r hra1
  have hwA : ∀ c, c ∈ A → wOk c := hA ▸ layA_w prompt l
  have hoA : ∀ c, c ∈ A → okClu c := hA ▸ layA_ok prompt l
  have hsl := seg_len A (st.getD r 0) F.length (by omega)
  have hwd := widths_bd (seg A (st.getD r 0) F.length) (fun c h => hwA c (seg_mem h)) _ (Nat.le_refl _)
  rw [List.take_length, ← show c = _ from hcc'] at hwd
  have hstl := hso.len
  have hso3 := hL2.so2
  have hst2l := hso3.len
  have hfl := hL2.f1
  have hm := hL2.m1
  have hsz := (sizeOk_iff cols rows).mp hs
  refine px_of_awp (fn := Try.f16) (c := bodyOf Try.f16) envOk (by kernel_rfl) (by kernel_rfl) (by kernel_rfl) (by kernel_rfl) rfl (by kernel_rfl) (by kernel_rfl) ?_
  intro w0 mine D u C L hD hu hC hL
  ((try conv => cbv); (repeat' (first | (with_reducible refine mK hD ?_; kernel_rfl) | (with_reducible first | refine mS hD ?_ | refine mJ hL ?_ | refine mT hD ?_ | refine mF hD ?_ | refine mB hD (fun _ => ?_) (fun _ => ?_) | exact True.intro | refine And.intro ?_ ?_) <;> try conv => cbv)); all_goals try (first | trivial | (subst hD; first | exact fun _ _ => ⟨_, rfl⟩ | exact fl1 | exact fl1') | (((try subst hD hu); (try simp only [nc] at *); (try simp only [Int.ofNat_eq_natCast] at *); try simp (disch := omega) only [std, uid, S0] at *) <;> first | omega | rfl | (exfalso; simp_all only [Bool.true_eq_false, Bool.false_eq_true]; done))))
  refine callx hD hu hC (x_l2SizeOk cols rows) ?_
  rw [hs]
  ((try conv => cbv); (repeat' (first | (with_reducible refine mK hD ?_; kernel_rfl) | (with_reducible first | refine mS hD ?_ | refine mJ hL ?_ | refine mT hD ?_ | refine mF hD ?_ | refine mB hD (fun _ => ?_) (fun _ => ?_) | exact True.intro | refine And.intro ?_ ?_) <;> try conv => cbv)); all_goals try (first | trivial | (subst hD; first | exact fun _ _ => ⟨_, rfl⟩ | exact fl1 | exact fl1') | (((try subst hD hu); (try simp only [nc] at *); (try simp only [Int.ofNat_eq_natCast] at *); try simp (disch := omega) only [std, uid, S0] at *) <;> first | omega | rfl | (exfalso; simp_all only [Bool.true_eq_false, Bool.false_eq_true]; done))))
  refine callx hD hu hC (x_specCut prompt (by omega)) ?_
  ((try conv => cbv); (repeat' (first | (with_reducible refine mK hD ?_; kernel_rfl) | (with_reducible first | refine mS hD ?_ | refine mJ hL ?_ | refine mT hD ?_ | refine mF hD ?_ | refine mB hD (fun _ => ?_) (fun _ => ?_) | exact True.intro | refine And.intro ?_ ?_) <;> try conv => cbv)); all_goals try (first | trivial | (subst hD; first | exact fun _ _ => ⟨_, rfl⟩ | exact fl1 | exact fl1') | (((try subst hD hu); (try simp only [nc] at *); (try simp only [Int.ofNat_eq_natCast] at *); try simp (disch := omega) only [std, uid, S0] at *) <;> first | omega | rfl | (exfalso; simp_all only [Bool.true_eq_false, Bool.false_eq_true]; done))))
  refine callx hD hu hC (x_specCut l.left (by omega)) ?_
  ((try conv => cbv); (repeat' (first | (with_reducible refine mK hD ?_; kernel_rfl) | (with_reducible first | refine mS hD ?_ | refine mJ hL ?_ | refine mT hD ?_ | refine mF hD ?_ | refine mB hD (fun _ => ?_) (fun _ => ?_) | exact True.intro | refine And.intro ?_ ?_) <;> try conv => cbv)); all_goals try (first | trivial | (subst hD; first | exact fun _ _ => ⟨_, rfl⟩ | exact fl1 | exact fl1') | (((try subst hD hu); (try simp only [nc] at *); (try simp only [Int.ofNat_eq_natCast] at *); try simp (disch := omega) only [std, uid, S0] at *) <;> first | omega | rfl | (exfalso; simp_all only [Bool.true_eq_false, Bool.false_eq_true]; done))))
  refine callx hD hu hC (x_specCut l.right (by omega)) ?_
  ((try conv => cbv); (repeat' (first | (with_reducible refine mK hD ?_; kernel_rfl) | (with_reducible first | refine mS hD ?_ | refine mJ hL ?_ | refine mT hD ?_ | refine mF hD ?_ | refine mB hD (fun _ => ?_) (fun _ => ?_) | exact True.intro | refine And.intro ?_ ?_) <;> try conv => cbv)); all_goals try (first | trivial | (subst hD; first | exact fun _ _ => ⟨_, rfl⟩ | exact fl1 | exact fl1') | (((try subst hD hu); (try simp only [nc] at *); (try simp only [Int.ofNat_eq_natCast] at *); try simp (disch := omega) only [std, uid, S0] at *) <;> first | omega | rfl | (exfalso; simp_all only [Bool.true_eq_false, Bool.false_eq_true]; done))))
  refine callx hD hu hC (x_specStarts' A cols st hst (by omega) hc) ?_
  ((try conv => cbv); (repeat' (first | (with_reducible refine mK hD ?_; kernel_rfl) | (with_reducible first | refine mS hD ?_ | refine mJ hL ?_ | refine mT hD ?_ | refine mF hD ?_ | refine mB hD (fun _ => ?_) (fun _ => ?_) | exact True.intro | refine And.intro ?_ ?_) <;> try conv => cbv)); all_goals try (first | trivial | (subst hD; first | exact fun _ _ => ⟨_, rfl⟩ | exact fl1 | exact fl1') | (((try subst hD hu); (try simp only [nc] at *); (try simp only [Int.ofNat_eq_natCast] at *); try simp (disch := omega) only [std, uid, S0] at *) <;> first | omega | rfl | (exfalso; simp_all only [Bool.true_eq_false, Bool.false_eq_true]; done))))
  · subst hD hu
    exact (LR.to (LR.cat' (LR.cat' LR.refl LR.refl) LR.refl) hA.symm).deq2
  refine callx hD hu hC (x_l6Row' st (F.length : Nat) r hR' (by omega) (by unfold okI; omega) (st_okI hso (by omega))) ?_
  ((try conv => cbv); (repeat' (first | (with_reducible refine mK hD ?_; kernel_rfl) | (with_reducible first | refine mS hD ?_ | refine mJ hL ?_ | refine mT hD ?_ | refine mF hD ?_ | refine mB hD (fun _ => ?_) (fun _ => ?_) | exact True.intro | refine And.intro ?_ ?_) <;> try conv => cbv)); all_goals try (first | trivial | (subst hD; first | exact fun _ _ => ⟨_, rfl⟩ | exact fl1 | exact fl1') | (((try subst hD hu); (try simp only [nc] at *); (try simp only [Int.ofNat_eq_natCast] at *); try simp (disch := omega) only [std, uid, S0] at *) <;> first | omega | rfl | (exfalso; simp_all only [Bool.true_eq_false, Bool.false_eq_true]; done))))
  all_goals try (((try subst hD hu); (try simp only [nc] at *); (try simp only [Int.ofNat_eq_natCast] at *); try simp (disch := omega) only [std, uid, S0, e2] at *); omega)
  refine callx hD hu hC (x_l6Width' (seg A (st.getD r 0) F.length) c hcc' (by omega) (fun c h => hwA c (seg_mem h))) ?_
  ((try conv => cbv); (repeat' (first | (with_reducible refine mK hD ?_; kernel_rfl) | (with_reducible first | refine mS hD ?_ | refine mT hD ?_ | refine mF hD ?_ | refine mB hD (fun _ => ?_) (fun _ => ?_) | exact True.intro | refine And.intro ?_ ?_) <;> try conv => cbv)); all_goals try (first | trivial | (subst hD; first | exact fun _ _ => ⟨_, rfl⟩ | exact fl1 | exact fl1') | (((try subst hD hu); (try simp only [nc] at *); (try simp only [Int.ofNat_eq_natCast] at *); try simp (disch := omega) only [std, uid, S0] at *) <;> first | omega | rfl | (exfalso; simp_all only [Bool.true_eq_false, Bool.false_eq_true]; done))))
  · subst hD hu
    have hLA : LR (rClu std uid) dClu _ _ A := LR.to (LR.cat' (LR.cat' LR.refl LR.refl) LR.refl) hA.symm
    have hB := LR.shF (a := (st.getD r 0).toNat) (m := F.length - (st.getD r 0).toNat) hLA (by simp only [std, uid, Int.toNat_natCast]; omega)
    have hC2 : LR (rClu std uid) dClu _ _ (seg A (st.getD r 0) F.length) := hB
    refine LR.deq2 (sz := 0) (LR.to_n hC2 ?_)
    simp only [std, uid, Int.toNat_natCast, e2]
  refine meet_of hL (ι := Unit) (fun _ => [(11, vO D 5 (u _ st2)), (12, VI (u _ r2)), (13, VI (u _ c2)), (38, .bad), (39, .bad), (43, .bad), (45, .bad)]) (fun _ => [(5, oN D u (u _ st2))]) (fun _ => True) ?_ ?_
  · ((try conv => cbv); (repeat' (first | (with_reducible refine mK hD ?_; kernel_rfl) | (with_reducible first | refine mS hD ?_ | refine mJ hL ?_ | refine mT hD ?_ | refine mF hD ?_ | refine mB hD (fun _ => ?_) (fun _ => ?_) | exact True.intro | refine And.intro ?_ ?_) <;> try conv => cbv)); all_goals try (first | trivial | (subst hD; first | exact fun _ _ => ⟨_, rfl⟩ | exact fl1 | exact fl1') | (((try subst hD hu); (try simp only [nc] at *); (try simp only [Int.ofNat_eq_natCast] at *); try simp (disch := omega) only [std, uid, S0] at *) <;> first | omega | rfl | (exfalso; simp_all only [Bool.true_eq_false, Bool.false_eq_true]; done))))
    · have hx : F.length = A.length ∧ c = cols := by
        ((try subst hD hu); (try simp only [nc] at *); (try simp only [Int.ofNat_eq_natCast] at *); try simp (disch := omega) only [std, uid, S0, e1, e2] at *)
        exact ⟨by omega, by assumption⟩
      have hy := hL2.ext hx.1 hx.2
      have h1 : Is st2 _ := hy.1
      have h2 : Is r2 _ := hy.2.1
      have h3 : Is c2 _ := hy.2.2
      have hAl : A.length ≤ 100000000 := by omega
      have e1' : Is A.length _ := e1
      have e2' : Is F.length _ := e2
      have e3 : Is F.length A.length := hx.1
      clear hx hy e1 e2
      refine ⟨(), trivial, ssem_of ?_⟩
      ((try conv => cbv); (repeat' (first | (with_reducible refine mK hD ?_; kernel_rfl) | (with_reducible first | refine mS hD ?_ | refine mJ hL ?_ | refine mT hD ?_ | refine mF hD ?_ | refine mB hD (fun _ => ?_) (fun _ => ?_) | exact True.intro | refine And.intro ?_ ?_) <;> try conv => cbv)); all_goals try (first | trivial | (subst hD; first | exact fun _ _ => ⟨_, rfl⟩ | exact fl1 | exact fl1') | (((try subst hD hu); (try simp only [nc] at *); (try simp only [Int.ofNat_eq_natCast] at *); try simp (disch := omega) only [std, uid, S0] at *) <;> first | omega | rfl | (exfalso; simp_all only [Bool.true_eq_false, Bool.false_eq_true]; done))))
      · ((try subst hD hu); (try simp only [nc] at *); (try simp only [Int.ofNat_eq_natCast] at *); try simp (disch := omega) only [std, uid, S0, show st2 = _ from h1] at *)
      · subst hD hu
        rw [show st2 = _ from h1]
        refine LR.deq2 (LR.cat' LR.refl (LR.one (x := (A.length : Int)) ?_))
        rw [← show F.length = _ from e3, show F.length = _ from e2']
        exact aLe_rfl _
      · ((try subst hD hu); (try simp only [nc] at *); (try simp only [Int.ofNat_eq_natCast] at *); try simp (disch := omega) only [std, uid, S0, show st2 = _ from h1] at *)
      · ((try subst hD hu); (try simp only [nc] at *); (try simp only [Int.ofNat_eq_natCast] at *); try simp (disch := omega) only [std, uid, S0, show r2 = _ from h2] at *)
        try omega
      · ((try subst hD hu); (try simp only [nc] at *); (try simp only [Int.ofNat_eq_natCast] at *); try simp (disch := omega) only [std, uid, S0, show c2 = _ from h3] at *)
    all_goals (
      have hx : F.length = A.length → c ≠ cols := by
        ((try subst hD hu); (try simp only [nc] at *); (try simp only [Int.ofNat_eq_natCast] at *); try simp (disch := omega) only [std, uid, S0, e1, e2] at *)
        omega
      have hy := hL2.nor hx
      have h1 : Is st2 _ := hy.1
      have h2 : Is r2 _ := hy.2.1
      have h3 : Is c2 _ := hy.2.2
      clear hx hy
      refine ⟨(), trivial, ssem_of ?_⟩
      ((try conv => cbv); (repeat' (first | (with_reducible refine mK hD ?_; kernel_rfl) | (with_reducible first | refine mS hD ?_ | refine mJ hL ?_ | refine mT hD ?_ | refine mF hD ?_ | refine mB hD (fun _ => ?_) (fun _ => ?_) | exact True.intro | refine And.intro ?_ ?_) <;> try conv => cbv)); all_goals try (first | trivial | (subst hD; first | exact fun _ _ => ⟨_, rfl⟩ | exact fl1 | exact fl1') | (((try subst hD hu); (try simp only [nc] at *); (try simp only [Int.ofNat_eq_natCast] at *); try simp (disch := omega) only [std, uid, S0] at *) <;> first | omega | rfl | (exfalso; simp_all only [Bool.true_eq_false, Bool.false_eq_true]; done))))
      · rw [show st2 = _ from h1]
      · rw [show st2 = _ from h1]
      · rw [show st2 = _ from h1]
      · rw [show r2 = _ from h2]
      · rw [show c2 = _ from h3])
  · intro _ _
    ((try conv => cbv); (repeat' (first | (with_reducible refine mK hD ?_; kernel_rfl) | (with_reducible first | refine mS hD ?_ | refine mT hD ?_ | refine mF hD ?_ | refine mB hD (fun _ => ?_) (fun _ => ?_) | exact True.intro | refine And.intro ?_ ?_) <;> try conv => cbv)); all_goals try (first | trivial | (subst hD; first | exact fun _ _ => ⟨_, rfl⟩ | exact fl1 | exact fl1') | (((try subst hD hu); (try simp only [nc] at *); (try simp only [Int.ofNat_eq_natCast] at *); try simp (disch := omega) only [std, uid, S0] at *) <;> first | omega | rfl | (exfalso; simp_all only [Bool.true_eq_false, Bool.false_eq_true]; done))))
    refine meet_of hL (ι := Unit) (fun _ => [(14, VI (u _ (f : Int)))]) (fun _ => []) (fun _ => True) ?_ ?_
    · ((try conv => cbv); (repeat' (first | (with_reducible refine mK hD ?_; kernel_rfl) | (with_reducible first | refine mS hD ?_ | refine mJ hL ?_ | refine mT hD ?_ | refine mF hD ?_ | refine mB hD (fun _ => ?_) (fun _ => ?_) | exact True.intro | refine And.intro ?_ ?_) <;> try conv => cbv)); all_goals try (first | trivial | (subst hD; first | exact fun _ _ => ⟨_, rfl⟩ | exact fl1 | exact fl1') | (((try subst hD hu); (try simp only [nc] at *); (try simp only [Int.ofNat_eq_natCast] at *); try simp (disch := omega) only [std, uid, S0] at *) <;> first | omega | rfl | (exfalso; simp_all only [Bool.true_eq_false, Bool.false_eq_true]; done))))
      all_goals (
        refine ⟨(), trivial, ssem_of ?_⟩
        ((try conv => cbv); (repeat' (first | (with_reducible refine mK hD ?_; kernel_rfl) | (with_reducible first | refine mS hD ?_ | refine mJ hL ?_ | refine mT hD ?_ | refine mF hD ?_ | refine mB hD (fun _ => ?_) (fun _ => ?_) | exact True.intro | refine And.intro ?_ ?_) <;> try conv => cbv)); all_goals try (first | trivial | (subst hD; first | exact fun _ _ => ⟨_, rfl⟩ | exact fl1 | exact fl1') | (((try subst hD hu); (try simp only [nc] at *); (try simp only [Int.ofNat_eq_natCast] at *); try simp (disch := omega) only [std, uid, S0] at *) <;> first | omega | rfl | (exfalso; simp_all only [Bool.true_eq_false, Bool.false_eq_true]; done))))
        have h1 := hL2.fc
        have h2 := hL2.r3
        ((try subst hD hu); (try simp only [nc] at *); (try simp only [Int.ofNat_eq_natCast] at *); try simp (disch := omega) only [std, uid, S0] at *)
        omega)
    · intro _ _
      have hfc := hL2.fc
      have hr3 := hL2.r3
      have hb1' := hL2.b1
      have hb2' := hL2.b2
      have hb3' := hL2.b3
      have hrl := rowsT_len A st2 f
      ((try conv => cbv); (repeat' (first | (with_reducible refine mK hD ?_; kernel_rfl) | (with_reducible first | refine mS hD ?_ | refine mT hD ?_ | refine mF hD ?_ | refine mB hD (fun _ => ?_) (fun _ => ?_) | exact True.intro | refine And.intro ?_ ?_) <;> try conv => cbv)); all_goals try (first | trivial | (subst hD; first | exact fun _ _ => ⟨_, rfl⟩ | exact fl1 | exact fl1') | (((try subst hD hu); (try simp only [nc] at *); (try simp only [Int.ofNat_eq_natCast] at *); try simp (disch := omega) only [std, uid, S0] at *) <;> first | omega | rfl | (exfalso; simp_all only [Bool.true_eq_false, Bool.false_eq_true]; done))))
      refine mJ hL ?_
      ((try conv => cbv); (repeat' (first | (with_reducible refine mK hD ?_; kernel_rfl) | (with_reducible first | refine mS hD ?_ | refine mT hD ?_ | refine mF hD ?_ | refine mB hD (fun _ => ?_) (fun _ => ?_) | exact True.intro | refine And.intro ?_ ?_) <;> try conv => cbv)); all_goals try (first | trivial | (subst hD; first | exact fun _ _ => ⟨_, rfl⟩ | exact fl1 | exact fl1') | (((try subst hD hu); (try simp only [nc] at *); (try simp only [Int.ofNat_eq_natCast] at *); try simp (disch := omega) only [std, uid, S0] at *) <;> first | omega | rfl | (exfalso; simp_all only [Bool.true_eq_false, Bool.false_eq_true]; done))))
      refine loop_st hL m (fun k s => s = rowsT A st2 f k) [] (fun k s => [(77, .bad), (82, .bad), (16, vO D 8 (u _ ((st2 ++ [(A.length : Int)]).drop 1))), (17, VI (u _ ((f : Int) + (k : Int))))]) (fun k s => [(8, oN D u (u _ ((st2 ++ [(A.length : Int)]).drop 1))), (7, .vars [.o 6 0 (D.lenL Str (u _ s)), .s (.int .i64 (u _ (r2 - f))), .s (.int .i64 (u _ c2))]), (6, oT D u (u _ s)), (2, oClu D u (u _ A))]) (rowsT_0 _ _ _).symm ?_ ?_
      · ((try conv => cbv); (repeat' (first | (with_reducible refine mK hD ?_; kernel_rfl) | (with_reducible first | refine mS hD ?_ | refine mJ hL ?_ | refine mT hD ?_ | refine mF hD ?_ | refine mB hD (fun _ => ?_) (fun _ => ?_) | exact True.intro | refine And.intro ?_ ?_) <;> try conv => cbv)); all_goals try (first | trivial | (subst hD; first | exact fun _ _ => ⟨_, rfl⟩ | exact fl1 | exact fl1') | (((try subst hD hu); (try simp only [nc] at *); (try simp only [Int.ofNat_eq_natCast] at *); try simp (disch := omega) only [std, uid, S0] at *) <;> first | omega | rfl | (exfalso; simp_all only [Bool.true_eq_false, Bool.false_eq_true]; done))))
        · subst hD hu
          refine LR.deq2 (LR.to (LR.cat' (LR.cat' LR.nil (LR.shF2 (a := 1) LR.refl ?_)) (LR.one (x := (A.length : Int)) ?_)) ?_)
          · simp only [std, uid]
            omega
          · rw [e1]
            exact aLe_1 (DEq.s _)
          · exact ends_eq hso3.pos
        · (subst hD hu; apply qT; (focus repeat' (first | exact LR.refl | exact LR_bytes | apply mClu | apply mCel | apply mKey | apply mSnp | apply mKRd | apply mLin | apply mHis | apply mBlk | apply mScr | apply mSes | exact zR | exact zB | exact zT | exact zN | exact zClu | exact zCel | exact zCelS | exact zSnp | exact zKey | exact zSes | exact zScr | apply LR.deq | exact LR.nil | apply LR.one | apply LR.rep | apply LR.cat | apply LR.cat' | apply LR.set | exact u8_0 | exact DEq.s _ | (apply str_deq; (repeat' apply sr_cat) <;> rfl) | apply aLe_1 | (apply LR.rfl'; simp only [uid, std, S0]; omega))); all_goals try simp only [uid, std, Int.toNat_natCast, Int.ofNat_eq_natCast])
        · subst hD hu
          exact (LR.to (LR.cat' (LR.cat' LR.refl LR.refl) LR.refl) hA.symm).deq2
      · intro k s hk hs
        have hfk : ((f : Int) + (k : Int)).toNat = f + k := by omega
        have hls := hrl k
        rw [← hs] at hls
        ((try conv => cbv); (repeat' (first | (with_reducible refine mK hD ?_; kernel_rfl) | (with_reducible first | refine mS hD ?_ | refine mJ hL ?_ | refine mT hD ?_ | refine mF hD ?_ | refine mB hD (fun _ => ?_) (fun _ => ?_) | exact True.intro | refine And.intro ?_ ?_) <;> try conv => cbv)); all_goals try (first | trivial | (subst hD; first | exact fun _ _ => ⟨_, rfl⟩ | exact fl1 | exact fl1') | (((try subst hD hu); (try simp only [nc] at *); (try simp only [Int.ofNat_eq_natCast] at *); try simp (disch := omega) only [std, uid, S0] at *) <;> first | omega | rfl | (exfalso; simp_all only [Bool.true_eq_false, Bool.false_eq_true]; done))))
        all_goals try (
          have hkn : f + k < st2.length ∧ (k : Int) < rows := by ((try subst hD hu); (try simp only [nc] at *); (try simp only [Int.ofNat_eq_natCast] at *); try simp (disch := omega) only [std, uid, S0, hfk] at *); omega
          have h1 := hso3.rng (f + k) hkn.1
          ((try subst hD hu); (try simp only [nc] at *); (try simp only [Int.ofNat_eq_natCast] at *); try simp (disch := omega) only [std, uid, S0, hfk, ends_get] at *)
          omega)
        · have hkn : f + k < st2.length ∧ (k : Int) < rows := by ((try subst hD hu); (try simp only [nc] at *); (try simp only [Int.ofNat_eq_natCast] at *); try simp (disch := omega) only [std, uid, S0, hfk] at *); omega
          have h1 := hso3.rng (f + k) hkn.1
          have hst := seg_tot A (st2.getD (f + k) 0) ((st2 ++ [(A.length : Int)]).getD (f + k + 1) 0)
          have hsn := rowsT_snoc A st2 f k hkn.1
          refine callx hD hu hC (x_specTextOf (seg A (st2.getD (f + k) 0) ((st2 ++ [(A.length : Int)]).getD (f + k + 1) 0)) (by omega) (fun c h => hoA c (seg_mem h))) ?_
          have hsg := seg_len A (st2.getD (f + k) 0) ((st2 ++ [(A.length : Int)]).getD (f + k + 1) 0) (by omega)
          ((try conv => cbv); (repeat' (first | (with_reducible refine mK hD ?_; kernel_rfl) | (with_reducible first | refine mS hD ?_ | refine mJ hL ?_ | refine mT hD ?_ | refine mF hD ?_ | refine mB hD (fun _ => ?_) (fun _ => ?_) | exact True.intro | refine And.intro ?_ ?_) <;> try conv => cbv)); all_goals try (first | trivial | (subst hD; first | exact fun _ _ => ⟨_, rfl⟩ | exact fl1 | exact fl1') | (((try subst hD hu); (try simp only [nc] at *); (try simp only [Int.ofNat_eq_natCast] at *); try simp (disch := omega) only [std, uid, S0] at *) <;> first | omega | rfl | (exfalso; simp_all only [Bool.true_eq_false, Bool.false_eq_true]; done))))
          · ((try subst hD hu); (try simp only [nc] at *); (try simp only [Int.ofNat_eq_natCast] at *); try simp (disch := omega) only [std, uid, S0, hfk, ends_get] at *)
            exact hsg.symm
          · subst hD hu
            have hB := LR.shF (row := rClu std uid) (d := dClu) (l := A) (a := (st2.getD (f + k) 0).toNat) (m := ((st2 ++ [(A.length : Int)]).getD (f + k + 1) 0).toNat - (st2.getD (f + k) 0).toNat) LR.refl (by omega)
            simp only [std, uid, hfk, ends_get]
            refine LR.deq2 (sz := 0) (LR.to_n (show LR _ _ _ _ (seg A (st2.getD (f + k) 0) ((st2 ++ [(A.length : Int)]).getD (f + k + 1) 0)) from hB) ?_)
            first | omega | exact hsg.symm | exact hsg | rfl
          · refine ⟨k + 1, s ++ [textOf (seg A (st2.getD (f + k) 0) ((st2 ++ [(A.length : Int)]).getD (f + k + 1) 0))], by omega, by rw [hsn, hs], ssem_of ?_, by omega⟩
            ((try conv => cbv); (repeat' (first | (with_reducible refine mK hD ?_; kernel_rfl) | (with_reducible first | refine mS hD ?_ | refine mJ hL ?_ | refine mT hD ?_ | refine mF hD ?_ | refine mB hD (fun _ => ?_) (fun _ => ?_) | exact True.intro | refine And.intro ?_ ?_) <;> try conv => cbv)); all_goals try (first | trivial | (subst hD; first | exact fun _ _ => ⟨_, rfl⟩ | exact fl1 | exact fl1') | (((try subst hD hu); (try simp only [nc] at *); (try simp only [Int.ofNat_eq_natCast] at *); try simp (disch := omega) only [std, uid, S0] at *) <;> first | omega | rfl | (exfalso; simp_all only [Bool.true_eq_false, Bool.false_eq_true]; done))))
            (subst hD hu; apply qT; (focus repeat' (first | exact LR.refl | exact LR_bytes | apply mClu | apply mCel | apply mKey | apply mSnp | apply mKRd | apply mLin | apply mHis | apply mBlk | apply mScr | apply mSes | exact zR | exact zB | exact zT | exact zN | exact zClu | exact zCel | exact zCelS | exact zSnp | exact zKey | exact zSes | exact zScr | apply LR.deq | exact LR.nil | apply LR.one | apply LR.rep | apply LR.cat | apply LR.cat' | apply LR.set | exact u8_0 | exact DEq.s _ | (apply str_deq; (repeat' apply sr_cat) <;> rfl) | apply aLe_1 | (apply LR.rfl'; simp only [uid, std, S0]; omega))); all_goals try simp only [uid, std, Int.toNat_natCast, Int.ofNat_eq_natCast])
        all_goals (
          have e : s = b.rows := by
            have hek : k = m := by ((try subst hD hu); (try simp only [nc] at *); (try simp only [Int.ofNat_eq_natCast] at *); try simp (disch := omega) only [std, uid, S0, hfk] at *); omega
            rw [hb1', hs, hek])
        iterate 2
          · rw [e]
            try (subst hD hu; rfl)
          · (subst hD hu; apply qT; (focus repeat' (first | exact LR.refl | exact LR_bytes | apply mClu | apply mCel | apply mKey | apply mSnp | apply mKRd | apply mLin | apply mHis | apply mBlk | apply mScr | apply mSes | exact zR | exact zB | exact zT | exact zN | exact zClu | exact zCel | exact zCelS | exact zSnp | exact zKey | exact zSes | exact zScr | apply LR.deq | exact LR.nil | apply LR.one | apply LR.rep | apply LR.cat | apply LR.cat' | apply LR.set | exact u8_0 | exact DEq.s _ | (apply str_deq; (repeat' apply sr_cat) <;> rfl) | apply aLe_1 | (apply LR.rfl'; simp only [uid, std, S0]; omega))); all_goals try simp only [uid, std, Int.toNat_natCast, Int.ofNat_eq_natCast])
            exact e
theorem x_specLayout0 (prompt : Str) (l : Lin) (cols rows : Int) (hs : sizeOk cols rows = false) : PX Try.prog 16 (fun D u => [.r (.c (.s (.string (D.strB (u _ prompt))))), .r (.a (rLin D u (u _ l))), AI (u _ cols), AI (u _ rows)]) (fun D u => [.a (rBlk D u (u _ dBlk))]) (fun D u => []) := by
  refine px_of_awp (fn := Try.f16) (c := bodyOf Try.f16) envOk (by kernel_rfl) (by kernel_rfl) (by kernel_rfl) (by kernel_rfl) rfl (by kernel_rfl) (by kernel_rfl) ?_
  intro w0 mine D u C L hD hu hC hL
  ((try conv => cbv); (repeat' (first | (with_reducible refine mK hD ?_; kernel_rfl) | (with_reducible first | refine mS hD ?_ | refine mJ hL ?_ | refine mT hD ?_ | refine mF hD ?_ | refine mB hD (fun _ => ?_) (fun _ => ?_) | exact True.intro | refine And.intro ?_ ?_) <;> try conv => cbv)); all_goals try (first | trivial | (subst hD; first | exact fun _ _ => ⟨_, rfl⟩ | exact fl1 | exact fl1') | (((try subst hD hu); (try simp only [nc] at *); (try simp only [Int.ofNat_eq_natCast] at *); try simp (disch := omega) only [std, uid, S0] at *) <;> first | omega | rfl | (exfalso; simp_all only [Bool.true_eq_false, Bool.false_eq_true]; done))))
  refine callx hD hu hC (x_l2SizeOk cols rows) ?_
  rw [hs]
  ((try conv => cbv); (repeat' (first | (with_reducible refine mK hD ?_; kernel_rfl) | (with_reducible first | refine mS hD ?_ | refine mJ hL ?_ | refine mT hD ?_ | refine mF hD ?_ | refine mB hD (fun _ => ?_) (fun _ => ?_) | exact True.intro | refine And.intro ?_ ?_) <;> try conv => cbv)); all_goals try (first | trivial | (subst hD; first | exact fun _ _ => ⟨_, rfl⟩ | exact fl1 | exact fl1') | (((try subst hD hu); (try simp only [nc] at *); (try simp only [Int.ofNat_eq_natCast] at *); try simp (disch := omega) only [std, uid, S0] at *) <;> first | omega | rfl | (exfalso; simp_all only [Bool.true_eq_false, Bool.false_eq_true]; done))))
  all_goals exact DEq.z _ _ _
theorem x_specLayout (prompt : Str) (l : Lin) (cols rows : Int) (hp : prompt.length ≤ 10000000) (hb : bdELin 10000000 l) (hc : okI cols) (hr : okI rows) : PX Try.prog 16 (fun D u => [.r (.c (.s (.string (D.strB (u _ prompt))))), .r (.a (rLin D u (u _ l))), AI (u _ cols), AI (u _ rows)]) (fun D u => [.a (rBlk D u (u _ (layout prompt l cols rows)))]) (fun D u => []) := by
  cases hs : sizeOk cols rows with
  | false =>
    rw [layout_no hs]
    exact x_specLayout0 prompt l cols rows hs
  | true =>
    obtain ⟨st2, r2, c2, f, m, h⟩ := lay_i (prompt := prompt) (l := l) (cols := cols) (rows := rows) rfl rfl rfl rfl rfl rfl hs
    exact x_specLayout1 prompt l cols rows hp hb hc hr hs _ _ rfl rfl _ rfl _ rfl _ rfl _ rfl st2 r2 c2 f m h
end Go.AW
/- Two lists of clusters put together. -/
set_option linter.unusedVariables false
set_option linter.unusedSimpArgs false
namespace Go.AW
open Go.Proofs
set_option maxRecDepth 100000
set_option maxHeartbeats 8000000
def totC (L : List (List Clu)) (k : Nat) : Nat := ((L.take k).flatten).length
theorem totC_succ (L : List (List Clu)) (k : Nat) (h : k < L.length) : totC L (k + 1) = totC L k + (L.getD k []).length := by
  rw [totC, take_snoc L [] k h]
  simp [totC]
theorem totC_le (L : List (List Clu)) (k : Nat) : totC L k ≤ L.flatten.length := by
  have : L.flatten = (L.take k).flatten ++ (L.drop k).flatten := by rw [← List.flatten_append, List.take_append_drop]
  rw [this, List.length_append]
  unfold totC
  omega
theorem x_ConcatClu (M : List (List Clu)) (hl : M.length ≤ 1000) (hn : M.flatten.length ≤ 100000000) : PX Try.prog 63 (fun D u => [.g (.c (lCluS D u (u _ M)))]) (fun D u => [.c (lClu D u (u _ (M.flatten)))]) (fun D u => []) := by
  refine px_of_awp (fn := Try.f63) (c := bodyOf Try.f63) envOk (by kernel_rfl) (by kernel_rfl) (by kernel_rfl) (by kernel_rfl) rfl (by kernel_rfl) (by kernel_rfl) ?_
  intro w0 mine D u C L hD hu hC hL
  refine Exists.elim (⟨fun k i => if i < k then [.x] else rCluS D u (D.nthL (List Clu) [] (u _ M) i), fun k i => ⟨fun h => if_neg (by omega), fun h => if_pos h⟩⟩ : ∃ H : Nat → Nat → List DV, ∀ k i, (k ≤ i → H k i = rCluS D u (D.nthL (List Clu) [] (u _ M) i)) ∧ (i < k → H k i = [.x])) fun H hH => ?_
  ((try conv => cbv); (repeat' (first | (with_reducible refine mK hD ?_; kernel_rfl) | (with_reducible first | refine mS hD ?_ | refine mJ hL ?_ | refine mT hD ?_ | refine mF hD ?_ | refine mB hD (fun _ => ?_) (fun _ => ?_) | exact True.intro | refine And.intro ?_ ?_) <;> try conv => cbv)); all_goals try (first | trivial | (subst hD; first | exact fun _ _ => ⟨_, rfl⟩ | exact fl1 | exact fl1') | (((try subst hD hu); (try simp only [nc] at *); (try simp only [Int.ofNat_eq_natCast] at *); try simp (disch := omega) only [std, uid, S0] at *) <;> first | omega | rfl | (exfalso; simp_all only [Bool.true_eq_false, Bool.false_eq_true]; done))))
  refine loop_st hL M.length (fun k (_ : Unit) => True) () (fun k _ => [(3, VI (u _ (totC M k))), (5, .bad), (11, VI (u _ k))]) (fun k _ => []) trivial ?_ ?_
  · ((try conv => cbv); (repeat' (first | (with_reducible refine mK hD ?_; kernel_rfl) | (with_reducible first | refine mS hD ?_ | refine mJ hL ?_ | refine mT hD ?_ | refine mF hD ?_ | refine mB hD (fun _ => ?_) (fun _ => ?_) | exact True.intro | refine And.intro ?_ ?_) <;> try conv => cbv)); all_goals try (first | trivial | (subst hD; first | exact fun _ _ => ⟨_, rfl⟩ | exact fl1 | exact fl1') | (((try subst hD hu); (try simp only [nc] at *); (try simp only [Int.ofNat_eq_natCast] at *); try simp (disch := omega) only [std, uid, S0] at *) <;> first | omega | rfl | (exfalso; simp_all only [Bool.true_eq_false, Bool.false_eq_true]; done))))
  · intro k _ hk _
    have ht := totC_le M k
    have ht2 := totC_le M (k + 1)
    ((try conv => cbv); (repeat' (first | (with_reducible refine mK hD ?_; kernel_rfl) | (with_reducible first | refine mS hD ?_ | refine mJ hL ?_ | refine mT hD ?_ | refine mF hD ?_ | refine mB hD (fun _ => ?_) (fun _ => ?_) | exact True.intro | refine And.intro ?_ ?_) <;> try conv => cbv)); all_goals try (first | trivial | (subst hD; first | exact fun _ _ => ⟨_, rfl⟩ | exact fl1 | exact fl1') | (((try subst hD hu); (try simp only [nc] at *); (try simp only [Int.ofNat_eq_natCast] at *); try simp (disch := omega) only [std, uid, S0] at *) <;> first | omega | rfl | (exfalso; simp_all only [Bool.true_eq_false, Bool.false_eq_true]; done))))
    · have hkn : k < M.length := by ((try subst hD hu); (try simp only [nc] at *); (try simp only [Int.ofNat_eq_natCast] at *); try simp (disch := omega) only [std, uid, S0] at *); omega
      have hs := totC_succ M k hkn
      exfalso
      ((try subst hD hu); (try simp only [nc] at *); (try simp only [Int.ofNat_eq_natCast] at *); try simp (disch := omega) only [std, uid, S0] at *)
      omega
    · have hkn : k < M.length := by ((try subst hD hu); (try simp only [nc] at *); (try simp only [Int.ofNat_eq_natCast] at *); try simp (disch := omega) only [std, uid, S0] at *); omega
      have hs := totC_succ M k hkn
      refine ⟨k + 1, (), hkn, trivial, ssem_of ?_, by omega⟩
      ((try conv => cbv); (repeat' (first | (with_reducible refine mK hD ?_; kernel_rfl) | (with_reducible first | refine mS hD ?_ | refine mJ hL ?_ | refine mT hD ?_ | refine mF hD ?_ | refine mB hD (fun _ => ?_) (fun _ => ?_) | exact True.intro | refine And.intro ?_ ?_) <;> try conv => cbv)); all_goals try (first | trivial | (subst hD; first | exact fun _ _ => ⟨_, rfl⟩ | exact fl1 | exact fl1') | (((try subst hD hu); (try simp only [nc] at *); (try simp only [Int.ofNat_eq_natCast] at *); try simp (disch := omega) only [std, uid, S0] at *) <;> first | omega | rfl | (exfalso; simp_all only [Bool.true_eq_false, Bool.false_eq_true]; done))))
    · refine call_in (fn := Try.f121) (c := bodyOf Try.f121) envOk (by kernel_rfl) (by kernel_rfl) (by kernel_rfl) (by kernel_rfl) rfl hD hC hL (by kernel_rfl) ?_; intro _
      ((try conv => cbv); (repeat' (first | (with_reducible refine mK hD ?_; kernel_rfl) | (with_reducible first | refine mS hD ?_ | refine mJ hL ?_ | refine mT hD ?_ | refine mF hD ?_ | refine mB hD (fun _ => ?_) (fun _ => ?_) | exact True.intro | refine And.intro ?_ ?_) <;> try conv => cbv)); all_goals try (first | trivial | (subst hD; first | exact fun _ _ => ⟨_, rfl⟩ | exact fl1 | exact fl1') | (((try subst hD hu); (try simp only [nc] at *); (try simp only [Int.ofNat_eq_natCast] at *); try simp (disch := omega) only [std, uid, S0] at *) <;> first | omega | rfl | (exfalso; simp_all only [Bool.true_eq_false, Bool.false_eq_true]; done))))
      all_goals (
        have ek : k = M.length := by ((try subst hD hu); (try simp only [nc] at *); (try simp only [Int.ofNat_eq_natCast] at *); try simp (disch := omega) only [std, uid, S0] at *); omega
        subst ek
        have hk0 := fun k => (hH k k).1 (Nat.le_refl _)
        have hN : ∀ k : Nat, D.natI (u _ (k : Int)) = k := fun k => by subst hD hu; simp [std, uid])
      · refine loop_st hL M.length (fun k s => s = (M.take k).flatten) [] (fun k s => [(6, vO D 2 (u _ s)), (24, .bad), (8, .bad), (27, VI (u _ k))]) (fun k s => [(0, .deep 1 (D.lenL (List Clu) (u _ M)) (H k)), (2, match k with | 0 => .deep 2 (D.natI (D.subI .i64 (u _ ((totC M M.length : Nat) : Int)) (D.subI .i64 (D.ofN 0) (D.ofN 0)))) (fun _ => [.l 0 0 (fun _ => []), .s (.int .i64 0)]) | _ + 1 => oClu D u (u _ s))]) rfl ?_ ?_
        · ((try conv => cbv); (repeat' (first | (with_reducible refine mK hD ?_; kernel_rfl) | (with_reducible first | refine mS hD ?_ | refine mJ hL ?_ | refine mT hD ?_ | refine mF hD ?_ | refine mB hD (fun _ => ?_) (fun _ => ?_) | exact True.intro | refine And.intro ?_ ?_) <;> try conv => cbv)); all_goals try (first | trivial | (subst hD; first | exact fun _ _ => ⟨_, rfl⟩ | exact fl1 | exact fl1') | (((try subst hD hu); (try simp only [nc] at *); (try simp only [Int.ofNat_eq_natCast] at *); try simp (disch := omega) only [std, uid, S0] at *) <;> first | omega | rfl | (exfalso; simp_all only [Bool.true_eq_false, Bool.false_eq_true]; done))))
          subst hD hu
          exact DEq.l _ _ _ _ (fun i hi => by rw [(hH 0 i).1 (Nat.zero_le _)]) (fun i j d d' hi h1 h2 => by rw [(hH 0 i).1 (Nat.zero_le _)] at h2; rw [h1] at h2; cases h2; exact DEq.rfl' _)
        · intro k s hk hs
          cases k with
          | zero =>
            have ht := totC_le M (0)
            have ht2 := totC_le M (0 + 1)
            have hs0 : s = [] := by rw [hs]; simp
            have hsl : s.length = 0 := by rw [hs0]; rfl
            have ht00 : totC M 0 = 0 := rfl
            have hRk : H (0) (D.natI (u _ ((0 : Nat) : Int))) = rCluS D u (D.nthL (List Clu) [] (u _ M) (D.natI (u _ ((0 : Nat) : Int)))) := by
              rw [hN]; exact hk0 (0)
            have hRB := hRk
            conv at hRB => enter [1, 2]; whnf
            ((try conv => cbv); (repeat' (first | (with_reducible refine mK hD ?_; kernel_rfl) | (with_reducible first | refine mS hD ?_ | refine mJ hL ?_ | refine mT hD ?_ | refine mF hD ?_ | refine mB hD (fun _ => ?_) (fun _ => ?_) | exact True.intro | refine And.intro ?_ ?_) <;> try conv => cbv)); all_goals try (first | trivial | (subst hD; first | exact fun _ _ => ⟨_, rfl⟩ | exact fl1 | exact fl1') | (((try subst hD hu); (try simp only [nc] at *); (try simp only [Int.ofNat_eq_natCast] at *); try simp (disch := omega) only [std, uid, S0] at *) <;> first | omega | rfl | (exfalso; simp_all only [Bool.true_eq_false, Bool.false_eq_true]; done))))
            repeat' ((first | simp only [hRB] | simp only [hset2, hset3, hset, rowN]); ((try conv => cbv); (repeat' (first | (with_reducible refine mK hD ?_; kernel_rfl) | (with_reducible first | refine mS hD ?_ | refine mJ hL ?_ | refine mT hD ?_ | refine mF hD ?_ | refine mB hD (fun _ => ?_) (fun _ => ?_) | exact True.intro | refine And.intro ?_ ?_) <;> try conv => cbv)); all_goals try (first | trivial | (subst hD; first | exact fun _ _ => ⟨_, rfl⟩ | exact fl1 | exact fl1') | (((try subst hD hu); (try simp only [nc] at *); (try simp only [Int.ofNat_eq_natCast] at *); try simp (disch := omega) only [std, uid, S0] at *) <;> first | omega | rfl | (exfalso; simp_all only [Bool.true_eq_false, Bool.false_eq_true]; done)))))
            all_goals try (have hkn : 0 < M.length := by ((try subst hD hu); (try simp only [nc] at *); (try simp only [Int.ofNat_eq_natCast] at *); try simp (disch := omega) only [std, uid, S0] at *); omega)
            all_goals try (have hts := totC_succ M 0 hkn)
            · ((try subst hD hu); (try simp only [nc] at *); (try simp only [Int.ofNat_eq_natCast] at *); try simp (disch := omega) only [std, uid, S0] at *)
              omega
            · refine ⟨0 + 1, s ++ M.getD 0 [], hkn, by rw [hs, take_snoc M [] _ hkn]; simp, ssem_of ?_, by omega⟩
              ((try conv => cbv); (repeat' (first | (with_reducible refine mK hD ?_; kernel_rfl) | (with_reducible first | refine mS hD ?_ | refine mJ hL ?_ | refine mT hD ?_ | refine mF hD ?_ | refine mB hD (fun _ => ?_) (fun _ => ?_) | exact True.intro | refine And.intro ?_ ?_) <;> try conv => cbv)); all_goals try (first | trivial | (subst hD; first | exact fun _ _ => ⟨_, rfl⟩ | exact fl1 | exact fl1') | (((try subst hD hu); (try simp only [nc] at *); (try simp only [Int.ofNat_eq_natCast] at *); try simp (disch := omega) only [std, uid, S0] at *) <;> first | omega | rfl | (exfalso; simp_all only [Bool.true_eq_false, Bool.false_eq_true]; done))))
              · subst hD hu
                have h0 : LR (rClu std uid) dClu (fun _ => [DV.l 0 0 fun _ => [], DV.s (.int .i64 0)]) (std.lenL Clu (uid _ s)) s := ⟨rfl, fun i hi => absurd (show i < s.length from hi) (by omega)⟩
                exact qClu (h0.cat' LR.refl) rfl
              · subst hD hu
                have hfe : ∀ i, std.setF (H (0)) (std.natI (uid Int ((0 : Nat) : Int))) [DV.x] i = H (0 + 1) i := fun i => by
                  simp only [std, uid, Int.toNat_natCast]
                  split
                  · rename_i e; subst e; exact ((hH _ _).2 (by omega)).symm
                  · rename_i e
                    rcases Nat.lt_or_ge i 0 with q | q
                    · rw [(hH _ i).2 q, (hH _ i).2 (by omega)]
                    · rw [(hH _ i).1 q, (hH _ i).1 (by omega)]
                exact DEq.l _ _ _ _ (fun i hi => by rw [← hfe i]) (fun i j d d' hi h1 h2 => by rw [← hfe i] at h2; have h3 := h1.symm.trans h2; cases h3; exact DEq.rfl' _)
            all_goals (
              exfalso
              have e0 : M.length = 0 := by ((try subst hD hu); (try simp only [nc] at *); (try simp only [Int.ofNat_eq_natCast] at *); try simp (disch := omega) only [std, uid, S0] at *); omega
              have e2 : totC M M.length = 0 := by rw [e0]; rfl
              ((try subst hD hu); (try simp only [nc] at *); (try simp only [Int.ofNat_eq_natCast] at *); try simp (disch := omega) only [std, uid, S0] at *)
              omega)
          | succ k =>
            have ht := totC_le M (k + 1)
            have ht2 := totC_le M (k + 1 + 1)
            have hsl : s.length = totC M (k + 1) := by rw [hs]; rfl
            have e1 : ((k : Int) + 1).toNat = k + 1 := by omega
            have hRk : H (k + 1) (D.natI (u _ ((k + 1 : Nat) : Int))) = rCluS D u (D.nthL (List Clu) [] (u _ M) (D.natI (u _ ((k + 1 : Nat) : Int)))) := by
              rw [hN]; exact hk0 (k + 1)
            have hRB := hRk
            conv at hRB => enter [1, 2]; whnf
            ((try conv => cbv); (repeat' (first | (with_reducible refine mK hD ?_; kernel_rfl) | (with_reducible first | refine mS hD ?_ | refine mJ hL ?_ | refine mT hD ?_ | refine mF hD ?_ | refine mB hD (fun _ => ?_) (fun _ => ?_) | exact True.intro | refine And.intro ?_ ?_) <;> try conv => cbv)); all_goals try (first | trivial | (subst hD; first | exact fun _ _ => ⟨_, rfl⟩ | exact fl1 | exact fl1') | (((try subst hD hu); (try simp only [nc] at *); (try simp only [Int.ofNat_eq_natCast] at *); try simp (disch := omega) only [std, uid, S0] at *) <;> first | omega | rfl | (exfalso; simp_all only [Bool.true_eq_false, Bool.false_eq_true]; done))))
            repeat' ((first | simp only [hRB] | simp only [hset2, hset3, hset, rowN]); ((try conv => cbv); (repeat' (first | (with_reducible refine mK hD ?_; kernel_rfl) | (with_reducible first | refine mS hD ?_ | refine mJ hL ?_ | refine mT hD ?_ | refine mF hD ?_ | refine mB hD (fun _ => ?_) (fun _ => ?_) | exact True.intro | refine And.intro ?_ ?_) <;> try conv => cbv)); all_goals try (first | trivial | (subst hD; first | exact fun _ _ => ⟨_, rfl⟩ | exact fl1 | exact fl1') | (((try subst hD hu); (try simp only [nc] at *); (try simp only [Int.ofNat_eq_natCast] at *); try simp (disch := omega) only [std, uid, S0] at *) <;> first | omega | rfl | (exfalso; simp_all only [Bool.true_eq_false, Bool.false_eq_true]; done)))))
            all_goals try (have hkn : k + 1 < M.length := by ((try subst hD hu); (try simp only [nc] at *); (try simp only [Int.ofNat_eq_natCast] at *); try simp (disch := omega) only [std, uid, S0] at *); omega)
            all_goals try (have hts := totC_succ M (k + 1) hkn)
            · ((try subst hD hu); (try simp only [nc] at *); (try simp only [Int.ofNat_eq_natCast] at *); try simp (disch := omega) only [std, uid, S0, e1] at *)
              omega
            · refine ⟨k + 1 + 1, s ++ M.getD (k + 1) [], hkn, by rw [hs, take_snoc M [] _ hkn]; simp, ssem_of ?_, by omega⟩
              ((try conv => cbv); (repeat' (first | (with_reducible refine mK hD ?_; kernel_rfl) | (with_reducible first | refine mS hD ?_ | refine mJ hL ?_ | refine mT hD ?_ | refine mF hD ?_ | refine mB hD (fun _ => ?_) (fun _ => ?_) | exact True.intro | refine And.intro ?_ ?_) <;> try conv => cbv)); all_goals try (first | trivial | (subst hD; first | exact fun _ _ => ⟨_, rfl⟩ | exact fl1 | exact fl1') | (((try subst hD hu); (try simp only [nc] at *); (try simp only [Int.ofNat_eq_natCast] at *); try simp (disch := omega) only [std, uid, S0] at *) <;> first | omega | rfl | (exfalso; simp_all only [Bool.true_eq_false, Bool.false_eq_true]; done))))
              · (subst hD hu; apply qClu; (focus repeat' (first | exact LR.refl | exact LR_bytes | apply mClu | apply mCel | apply mKey | apply mSnp | apply mKRd | apply mLin | apply mHis | apply mBlk | apply mScr | apply mSes | exact zR | exact zB | exact zT | exact zN | exact zClu | exact zCel | exact zCelS | exact zSnp | exact zKey | exact zSes | exact zScr | apply LR.deq | exact LR.nil | apply LR.one | apply LR.rep | apply LR.cat | apply LR.cat' | apply LR.set | exact u8_0 | exact DEq.s _ | (apply str_deq; (repeat' apply sr_cat) <;> rfl) | apply aLe_1 | (apply LR.rfl'; simp only [uid, std, S0]; omega))); all_goals try simp only [uid, std, Int.toNat_natCast, Int.ofNat_eq_natCast])
              · subst hD hu
                have hfe : ∀ i, std.setF (H (k + 1)) (std.natI (uid Int ((k + 1 : Nat) : Int))) [DV.x] i = H (k + 1 + 1) i := fun i => by
                  simp only [std, uid, Int.toNat_natCast]
                  split
                  · rename_i e; subst e; exact ((hH _ _).2 (by omega)).symm
                  · rename_i e
                    rcases Nat.lt_or_ge i (k + 1) with q | q
                    · rw [(hH _ i).2 q, (hH _ i).2 (by omega)]
                    · rw [(hH _ i).1 q, (hH _ i).1 (by omega)]
                exact DEq.l _ _ _ _ (fun i hi => by rw [← hfe i]) (fun i j d d' hi h1 h2 => by rw [← hfe i] at h2; have h3 := h1.symm.trans h2; cases h3; exact DEq.rfl' _)
            all_goals (
              have ek : k + 1 = M.length := by ((try subst hD hu); (try simp only [nc] at *); (try simp only [Int.ofNat_eq_natCast] at *); try simp (disch := omega) only [std, uid, S0] at *); omega
              have e : s = M.flatten := by rw [hs, ek, List.take_length])
            · rw [e]
            · (subst hD hu; apply qClu; (focus repeat' (first | exact LR.refl | exact LR_bytes | apply mClu | apply mCel | apply mKey | apply mSnp | apply mKRd | apply mLin | apply mHis | apply mBlk | apply mScr | apply mSes | exact zR | exact zB | exact zT | exact zN | exact zClu | exact zCel | exact zCelS | exact zSnp | exact zKey | exact zSes | exact zScr | apply LR.deq | exact LR.nil | apply LR.one | apply LR.rep | apply LR.cat | apply LR.cat' | apply LR.set | exact u8_0 | exact DEq.s _ | (apply str_deq; (repeat' apply sr_cat) <;> rfl) | apply aLe_1 | (apply LR.rfl'; simp only [uid, std, S0]; omega))); all_goals try simp only [uid, std, Int.toNat_natCast, Int.ofNat_eq_natCast])
              exact e
      · refine loop_st hL M.length (fun k s => s = (M.take k).flatten) [] (fun k s => [(6, vO D 2 (u _ s)), (24, .bad), (8, .bad), (27, VI (u _ k))]) (fun k s => [(0, .deep 1 (D.lenL (List Clu) (u _ M)) (H k)), (2, oClu D u (u _ s))]) rfl ?_ ?_
        · ((try conv => cbv); (repeat' (first | (with_reducible refine mK hD ?_; kernel_rfl) | (with_reducible first | refine mS hD ?_ | refine mJ hL ?_ | refine mT hD ?_ | refine mF hD ?_ | refine mB hD (fun _ => ?_) (fun _ => ?_) | exact True.intro | refine And.intro ?_ ?_) <;> try conv => cbv)); all_goals try (first | trivial | (subst hD; first | exact fun _ _ => ⟨_, rfl⟩ | exact fl1 | exact fl1') | (((try subst hD hu); (try simp only [nc] at *); (try simp only [Int.ofNat_eq_natCast] at *); try simp (disch := omega) only [std, uid, S0] at *) <;> first | omega | rfl | (exfalso; simp_all only [Bool.true_eq_false, Bool.false_eq_true]; done))))
          subst hD hu
          exact DEq.l _ _ _ _ (fun i hi => by rw [(hH 0 i).1 (Nat.zero_le _)]) (fun i j d d' hi h1 h2 => by rw [(hH 0 i).1 (Nat.zero_le _)] at h2; rw [h1] at h2; cases h2; exact DEq.rfl' _)
        · intro k s hk hs
          have ht := totC_le M (k)
          have ht2 := totC_le M (k + 1)
          have hsl : s.length = totC M (k) := by rw [hs]; rfl
          have hRk : H (k) (D.natI (u _ ((k : Nat) : Int))) = rCluS D u (D.nthL (List Clu) [] (u _ M) (D.natI (u _ ((k : Nat) : Int)))) := by
            rw [hN]; exact hk0 (k)
          have hRB := hRk
          conv at hRB => enter [1, 2]; whnf
          ((try conv => cbv); (repeat' (first | (with_reducible refine mK hD ?_; kernel_rfl) | (with_reducible first | refine mS hD ?_ | refine mJ hL ?_ | refine mT hD ?_ | refine mF hD ?_ | refine mB hD (fun _ => ?_) (fun _ => ?_) | exact True.intro | refine And.intro ?_ ?_) <;> try conv => cbv)); all_goals try (first | trivial | (subst hD; first | exact fun _ _ => ⟨_, rfl⟩ | exact fl1 | exact fl1') | (((try subst hD hu); (try simp only [nc] at *); (try simp only [Int.ofNat_eq_natCast] at *); try simp (disch := omega) only [std, uid, S0] at *) <;> first | omega | rfl | (exfalso; simp_all only [Bool.true_eq_false, Bool.false_eq_true]; done))))
          repeat' ((first | simp only [hRB] | simp only [hset2, hset3, hset, rowN]); ((try conv => cbv); (repeat' (first | (with_reducible refine mK hD ?_; kernel_rfl) | (with_reducible first | refine mS hD ?_ | refine mJ hL ?_ | refine mT hD ?_ | refine mF hD ?_ | refine mB hD (fun _ => ?_) (fun _ => ?_) | exact True.intro | refine And.intro ?_ ?_) <;> try conv => cbv)); all_goals try (first | trivial | (subst hD; first | exact fun _ _ => ⟨_, rfl⟩ | exact fl1 | exact fl1') | (((try subst hD hu); (try simp only [nc] at *); (try simp only [Int.ofNat_eq_natCast] at *); try simp (disch := omega) only [std, uid, S0] at *) <;> first | omega | rfl | (exfalso; simp_all only [Bool.true_eq_false, Bool.false_eq_true]; done)))))
          all_goals try (have hkn : k < M.length := by ((try subst hD hu); (try simp only [nc] at *); (try simp only [Int.ofNat_eq_natCast] at *); try simp (disch := omega) only [std, uid, S0] at *); omega)
          all_goals try (have hts := totC_succ M (k) hkn)
          · ((try subst hD hu); (try simp only [nc] at *); (try simp only [Int.ofNat_eq_natCast] at *); try simp (disch := omega) only [std, uid, S0] at *)
            omega
          · refine ⟨k + 1, s ++ M.getD (k) [], hkn, by rw [hs, take_snoc M [] _ hkn]; simp, ssem_of ?_, by omega⟩
            ((try conv => cbv); (repeat' (first | (with_reducible refine mK hD ?_; kernel_rfl) | (with_reducible first | refine mS hD ?_ | refine mJ hL ?_ | refine mT hD ?_ | refine mF hD ?_ | refine mB hD (fun _ => ?_) (fun _ => ?_) | exact True.intro | refine And.intro ?_ ?_) <;> try conv => cbv)); all_goals try (first | trivial | (subst hD; first | exact fun _ _ => ⟨_, rfl⟩ | exact fl1 | exact fl1') | (((try subst hD hu); (try simp only [nc] at *); (try simp only [Int.ofNat_eq_natCast] at *); try simp (disch := omega) only [std, uid, S0] at *) <;> first | omega | rfl | (exfalso; simp_all only [Bool.true_eq_false, Bool.false_eq_true]; done))))
            · (subst hD hu; apply qClu; (focus repeat' (first | exact LR.refl | exact LR_bytes | apply mClu | apply mCel | apply mKey | apply mSnp | apply mKRd | apply mLin | apply mHis | apply mBlk | apply mScr | apply mSes | exact zR | exact zB | exact zT | exact zN | exact zClu | exact zCel | exact zCelS | exact zSnp | exact zKey | exact zSes | exact zScr | apply LR.deq | exact LR.nil | apply LR.one | apply LR.rep | apply LR.cat | apply LR.cat' | apply LR.set | exact u8_0 | exact DEq.s _ | (apply str_deq; (repeat' apply sr_cat) <;> rfl) | apply aLe_1 | (apply LR.rfl'; simp only [uid, std, S0]; omega))); all_goals try simp only [uid, std, Int.toNat_natCast, Int.ofNat_eq_natCast])
            · subst hD hu
              have hfe : ∀ i, std.setF (H (k)) (std.natI (uid Int ((k : Nat) : Int))) [DV.x] i = H (k + 1) i := fun i => by
                simp only [std, uid, Int.toNat_natCast]
                split
                · rename_i e; subst e; exact ((hH _ _).2 (by omega)).symm
                · rename_i e
                  rcases Nat.lt_or_ge i (k) with q | q
                  · rw [(hH _ i).2 q, (hH _ i).2 (by omega)]
                  · rw [(hH _ i).1 q, (hH _ i).1 (by omega)]
              exact DEq.l _ _ _ _ (fun i hi => by rw [← hfe i]) (fun i j d d' hi h1 h2 => by rw [← hfe i] at h2; have h3 := h1.symm.trans h2; cases h3; exact DEq.rfl' _)
          all_goals (
            have ek : k = M.length := by ((try subst hD hu); (try simp only [nc] at *); (try simp only [Int.ofNat_eq_natCast] at *); try simp (disch := omega) only [std, uid, S0] at *); omega
            have e : s = M.flatten := by rw [hs, ek, List.take_length])
          · rw [e]
          · (subst hD hu; apply qClu; (focus repeat' (first | exact LR.refl | exact LR_bytes | apply mClu | apply mCel | apply mKey | apply mSnp | apply mKRd | apply mLin | apply mHis | apply mBlk | apply mScr | apply mSes | exact zR | exact zB | exact zT | exact zN | exact zClu | exact zCel | exact zCelS | exact zSnp | exact zKey | exact zSes | exact zScr | apply LR.deq | exact LR.nil | apply LR.one | apply LR.rep | apply LR.cat | apply LR.cat' | apply LR.set | exact u8_0 | exact DEq.s _ | (apply str_deq; (repeat' apply sr_cat) <;> rfl) | apply aLe_1 | (apply LR.rfl'; simp only [uid, std, S0]; omega))); all_goals try simp only [uid, std, Int.toNat_natCast, Int.ofNat_eq_natCast])
            exact e
end Go.AW
/- Layout of the program. -/
set_option linter.unusedVariables false
set_option linter.unusedSimpArgs false
namespace Go.AW
open Go.Proofs
set_option maxRecDepth 100000
set_option maxHeartbeats 16000000
theorem x_implWrap' (cs : List Clu) (cols : Int) (W : List (List Clu)) (h : W = wrap cs cols) (hb : bdL bdEClu 100000000 cs) (hc : okI cols) : PX Try.prog 62 (fun D u => [.r (.c (lClu D u (u _ cs))), AI (u _ cols)]) (fun D u => [.c (lCluS D u (u _ W))]) (fun D u => []) := h ▸ x_implWrap cs cols hb hc
theorem x_ConcatClu' (M : List (List Clu)) (A : List Clu) (h : A = M.flatten) (hl : M.length ≤ 1000) (hn : M.flatten.length ≤ 100000000) : PX Try.prog 63 (fun D u => [.g (.c (lCluS D u (u _ M)))]) (fun D u => [.c (lClu D u (u _ A))]) (fun D u => []) := h ▸ x_ConcatClu M hl hn
/-- The rows by their places. -/
structure RowsW (A : List Clu) (st : List Int) (W : List (List Clu)) : Prop where
  len : W.length = st.length
  row : ∀ i, i < st.length → W.getD i [] = seg A (st.getD i 0) ((st ++ [(A.length : Int)]).getD (i + 1) 0)
  wid : ∀ i, i < st.length → ((W.getD i []).length : Int) = (st ++ [(A.length : Int)]).getD (i + 1) 0 - st.getD i 0
theorem rowsW {A : List Clu} {st : List Int} (h : StOk st A.length) : RowsW A st (rowsOf A st A.length) := by
  refine ⟨rowsOf_len _ _ _, fun i hi => rowsOf_get _ _ _ _ hi, fun i hi => ?_⟩
  have := h.rng i hi
  rw [rowsOf_get _ _ _ _ hi, seg_len _ _ _ (by omega)]
  omega
theorem rowsW_snoc {A : List Clu} {st : List Int} (h : StOk st A.length) : rowsOf A (st ++ [(A.length : Int)]) A.length = rowsOf A st A.length ++ [[]] := by
  refine ext_getD [] (by simp [rowsOf_len]) fun i hi => ?_
  rw [rowsOf_len, List.length_append, List.length_singleton] at hi
  rw [rowsOf_get _ _ _ _ (by simp; omega)]
  rcases Nat.lt_or_ge i st.length with q | q
  · rw [getD_app_l _ _ _ _ q, getD_app_l _ _ _ (i + 1) (by simp; omega), getD_app_l _ _ _ i (by rw [rowsOf_len]; exact q), rowsOf_get _ _ _ _ q]
  · have e : i = st.length := by omega
    subst e
    have : (rowsOf A st A.length).length = st.length := rowsOf_len _ _ _
    rw [getD_end, show st.length + 1 = (st ++ [(A.length : Int)]).length by simp, getD_end, ← this, getD_end]
    simp [seg]
theorem x_implLayout1 (prompt : Str) (l : Lin) (cols rows : Int) (hp : prompt.length ≤ 10000000) (hb : bdELin 10000000 l) (hc : okI cols) (hr : okI rows) (hs : sizeOk cols rows = true)
    (A F R : List Clu) (hA : A = layA prompt l) (hF : F = layF prompt l) (hRr : R = cutT l.right) (st : List Int) (hst : Is st (starts A cols)) (W : List (List Clu)) (hW : Is W (rowsOf A st A.length)) (r : Nat) (c : Int) (hcc' : Is c (widthsOf (seg A (st.getD r 0) F.length))) (b : Blk)
    (st2 : List Int) (r2 c2 : Int) (f m : Nat) (hL2 : LayI A F.length cols rows st r c b st2 r2 c2 f m) (W2 : List (List Clu)) (hW2 : Is W2 (rowsOf A st2 A.length)) :
    PX Try.prog 17 (fun D u => [.r (.c (.s (.string (D.strB (u _ prompt))))), .r (.a (rLin D u (u _ l))), AI (u _ cols), AI (u _ rows)]) (fun D u => [.a (rBlk D u (u _ b))]) (fun D u => []) := by
  have hl1 := cut_len prompt
  have hl2 := cut_len l.left
  have hl3 := cut_len l.right
  have hb1 := hb.1
  have hb2 := hb.2.1
  have e1 := layA_len prompt l
  have e2 := layF_len prompt l
  have ht := layA_tot prompt l
  have hRl : (cutT l.right).length = R.length := by rw [hRr]
  rw [← hA] at e1 ht
  rw [← hF] at e2
  rw [← hRr] at e1 hl3
  have hso := hL2.so
  have hra1 := hL2.r1
  have hra2 := hL2.r2'
  have hra3 := hso.rng r hra1
  have hwA : ∀ c, c ∈ A → wOk c := hA ▸ layA_w prompt l
  have hoA : ∀ c, c ∈ A → okClu c := hA ▸ layA_ok prompt l
  have hsl := seg_len A (st.getD r 0) F.length (by omega)
  have hwd := widths_bd (seg A (st.getD r 0) F.length) (fun c h => hwA c (seg_mem h)) _ (Nat.le_refl _)
  rw [List.take_length, ← show c = _ from hcc'] at hwd
  have hstl := hso.len
  have hso3 := hL2.so2
  have hst2l := hso3.len
  have hfl := hL2.f1
  have hm := hL2.m1
  have hsz := (sizeOk_iff cols rows).mp hs
  have hbA : bdL bdEClu 100000000 A := bdL_of boEClu _ _ (by omega)
  have hWr : RowsW A st W := (show W = _ from hW) ▸ rowsW hso
  have hWr2 : RowsW A st2 W2 := (show W2 = _ from hW2) ▸ rowsW hso3
  have hWl := hWr.len
  have hW2l := hWr2.len
  have hFn : (F.length : Int) ≤ (st ++ [(A.length : Int)]).getD (r + 1) 0 := by
    rcases Nat.lt_or_ge (r + 1) st.length with q | q
    · rw [getD_app_l _ _ _ _ q]; have := hL2.rb (r + 1) (by omega) q; omega
    · rw [show r + 1 = st.length by omega, getD_end]; omega
  have hWw := hWr.wid
  have hWr0 := hWw r hra1
  refine px_of_awp (fn := Try.f17) (c := bodyOf Try.f17) envOk (by kernel_rfl) (by kernel_rfl) (by kernel_rfl) (by kernel_rfl) rfl (by kernel_rfl) (by kernel_rfl) ?_
  intro w0 mine D u C L hD hu hC hL
  refine Exists.elim (⟨((F.length : Int) - st.getD r 0).toNat, by omega⟩ : ∃ N : Nat, (N : Int) = F.length - st.getD r 0) fun N hN => ?_
  ((try conv => cbv); (repeat' (first | (with_reducible refine mK hD ?_; kernel_rfl) | (with_reducible first | refine mS hD ?_ | refine mJ hL ?_ | refine mT hD ?_ | refine mF hD ?_ | refine mB hD (fun _ => ?_) (fun _ => ?_) | exact True.intro | refine And.intro ?_ ?_) <;> try conv => cbv)); all_goals try (first | trivial | (subst hD; first | exact fun _ _ => ⟨_, rfl⟩ | exact fl1 | exact fl1') | (((try subst hD hu); (try simp only [nc] at *); (try simp only [Int.ofNat_eq_natCast] at *); try simp (disch := omega) only [std, uid, S0] at *) <;> first | omega | rfl | (exfalso; simp_all only [Bool.true_eq_false, Bool.false_eq_true]; done))))
  refine callx hD hu hC (x_sizeOk cols rows) ?_
  rw [hs]
  ((try conv => cbv); (repeat' (first | (with_reducible refine mK hD ?_; kernel_rfl) | (with_reducible first | refine mS hD ?_ | refine mJ hL ?_ | refine mT hD ?_ | refine mF hD ?_ | refine mB hD (fun _ => ?_) (fun _ => ?_) | exact True.intro | refine And.intro ?_ ?_) <;> try conv => cbv)); all_goals try (first | trivial | (subst hD; first | exact fun _ _ => ⟨_, rfl⟩ | exact fl1 | exact fl1') | (((try subst hD hu); (try simp only [nc] at *); (try simp only [Int.ofNat_eq_natCast] at *); try simp (disch := omega) only [std, uid, S0] at *) <;> first | omega | rfl | (exfalso; simp_all only [Bool.true_eq_false, Bool.false_eq_true]; done))))
  refine callx hD hu hC (x_clustersOf prompt (by omega)) ?_
  ((try conv => cbv); (repeat' (first | (with_reducible refine mK hD ?_; kernel_rfl) | (with_reducible first | refine mS hD ?_ | refine mJ hL ?_ | refine mT hD ?_ | refine mF hD ?_ | refine mB hD (fun _ => ?_) (fun _ => ?_) | exact True.intro | refine And.intro ?_ ?_) <;> try conv => cbv)); all_goals try (first | trivial | (subst hD; first | exact fun _ _ => ⟨_, rfl⟩ | exact fl1 | exact fl1') | (((try subst hD hu); (try simp only [nc] at *); (try simp only [Int.ofNat_eq_natCast] at *); try simp (disch := omega) only [std, uid, S0] at *) <;> first | omega | rfl | (exfalso; simp_all only [Bool.true_eq_false, Bool.false_eq_true]; done))))
  refine callx hD hu hC (x_clustersOf l.left (by omega)) ?_
  ((try conv => cbv); (repeat' (first | (with_reducible refine mK hD ?_; kernel_rfl) | (with_reducible first | refine mS hD ?_ | refine mJ hL ?_ | refine mT hD ?_ | refine mF hD ?_ | refine mB hD (fun _ => ?_) (fun _ => ?_) | exact True.intro | refine And.intro ?_ ?_) <;> try conv => cbv)); all_goals try (first | trivial | (subst hD; first | exact fun _ _ => ⟨_, rfl⟩ | exact fl1 | exact fl1') | (((try subst hD hu); (try simp only [nc] at *); (try simp only [Int.ofNat_eq_natCast] at *); try simp (disch := omega) only [std, uid, S0] at *) <;> first | omega | rfl | (exfalso; simp_all only [Bool.true_eq_false, Bool.false_eq_true]; done))))
  refine callx hD hu hC (x_clustersOf l.right (by omega)) ?_
  ((try conv => cbv); (repeat' (first | (with_reducible refine mK hD ?_; kernel_rfl) | (with_reducible first | refine mS hD ?_ | refine mJ hL ?_ | refine mT hD ?_ | refine mF hD ?_ | refine mB hD (fun _ => ?_) (fun _ => ?_) | exact True.intro | refine And.intro ?_ ?_) <;> try conv => cbv)); all_goals try (first | trivial | (subst hD; first | exact fun _ _ => ⟨_, rfl⟩ | exact fl1 | exact fl1') | (((try subst hD hu); (try simp only [nc] at *); (try simp only [Int.ofNat_eq_natCast] at *); try simp (disch := omega) only [std, uid, S0] at *) <;> first | omega | rfl | (exfalso; simp_all only [Bool.true_eq_false, Bool.false_eq_true]; done))))
  refine callx hD hu hC (x_ConcatClu' [F, R] A ?_ (by simp) ?_) ?_
  · rw [hA, hF, hRr]; simp [layA]
  · simp only [List.flatten_cons, List.flatten_nil, List.append_nil, List.length_append]; omega
  ((try conv => cbv); (repeat' (first | (with_reducible refine mK hD ?_; kernel_rfl) | (with_reducible first | refine mS hD ?_ | refine mJ hL ?_ | refine mT hD ?_ | refine mF hD ?_ | refine mB hD (fun _ => ?_) (fun _ => ?_) | exact True.intro | refine And.intro ?_ ?_) <;> try conv => cbv)); all_goals try (first | trivial | (subst hD; first | exact fun _ _ => ⟨_, rfl⟩ | exact fl1 | exact fl1') | (((try subst hD hu); (try simp only [nc] at *); (try simp only [Int.ofNat_eq_natCast] at *); try simp (disch := omega) only [std, uid, S0] at *) <;> first | omega | rfl | (exfalso; simp_all only [Bool.true_eq_false, Bool.false_eq_true]; done))))
  · subst hD hu
    refine deq_all fun i hi => ?_
    match i, hi with
    | 0, _ => exact aLe_1 (LR.to (LR.cat' LR.refl LR.refl) hF.symm).deq
    | 1, _ => exact aLe_1 (LR.to LR.refl hRr.symm).deq
  refine callx hD hu hC (x_implWrap' A cols W (by rw [show W = _ from hW, wrap, if_neg (by omega), show st = _ from hst]) hbA hc) ?_
  ((try conv => cbv); (repeat' (first | (with_reducible refine mK hD ?_; kernel_rfl) | (with_reducible first | refine mS hD ?_ | refine mT hD ?_ | refine mF hD ?_ | refine mB hD (fun _ => ?_) (fun _ => ?_) | exact True.intro | refine And.intro ?_ ?_) <;> try conv => cbv)); all_goals try (first | trivial | (subst hD; first | exact fun _ _ => ⟨_, rfl⟩ | exact fl1 | exact fl1') | (((try subst hD hu); (try simp only [nc] at *); (try simp only [Int.ofNat_eq_natCast] at *); try simp (disch := omega) only [std, uid, S0] at *) <;> first | omega | rfl | (exfalso; simp_all only [Bool.true_eq_false, Bool.false_eq_true]; done))))
  refine meet_of hL (ι := Unit) (fun _ => [(12, VI (u _ (N : Int))), (13, VI (u _ r))]) (fun _ => []) (fun _ => True) ?_ ?_
  · ((try conv => cbv); (repeat' (first | (with_reducible refine mK hD ?_; kernel_rfl) | (with_reducible first | refine mS hD ?_ | refine mT hD ?_ | refine mF hD ?_ | refine mB hD (fun _ => ?_) (fun _ => ?_) | exact True.intro | refine And.intro ?_ ?_) <;> try conv => cbv)); all_goals try (first | trivial | (subst hD; first | exact fun _ _ => ⟨_, rfl⟩ | exact fl1 | exact fl1') | (((try subst hD hu); (try simp only [nc] at *); (try simp only [Int.ofNat_eq_natCast] at *); try simp (disch := omega) only [std, uid, S0] at *) <;> first | omega | rfl | (exfalso; simp_all only [Bool.true_eq_false, Bool.false_eq_true]; done))))
    refine loop_st hL r (fun k (_ : Unit) => True) () (fun k _ => [(12, VI (u _ ((F.length : Int) - st.getD k 0))), (13, VI (u _ k))]) (fun k _ => []) trivial ?_ ?_
    · have hz : st.getD 0 0 = 0 := by rw [show st = _ from hst]; unfold starts; exact stF_0 cols A A.length
      ((try conv => cbv); (repeat' (first | (with_reducible refine mK hD ?_; kernel_rfl) | (with_reducible first | refine mS hD ?_ | refine mJ hL ?_ | refine mT hD ?_ | refine mF hD ?_ | refine mB hD (fun _ => ?_) (fun _ => ?_) | exact True.intro | refine And.intro ?_ ?_) <;> try conv => cbv)); all_goals try (first | trivial | (subst hD; first | exact fun _ _ => ⟨_, rfl⟩ | exact fl1 | exact fl1') | (((try subst hD hu); (try simp only [nc] at *); (try simp only [Int.ofNat_eq_natCast] at *); try simp (disch := omega) only [std, uid, S0] at *) <;> first | omega | rfl | (exfalso; simp_all only [Bool.true_eq_false, Bool.false_eq_true]; done))))
      ((try subst hD hu); (try simp only [nc] at *); (try simp only [Int.ofNat_eq_natCast] at *); try simp (disch := omega) only [std, uid, S0, e2, hz] at *)
    · intro k _ hk _
      have hk1 : k < st.length := by omega
      have hw := hWw k hk1
      have hap : k + 1 < st.length → (st ++ [(A.length : Int)]).getD (k + 1) 0 = st.getD (k + 1) 0 := fun h => getD_app_l _ _ _ _ h
      have hrk := hso.rng k hk1
      have hrk2 := hL2.ra k hk
      have hrk3 : k = r → k + 1 < st.length → (F.length : Int) < st.getD (k + 1) 0 := fun h1 h2 => by subst h1; exact hL2.rb (k + 1) (by omega) h2
      have hrk4 : k < r → (st ++ [(A.length : Int)]).getD (k + 1) 0 ≤ F.length := fun h => by rw [hap (by omega)]; exact hL2.ra (k + 1) (by omega)
      ((try conv => cbv); (repeat' (first | (with_reducible refine mK hD ?_; kernel_rfl) | (with_reducible first | refine mS hD ?_ | refine mJ hL ?_ | refine mT hD ?_ | refine mF hD ?_ | refine mB hD (fun _ => ?_) (fun _ => ?_) | exact True.intro | refine And.intro ?_ ?_) <;> try conv => cbv)); all_goals try (first | trivial | (subst hD; first | exact fun _ _ => ⟨_, rfl⟩ | exact fl1 | exact fl1') | (((try subst hD hu); (try simp only [nc] at *); (try simp only [Int.ofNat_eq_natCast] at *); try simp (disch := omega) only [std, uid, S0] at *) <;> first | omega | rfl | (exfalso; simp_all only [Bool.true_eq_false, Bool.false_eq_true]; done))))
      · have hkl : k + 1 < st.length := by ((try subst hD hu); (try simp only [nc] at *); (try simp only [Int.ofNat_eq_natCast] at *); try simp (disch := omega) only [std, uid, S0] at *); omega
        rw [hap hkl] at hw hrk
        have hkr : k + 1 ≤ r := by
          rcases Nat.lt_or_ge k r with q | q
          · omega
          · have := hrk3 (by omega) hkl
            ((try subst hD hu); (try simp only [nc] at *); (try simp only [Int.ofNat_eq_natCast] at *); try simp (disch := omega) only [std, uid, S0] at *)
            omega
        refine ⟨k + 1, (), hkr, trivial, ssem_of ?_, by omega⟩
        ((try conv => cbv); (repeat' (first | (with_reducible refine mK hD ?_; kernel_rfl) | (with_reducible first | refine mS hD ?_ | refine mJ hL ?_ | refine mT hD ?_ | refine mF hD ?_ | refine mB hD (fun _ => ?_) (fun _ => ?_) | exact True.intro | refine And.intro ?_ ?_) <;> try conv => cbv)); all_goals try (first | trivial | (subst hD; first | exact fun _ _ => ⟨_, rfl⟩ | exact fl1 | exact fl1') | (((try subst hD hu); (try simp only [nc] at *); (try simp only [Int.ofNat_eq_natCast] at *); try simp (disch := omega) only [std, uid, S0] at *) <;> first | omega | rfl | (exfalso; simp_all only [Bool.true_eq_false, Bool.false_eq_true]; done))))
      all_goals (
        have ek : k = r := by
          rcases Nat.lt_or_ge k r with q | q
          · have := hrk4 q
            ((try subst hD hu); (try simp only [nc] at *); (try simp only [Int.ofNat_eq_natCast] at *); try simp (disch := omega) only [std, uid, S0] at *)
            omega
          · omega
        clear hrk2 hrk3 hrk4 hap hw hrk hWr0
        subst ek
        refine ⟨(), trivial, ssem_of ?_⟩
        ((try conv => cbv); (repeat' (first | (with_reducible refine mK hD ?_; kernel_rfl) | (with_reducible first | refine mS hD ?_ | refine mJ hL ?_ | refine mT hD ?_ | refine mF hD ?_ | refine mB hD (fun _ => ?_) (fun _ => ?_) | exact True.intro | refine And.intro ?_ ?_) <;> try conv => cbv)); all_goals try (first | trivial | (subst hD; first | exact fun _ _ => ⟨_, rfl⟩ | exact fl1 | exact fl1') | (((try subst hD hu); (try simp only [nc] at *); (try simp only [Int.ofNat_eq_natCast] at *); try simp (disch := omega) only [std, uid, S0] at *) <;> first | omega | rfl | (exfalso; simp_all only [Bool.true_eq_false, Bool.false_eq_true]; done)))))
  · intro _ _
    have hsW : (W.getD r []).take N = seg A (st.getD r 0) F.length := by
      rw [hWr.row r hra1, seg, seg, List.take_take]
      congr 1
      omega
    have hwW : ∀ c, c ∈ W.getD r [] → wOk c := fun c h => by
      rw [hWr.row r hra1] at h
      exact hwA c (seg_mem h)
    have hsg := widths_snoc (W.getD r [])
    have hwb := widths_bd (W.getD r []) hwW
    have hVl : N ≤ (W.getD r []).length := by omega
    have hNb : N ≤ 100000000 := by omega
    generalize hWe : W.getD r [] = V at *
    ((try conv => cbv); (repeat' (first | (with_reducible refine mK hD ?_; kernel_rfl) | (with_reducible first | refine mS hD ?_ | refine mT hD ?_ | refine mF hD ?_ | refine mB hD (fun _ => ?_) (fun _ => ?_) | exact True.intro | refine And.intro ?_ ?_) <;> try conv => cbv)); all_goals try (first | trivial | (subst hD; first | exact fun _ _ => ⟨_, rfl⟩ | exact fl1 | exact fl1') | (((try subst hD hu); (try simp only [nc] at *); (try simp only [Int.ofNat_eq_natCast] at *); try simp (disch := omega) only [std, uid, S0] at *) <;> first | omega | rfl | (exfalso; simp_all only [Bool.true_eq_false, Bool.false_eq_true]; done))))
    refine mJ hL ?_
    ((try conv => cbv); (repeat' (first | (with_reducible refine mK hD ?_; kernel_rfl) | (with_reducible first | refine mS hD ?_ | refine mT hD ?_ | refine mF hD ?_ | refine mB hD (fun _ => ?_) (fun _ => ?_) | exact True.intro | refine And.intro ?_ ?_) <;> try conv => cbv)); all_goals try (first | trivial | (subst hD; first | exact fun _ _ => ⟨_, rfl⟩ | exact fl1 | exact fl1') | (((try subst hD hu); (try simp only [nc] at *); (try simp only [Int.ofNat_eq_natCast] at *); try simp (disch := omega) only [std, uid, S0] at *) <;> first | omega | rfl | (exfalso; simp_all only [Bool.true_eq_false, Bool.false_eq_true]; done))))
    all_goals try (
      ((try subst hD hu); (try simp only [nc] at *); (try simp only [Int.ofNat_eq_natCast] at *); try simp (disch := omega) only [std, uid, S0, hWe] at *)
      omega
      done)
    refine loop_st hL N (fun k n => n = widthsOf (V.take k)) 0 (fun k n => [(14, VI (u _ n)), (16, .bad), (73, VI (u _ k))]) (fun k n => []) rfl ?_ ?_
    · ((try conv => cbv); (repeat' (first | (with_reducible refine mK hD ?_; kernel_rfl) | (with_reducible first | refine mS hD ?_ | refine mJ hL ?_ | refine mT hD ?_ | refine mF hD ?_ | refine mB hD (fun _ => ?_) (fun _ => ?_) | exact True.intro | refine And.intro ?_ ?_) <;> try conv => cbv)); all_goals try (first | trivial | (subst hD; first | exact fun _ _ => ⟨_, rfl⟩ | exact fl1 | exact fl1') | (((try subst hD hu); (try simp only [nc] at *); (try simp only [Int.ofNat_eq_natCast] at *); try simp (disch := omega) only [std, uid, S0] at *) <;> first | omega | rfl | (exfalso; simp_all only [Bool.true_eq_false, Bool.false_eq_true]; done))))
    · intro k n hk hn
      have hkV := hsg k
      have hkb := hwb k (by omega)
      rw [← hn] at hkb
      ((try conv => cbv); (repeat' (first | (with_reducible refine mK hD ?_; kernel_rfl) | (with_reducible first | refine mS hD ?_ | refine mT hD ?_ | refine mF hD ?_ | refine mB hD (fun _ => ?_) (fun _ => ?_) | exact True.intro | refine And.intro ?_ ?_) <;> try conv => cbv)); all_goals try (first | trivial | (subst hD; first | exact fun _ _ => ⟨_, rfl⟩ | exact fl1 | exact fl1') | (((try subst hD hu); (try simp only [nc] at *); (try simp only [Int.ofNat_eq_natCast] at *); try simp (disch := omega) only [std, uid, S0] at *) <;> first | omega | rfl | (exfalso; simp_all only [Bool.true_eq_false, Bool.false_eq_true]; done))))
      · refine mJ hL ?_
        ((try conv => cbv); (repeat' (first | (with_reducible refine mK hD ?_; kernel_rfl) | (with_reducible first | refine mS hD ?_ | refine mJ hL ?_ | refine mT hD ?_ | refine mF hD ?_ | refine mB hD (fun _ => ?_) (fun _ => ?_) | exact True.intro | refine And.intro ?_ ?_) <;> try conv => cbv)); all_goals try (first | trivial | (subst hD; first | exact fun _ _ => ⟨_, rfl⟩ | exact fl1 | exact fl1') | (((try subst hD hu); (try simp only [nc] at *); (try simp only [Int.ofNat_eq_natCast] at *); try simp (disch := omega) only [std, uid, S0] at *) <;> first | omega | rfl | (exfalso; simp_all only [Bool.true_eq_false, Bool.false_eq_true]; done))))
        have hkn : k < N := by ((try subst hD hu); (try simp only [nc] at *); (try simp only [Int.ofNat_eq_natCast] at *); try simp (disch := omega) only [std, uid, S0] at *); omega
        refine ⟨k + 1, n + (V.getD k dClu).width, hkn, by rw [hkV (Nat.lt_of_lt_of_le hkn hVl), ← hn], ssem_of ?_, by omega⟩
        have hx := hwW _ (getD_mem V dClu k (Nat.lt_of_lt_of_le hkn hVl))
        unfold wOk at hx
        have hxb : -9223372036854775808 ≤ n + (V.getD k dClu).width ∧ n + (V.getD k dClu).width ≤ 9223372036854775807 := by omega
        have hxw : IntKind.wrap .i64 (n + (V.getD k dClu).width) = n + (V.getD k dClu).width := wrap64 _ hxb
        clear hsg hkV hwb hwW hx hxb
        ((try conv => cbv); (repeat' (first | (with_reducible refine mK hD ?_; kernel_rfl) | (with_reducible first | refine mS hD ?_ | refine mJ hL ?_ | refine mT hD ?_ | refine mF hD ?_ | refine mB hD (fun _ => ?_) (fun _ => ?_) | exact True.intro | refine And.intro ?_ ?_) <;> try conv => cbv)); all_goals try (first | trivial | (subst hD; first | exact fun _ _ => ⟨_, rfl⟩ | exact fl1 | exact fl1') | (((try subst hD hu); (try simp only [nc] at *); (try simp only [Int.ofNat_eq_natCast] at *); try simp (disch := omega) only [std, uid, S0] at *) <;> first | omega | rfl | (exfalso; simp_all only [Bool.true_eq_false, Bool.false_eq_true]; done))))
        subst hD hu
        simp only [std, uid, Int.toNat_natCast, Int.ofNat_eq_natCast, hWe, hxw]
      have ek : k = N := by ((try subst hD hu); (try simp only [nc] at *); (try simp only [Int.ofNat_eq_natCast] at *); try simp (disch := omega) only [std, uid, S0] at *); omega
      have hnc0 : c = n := by rw [hn, ek, hsW]; exact hcc'
      clear hkV hkb hn
      subst hnc0
      refine meet_of hL (ι := Unit) (fun _ => [(11, vO D 7 (u _ W2)), (13, VI (u _ r2)), (14, VI (u _ c2)), (40, .bad), (66, .bad), (68, .bad), (69, .bad), (71, .bad)]) (fun _ => [(7, oCluS D u (u _ W2))]) (fun _ => True) ?_ ?_
      · ((try conv => cbv); (repeat' (first | (with_reducible refine mK hD ?_; kernel_rfl) | (with_reducible first | refine mS hD ?_ | refine mJ hL ?_ | refine mT hD ?_ | refine mF hD ?_ | refine mB hD (fun _ => ?_) (fun _ => ?_) | exact True.intro | refine And.intro ?_ ?_) <;> try conv => cbv)); all_goals try (first | trivial | (subst hD; first | exact fun _ _ => ⟨_, rfl⟩ | exact fl1 | exact fl1') | (((try subst hD hu); (try simp only [nc] at *); (try simp only [Int.ofNat_eq_natCast] at *); try simp (disch := omega) only [std, uid, S0] at *) <;> first | omega | rfl | (exfalso; simp_all only [Bool.true_eq_false, Bool.false_eq_true]; done))))
        · have hx : F.length = A.length ∧ c = cols := by
            ((try subst hD hu); (try simp only [nc] at *); (try simp only [Int.ofNat_eq_natCast] at *); try simp (disch := omega) only [std, uid, S0, e1, e2, hRl] at *)
            exact ⟨by omega, by assumption⟩
          have hy := hL2.ext hx.1 hx.2
          have h1 : Is st2 _ := hy.1
          have h2 : Is r2 _ := hy.2.1
          have h3 : Is c2 _ := hy.2.2
          have hAl : A.length ≤ 100000000 := by omega
          have h4 : W2 = W ++ [[]] := by
            rw [show W2 = _ from hW2, show W = _ from hW, show st2 = _ from h1, rowsW_snoc hso]
          have h4' : Is W2 _ := h4
          clear hx hy e1 e2 h4
          refine ⟨(), trivial, ssem_of ?_⟩
          ((try conv => cbv); (repeat' (first | (with_reducible refine mK hD ?_; kernel_rfl) | (with_reducible first | refine mS hD ?_ | refine mJ hL ?_ | refine mT hD ?_ | refine mF hD ?_ | refine mB hD (fun _ => ?_) (fun _ => ?_) | exact True.intro | refine And.intro ?_ ?_) <;> try conv => cbv)); all_goals try (first | trivial | (subst hD; first | exact fun _ _ => ⟨_, rfl⟩ | exact fl1 | exact fl1') | (((try subst hD hu); (try simp only [nc] at *); (try simp only [Int.ofNat_eq_natCast] at *); try simp (disch := omega) only [std, uid, S0] at *) <;> first | omega | rfl | (exfalso; simp_all only [Bool.true_eq_false, Bool.false_eq_true]; done))))
          · ((try subst hD hu); (try simp only [nc] at *); (try simp only [Int.ofNat_eq_natCast] at *); try simp (disch := omega) only [std, uid, S0, show W2 = _ from h4'] at *)
          · subst hD hu
            rw [show W2 = _ from h4']
            exact LR.deq2 (LR.cat' LR.refl (LR.one (x := []) (aLe_1 zClu)))
          · ((try subst hD hu); (try simp only [nc] at *); (try simp only [Int.ofNat_eq_natCast] at *); try simp (disch := omega) only [std, uid, S0, show W2 = _ from h4'] at *)
          · ((try subst hD hu); (try simp only [nc] at *); (try simp only [Int.ofNat_eq_natCast] at *); try simp (disch := omega) only [std, uid, S0, show r2 = _ from h2] at *)
            try omega
          · ((try subst hD hu); (try simp only [nc] at *); (try simp only [Int.ofNat_eq_natCast] at *); try simp (disch := omega) only [std, uid, S0, show c2 = _ from h3] at *)
        all_goals (
          have hx : F.length = A.length → c ≠ cols := by
            ((try subst hD hu); (try simp only [nc] at *); (try simp only [Int.ofNat_eq_natCast] at *); try simp (disch := omega) only [std, uid, S0, e1, e2, hRl] at *)
            omega
          have hy := hL2.nor hx
          have h1 : Is st2 _ := hy.1
          have h2 : Is r2 _ := hy.2.1
          have h3 : Is c2 _ := hy.2.2
          have h4 : W2 = W := by
            rw [show W2 = _ from hW2, show W = _ from hW, show st2 = _ from h1]
          have h4' : Is W2 _ := h4
          clear hx hy h4
          refine ⟨(), trivial, ssem_of ?_⟩
          ((try conv => cbv); (repeat' (first | (with_reducible refine mK hD ?_; kernel_rfl) | (with_reducible first | refine mS hD ?_ | refine mJ hL ?_ | refine mT hD ?_ | refine mF hD ?_ | refine mB hD (fun _ => ?_) (fun _ => ?_) | exact True.intro | refine And.intro ?_ ?_) <;> try conv => cbv)); all_goals try (first | trivial | (subst hD; first | exact fun _ _ => ⟨_, rfl⟩ | exact fl1 | exact fl1') | (((try subst hD hu); (try simp only [nc] at *); (try simp only [Int.ofNat_eq_natCast] at *); try simp (disch := omega) only [std, uid, S0] at *) <;> first | omega | rfl | (exfalso; simp_all only [Bool.true_eq_false, Bool.false_eq_true]; done))))
          · rw [show W2 = _ from h4']
          · rw [show W2 = _ from h4']
          · rw [show W2 = _ from h4']
          · rw [show r2 = _ from h2]
          · rw [show c2 = _ from h3])
      · intro _ _
        ((try conv => cbv); (repeat' (first | (with_reducible refine mK hD ?_; kernel_rfl) | (with_reducible first | refine mS hD ?_ | refine mT hD ?_ | refine mF hD ?_ | refine mB hD (fun _ => ?_) (fun _ => ?_) | exact True.intro | refine And.intro ?_ ?_) <;> try conv => cbv)); all_goals try (first | trivial | (subst hD; first | exact fun _ _ => ⟨_, rfl⟩ | exact fl1 | exact fl1') | (((try subst hD hu); (try simp only [nc] at *); (try simp only [Int.ofNat_eq_natCast] at *); try simp (disch := omega) only [std, uid, S0] at *) <;> first | omega | rfl | (exfalso; simp_all only [Bool.true_eq_false, Bool.false_eq_true]; done))))
        refine meet_of hL (ι := Unit) (fun _ => [(17, VI (u _ (f : Int)))]) (fun _ => []) (fun _ => True) ?_ ?_
        · ((try conv => cbv); (repeat' (first | (with_reducible refine mK hD ?_; kernel_rfl) | (with_reducible first | refine mS hD ?_ | refine mJ hL ?_ | refine mT hD ?_ | refine mF hD ?_ | refine mB hD (fun _ => ?_) (fun _ => ?_) | exact True.intro | refine And.intro ?_ ?_) <;> try conv => cbv)); all_goals try (first | trivial | (subst hD; first | exact fun _ _ => ⟨_, rfl⟩ | exact fl1 | exact fl1') | (((try subst hD hu); (try simp only [nc] at *); (try simp only [Int.ofNat_eq_natCast] at *); try simp (disch := omega) only [std, uid, S0] at *) <;> first | omega | rfl | (exfalso; simp_all only [Bool.true_eq_false, Bool.false_eq_true]; done))))
          all_goals (
            refine ⟨(), trivial, ssem_of ?_⟩
            ((try conv => cbv); (repeat' (first | (with_reducible refine mK hD ?_; kernel_rfl) | (with_reducible first | refine mS hD ?_ | refine mJ hL ?_ | refine mT hD ?_ | refine mF hD ?_ | refine mB hD (fun _ => ?_) (fun _ => ?_) | exact True.intro | refine And.intro ?_ ?_) <;> try conv => cbv)); all_goals try (first | trivial | (subst hD; first | exact fun _ _ => ⟨_, rfl⟩ | exact fl1 | exact fl1') | (((try subst hD hu); (try simp only [nc] at *); (try simp only [Int.ofNat_eq_natCast] at *); try simp (disch := omega) only [std, uid, S0] at *) <;> first | omega | rfl | (exfalso; simp_all only [Bool.true_eq_false, Bool.false_eq_true]; done))))
            have h1 := hL2.fc
            have h2 := hL2.r3
            ((try subst hD hu); (try simp only [nc] at *); (try simp only [Int.ofNat_eq_natCast] at *); try simp (disch := omega) only [std, uid, S0] at *)
            omega)
        · intro _ _
          have hfc := hL2.fc
          have hr3 := hL2.r3
          have hb1' := hL2.b1
          have hb2' := hL2.b2
          have hb3' := hL2.b3
          have hrl := rowsT_len A st2 f
          ((try conv => cbv); (repeat' (first | (with_reducible refine mK hD ?_; kernel_rfl) | (with_reducible first | refine mS hD ?_ | refine mT hD ?_ | refine mF hD ?_ | refine mB hD (fun _ => ?_) (fun _ => ?_) | exact True.intro | refine And.intro ?_ ?_) <;> try conv => cbv)); all_goals try (first | trivial | (subst hD; first | exact fun _ _ => ⟨_, rfl⟩ | exact fl1 | exact fl1') | (((try subst hD hu); (try simp only [nc] at *); (try simp only [Int.ofNat_eq_natCast] at *); try simp (disch := omega) only [std, uid, S0] at *) <;> first | omega | rfl | (exfalso; simp_all only [Bool.true_eq_false, Bool.false_eq_true]; done))))
          refine mJ hL ?_
          ((try conv => cbv); (repeat' (first | (with_reducible refine mK hD ?_; kernel_rfl) | (with_reducible first | refine mS hD ?_ | refine mT hD ?_ | refine mF hD ?_ | refine mB hD (fun _ => ?_) (fun _ => ?_) | exact True.intro | refine And.intro ?_ ?_) <;> try conv => cbv)); all_goals try (first | trivial | (subst hD; first | exact fun _ _ => ⟨_, rfl⟩ | exact fl1 | exact fl1') | (((try subst hD hu); (try simp only [nc] at *); (try simp only [Int.ofNat_eq_natCast] at *); try simp (disch := omega) only [std, uid, S0] at *) <;> first | omega | rfl | (exfalso; simp_all only [Bool.true_eq_false, Bool.false_eq_true]; done))))
          refine loop_st hL m (fun k s => s = rowsT A st2 f k) [] (fun k s => [(20, .bad), (108, .bad), (117, .one (.lf (.o 7 (D.natI (u _ (f : Int))) (D.natI (u _ (m : Int)))))), (118, VI (u _ (m : Int))), (119, VI (u _ k))]) (fun k s => [(8, .vars [.o 5 0 (D.lenL Str (u _ s)), .s (.int .i64 (u _ (r2 - f))), .s (.int .i64 (u _ c2))]), (5, oT D u (u _ s))]) (rowsT_0 _ _ _).symm ?_ ?_
          · ((try conv => cbv); (repeat' (first | (with_reducible refine mK hD ?_; kernel_rfl) | (with_reducible first | refine mS hD ?_ | refine mJ hL ?_ | refine mT hD ?_ | refine mF hD ?_ | refine mB hD (fun _ => ?_) (fun _ => ?_) | exact True.intro | refine And.intro ?_ ?_) <;> try conv => cbv)); all_goals try (first | trivial | (subst hD; first | exact fun _ _ => ⟨_, rfl⟩ | exact fl1 | exact fl1') | (((try subst hD hu); (try simp only [nc] at *); (try simp only [Int.ofNat_eq_natCast] at *); try simp (disch := omega) only [std, uid, S0] at *) <;> first | omega | rfl | (exfalso; simp_all only [Bool.true_eq_false, Bool.false_eq_true]; done))))
          · intro k s hk hs
            have hls := hrl k
            rw [← hs] at hls
            ((try conv => cbv); (repeat' (first | (with_reducible refine mK hD ?_; kernel_rfl) | (with_reducible first | refine mS hD ?_ | refine mJ hL ?_ | refine mT hD ?_ | refine mF hD ?_ | refine mB hD (fun _ => ?_) (fun _ => ?_) | exact True.intro | refine And.intro ?_ ?_) <;> try conv => cbv)); all_goals try (first | trivial | (subst hD; first | exact fun _ _ => ⟨_, rfl⟩ | exact fl1 | exact fl1') | (((try subst hD hu); (try simp only [nc] at *); (try simp only [Int.ofNat_eq_natCast] at *); try simp (disch := omega) only [std, uid, S0] at *) <;> first | omega | rfl | (exfalso; simp_all only [Bool.true_eq_false, Bool.false_eq_true]; done))))
            · have hkm : k < m := by ((try subst hD hu); (try simp only [nc] at *); (try simp only [Int.ofNat_eq_natCast] at *); try simp (disch := omega) only [std, uid, S0] at *); omega
              have hkn : f + k < st2.length := by omega
              have hrow := hWr2.row (f + k) hkn
              have hst := seg_tot A (st2.getD (f + k) 0) ((st2 ++ [(A.length : Int)]).getD (f + k + 1) 0)
              have hsn := rowsT_snoc A st2 f k hkn
              rw [← hrow] at hsn hst
              have hok : ∀ c, c ∈ W2.getD (f + k) [] → okClu c := fun c h => by rw [hrow] at h; exact hoA c (seg_mem h)
              refine callx hD hu hC (x_implTextOf (W2.getD (f + k) []) (by omega) hok) ?_
              ((try conv => cbv); (repeat' (first | (with_reducible refine mK hD ?_; kernel_rfl) | (with_reducible first | refine mS hD ?_ | refine mJ hL ?_ | refine mT hD ?_ | refine mF hD ?_ | refine mB hD (fun _ => ?_) (fun _ => ?_) | exact True.intro | refine And.intro ?_ ?_) <;> try conv => cbv)); all_goals try (first | trivial | (subst hD; first | exact fun _ _ => ⟨_, rfl⟩ | exact fl1 | exact fl1') | (((try subst hD hu); (try simp only [nc] at *); (try simp only [Int.ofNat_eq_natCast] at *); try simp (disch := omega) only [std, uid, S0] at *) <;> first | omega | rfl | (exfalso; simp_all only [Bool.true_eq_false, Bool.false_eq_true]; done))))
              · subst hD hu
                cases f with
                | zero =>
                  simp only [std, uid, Int.toNat_natCast, Int.ofNat_eq_natCast, Nat.zero_add]
                | succ f =>
                  simp only [std, uid, Int.toNat_natCast, Int.ofNat_eq_natCast]
              · subst hD hu
                cases f with
                | zero =>
                  simp only [std, uid, Int.toNat_natCast, Int.ofNat_eq_natCast, Nat.zero_add]
                  exact DEq.rfl' _
                | succ f =>
                  simp only [std, uid, Int.toNat_natCast, Int.ofNat_eq_natCast]
                  exact DEq.rfl' _
              · refine ⟨k + 1, s ++ [textOf (W2.getD (f + k) [])], hkm, by rw [hsn, hs], ssem_of ?_, by omega⟩
                ((try conv => cbv); (repeat' (first | (with_reducible refine mK hD ?_; kernel_rfl) | (with_reducible first | refine mS hD ?_ | refine mJ hL ?_ | refine mT hD ?_ | refine mF hD ?_ | refine mB hD (fun _ => ?_) (fun _ => ?_) | exact True.intro | refine And.intro ?_ ?_) <;> try conv => cbv)); all_goals try (first | trivial | (subst hD; first | exact fun _ _ => ⟨_, rfl⟩ | exact fl1 | exact fl1') | (((try subst hD hu); (try simp only [nc] at *); (try simp only [Int.ofNat_eq_natCast] at *); try simp (disch := omega) only [std, uid, S0] at *) <;> first | omega | rfl | (exfalso; simp_all only [Bool.true_eq_false, Bool.false_eq_true]; done))))
                (subst hD hu; apply qT; (focus repeat' (first | exact LR.refl | exact LR_bytes | apply mClu | apply mCel | apply mKey | apply mSnp | apply mKRd | apply mLin | apply mHis | apply mBlk | apply mScr | apply mSes | exact zR | exact zB | exact zT | exact zN | exact zClu | exact zCel | exact zCelS | exact zSnp | exact zKey | exact zSes | exact zScr | apply LR.deq | exact LR.nil | apply LR.one | apply LR.rep | apply LR.cat | apply LR.cat' | apply LR.set | exact u8_0 | exact DEq.s _ | (apply str_deq; (repeat' apply sr_cat) <;> rfl) | apply aLe_1 | (apply LR.rfl'; simp only [uid, std, S0]; omega))); all_goals try simp only [uid, std, Int.toNat_natCast, Int.ofNat_eq_natCast])
            all_goals (
              have e : s = b.rows := by
                have hek : k = m := by ((try subst hD hu); (try simp only [nc] at *); (try simp only [Int.ofNat_eq_natCast] at *); try simp (disch := omega) only [std, uid, S0] at *); omega
                rw [hb1', hs, hek])
            · rw [e]
              try (subst hD hu; rfl)
            · (subst hD hu; apply qT; (focus repeat' (first | exact LR.refl | exact LR_bytes | apply mClu | apply mCel | apply mKey | apply mSnp | apply mKRd | apply mLin | apply mHis | apply mBlk | apply mScr | apply mSes | exact zR | exact zB | exact zT | exact zN | exact zClu | exact zCel | exact zCelS | exact zSnp | exact zKey | exact zSes | exact zScr | apply LR.deq | exact LR.nil | apply LR.one | apply LR.rep | apply LR.cat | apply LR.cat' | apply LR.set | exact u8_0 | exact DEq.s _ | (apply str_deq; (repeat' apply sr_cat) <;> rfl) | apply aLe_1 | (apply LR.rfl'; simp only [uid, std, S0]; omega))); all_goals try simp only [uid, std, Int.toNat_natCast, Int.ofNat_eq_natCast])
              exact e
theorem x_implLayout0 (prompt : Str) (l : Lin) (cols rows : Int) (hs : sizeOk cols rows = false) : PX Try.prog 17 (fun D u => [.r (.c (.s (.string (D.strB (u _ prompt))))), .r (.a (rLin D u (u _ l))), AI (u _ cols), AI (u _ rows)]) (fun D u => [.a (rBlk D u (u _ dBlk))]) (fun D u => []) := by
  refine px_of_awp (fn := Try.f17) (c := bodyOf Try.f17) envOk (by kernel_rfl) (by kernel_rfl) (by kernel_rfl) (by kernel_rfl) rfl (by kernel_rfl) (by kernel_rfl) ?_
  intro w0 mine D u C L hD hu hC hL
  ((try conv => cbv); (repeat' (first | (with_reducible refine mK hD ?_; kernel_rfl) | (with_reducible first | refine mS hD ?_ | refine mJ hL ?_ | refine mT hD ?_ | refine mF hD ?_ | refine mB hD (fun _ => ?_) (fun _ => ?_) | exact True.intro | refine And.intro ?_ ?_) <;> try conv => cbv)); all_goals try (first | trivial | (subst hD; first | exact fun _ _ => ⟨_, rfl⟩ | exact fl1 | exact fl1') | (((try subst hD hu); (try simp only [nc] at *); (try simp only [Int.ofNat_eq_natCast] at *); try simp (disch := omega) only [std, uid, S0] at *) <;> first | omega | rfl | (exfalso; simp_all only [Bool.true_eq_false, Bool.false_eq_true]; done))))
  refine callx hD hu hC (x_sizeOk cols rows) ?_
  rw [hs]
  ((try conv => cbv); (repeat' (first | (with_reducible refine mK hD ?_; kernel_rfl) | (with_reducible first | refine mS hD ?_ | refine mJ hL ?_ | refine mT hD ?_ | refine mF hD ?_ | refine mB hD (fun _ => ?_) (fun _ => ?_) | exact True.intro | refine And.intro ?_ ?_) <;> try conv => cbv)); all_goals try (first | trivial | (subst hD; first | exact fun _ _ => ⟨_, rfl⟩ | exact fl1 | exact fl1') | (((try subst hD hu); (try simp only [nc] at *); (try simp only [Int.ofNat_eq_natCast] at *); try simp (disch := omega) only [std, uid, S0] at *) <;> first | omega | rfl | (exfalso; simp_all only [Bool.true_eq_false, Bool.false_eq_true]; done))))
  all_goals exact DEq.z _ _ _
theorem x_implLayout (prompt : Str) (l : Lin) (cols rows : Int) (hp : prompt.length ≤ 10000000) (hb : bdELin 10000000 l) (hc : okI cols) (hr : okI rows) : PX Try.prog 17 (fun D u => [.r (.c (.s (.string (D.strB (u _ prompt))))), .r (.a (rLin D u (u _ l))), AI (u _ cols), AI (u _ rows)]) (fun D u => [.a (rBlk D u (u _ (layout prompt l cols rows)))]) (fun D u => []) := by
  cases hs : sizeOk cols rows with
  | false =>
    rw [layout_no hs]
    exact x_implLayout0 prompt l cols rows hs
  | true =>
    obtain ⟨st2, r2, c2, f, m, h⟩ := lay_i (prompt := prompt) (l := l) (cols := cols) (rows := rows) rfl rfl rfl rfl rfl rfl hs
    exact x_implLayout1 prompt l cols rows hp hb hc hr hs _ _ _ rfl rfl rfl _ rfl _ rfl _ _ rfl _ st2 r2 c2 f m h _ rfl
theorem textOf_app2 (a b : List Clu) : textOf (a ++ b) = textOf a ++ textOf b := by simp [textOf]
theorem textOf_flatten (L : List (List Clu)) : cntL toET (L.map textOf) = (textOf L.flatten).length := by
  induction L with
  | nil => rfl
  | cons a L ih =>
    rw [List.flatten_cons, textOf_app2, List.length_append, ← ih]
    rfl
theorem rowsT_tot (A : List Clu) (st : List Int) (f k : Nat) (h : ((rowsOf A st A.length).flatten).length ≤ A.length ∧ (textOf (rowsOf A st A.length).flatten).length ≤ (textOf A).length) : totL toET (rowsT A st f k) ≤ st.length + (textOf A).length := by
  have h1 := cntL_le toET (((rowsOf A st A.length).drop f).map textOf) k
  have h2 := cntL_drop toET ((rowsOf A st A.length).map textOf) f
  rw [textOf_flatten] at h2
  have h3 := rowsT_len A st f k
  have h4 : rowsT A st f k = (((rowsOf A st A.length).drop f).map textOf).take k := by rw [rowsT, List.map_take]
  rw [List.map_drop] at h1
  simp only [totL]
  rw [h3, h4, List.map_drop]
  omega
theorem layout_tot (prompt : Str) (l : Lin) (cols rows : Int) : toEBlk (layout prompt l cols rows) ≤ 20 * (prompt.length + toELin l) + 100 := by
  have ht := layA_tot prompt l
  have h1 := textOf_len (layA prompt l)
  simp only [totL] at ht
  cases hs : sizeOk cols rows with
  | false =>
    rw [layout_no hs]
    simp [toEBlk, totL, cntL, dBlk]
  | true =>
    have hsz := (sizeOk_iff cols rows).mp hs
    have hfl : (rowsOf (layA prompt l) (laySt prompt l cols) (layA prompt l).length).flatten = layA prompt l := by
      have := wrap_flat (cs := layA prompt l) (cols := cols) (by omega)
      rwa [wrap, if_neg (by omega)] at this
    have hl := (starts_ok (layA prompt l) cols).len
    have key : ∀ st, st.length ≤ (layA prompt l).length + 3 → (rowsOf (layA prompt l) st (layA prompt l).length).flatten = layA prompt l → ∀ r c, toEBlk (layMk (layA prompt l) st r c rows) ≤ 20 * (prompt.length + toELin l) + 100 := fun st h2 h3 r c => by
      have := rowsT_tot (layA prompt l) st (fromOf r rows st.length).toNat rows.toNat (by rw [h3]; exact ⟨Nat.le_refl _, Nat.le_refl _⟩)
      simp only [toEBlk, layMk, toELin] at *
      omega
    by_cases hx : layExt prompt l cols
    · rw [layout_ext hs hx]
      refine key _ (by unfold laySt; simp only [List.length_append, List.length_singleton]; omega) ?_ _ _
      unfold laySt at hfl ⊢
      rw [rowsW_snoc (starts_ok _ _), List.flatten_append, hfl]
      simp
    · rw [layout_nor hs hx]
      exact key _ (by unfold laySt; omega) hfl _ _
end Go.AW
/- The law of Layout. -/
set_option linter.unusedVariables false
set_option linter.unusedSimpArgs false
namespace Go.AW
open Go.Proofs
set_option maxRecDepth 100000
set_option maxHeartbeats 8000000
theorem con_FnExactLayout (a : Str) (h0 : a.length ≤ 140737488355328) (b : Lin) (h1 : bdELin 140737488355328 b ∧ okLin b) (c : Int) (h2 : okI c) (d : Int) (h3 : okI d) : PX Try.prog 4 (fun D u => [.r (.c (.s (.string (D.strB (u _ a))))), .r (.a (rLin D u (u _ b))), AI (u _ c), AI (u _ d)]) (fun D u => [RB true]) (fun D u => []) := by
  refine px_of_awp (fn := Try.f4) (c := bodyOf Try.f4) envOk (by kernel_rfl) (by kernel_rfl) (by kernel_rfl) (by kernel_rfl) rfl (by kernel_rfl) (by kernel_rfl) ?_
  intro w0 mine D u C L hD hu hC hL
  ((try conv => cbv); (repeat' (first | (with_reducible refine mK hD ?_; kernel_rfl) | (with_reducible first | refine mS hD ?_ | refine mJ hL ?_ | refine mT hD ?_ | refine mF hD ?_ | refine mB hD (fun _ => ?_) (fun _ => ?_) | exact True.intro | refine And.intro ?_ ?_) <;> try conv => cbv)); all_goals try (first | trivial | (subst hD; first | exact fun _ _ => ⟨_, rfl⟩ | exact fl1 | exact fl1') | (((try subst hD hu); (try simp only [nc] at *); (try simp only [Int.ofNat_eq_natCast] at *); try simp (disch := omega) only [std, uid, S0] at *) <;> first | omega | rfl | (exfalso; simp_all only [Bool.true_eq_false, Bool.false_eq_true]; done))))
  have hz0 : a.length ≤ 1048576 := by ((try subst hD hu); (try simp only [nc] at *); (try simp only [Int.ofNat_eq_natCast] at *); try simp (disch := omega) only [std, uid, S0] at *); omega
  obtain ⟨r1, hr1⟩ := opq (if (1048576 : Int) - (toELin b : Nat) < 0 then -1 else (1048576 : Int) - (toELin b : Nat))
  all_goals (
    refine callx hD hu hC (x_szLine b 1048576 r1 (by ((try subst hD hu); (try simp only [nc] at *); (try simp only [Int.ofNat_eq_natCast] at *); try simp (disch := omega) only [std, uid, S0] at *); omega) (h1.1) hr1) ?_
    ((try conv => cbv); (repeat' (first | (with_reducible refine mK hD ?_; kernel_rfl) | (with_reducible first | refine mS hD ?_ | refine mJ hL ?_ | refine mT hD ?_ | refine mF hD ?_ | refine mB hD (fun _ => ?_) (fun _ => ?_) | exact True.intro | refine And.intro ?_ ?_) <;> try conv => cbv)); all_goals try (first | trivial | (subst hD; first | exact fun _ _ => ⟨_, rfl⟩ | exact fl1 | exact fl1') | (((try subst hD hu); (try simp only [nc] at *); (try simp only [Int.ofNat_eq_natCast] at *); try simp (disch := omega) only [std, uid, S0] at *) <;> first | omega | rfl | (exfalso; simp_all only [Bool.true_eq_false, Bool.false_eq_true]; done))))
    all_goals try ((subst hD hu; (try simp only [std, uid, rR, rB, rT, rN, rClu, rCel, rSnp, rKey, rCluS, rCelS, lR, lB, lT, lN, lClu, lCel, eL, dClu, dCel, dSnp, dKey, Int.toNat_natCast, Int.ofNat_eq_natCast, markL_len, mkR_len, mkB_len, mkN_len, mvBlk, mvLin]) <;> rfl)))
  have hz1 : toELin b ≤ 1048576 := by ((try subst hD hu); (try simp only [nc] at *); (try simp only [Int.ofNat_eq_natCast] at *); try simp (disch := omega) only [std, uid, S0] at *); omega
  have hb1 : bdELin 1000000000 b := boELin _ _ (by omega)
  have hc1 := ccVLin b
  have ht0 : toEBlk (layout a b c d) ≤ 1000000000 := Nat.le_trans (layout_tot a b c d) (by omega)
  have hbr0 : bdEBlk 1000000000 (layout a b c d) := boEBlk _ _ ht0
  have hcr0 := ccVBlk (layout a b c d)
  all_goals (
    refine callx hD hu hC (x_toLine b hb1) ?_
    ((try conv => cbv); (repeat' (first | (with_reducible refine mK hD ?_; kernel_rfl) | (with_reducible first | refine mS hD ?_ | refine mJ hL ?_ | refine mT hD ?_ | refine mF hD ?_ | refine mB hD (fun _ => ?_) (fun _ => ?_) | exact True.intro | refine And.intro ?_ ?_) <;> try conv => cbv)); all_goals try (first | trivial | (subst hD; first | exact fun _ _ => ⟨_, rfl⟩ | exact fl1 | exact fl1') | (((try subst hD hu); (try simp only [nc] at *); (try simp only [Int.ofNat_eq_natCast] at *); try simp (disch := omega) only [std, uid, S0] at *) <;> first | omega | rfl | (exfalso; simp_all only [Bool.true_eq_false, Bool.false_eq_true]; done))))
    all_goals try ((subst hD hu; (try simp only [std, uid, rR, rB, rT, rN, rClu, rCel, rSnp, rKey, rCluS, rCelS, lR, lB, lT, lN, lClu, lCel, eL, dClu, dCel, dSnp, dKey, Int.toNat_natCast, Int.ofNat_eq_natCast, markL_len, mkR_len, mkB_len, mkN_len, mvBlk, mvLin]) <;> rfl)))
  all_goals (
    refine callx hD hu hC (x_specLayout a b c d (by omega) (bmELin _ _ _ (by omega) (boELin _ b hz1)) h2 h3) ?_
    ((try conv => cbv); (repeat' (first | (with_reducible refine mK hD ?_; kernel_rfl) | (with_reducible first | refine mS hD ?_ | refine mJ hL ?_ | refine mT hD ?_ | refine mF hD ?_ | refine mB hD (fun _ => ?_) (fun _ => ?_) | exact True.intro | refine And.intro ?_ ?_) <;> try conv => cbv)); all_goals try (first | trivial | (subst hD; first | exact fun _ _ => ⟨_, rfl⟩ | exact fl1 | exact fl1') | (((try subst hD hu); (try simp only [nc] at *); (try simp only [Int.ofNat_eq_natCast] at *); try simp (disch := omega) only [std, uid, S0] at *) <;> first | omega | rfl | (exfalso; simp_all only [Bool.true_eq_false, Bool.false_eq_true]; done))))
    all_goals try ((subst hD hu; (try simp only [std, uid, rR, rB, rT, rN, rClu, rCel, rSnp, rKey, rCluS, rCelS, lR, lB, lT, lN, lClu, lCel, eL, dClu, dCel, dSnp, dKey, Int.toNat_natCast, Int.ofNat_eq_natCast, markL_len, mkR_len, mkB_len, mkN_len, mvBlk, mvLin]) <;> rfl)))
  all_goals (
    refine callx hD hu hC (x_toLine b hb1) ?_
    ((try conv => cbv); (repeat' (first | (with_reducible refine mK hD ?_; kernel_rfl) | (with_reducible first | refine mS hD ?_ | refine mJ hL ?_ | refine mT hD ?_ | refine mF hD ?_ | refine mB hD (fun _ => ?_) (fun _ => ?_) | exact True.intro | refine And.intro ?_ ?_) <;> try conv => cbv)); all_goals try (first | trivial | (subst hD; first | exact fun _ _ => ⟨_, rfl⟩ | exact fl1 | exact fl1') | (((try subst hD hu); (try simp only [nc] at *); (try simp only [Int.ofNat_eq_natCast] at *); try simp (disch := omega) only [std, uid, S0] at *) <;> first | omega | rfl | (exfalso; simp_all only [Bool.true_eq_false, Bool.false_eq_true]; done))))
    all_goals try ((subst hD hu; (try simp only [std, uid, rR, rB, rT, rN, rClu, rCel, rSnp, rKey, rCluS, rCelS, lR, lB, lT, lN, lClu, lCel, eL, dClu, dCel, dSnp, dKey, Int.toNat_natCast, Int.ofNat_eq_natCast, markL_len, mkR_len, mkB_len, mkN_len, mvBlk, mvLin]) <;> rfl)))
  all_goals (
    refine callx hD hu hC (x_implLayout a b c d (by omega) (bmELin _ _ _ (by omega) (boELin _ b hz1)) h2 h3) ?_
    ((try conv => cbv); (repeat' (first | (with_reducible refine mK hD ?_; kernel_rfl) | (with_reducible first | refine mS hD ?_ | refine mJ hL ?_ | refine mT hD ?_ | refine mF hD ?_ | refine mB hD (fun _ => ?_) (fun _ => ?_) | exact True.intro | refine And.intro ?_ ?_) <;> try conv => cbv)); all_goals try (first | trivial | (subst hD; first | exact fun _ _ => ⟨_, rfl⟩ | exact fl1 | exact fl1') | (((try subst hD hu); (try simp only [nc] at *); (try simp only [Int.ofNat_eq_natCast] at *); try simp (disch := omega) only [std, uid, S0] at *) <;> first | omega | rfl | (exfalso; simp_all only [Bool.true_eq_false, Bool.false_eq_true]; done))))
    all_goals try ((subst hD hu; (try simp only [std, uid, rR, rB, rT, rN, rClu, rCel, rSnp, rKey, rCluS, rCelS, lR, lB, lT, lN, lClu, lCel, eL, dClu, dCel, dSnp, dKey, Int.toNat_natCast, Int.ofNat_eq_natCast, markL_len, mkR_len, mkB_len, mkN_len, mvBlk, mvLin]) <;> rfl)))
  all_goals (
    refine callx hD hu hC (x_eqBlock (layout a b c d) hbr0) ?_
    ((try conv => cbv); (repeat' (first | (with_reducible refine mK hD ?_; kernel_rfl) | (with_reducible first | refine mS hD ?_ | refine mJ hL ?_ | refine mT hD ?_ | refine mF hD ?_ | refine mB hD (fun _ => ?_) (fun _ => ?_) | exact True.intro | refine And.intro ?_ ?_) <;> try conv => cbv)); all_goals try (first | trivial | (subst hD; first | exact fun _ _ => ⟨_, rfl⟩ | exact fl1 | exact fl1') | (((try subst hD hu); (try simp only [nc] at *); (try simp only [Int.ofNat_eq_natCast] at *); try simp (disch := omega) only [std, uid, S0] at *) <;> first | omega | rfl | (exfalso; simp_all only [Bool.true_eq_false, Bool.false_eq_true]; done))))
    all_goals try ((subst hD hu; (try simp only [std, uid, rR, rB, rT, rN, rClu, rCel, rSnp, rKey, rCluS, rCelS, lR, lB, lT, lN, lClu, lCel, eL, dClu, dCel, dSnp, dKey, Int.toNat_natCast, Int.ofNat_eq_natCast, markL_len, mkR_len, mkB_len, mkN_len, mvBlk, mvLin]) <;> rfl)))
  all_goals (
    refine callx hD hu hC (x_toLine b hb1) ?_
    ((try conv => cbv); (repeat' (first | (with_reducible refine mK hD ?_; kernel_rfl) | (with_reducible first | refine mS hD ?_ | refine mJ hL ?_ | refine mT hD ?_ | refine mF hD ?_ | refine mB hD (fun _ => ?_) (fun _ => ?_) | exact True.intro | refine And.intro ?_ ?_) <;> try conv => cbv)); all_goals try (first | trivial | (subst hD; first | exact fun _ _ => ⟨_, rfl⟩ | exact fl1 | exact fl1') | (((try subst hD hu); (try simp only [nc] at *); (try simp only [Int.ofNat_eq_natCast] at *); try simp (disch := omega) only [std, uid, S0] at *) <;> first | omega | rfl | (exfalso; simp_all only [Bool.true_eq_false, Bool.false_eq_true]; done))))
    all_goals try ((subst hD hu; (try simp only [std, uid, rR, rB, rT, rN, rClu, rCel, rSnp, rKey, rCluS, rCelS, lR, lB, lT, lN, lClu, lCel, eL, dClu, dCel, dSnp, dKey, Int.toNat_natCast, Int.ofNat_eq_natCast, markL_len, mkR_len, mkB_len, mkN_len, mvBlk, mvLin]) <;> rfl)))
  all_goals (
    refine callx hD hu hC (x_eqLine b hb1) ?_
    ((try conv => cbv); (repeat' (first | (with_reducible refine mK hD ?_; kernel_rfl) | (with_reducible first | refine mS hD ?_ | refine mJ hL ?_ | refine mT hD ?_ | refine mF hD ?_ | refine mB hD (fun _ => ?_) (fun _ => ?_) | exact True.intro | refine And.intro ?_ ?_) <;> try conv => cbv)); all_goals try (first | trivial | (subst hD; first | exact fun _ _ => ⟨_, rfl⟩ | exact fl1 | exact fl1') | (((try subst hD hu); (try simp only [nc] at *); (try simp only [Int.ofNat_eq_natCast] at *); try simp (disch := omega) only [std, uid, S0] at *) <;> first | omega | rfl | (exfalso; simp_all only [Bool.true_eq_false, Bool.false_eq_true]; done))))
    all_goals try ((subst hD hu; (try simp only [std, uid, rR, rB, rT, rN, rClu, rCel, rSnp, rKey, rCluS, rCelS, lR, lB, lT, lN, lClu, lCel, eL, dClu, dCel, dSnp, dKey, Int.toNat_natCast, Int.ofNat_eq_natCast, markL_len, mkR_len, mkB_len, mkN_len, mvBlk, mvLin]) <;> rfl)))
  all_goals (
    refine callx hD hu hC (x_markLine b (1) (1 + (cvLin b : Nat)) (by omega) hb1 rfl) ?_
    ((try conv => cbv); (repeat' (first | (with_reducible refine mK hD ?_; kernel_rfl) | (with_reducible first | refine mS hD ?_ | refine mJ hL ?_ | refine mT hD ?_ | refine mF hD ?_ | refine mB hD (fun _ => ?_) (fun _ => ?_) | exact True.intro | refine And.intro ?_ ?_) <;> try conv => cbv)); all_goals try (first | trivial | (subst hD; first | exact fun _ _ => ⟨_, rfl⟩ | exact fl1 | exact fl1') | (((try subst hD hu); (try simp only [nc] at *); (try simp only [Int.ofNat_eq_natCast] at *); try simp (disch := omega) only [std, uid, S0] at *) <;> first | omega | rfl | (exfalso; simp_all only [Bool.true_eq_false, Bool.false_eq_true]; done))))
    all_goals try ((subst hD hu; (try simp only [std, uid, rR, rB, rT, rN, rClu, rCel, rSnp, rKey, rCluS, rCelS, lR, lB, lT, lN, lClu, lCel, eL, dClu, dCel, dSnp, dKey, Int.toNat_natCast, Int.ofNat_eq_natCast, markL_len, mkR_len, mkB_len, mkN_len, mvBlk, mvLin]) <;> rfl)))
  all_goals (
    refine callx hD hu hC (x_eqBlock (layout a b c d) hbr0) ?_
    ((try conv => cbv); (repeat' (first | (with_reducible refine mK hD ?_; kernel_rfl) | (with_reducible first | refine mS hD ?_ | refine mJ hL ?_ | refine mT hD ?_ | refine mF hD ?_ | refine mB hD (fun _ => ?_) (fun _ => ?_) | exact True.intro | refine And.intro ?_ ?_) <;> try conv => cbv)); all_goals try (first | trivial | (subst hD; first | exact fun _ _ => ⟨_, rfl⟩ | exact fl1 | exact fl1') | (((try subst hD hu); (try simp only [nc] at *); (try simp only [Int.ofNat_eq_natCast] at *); try simp (disch := omega) only [std, uid, S0] at *) <;> first | omega | rfl | (exfalso; simp_all only [Bool.true_eq_false, Bool.false_eq_true]; done))))
    all_goals try ((subst hD hu; (try simp only [std, uid, rR, rB, rT, rN, rClu, rCel, rSnp, rKey, rCluS, rCelS, lR, lB, lT, lN, lClu, lCel, eL, dClu, dCel, dSnp, dKey, Int.toNat_natCast, Int.ofNat_eq_natCast, markL_len, mkR_len, mkB_len, mkN_len, mvBlk, mvLin]) <;> rfl)))
  all_goals (
    refine callx hD hu hC (x_markBlock (layout a b c d) (1) (1 + (cvBlk (layout a b c d) : Nat)) (by omega) hbr0 rfl) ?_
    ((try conv => cbv); (repeat' (first | (with_reducible refine mK hD ?_; kernel_rfl) | (with_reducible first | refine mS hD ?_ | refine mJ hL ?_ | refine mT hD ?_ | refine mF hD ?_ | refine mB hD (fun _ => ?_) (fun _ => ?_) | exact True.intro | refine And.intro ?_ ?_) <;> try conv => cbv)); all_goals try (first | trivial | (subst hD; first | exact fun _ _ => ⟨_, rfl⟩ | exact fl1 | exact fl1') | (((try subst hD hu); (try simp only [nc] at *); (try simp only [Int.ofNat_eq_natCast] at *); try simp (disch := omega) only [std, uid, S0] at *) <;> first | omega | rfl | (exfalso; simp_all only [Bool.true_eq_false, Bool.false_eq_true]; done))))
    all_goals try ((subst hD hu; (try simp only [std, uid, rR, rB, rT, rN, rClu, rCel, rSnp, rKey, rCluS, rCelS, lR, lB, lT, lN, lClu, lCel, eL, dClu, dCel, dSnp, dKey, Int.toNat_natCast, Int.ofNat_eq_natCast, markL_len, mkR_len, mkB_len, mkN_len, mvBlk, mvLin]) <;> rfl)))
  all_goals (
    refine callx hD hu hC (x_heldBlock (layout a b c d) (1) (1 + (cvBlk (layout a b c d) : Nat)) (by omega) hbr0 rfl) ?_
    ((try conv => cbv); (repeat' (first | (with_reducible refine mK hD ?_; kernel_rfl) | (with_reducible first | refine mS hD ?_ | refine mJ hL ?_ | refine mT hD ?_ | refine mF hD ?_ | refine mB hD (fun _ => ?_) (fun _ => ?_) | exact True.intro | refine And.intro ?_ ?_) <;> try conv => cbv)); all_goals try (first | trivial | (subst hD; first | exact fun _ _ => ⟨_, rfl⟩ | exact fl1 | exact fl1') | (((try subst hD hu); (try simp only [nc] at *); (try simp only [Int.ofNat_eq_natCast] at *); try simp (disch := omega) only [std, uid, S0] at *) <;> first | omega | rfl | (exfalso; simp_all only [Bool.true_eq_false, Bool.false_eq_true]; done))))
    all_goals try ((subst hD hu; (try simp only [std, uid, rR, rB, rT, rN, rClu, rCel, rSnp, rKey, rCluS, rCelS, lR, lB, lT, lN, lClu, lCel, eL, dClu, dCel, dSnp, dKey, Int.toNat_natCast, Int.ofNat_eq_natCast, markL_len, mkR_len, mkB_len, mkN_len, mvBlk, mvLin]) <;> rfl)))
  all_goals (
    refine callx hD hu hC (x_toLine b hb1) ?_
    ((try conv => cbv); (repeat' (first | (with_reducible refine mK hD ?_; kernel_rfl) | (with_reducible first | refine mS hD ?_ | refine mJ hL ?_ | refine mT hD ?_ | refine mF hD ?_ | refine mB hD (fun _ => ?_) (fun _ => ?_) | exact True.intro | refine And.intro ?_ ?_) <;> try conv => cbv)); all_goals try (first | trivial | (subst hD; first | exact fun _ _ => ⟨_, rfl⟩ | exact fl1 | exact fl1') | (((try subst hD hu); (try simp only [nc] at *); (try simp only [Int.ofNat_eq_natCast] at *); try simp (disch := omega) only [std, uid, S0] at *) <;> first | omega | rfl | (exfalso; simp_all only [Bool.true_eq_false, Bool.false_eq_true]; done))))
    all_goals try ((subst hD hu; (try simp only [std, uid, rR, rB, rT, rN, rClu, rCel, rSnp, rKey, rCluS, rCelS, lR, lB, lT, lN, lClu, lCel, eL, dClu, dCel, dSnp, dKey, Int.toNat_natCast, Int.ofNat_eq_natCast, markL_len, mkR_len, mkB_len, mkN_len, mvBlk, mvLin]) <;> rfl)))
  all_goals (
    refine callx hD hu hC (x_implLayout a b c d (by omega) (bmELin _ _ _ (by omega) (boELin _ b hz1)) h2 h3) ?_
    ((try conv => cbv); (repeat' (first | (with_reducible refine mK hD ?_; kernel_rfl) | (with_reducible first | refine mS hD ?_ | refine mJ hL ?_ | refine mT hD ?_ | refine mF hD ?_ | refine mB hD (fun _ => ?_) (fun _ => ?_) | exact True.intro | refine And.intro ?_ ?_) <;> try conv => cbv)); all_goals try (first | trivial | (subst hD; first | exact fun _ _ => ⟨_, rfl⟩ | exact fl1 | exact fl1') | (((try subst hD hu); (try simp only [nc] at *); (try simp only [Int.ofNat_eq_natCast] at *); try simp (disch := omega) only [std, uid, S0] at *) <;> first | omega | rfl | (exfalso; simp_all only [Bool.true_eq_false, Bool.false_eq_true]; done))))
    all_goals try ((subst hD hu; (try simp only [std, uid, rR, rB, rT, rN, rClu, rCel, rSnp, rKey, rCluS, rCelS, lR, lB, lT, lN, lClu, lCel, eL, dClu, dCel, dSnp, dKey, Int.toNat_natCast, Int.ofNat_eq_natCast, markL_len, mkR_len, mkB_len, mkN_len, mvBlk, mvLin]) <;> rfl)))
  all_goals (
    refine callx hD hu hC (x_eqBlock (layout a b c d) hbr0) ?_
    ((try conv => cbv); (repeat' (first | (with_reducible refine mK hD ?_; kernel_rfl) | (with_reducible first | refine mS hD ?_ | refine mJ hL ?_ | refine mT hD ?_ | refine mF hD ?_ | refine mB hD (fun _ => ?_) (fun _ => ?_) | exact True.intro | refine And.intro ?_ ?_) <;> try conv => cbv)); all_goals try (first | trivial | (subst hD; first | exact fun _ _ => ⟨_, rfl⟩ | exact fl1 | exact fl1') | (((try subst hD hu); (try simp only [nc] at *); (try simp only [Int.ofNat_eq_natCast] at *); try simp (disch := omega) only [std, uid, S0] at *) <;> first | omega | rfl | (exfalso; simp_all only [Bool.true_eq_false, Bool.false_eq_true]; done))))
    all_goals try ((subst hD hu; (try simp only [std, uid, rR, rB, rT, rN, rClu, rCel, rSnp, rKey, rCluS, rCelS, lR, lB, lT, lN, lClu, lCel, eL, dClu, dCel, dSnp, dKey, Int.toNat_natCast, Int.ofNat_eq_natCast, markL_len, mkR_len, mkB_len, mkN_len, mvBlk, mvLin]) <;> rfl)))
  all_goals (
    refine callx hD hu hC (x_heldBlock (layout a b c d) (1) (1 + (cvBlk (layout a b c d) : Nat)) (by omega) hbr0 rfl) ?_
    ((try conv => cbv); (repeat' (first | (with_reducible refine mK hD ?_; kernel_rfl) | (with_reducible first | refine mS hD ?_ | refine mJ hL ?_ | refine mT hD ?_ | refine mF hD ?_ | refine mB hD (fun _ => ?_) (fun _ => ?_) | exact True.intro | refine And.intro ?_ ?_) <;> try conv => cbv)); all_goals try (first | trivial | (subst hD; first | exact fun _ _ => ⟨_, rfl⟩ | exact fl1 | exact fl1') | (((try subst hD hu); (try simp only [nc] at *); (try simp only [Int.ofNat_eq_natCast] at *); try simp (disch := omega) only [std, uid, S0] at *) <;> first | omega | rfl | (exfalso; simp_all only [Bool.true_eq_false, Bool.false_eq_true]; done))))
    all_goals try ((subst hD hu; (try simp only [std, uid, rR, rB, rT, rN, rClu, rCel, rSnp, rKey, rCluS, rCelS, lR, lB, lT, lN, lClu, lCel, eL, dClu, dCel, dSnp, dKey, Int.toNat_natCast, Int.ofNat_eq_natCast, markL_len, mkR_len, mkB_len, mkN_len, mvBlk, mvLin]) <;> rfl)))
end Go.AW
