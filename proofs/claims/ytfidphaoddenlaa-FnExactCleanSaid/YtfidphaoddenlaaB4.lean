/- A rune out of bytes: spec.l1Rune. -/
import Derived.Test.YtfidphaoddenlaaB3
import Derived.Test.YtfidphaoddenlaaH2
set_option linter.unusedVariables false
set_option linter.unusedSimpArgs false
namespace Go.AW
open Go.Proofs
set_option maxRecDepth 100000
theorem needB_cases (b : Int) (hb : 0 ≤ b ∧ b ≤ 255) : (needB b = 0 ∧ (128 ≤ b ∧ b < 192 ∨ 248 ≤ b)) ∨ (needB b = 1 ∧ b < 128) ∨ (needB b = 2 ∧ 192 ≤ b ∧ b < 224) ∨ (needB b = 3 ∧ 224 ≤ b ∧ b < 240) ∨ (needB b = 4 ∧ 240 ≤ b ∧ b < 248) := by
  unfold needB
  omega
theorem valM_0 (B : Nat → Int) (i : Nat) (m : Int) : valM B i m 0 = m := rfl
def VC (B : Nat → Int) (i e : Nat) (v : Int) : Prop := (e = 1 ∧ v = B i) ∨ (e = 2 ∧ (CB B (i + 1) ∧ v = v2 B i ∨ ¬ CB B (i + 1) ∧ v = -1)) ∨ (e = 3 ∧ (CB B (i + 1) ∧ CB B (i + 2) ∧ v = v3 B i ∨ ¬ (CB B (i + 1) ∧ CB B (i + 2)) ∧ v = -1)) ∨
    (e = 4 ∧ (CB B (i + 1) ∧ CB B (i + 2) ∧ CB B (i + 3) ∧ v = v4 B i ∨ ¬ (CB B (i + 1) ∧ CB B (i + 2) ∧ CB B (i + 3)) ∧ v = -1))
theorem val_cases (B : Nat → Int) (i e : Nat) (v : Int) (h1 : ContB B i e → v = valM B i (headB (B i) e) (e - 1)) (h2 : ¬ ContB B i e → v = -1)
    (he : e = 1 ∧ 0 ≤ B i ∧ B i < 128 ∨ e = 2 ∧ 192 ≤ B i ∧ B i < 224 ∨ e = 3 ∧ 224 ≤ B i ∧ B i < 240 ∨ e = 4 ∧ 240 ≤ B i ∧ B i < 248) :
    VC B i e v := by
  unfold VC
  rcases he with ⟨rfl, he⟩ | ⟨rfl, he⟩ | ⟨rfl, he⟩ | ⟨rfl, he⟩
  · refine .inl ⟨rfl, ?_⟩
    exact h1 fun k a b => by omega
  · refine .inr (.inl ⟨rfl, ?_⟩)
    by_cases c : CB B (i + 1)
    · refine .inl ⟨c, ?_⟩
      rw [h1 fun k a b => by rw [show k = 1 by omega]; exact c]
      simp only [valM, headB, v2]; simp only [Nat.reduceSub, Nat.reduceAdd, valM]; omega
    · exact .inr ⟨c, h2 fun h => c (h 1 (by omega) (by omega))⟩
  · refine .inr (.inr (.inl ⟨rfl, ?_⟩))
    by_cases c : CB B (i + 1) ∧ CB B (i + 2)
    · refine .inl ⟨c.1, c.2, ?_⟩
      rw [h1 fun k a b => by obtain rfl | rfl : k = 1 ∨ k = 2 := by omega
                             · exact c.1
                             · exact c.2]
      simp only [valM, headB, v3]; simp only [Nat.reduceSub, Nat.reduceAdd, valM]; omega
    · exact .inr ⟨c, h2 fun h => c ⟨h 1 (by omega) (by omega), h 2 (by omega) (by omega)⟩⟩
  · refine .inr (.inr (.inr ⟨rfl, ?_⟩))
    by_cases c : CB B (i + 1) ∧ CB B (i + 2) ∧ CB B (i + 3)
    · refine .inl ⟨c.1, c.2.1, c.2.2, ?_⟩
      rw [h1 fun k a b => by obtain rfl | rfl | rfl : k = 1 ∨ k = 2 ∨ k = 3 := by omega
                             · exact c.1
                             · exact c.2.1
                             · exact c.2.2]
      simp only [valM, headB, v4]; simp only [Nat.reduceSub, Nat.reduceAdd, valM]; omega
    · exact .inr ⟨c, h2 fun h => c ⟨h 1 (by omega) (by omega), h 2 (by omega) (by omega), h 3 (by omega) (by omega)⟩⟩
abbrev HE (B : Nat → Int) (i e : Nat) : Prop := e = 1 ∧ 0 ≤ B i ∧ B i < 128 ∨ e = 2 ∧ 192 ≤ B i ∧ B i < 224 ∨ e = 3 ∧ 224 ≤ B i ∧ B i < 240 ∨ e = 4 ∧ 240 ≤ B i ∧ B i < 248
theorem valid_iff (v : Int) : validR v = true ↔ 0 ≤ v ∧ v ≤ 1114111 ∧ (v < 55296 ∨ 57343 < v) := by
  unfold validR; simp; omega
theorem rune_bad {B : Nat → Int} {n i e : Nat} {v : Int} (hv : VC B i e v) (he : HE B i e) (hb : validR v = false) : RuneB B n i 65533 1 := by
  have hb' : ¬ (0 ≤ v ∧ v ≤ 1114111 ∧ (v < 55296 ∨ 57343 < v)) := fun h => by rw [(valid_iff v).mpr h] at hb; cases hb
  rcases hv with ⟨rfl, hv⟩ | ⟨rfl, hv⟩ | ⟨rfl, hv⟩ | ⟨rfl, hv⟩
  · omega
  · refine .no (by omega) (fun a b c d => ?_) (fun a b => by omega) (fun a b => by omega)
    rcases hv with hv | hv
    · exfalso; unfold CB v2 at *; omega
    · exact absurd d hv.1
  · refine .no (by omega) (fun a b => by omega) (fun a b c d e f => ?_) (fun a b => by omega)
    rcases hv with hv | hv
    · unfold CB v3 at *; omega
    · exact absurd ⟨d, e⟩ hv.1
  · refine .no (by omega) (fun a b => by omega) (fun a b => by omega) (fun a b c d e f g => ?_)
    rcases hv with hv | hv
    · unfold CB v4 at *; omega
    · exact absurd ⟨d, e, f⟩ hv.1
abbrev rowL (B : Nat → Int) (i e : Nat) : List UInt8 := (List.range e).map fun j => b8 (B (i + j))
theorem rune_same {B : Nat → Int} {n i e : Nat} {v : Int} (hn : i + e ≤ n) (hv : VC B i e v) (he : HE B i e) (hb : validR v = true) : (enc v = rowL B i e ∧ RuneB B n i v e) ∨ (enc v ≠ rowL B i e ∧ RuneB B n i 65533 1) := by
  have hb' := (valid_iff v).mp hb
  rcases hv with ⟨rfl, hv⟩ | ⟨rfl, hv⟩ | ⟨rfl, hv⟩ | ⟨rfl, hv⟩
  · refine .inl ⟨?_, ?_⟩
    · rw [enc_1 (by omega), hv]; rfl
    · rw [hv]; exact .r1 (by omega)
  · rcases hv with hv | hv
    · rcases Int.lt_or_le v 128 with h | h
      · refine .inr ⟨fun h1 => ?_, .no (by omega) (fun a b c d => by omega) (fun a b => by omega) (fun a b => by omega)⟩
        have := congrArg List.length h1
        rw [enc_1 (by omega)] at this
        simp at this
      · refine .inl ⟨?_, ?_⟩
        · have e1 : 192 + v / 64 = B i ∧ 128 + v % 64 = B (i + 1) := by unfold CB v2 at *; omega
          rw [enc_2 (by unfold CB v2 at *; omega), e1.1, e1.2]; rfl
        · rw [hv.2]; exact .r2 (by omega) (by omega) hv.1 (by omega)
    · omega
  · rcases hv with hv | hv
    · rcases Int.lt_or_le v 2048 with h | h
      · refine .inr ⟨fun h1 => ?_, .no (by omega) (fun a b c d => by omega) (fun a b c d e f => by omega) (fun a b => by omega)⟩
        have := congrArg List.length h1
        rcases Int.lt_or_le v 128 with h2 | h2
        · rw [enc_1 (by omega)] at this
          simp at this
        · rw [enc_2 (by omega)] at this
          simp at this
      · refine .inl ⟨?_, ?_⟩
        · have e1 : 224 + v / 4096 = B i ∧ 128 + v / 64 % 64 = B (i + 1) ∧ 128 + v % 64 = B (i + 2) := by unfold CB v3 at *; omega
          rw [enc_3 hb (by unfold CB v3 at *; omega), e1.1, e1.2.1, e1.2.2]; rfl
        · rw [hv.2.2]; exact .r3 (by omega) (by omega) hv.1 hv.2.1 (by omega) (by omega)
    · omega
  · rcases hv with hv | hv
    · rcases Int.lt_or_le v 65536 with h | h
      · refine .inr ⟨fun h1 => ?_, .no (by omega) (fun a b c d => by omega) (fun a b c d e f => by omega) (fun a b c d e f g => by omega)⟩
        have := congrArg List.length h1
        rcases Int.lt_or_le v 128 with h2 | h2
        · rw [enc_1 (by omega)] at this
          simp at this
        rcases Int.lt_or_le v 2048 with h3 | h3
        · rw [enc_2 (by omega)] at this
          simp at this
        · rw [enc_3 hb (by omega)] at this
          simp at this
      · refine .inl ⟨?_, ?_⟩
        · have e1 : 240 + v / 262144 = B i ∧ 128 + v / 4096 % 64 = B (i + 1) ∧ 128 + v / 64 % 64 = B (i + 2) ∧ 128 + v % 64 = B (i + 3) := by unfold CB v4 at *; omega
          rw [enc_4 hb (by omega), e1.1, e1.2.1, e1.2.2.1, e1.2.2.2]; rfl
        · rw [hv.2.2.2]; exact .r4 (by omega) (by omega) hv.1 hv.2.1 hv.2.2.1 (by omega) (by omega)
    · omega
theorem row_str (B : Nat → Int) (i e : Nat) : (std.strF e (fun j => [.s (.int .u8 (B (i + j)))])).data.toList = rowL B i e := by
  simp only [std]
  rfl
theorem neS_row {B : Nat → Int} {i e m : Nat} {v : Int} {s : ByteArray} (hs : s = Utf8.encode v) (hm : m = e) : std.neS s (std.strF m (fun j => [.s (.int .u8 (B (std.addN (std.natI (Int.ofNat i)) j)))])) = !(enc v == rowL B i e) := by
  subst hs hm
  show (!((Utf8.encode v).toList == (std.strF m (fun j => [.s (.int .u8 (B (i + j)))])).toList)) = _
  rw [ByteArray.toList_eq, ByteArray.toList_eq, row_str]
  rfl
theorem span_i {i e : Nat} {q : Int} (h : (e : Int) = q) (hb : i ≤ 1099511627776) (he : e ≤ 4) : std.spanN (Int.ofNat i) (std.addI .i64 (Int.ofNat i) q) = e := by
  subst h
  simp only [std, Int.ofNat_eq_natCast]
  rw [wrap64 _ (by omega)]
  omega
theorem con_l1Rune (n : Nat) (B : Nat → Int) (i : Nat) (r : Int) (d : Nat) (hB : ∀ j, j < n → 0 ≤ B j ∧ B j ≤ 255) (hi : i < n) (hn : n ≤ 1099511627776) (hr : RuneB B n i r d) :
    PRet Try.prog 73 [.r (.c (dI .u8 n B)), AI i] [RI r, RI d] [] := by
  refine pret_of_awp (fn := Try.f73) (c := bodyOf Try.f73) envOk (by kernel_rfl) (by kernel_rfl) (by kernel_rfl) (by kernel_rfl) rfl (by kernel_rfl) (by kernel_rfl) ?_
  intro w0 mine D C L hD hC hL
  obtain ⟨q, hq⟩ := opq (needB (B i))
  have hqc := needB_cases (B i) (hB i hi)
  rw [← hq] at hqc
  ((try cbv); repeat' (first | (with_reducible refine mS hD ?_; try cbv) | (with_reducible refine mT hD ?_; try cbv) | (with_reducible refine mF hD ?_; try cbv) | (with_reducible refine mB hD (fun _ => ?_) (fun _ => ?_) <;> try cbv) | (with_reducible exact True.intro) | (with_reducible refine And.intro ?_ ?_)))
  all_goals try (first | exact trivial | assumption | rfl | exact DEq.rfl' _ | ((subst hD; (try simp only [nc] at *); (try simp only [Int.ofNat_eq_natCast] at *); (try simp (disch := omega) only [std, wrap64, Int.toNat_natCast, Nat.succ_eq_add_one, Int.natCast_add, Int.natCast_one, decide_eq_true_eq, decide_eq_false_iff_not, Int.not_lt, Int.not_le, Nat.not_lt, Nat.not_le, beq_iff_eq, beq_eq_false_iff_ne, Bool.not_eq_true', Bool.not_eq_false', ne_eq] at *)) <;> first | omega | exact int_eq (by omega) | assumption | rfl | exact DEq.rfl' _))
  refine call_of hD hC (con_l1Need (B i) q (hB i hi) hq) ?_
  ((try cbv); repeat' (first | (with_reducible refine mS hD ?_; try cbv) | (with_reducible refine mT hD ?_; try cbv) | (with_reducible refine mF hD ?_; try cbv) | (with_reducible refine mB hD (fun _ => ?_) (fun _ => ?_) <;> try cbv) | (with_reducible exact True.intro) | (with_reducible refine And.intro ?_ ?_)))
  all_goals try (first | exact trivial | assumption | rfl | exact DEq.rfl' _ | ((subst hD; (try simp only [nc] at *); (try simp only [Int.ofNat_eq_natCast] at *); (try simp (disch := omega) only [std, wrap64, Int.toNat_natCast, Nat.succ_eq_add_one, Int.natCast_add, Int.natCast_one, decide_eq_true_eq, decide_eq_false_iff_not, Int.not_lt, Int.not_le, Nat.not_lt, Nat.not_le, beq_iff_eq, beq_eq_false_iff_ne, Bool.not_eq_true', Bool.not_eq_false', ne_eq] at *)) <;> first | omega | exact int_eq (by omega) | assumption | rfl | exact DEq.rfl' _))
  · have := hr.uniq (.no (by (subst hD; (try simp only [nc] at *); (try simp only [Int.ofNat_eq_natCast] at *); (try simp (disch := omega) only [std, wrap64, Int.toNat_natCast, Nat.succ_eq_add_one, Int.natCast_add, Int.natCast_one, decide_eq_true_eq, decide_eq_false_iff_not, Int.not_lt, Int.not_le, Nat.not_lt, Nat.not_le, beq_iff_eq, beq_eq_false_iff_ne, Bool.not_eq_true', Bool.not_eq_false', ne_eq] at *)); omega) (fun a b => by (subst hD; (try simp only [nc] at *); (try simp only [Int.ofNat_eq_natCast] at *); (try simp (disch := omega) only [std, wrap64, Int.toNat_natCast, Nat.succ_eq_add_one, Int.natCast_add, Int.natCast_one, decide_eq_true_eq, decide_eq_false_iff_not, Int.not_lt, Int.not_le, Nat.not_lt, Nat.not_le, beq_iff_eq, beq_eq_false_iff_ne, Bool.not_eq_true', Bool.not_eq_false', ne_eq] at *)); omega) (fun a b => by (subst hD; (try simp only [nc] at *); (try simp only [Int.ofNat_eq_natCast] at *); (try simp (disch := omega) only [std, wrap64, Int.toNat_natCast, Nat.succ_eq_add_one, Int.natCast_add, Int.natCast_one, decide_eq_true_eq, decide_eq_false_iff_not, Int.not_lt, Int.not_le, Nat.not_lt, Nat.not_le, beq_iff_eq, beq_eq_false_iff_ne, Bool.not_eq_true', Bool.not_eq_false', ne_eq] at *)); omega) (fun a b => by (subst hD; (try simp only [nc] at *); (try simp only [Int.ofNat_eq_natCast] at *); (try simp (disch := omega) only [std, wrap64, Int.toNat_natCast, Nat.succ_eq_add_one, Int.natCast_add, Int.natCast_one, decide_eq_true_eq, decide_eq_false_iff_not, Int.not_lt, Int.not_le, Nat.not_lt, Nat.not_le, beq_iff_eq, beq_eq_false_iff_ne, Bool.not_eq_true', Bool.not_eq_false', ne_eq] at *)); omega))
    exact int_eq this.1.symm
  · have := hr.uniq (.no (by (subst hD; (try simp only [nc] at *); (try simp only [Int.ofNat_eq_natCast] at *); (try simp (disch := omega) only [std, wrap64, Int.toNat_natCast, Nat.succ_eq_add_one, Int.natCast_add, Int.natCast_one, decide_eq_true_eq, decide_eq_false_iff_not, Int.not_lt, Int.not_le, Nat.not_lt, Nat.not_le, beq_iff_eq, beq_eq_false_iff_ne, Bool.not_eq_true', Bool.not_eq_false', ne_eq] at *)); omega) (fun a b => by (subst hD; (try simp only [nc] at *); (try simp only [Int.ofNat_eq_natCast] at *); (try simp (disch := omega) only [std, wrap64, Int.toNat_natCast, Nat.succ_eq_add_one, Int.natCast_add, Int.natCast_one, decide_eq_true_eq, decide_eq_false_iff_not, Int.not_lt, Int.not_le, Nat.not_lt, Nat.not_le, beq_iff_eq, beq_eq_false_iff_ne, Bool.not_eq_true', Bool.not_eq_false', ne_eq] at *)); omega) (fun a b => by (subst hD; (try simp only [nc] at *); (try simp only [Int.ofNat_eq_natCast] at *); (try simp (disch := omega) only [std, wrap64, Int.toNat_natCast, Nat.succ_eq_add_one, Int.natCast_add, Int.natCast_one, decide_eq_true_eq, decide_eq_false_iff_not, Int.not_lt, Int.not_le, Nat.not_lt, Nat.not_le, beq_iff_eq, beq_eq_false_iff_ne, Bool.not_eq_true', Bool.not_eq_false', ne_eq] at *)); omega) (fun a b => by (subst hD; (try simp only [nc] at *); (try simp only [Int.ofNat_eq_natCast] at *); (try simp (disch := omega) only [std, wrap64, Int.toNat_natCast, Nat.succ_eq_add_one, Int.natCast_add, Int.natCast_one, decide_eq_true_eq, decide_eq_false_iff_not, Int.not_lt, Int.not_le, Nat.not_lt, Nat.not_le, beq_iff_eq, beq_eq_false_iff_ne, Bool.not_eq_true', Bool.not_eq_false', ne_eq] at *)); omega))
    rw [this.2]; rfl
  · have := hr.uniq (.no (by (subst hD; (try simp only [nc] at *); (try simp only [Int.ofNat_eq_natCast] at *); (try simp (disch := omega) only [std, wrap64, Int.toNat_natCast, Nat.succ_eq_add_one, Int.natCast_add, Int.natCast_one, decide_eq_true_eq, decide_eq_false_iff_not, Int.not_lt, Int.not_le, Nat.not_lt, Nat.not_le, beq_iff_eq, beq_eq_false_iff_ne, Bool.not_eq_true', Bool.not_eq_false', ne_eq] at *)); omega) (fun a b => by (subst hD; (try simp only [nc] at *); (try simp only [Int.ofNat_eq_natCast] at *); (try simp (disch := omega) only [std, wrap64, Int.toNat_natCast, Nat.succ_eq_add_one, Int.natCast_add, Int.natCast_one, decide_eq_true_eq, decide_eq_false_iff_not, Int.not_lt, Int.not_le, Nat.not_lt, Nat.not_le, beq_iff_eq, beq_eq_false_iff_ne, Bool.not_eq_true', Bool.not_eq_false', ne_eq] at *)); omega) (fun a b => by (subst hD; (try simp only [nc] at *); (try simp only [Int.ofNat_eq_natCast] at *); (try simp (disch := omega) only [std, wrap64, Int.toNat_natCast, Nat.succ_eq_add_one, Int.natCast_add, Int.natCast_one, decide_eq_true_eq, decide_eq_false_iff_not, Int.not_lt, Int.not_le, Nat.not_lt, Nat.not_le, beq_iff_eq, beq_eq_false_iff_ne, Bool.not_eq_true', Bool.not_eq_false', ne_eq] at *)); omega) (fun a b => by (subst hD; (try simp only [nc] at *); (try simp only [Int.ofNat_eq_natCast] at *); (try simp (disch := omega) only [std, wrap64, Int.toNat_natCast, Nat.succ_eq_add_one, Int.natCast_add, Int.natCast_one, decide_eq_true_eq, decide_eq_false_iff_not, Int.not_lt, Int.not_le, Nat.not_lt, Nat.not_le, beq_iff_eq, beq_eq_false_iff_ne, Bool.not_eq_true', Bool.not_eq_false', ne_eq] at *)); omega))
    exact int_eq this.1.symm
  · have := hr.uniq (.no (by (subst hD; (try simp only [nc] at *); (try simp only [Int.ofNat_eq_natCast] at *); (try simp (disch := omega) only [std, wrap64, Int.toNat_natCast, Nat.succ_eq_add_one, Int.natCast_add, Int.natCast_one, decide_eq_true_eq, decide_eq_false_iff_not, Int.not_lt, Int.not_le, Nat.not_lt, Nat.not_le, beq_iff_eq, beq_eq_false_iff_ne, Bool.not_eq_true', Bool.not_eq_false', ne_eq] at *)); omega) (fun a b => by (subst hD; (try simp only [nc] at *); (try simp only [Int.ofNat_eq_natCast] at *); (try simp (disch := omega) only [std, wrap64, Int.toNat_natCast, Nat.succ_eq_add_one, Int.natCast_add, Int.natCast_one, decide_eq_true_eq, decide_eq_false_iff_not, Int.not_lt, Int.not_le, Nat.not_lt, Nat.not_le, beq_iff_eq, beq_eq_false_iff_ne, Bool.not_eq_true', Bool.not_eq_false', ne_eq] at *)); omega) (fun a b => by (subst hD; (try simp only [nc] at *); (try simp only [Int.ofNat_eq_natCast] at *); (try simp (disch := omega) only [std, wrap64, Int.toNat_natCast, Nat.succ_eq_add_one, Int.natCast_add, Int.natCast_one, decide_eq_true_eq, decide_eq_false_iff_not, Int.not_lt, Int.not_le, Nat.not_lt, Nat.not_le, beq_iff_eq, beq_eq_false_iff_ne, Bool.not_eq_true', Bool.not_eq_false', ne_eq] at *)); omega) (fun a b => by (subst hD; (try simp only [nc] at *); (try simp only [Int.ofNat_eq_natCast] at *); (try simp (disch := omega) only [std, wrap64, Int.toNat_natCast, Nat.succ_eq_add_one, Int.natCast_add, Int.natCast_one, decide_eq_true_eq, decide_eq_false_iff_not, Int.not_lt, Int.not_le, Nat.not_lt, Nat.not_le, beq_iff_eq, beq_eq_false_iff_ne, Bool.not_eq_true', Bool.not_eq_false', ne_eq] at *)); omega))
    rw [this.2]; rfl
  obtain ⟨e, he, hie⟩ : ∃ e : Nat, (e : Int) = q ∧ i + e ≤ n := by (subst hD; (try simp only [nc] at *); (try simp only [Int.ofNat_eq_natCast] at *); (try simp (disch := omega) only [std, wrap64, Int.toNat_natCast, Nat.succ_eq_add_one, Int.natCast_add, Int.natCast_one, decide_eq_true_eq, decide_eq_false_iff_not, Int.not_lt, Int.not_le, Nat.not_lt, Nat.not_le, beq_iff_eq, beq_eq_false_iff_ne, Bool.not_eq_true', Bool.not_eq_false', ne_eq] at *)); exact ⟨q.toNat, by omega, by omega⟩
  obtain ⟨v, hv1, hv2⟩ : ∃ v : Int, (ContB B i e → v = valM B i (headB (B i) e) (e - 1)) ∧ (¬ ContB B i e → v = -1) := by
    by_cases c : ContB B i e
    · exact ⟨_, fun _ => rfl, fun h => absurd c h⟩
    · exact ⟨_, fun h => absurd h c, fun _ => rfl⟩
  have hq0 : q ≠ 0 := by (subst hD; (try simp only [nc] at *); (try simp only [Int.ofNat_eq_natCast] at *); (try simp (disch := omega) only [std, wrap64, Int.toNat_natCast, Nat.succ_eq_add_one, Int.natCast_add, Int.natCast_one, decide_eq_true_eq, decide_eq_false_iff_not, Int.not_lt, Int.not_le, Nat.not_lt, Nat.not_le, beq_iff_eq, beq_eq_false_iff_ne, Bool.not_eq_true', Bool.not_eq_false', ne_eq] at *)); omega
  have hbi := hB i hi
  have he4 : e = 1 ∧ 0 ≤ B i ∧ B i < 128 ∨ e = 2 ∧ 192 ≤ B i ∧ B i < 224 ∨ e = 3 ∧ 224 ≤ B i ∧ B i < 240 ∨ e = 4 ∧ 240 ≤ B i ∧ B i < 248 := by omega
  have hvc := val_cases B i e v hv1 hv2 he4
  obtain ⟨b, hb⟩ := opq (validR v)
  obtain ⟨s, hs⟩ := opq (Utf8.encode v)
  refine call_of hD hC (con_l1Value e (by omega) n B i v hB hie hn hv1 hv2) ?_
  ((try cbv); repeat' (first | (with_reducible refine mS hD ?_; try cbv) | (with_reducible refine mT hD ?_; try cbv) | (with_reducible refine mF hD ?_; try cbv) | (with_reducible refine mB hD (fun _ => ?_) (fun _ => ?_) <;> try cbv) | (with_reducible exact True.intro) | (with_reducible refine And.intro ?_ ?_)))
  all_goals try (first | exact trivial | assumption | rfl | exact DEq.rfl' _ | ((subst hD; (try simp only [nc] at *); (try simp only [Int.ofNat_eq_natCast] at *); (try simp (disch := omega) only [std, wrap64, Int.toNat_natCast, Nat.succ_eq_add_one, Int.natCast_add, Int.natCast_one, decide_eq_true_eq, decide_eq_false_iff_not, Int.not_lt, Int.not_le, Nat.not_lt, Nat.not_le, beq_iff_eq, beq_eq_false_iff_ne, Bool.not_eq_true', Bool.not_eq_false', ne_eq] at *)) <;> first | omega | exact int_eq (by omega) | assumption | rfl | exact DEq.rfl' _))
  refine call_of hD hC (con_l1Valid v b hb) ?_
  ((try cbv); repeat' (first | (with_reducible refine mS hD ?_; try cbv) | (with_reducible refine mT hD ?_; try cbv) | (with_reducible refine mF hD ?_; try cbv) | (with_reducible refine mB hD (fun _ => ?_) (fun _ => ?_) <;> try cbv) | (with_reducible exact True.intro) | (with_reducible refine And.intro ?_ ?_)))
  all_goals try (first | exact trivial | assumption | rfl | exact DEq.rfl' _ | ((subst hD; (try simp only [nc] at *); (try simp only [Int.ofNat_eq_natCast] at *); (try simp (disch := omega) only [std, wrap64, Int.toNat_natCast, Nat.succ_eq_add_one, Int.natCast_add, Int.natCast_one, decide_eq_true_eq, decide_eq_false_iff_not, Int.not_lt, Int.not_le, Nat.not_lt, Nat.not_le, beq_iff_eq, beq_eq_false_iff_ne, Bool.not_eq_true', Bool.not_eq_false', ne_eq] at *)) <;> first | omega | exact int_eq (by omega) | assumption | rfl | exact DEq.rfl' _))
  · subst hD; exact fun _ _ => rfl
  · subst hD; exact fun j _ => ⟨_, rfl⟩
  · refine call_of hD hC (con_l1Utf8 v s (by rw [← hb]; assumption) hs) ?_
    ((try cbv); repeat' (first | (with_reducible refine mS hD ?_; try cbv) | (with_reducible refine mT hD ?_; try cbv) | (with_reducible refine mF hD ?_; try cbv) | (with_reducible refine mB hD (fun _ => ?_) (fun _ => ?_) <;> try cbv) | (with_reducible exact True.intro) | (with_reducible refine And.intro ?_ ?_)))
    all_goals try (first | exact trivial | assumption | rfl | exact DEq.rfl' _ | ((subst hD; (try simp only [nc] at *); (try simp only [Int.ofNat_eq_natCast] at *); (try simp (disch := omega) only [std, wrap64, Int.toNat_natCast, Nat.succ_eq_add_one, Int.natCast_add, Int.natCast_one, decide_eq_true_eq, decide_eq_false_iff_not, Int.not_lt, Int.not_le, Nat.not_lt, Nat.not_le, beq_iff_eq, beq_eq_false_iff_ne, Bool.not_eq_true', Bool.not_eq_false', ne_eq] at *)) <;> first | omega | exact int_eq (by omega) | assumption | rfl | exact DEq.rfl' _))
    · subst hD; exact fun _ _ => rfl
    · subst hD; exact fun j _ => ⟨_, rfl⟩
    all_goals (
      rename_i hne
      subst hD
      rw [neS_row hs (span_i he (by omega) (by omega))] at hne
      have hsm := rune_same hie hvc he4 (by rw [← hb]; assumption)
      simp at hne
      first
      | (have h2 := hr.uniq (hsm.resolve_left (fun h => hne h.1)).2
         first | exact int_eq h2.1.symm | (rw [h2.2]; rfl))
      | (have h2 := hr.uniq (hsm.resolve_right (fun h => h.1 hne)).2
         first | exact int_eq h2.1.symm | (rw [h2.2]; exact int_eq he.symm)))
  · have := hr.uniq (rune_bad hvc he4 (by rw [← hb]; assumption))
    exact int_eq this.1.symm
  · have := hr.uniq (rune_bad hvc he4 (by rw [← hb]; assumption))
    rw [this.2]; rfl
end Go.AW
