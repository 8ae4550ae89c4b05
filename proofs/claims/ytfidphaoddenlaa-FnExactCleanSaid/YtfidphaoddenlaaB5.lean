/- Clean: bytes as shown runes. -/
import Derived.Test.YtfidphaoddenlaaB1
import Derived.Test.YtfidphaoddenlaaB4
set_option linter.unusedVariables false
set_option linter.unusedSimpArgs false
namespace Go.AW
open Go.Proofs
set_option maxRecDepth 100000
/-- Bytes walked rune by rune: N steps, at places P, runes R. -/
structure Runes (B : Nat → Int) (n N : Nat) (P : Nat → Nat) (R : Nat → Int) : Prop where
  le : N ≤ n
  first : P 0 = 0
  last : P N = n
  lt : ∀ k, k < N → P k < n
  step : ∀ k, k < N → ∃ d, RuneB B n (P k) (R k) d ∧ P (k + 1) = P k + d
theorem runes_from {l : List UInt8} {n : Nat} {B : Nat → Int} (h : IsB l n B) : ∀ (m p : Nat), n - p ≤ m → p ≤ n → ∃ (N : Nat) (P : Nat → Nat) (R : Nat → Int), N ≤ n - p ∧ P 0 = p ∧ P N = n ∧ ∀ k, k < N → P k < n ∧ ∃ d, RuneB B n (P k) (R k) d ∧ P (k + 1) = P k + d := by
  intro m
  induction m with
  | zero => intro p hm hp; exact ⟨0, fun _ => n, fun _ => 0, by omega, (by omega : n = p), rfl, fun k hk => absurd hk (Nat.not_lt_zero k)⟩
  | succ m ih =>
    intro p hm hp
    rcases Nat.lt_or_ge p n with h1 | h1
    · have hr := decode_B h h1
      have hw := hr.width h1
      obtain ⟨N, P, R, a, b, c, d⟩ := ih (p + (Utf8.decode ⟨l.toArray⟩ p).2) (by omega) (by omega)
      refine ⟨N + 1, fun k => match k with | 0 => p | k + 1 => P k, fun k => match k with | 0 => ((Utf8.decode ⟨l.toArray⟩ p).1 : Nat) | k + 1 => R k, by omega, rfl, c, fun k hk => ?_⟩
      cases k with
      | zero => exact ⟨h1, _, hr, b⟩
      | succ k => exact d k (by omega)
    · exact ⟨0, fun _ => n, fun _ => 0, by omega, (by omega : n = p), rfl, fun k hk => absurd hk (Nat.not_lt_zero k)⟩
theorem runes_ex {l : List UInt8} {n : Nat} {B : Nat → Int} (h : IsB l n B) : ∃ (N : Nat) (P : Nat → Nat) (R : Nat → Int), Runes B n N P R := by
  obtain ⟨N, P, R, a, b, c, d⟩ := runes_from h n 0 (by omega) (by omega)
  exact ⟨N, P, R, by omega, b, c, fun k hk => (d k hk).1, fun k hk => (d k hk).2⟩
def tabR (r : Int) : Int := if r = 9 then 32 else r
theorem shown_range (r : Int) : 0 ≤ shownR r ∧ shownR r ≤ 1114111 := by
  unfold shownR
  split
  · rename_i h; have := (valid_iff r).mp h.1; omega
  · omega
theorem con_specClean (n : Nat) (B : Nat → Int) (N : Nat) (P : Nat → Nat) (R G : Nat → Int) (hB : ∀ j, j < n → 0 ≤ B j ∧ B j ≤ 255) (hn : n ≤ 1099511627776) (h : Runes B n N P R) (hG : ∀ k, k < N → G k = shownR (tabR (R k))) :
    PRet Try.prog 18 [.r (.c (dI .u8 n B))] [.c (dI .i32 N G)] [] := by
  refine pret_of_awp (fn := Try.f18) (c := bodyOf Try.f18) envOk (by kernel_rfl) (by kernel_rfl) (by kernel_rfl) (by kernel_rfl) rfl (by kernel_rfl) (by kernel_rfl) ?_
  intro w0 mine D C L hD hC hL
  have hP0 := h.first
  have hPN := h.last
  have hle := h.le
  ((try cbv); repeat' (first | (with_reducible refine mS hD ?_; try cbv) | (with_reducible refine mT hD ?_; try cbv) | (with_reducible refine mF hD ?_; try cbv) | (with_reducible refine mB hD (fun _ => ?_) (fun _ => ?_) <;> try cbv) | (with_reducible exact True.intro) | (with_reducible refine And.intro ?_ ?_)))
  all_goals try (first | exact trivial | assumption | rfl | exact DEq.rfl' _ | ((subst hD; (try simp only [nc] at *); (try simp only [Int.ofNat_eq_natCast] at *); (try simp (disch := omega) only [std, wrap64, Int.toNat_natCast, Nat.succ_eq_add_one, Int.natCast_add, Int.natCast_one, decide_eq_true_eq, decide_eq_false_iff_not, Int.not_lt, Int.not_le, Nat.not_lt, Nat.not_le, beq_iff_eq, beq_eq_false_iff_ne, Bool.not_eq_true', Bool.not_eq_false', ne_eq] at *)) <;> first | omega | exact int_eq (by omega) | assumption | rfl | exact DEq.rfl' _))
  refine loop_nat hL N (fun k => [(3, VO 0 k), (7, .bad), (4, VI (P k))]) (fun k => [(0, .deep 1 k (rI .i32 G))]) (fun k => True) trivial ?_ ?_
  · ((try cbv); repeat' (first | (with_reducible refine mS hD ?_; try cbv) | (with_reducible refine mT hD ?_; try cbv) | (with_reducible refine mF hD ?_; try cbv) | (with_reducible refine mB hD (fun _ => ?_) (fun _ => ?_) <;> try cbv) | (with_reducible exact True.intro) | (with_reducible refine And.intro ?_ ?_)))
    all_goals try (first | exact trivial | assumption | rfl | exact DEq.rfl' _ | ((subst hD; (try simp only [nc] at *); (try simp only [Int.ofNat_eq_natCast] at *); (try simp (disch := omega) only [std, wrap64, Int.toNat_natCast, Nat.succ_eq_add_one, Int.natCast_add, Int.natCast_one, decide_eq_true_eq, decide_eq_false_iff_not, Int.not_lt, Int.not_le, Nat.not_lt, Nat.not_le, beq_iff_eq, beq_eq_false_iff_ne, Bool.not_eq_true', Bool.not_eq_false', ne_eq, hP0] at *)) <;> first | omega | exact int_eq (by omega) | assumption | rfl | exact DEq.rfl' _))
    exact deq_rows fun i hi => absurd hi (Nat.not_lt_zero i)
  · intro k hk
    have hlt : P k < n → k < N := fun h1 => by
      rcases Nat.lt_or_ge k N with h2 | h2
      · exact h2
      · rw [show k = N by omega, hPN] at h1; omega
    have hlt2 : k < N → P k < n := h.lt k
    ((try cbv); repeat' (first | (with_reducible refine mS hD ?_; try cbv) | (with_reducible refine mT hD ?_; try cbv) | (with_reducible refine mF hD ?_; try cbv) | (with_reducible refine mB hD (fun _ => ?_) (fun _ => ?_) <;> try cbv) | (with_reducible exact True.intro) | (with_reducible refine And.intro ?_ ?_)))
    all_goals try (first | exact trivial | assumption | rfl | exact DEq.rfl' _ | ((subst hD; (try simp only [nc] at *); (try simp only [Int.ofNat_eq_natCast] at *); (try simp (disch := omega) only [std, wrap64, Int.toNat_natCast, Nat.succ_eq_add_one, Int.natCast_add, Int.natCast_one, decide_eq_true_eq, decide_eq_false_iff_not, Int.not_lt, Int.not_le, Nat.not_lt, Nat.not_le, beq_iff_eq, beq_eq_false_iff_ne, Bool.not_eq_true', Bool.not_eq_false', ne_eq] at *)) <;> first | omega | exact int_eq (by omega) | assumption | rfl | exact DEq.rfl' _))
    · have hk1 : P k < n := by (subst hD; (try simp only [nc] at *); (try simp only [Int.ofNat_eq_natCast] at *); (try simp (disch := omega) only [std, wrap64, Int.toNat_natCast, Nat.succ_eq_add_one, Int.natCast_add, Int.natCast_one, decide_eq_true_eq, decide_eq_false_iff_not, Int.not_lt, Int.not_le, Nat.not_lt, Nat.not_le, beq_iff_eq, beq_eq_false_iff_ne, Bool.not_eq_true', Bool.not_eq_false', ne_eq] at *)); omega
      have hkN := hlt hk1
      obtain ⟨d, hd, hs⟩ := h.step k hkN
      have hw := hd.width hk1
      have hrr := hd.range (hB _ hk1)
      have hg := hG k hkN
      have hgr := shown_range (tabR (R k))
      rw [← hg] at hgr
      refine call_of hD hC (con_l1Rune n B (P k) (R k) d hB hk1 hn hd) ?_
      ((try cbv); repeat' (first | (with_reducible refine mS hD ?_; try cbv) | (with_reducible refine mT hD ?_; try cbv) | (with_reducible refine mF hD ?_; try cbv) | (with_reducible refine mB hD (fun _ => ?_) (fun _ => ?_) <;> try cbv) | (with_reducible exact True.intro) | (with_reducible refine And.intro ?_ ?_)))
      all_goals try (first | exact trivial | assumption | rfl | exact DEq.rfl' _ | ((subst hD; (try simp only [nc] at *); (try simp only [Int.ofNat_eq_natCast] at *); (try simp (disch := omega) only [std, wrap64, Int.toNat_natCast, Nat.succ_eq_add_one, Int.natCast_add, Int.natCast_one, decide_eq_true_eq, decide_eq_false_iff_not, Int.not_lt, Int.not_le, Nat.not_lt, Nat.not_le, beq_iff_eq, beq_eq_false_iff_ne, Bool.not_eq_true', Bool.not_eq_false', ne_eq] at *)) <;> first | omega | exact int_eq (by omega) | assumption | rfl | exact DEq.rfl' _))
      · have h9 : R k = 9 := by (subst hD; (try simp only [nc] at *); (try simp only [Int.ofNat_eq_natCast] at *); (try simp (disch := omega) only [std, wrap64, Int.toNat_natCast, Nat.succ_eq_add_one, Int.natCast_add, Int.natCast_one, decide_eq_true_eq, decide_eq_false_iff_not, Int.not_lt, Int.not_le, Nat.not_lt, Nat.not_le, beq_iff_eq, beq_eq_false_iff_ne, Bool.not_eq_true', Bool.not_eq_false', ne_eq] at *)); assumption
        refine call_of hD hC (con_l1Shown 32 (G k) (by rw [hg, tabR, if_pos h9])) ?_
        ((try cbv); repeat' (first | (with_reducible refine mS hD ?_; try cbv) | (with_reducible refine mT hD ?_; try cbv) | (with_reducible refine mF hD ?_; try cbv) | (with_reducible refine mB hD (fun _ => ?_) (fun _ => ?_) <;> try cbv) | (with_reducible exact True.intro) | (with_reducible refine And.intro ?_ ?_)))
        all_goals try (subst hD; exact flat1)
        all_goals try (first | exact trivial | assumption | rfl | exact DEq.rfl' _ | ((subst hD; (try simp only [nc] at *); (try simp only [Int.ofNat_eq_natCast] at *); (try simp (disch := omega) only [std, wrap64, Int.toNat_natCast, Nat.succ_eq_add_one, Int.natCast_add, Int.natCast_one, decide_eq_true_eq, decide_eq_false_iff_not, Int.not_lt, Int.not_le, Nat.not_lt, Nat.not_le, beq_iff_eq, beq_eq_false_iff_ne, Bool.not_eq_true', Bool.not_eq_false', ne_eq] at *)) <;> first | omega | exact int_eq (by omega) | assumption | rfl | exact DEq.rfl' _))
        refine ⟨k + 1, ⟨hkN, trivial⟩, ssem_of ?_, ?_⟩
        · ((try cbv); repeat' (first | (with_reducible refine mS hD ?_; try cbv) | (with_reducible refine mT hD ?_; try cbv) | (with_reducible refine mF hD ?_; try cbv) | (with_reducible refine mB hD (fun _ => ?_) (fun _ => ?_) <;> try cbv) | (with_reducible exact True.intro) | (with_reducible refine And.intro ?_ ?_)))
          all_goals try (first | exact trivial | assumption | rfl | exact DEq.rfl' _ | ((subst hD; (try simp only [nc] at *); (try simp only [Int.ofNat_eq_natCast] at *); (try simp (disch := omega) only [std, wrap64, Int.toNat_natCast, Nat.succ_eq_add_one, Int.natCast_add, Int.natCast_one, decide_eq_true_eq, decide_eq_false_iff_not, Int.not_lt, Int.not_le, Nat.not_lt, Nat.not_le, beq_iff_eq, beq_eq_false_iff_ne, Bool.not_eq_true', Bool.not_eq_false', ne_eq] at *)) <;> first | omega | exact int_eq (by omega) | assumption | rfl | exact DEq.rfl' _))
          all_goals (subst hD; exact cat_1 (wrapI32 _ (by omega)))
        · omega
      · have h9 : R k ≠ 9 := by (subst hD; (try simp only [nc] at *); (try simp only [Int.ofNat_eq_natCast] at *); (try simp (disch := omega) only [std, wrap64, Int.toNat_natCast, Nat.succ_eq_add_one, Int.natCast_add, Int.natCast_one, decide_eq_true_eq, decide_eq_false_iff_not, Int.not_lt, Int.not_le, Nat.not_lt, Nat.not_le, beq_iff_eq, beq_eq_false_iff_ne, Bool.not_eq_true', Bool.not_eq_false', ne_eq] at *)); assumption
        refine call_of hD hC (con_l1Shown (R k) (G k) (by rw [hg, tabR, if_neg h9])) ?_
        ((try cbv); repeat' (first | (with_reducible refine mS hD ?_; try cbv) | (with_reducible refine mT hD ?_; try cbv) | (with_reducible refine mF hD ?_; try cbv) | (with_reducible refine mB hD (fun _ => ?_) (fun _ => ?_) <;> try cbv) | (with_reducible exact True.intro) | (with_reducible refine And.intro ?_ ?_)))
        all_goals try (subst hD; exact flat1)
        all_goals try (first | exact trivial | assumption | rfl | exact DEq.rfl' _ | ((subst hD; (try simp only [nc] at *); (try simp only [Int.ofNat_eq_natCast] at *); (try simp (disch := omega) only [std, wrap64, Int.toNat_natCast, Nat.succ_eq_add_one, Int.natCast_add, Int.natCast_one, decide_eq_true_eq, decide_eq_false_iff_not, Int.not_lt, Int.not_le, Nat.not_lt, Nat.not_le, beq_iff_eq, beq_eq_false_iff_ne, Bool.not_eq_true', Bool.not_eq_false', ne_eq] at *)) <;> first | omega | exact int_eq (by omega) | assumption | rfl | exact DEq.rfl' _))
        refine ⟨k + 1, ⟨hkN, trivial⟩, ssem_of ?_, ?_⟩
        · ((try cbv); repeat' (first | (with_reducible refine mS hD ?_; try cbv) | (with_reducible refine mT hD ?_; try cbv) | (with_reducible refine mF hD ?_; try cbv) | (with_reducible refine mB hD (fun _ => ?_) (fun _ => ?_) <;> try cbv) | (with_reducible exact True.intro) | (with_reducible refine And.intro ?_ ?_)))
          all_goals try (first | exact trivial | assumption | rfl | exact DEq.rfl' _ | ((subst hD; (try simp only [nc] at *); (try simp only [Int.ofNat_eq_natCast] at *); (try simp (disch := omega) only [std, wrap64, Int.toNat_natCast, Nat.succ_eq_add_one, Int.natCast_add, Int.natCast_one, decide_eq_true_eq, decide_eq_false_iff_not, Int.not_lt, Int.not_le, Nat.not_lt, Nat.not_le, beq_iff_eq, beq_eq_false_iff_ne, Bool.not_eq_true', Bool.not_eq_false', ne_eq] at *)) <;> first | omega | exact int_eq (by omega) | assumption | rfl | exact DEq.rfl' _))
          all_goals (subst hD; exact cat_1 (wrapI32 _ (by omega)))
        · omega
theorem con_implClean (l : List UInt8) (n : Nat) (B : Nat → Int) (N : Nat) (P : Nat → Nat) (R G : Nat → Int) (hl : IsB l n B) (hn : n ≤ 1099511627776) (h : Runes B n N P R) (hG : ∀ k, k < N → G k = shownR (tabR (R k))) :
    PRet Try.prog 20 [.r (.c (dI .u8 n B))] [.c (dI .i32 N G)] [] := by
  refine pret_of_awp (fn := Try.f20) (c := bodyOf Try.f20) envOk (by kernel_rfl) (by kernel_rfl) (by kernel_rfl) (by kernel_rfl) rfl (by kernel_rfl) (by kernel_rfl) ?_
  intro w0 mine D C L hD hC hL
  have hP0 := h.first
  have hPN := h.last
  have hle := h.le
  ((try cbv); repeat' (first | (with_reducible refine mS hD ?_; try cbv) | (with_reducible refine mT hD ?_; try cbv) | (with_reducible refine mF hD ?_; try cbv) | (with_reducible refine mB hD (fun _ => ?_) (fun _ => ?_) <;> try cbv) | (with_reducible exact True.intro) | (with_reducible refine And.intro ?_ ?_)))
  all_goals try (first | exact trivial | assumption | rfl | exact DEq.rfl' _ | ((subst hD; (try simp only [nc] at *); (try simp only [Int.ofNat_eq_natCast] at *); (try simp (disch := omega) only [std, wrap64, Int.toNat_natCast, Nat.succ_eq_add_one, Int.natCast_add, Int.natCast_one, decide_eq_true_eq, decide_eq_false_iff_not, Int.not_lt, Int.not_le, Nat.not_lt, Nat.not_le, beq_iff_eq, beq_eq_false_iff_ne, Bool.not_eq_true', Bool.not_eq_false', ne_eq] at *)) <;> first | omega | exact int_eq (by omega) | assumption | rfl | exact DEq.rfl' _))
  · subst hD; exact fun i _ => ⟨_, rfl⟩
  refine loop_nat hL N (fun k => [(3, VO 0 k), (8, .bad)]) (fun k => [(0, .deep 1 k (rI .i32 G)), (1, .it (D.strF n (rI .u8 B)) (P k))]) (fun k => True) trivial ?_ ?_
  · ((try cbv); repeat' (first | (with_reducible refine mS hD ?_; try cbv) | (with_reducible refine mT hD ?_; try cbv) | (with_reducible refine mF hD ?_; try cbv) | (with_reducible refine mB hD (fun _ => ?_) (fun _ => ?_) <;> try cbv) | (with_reducible exact True.intro) | (with_reducible refine And.intro ?_ ?_)))
    all_goals try (first | exact trivial | assumption | rfl | exact DEq.rfl' _ | ((subst hD; (try simp only [nc] at *); (try simp only [Int.ofNat_eq_natCast] at *); (try simp (disch := omega) only [std, wrap64, Int.toNat_natCast, Nat.succ_eq_add_one, Int.natCast_add, Int.natCast_one, decide_eq_true_eq, decide_eq_false_iff_not, Int.not_lt, Int.not_le, Nat.not_lt, Nat.not_le, beq_iff_eq, beq_eq_false_iff_ne, Bool.not_eq_true', Bool.not_eq_false', ne_eq, hP0] at *)) <;> first | omega | exact int_eq (by omega) | assumption | rfl | exact DEq.rfl' _))
    subst hD
    exact deq_rows fun i hi => absurd hi (Nat.not_lt_zero i)
  · intro k hk
    have hstr := strF_B hl
    have hlen : std.lenS (std.strF n (fun i => [.s (.int .u8 (B i))])) = n := by
      show (std.strF n (fun i => [.s (.int .u8 (B i))])).size = n
      rw [hstr, hl.1]
      simp [ByteArray.size]
    have hlt : P k < n → k < N := fun h1 => by
      rcases Nat.lt_or_ge k N with h2 | h2
      · exact h2
      · rw [show k = N by omega, hPN] at h1; omega
    have hlt2 : k < N → P k < n := h.lt k
    ((try cbv); repeat' (first | (with_reducible refine mS hD ?_; try cbv) | (with_reducible refine mT hD ?_; try cbv) | (with_reducible refine mF hD ?_; try cbv) | (with_reducible refine mB hD (fun _ => ?_) (fun _ => ?_) <;> try cbv) | (with_reducible exact True.intro) | (with_reducible refine And.intro ?_ ?_)))
    all_goals try (first | exact trivial | assumption | rfl | exact DEq.rfl' _ | ((subst hD; (try simp only [nc] at *); (try simp only [Int.ofNat_eq_natCast] at *); (try simp (disch := omega) only [std, wrap64, Int.toNat_natCast, Nat.succ_eq_add_one, Int.natCast_add, Int.natCast_one, decide_eq_true_eq, decide_eq_false_iff_not, Int.not_lt, Int.not_le, Nat.not_lt, Nat.not_le, beq_iff_eq, beq_eq_false_iff_ne, Bool.not_eq_true', Bool.not_eq_false', ne_eq] at *)) <;> first | omega | exact int_eq (by omega) | assumption | rfl | exact DEq.rfl' _))
    iterate 2
      · have hk1 : P k < n := by
          rename_i hc _
          subst hD
          rw [hlen] at hc
          simpa [std] using hc
        have hkN := hlt hk1
        obtain ⟨d, hd, hs⟩ := h.step k hkN
        have hw := hd.width hk1
        have hu := (decode_B hl hk1).uniq hd
        rw [← hstr] at hu
        have hg := hG k hkN
        have h9 : (R k = 9 ∧ G k = shownR 32) ∨ (R k ≠ 9 ∧ G k = shownR (R k)) := by
          by_cases c : R k = 9
          · exact .inl ⟨c, by rw [hg, tabR, if_pos c]⟩
          · exact .inr ⟨c, by rw [hg, tabR, if_neg c]⟩
        first
        | (have h10 : R k = 9 := by
             rename_i hc
             subst hD
             rw [← hu.1]
             simpa [std] using hc
           refine call_of hD hC (con_shown 32 (G k) (h9.resolve_right fun h => h.1 h10).2) ?_)
        | (have h10 : R k ≠ 9 := by
             rename_i hc
             subst hD
             rw [← hu.1]
             simpa [std] using hc
           refine call_of hD hC (con_shown (R k) (G k) (h9.resolve_left fun h => h10 h.1).2) ?_)
        ((try cbv); repeat' (first | (with_reducible refine mS hD ?_; try cbv) | (with_reducible refine mT hD ?_; try cbv) | (with_reducible refine mF hD ?_; try cbv) | (with_reducible refine mB hD (fun _ => ?_) (fun _ => ?_) <;> try cbv) | (with_reducible exact True.intro) | (with_reducible refine And.intro ?_ ?_)))
        all_goals try (subst hD; exact flat1)
        all_goals try (first | exact trivial | assumption | rfl | exact DEq.rfl' _ | ((subst hD; (try simp only [nc] at *); (try simp only [Int.ofNat_eq_natCast] at *); (try simp (disch := omega) only [std, wrap64, Int.toNat_natCast, Nat.succ_eq_add_one, Int.natCast_add, Int.natCast_one, decide_eq_true_eq, decide_eq_false_iff_not, Int.not_lt, Int.not_le, Nat.not_lt, Nat.not_le, beq_iff_eq, beq_eq_false_iff_ne, Bool.not_eq_true', Bool.not_eq_false', ne_eq] at *)) <;> first | omega | exact int_eq (by omega) | assumption | rfl | exact DEq.rfl' _))
        refine ⟨k + 1, ⟨hkN, trivial⟩, ssem_of ?_, ?_⟩
        · ((try cbv); repeat' (first | (with_reducible refine mS hD ?_; try cbv) | (with_reducible refine mT hD ?_; try cbv) | (with_reducible refine mF hD ?_; try cbv) | (with_reducible refine mB hD (fun _ => ?_) (fun _ => ?_) <;> try cbv) | (with_reducible exact True.intro) | (with_reducible refine And.intro ?_ ?_)))
          all_goals try (first | exact trivial | assumption | rfl | exact DEq.rfl' _ | ((subst hD; (try simp only [nc] at *); (try simp only [Int.ofNat_eq_natCast] at *); (try simp (disch := omega) only [std, wrap64, Int.toNat_natCast, Nat.succ_eq_add_one, Int.natCast_add, Int.natCast_one, decide_eq_true_eq, decide_eq_false_iff_not, Int.not_lt, Int.not_le, Nat.not_lt, Nat.not_le, beq_iff_eq, beq_eq_false_iff_ne, Bool.not_eq_true', Bool.not_eq_false', ne_eq] at *)) <;> first | omega | exact int_eq (by omega) | assumption | rfl | exact DEq.rfl' _))
          all_goals subst hD
          all_goals first | exact cat_1 rfl | (show P k + (Utf8.decode (std.strF n (fun i => [.s (.int .u8 (B i))])) (P k)).2 = P (k + 1); rw [hu.2, hs])
        · omega
end Go.AW
