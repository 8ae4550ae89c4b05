/- Widths of runes: what the functions compute. -/
import Derived.Test.YtfidphaoddenlaaG3
set_option linter.unusedVariables false
set_option linter.unusedSimpArgs false
set_option linter.unusedVariables false
set_option linter.unusedSimpArgs false
namespace Go.AW
open Go.Proofs
set_option maxRecDepth 100000
def l1In (x : Int) (f : Nat → Int) (n : Nat) : Bool := (List.range (n / 2)).any fun i => decide (f (2 * i) ≤ x) && decide (x ≤ f (2 * i + 1))
theorem con_l1In (z n : Nat) (f : Nat → Int) (x : Int) (b : Bool) (hn : n ≤ 1000) (hb : b = l1In x f n) : PRet Try.prog 111 [AI x, .r (.c (.l z n (fun i => [.s (.int .i64 (f i))])))] [RB b] [] := by
  refine pret_of_awp (fn := Try.f111) (c := bodyOf Try.f111) envOk (by kernel_rfl) (by kernel_rfl) (by kernel_rfl) (by kernel_rfl) rfl (by kernel_rfl) (by kernel_rfl) ?_
  intro w0 mine D C L hD hC hL
  obtain ⟨I, hI⟩ : ∃ I : Nat → Int, ∀ k, I k = 2 * (k : Int) := ⟨_, fun _ => rfl⟩
  have ht : ∀ k, 2 * k + 1 < n → f (2 * k) ≤ x → x ≤ f (2 * k + 1) → b = true := fun k h1 h2 h3 => by
    rw [hb]
    simp only [l1In, List.any_eq_true, List.mem_range, Bool.and_eq_true, decide_eq_true_eq]
    exact ⟨k, by omega, h2, h3⟩
  have hf : ∀ k, n ≤ 2 * k + 1 → (∀ i, i < k → ¬ (f (2 * i) ≤ x ∧ x ≤ f (2 * i + 1))) → b = false := fun k h1 h2 => by
    rw [hb]
    simp only [l1In, List.any_eq_false, List.mem_range, Bool.and_eq_true, decide_eq_true_eq]
    exact fun i' hi' => h2 i' (by omega)
  ((try (conv => cbv)); repeat' (first | (with_reducible refine mK hD ?_; kernel_rfl) | (with_reducible refine mS hD ?_; try (conv => cbv)) | (with_reducible refine mT hD ?_; try (conv => cbv)) | (with_reducible refine mF hD ?_; try (conv => cbv)) | (with_reducible refine mB hD (fun _ => ?_) (fun _ => ?_) <;> try (conv => cbv)) | (with_reducible exact True.intro) | (with_reducible refine And.intro ?_ ?_)))
  refine loop_nat hL n (fun k => [(5, VI (I k))]) (fun k => []) (fun k => ∀ i, i < k → ¬ (f (2 * i) ≤ x ∧ x ≤ f (2 * i + 1))) (fun i hi => absurd hi (Nat.not_lt_zero i)) ?_ ?_
  · ((try (conv => cbv)); repeat' (first | (with_reducible refine mK hD ?_; kernel_rfl) | (with_reducible refine mS hD ?_; try (conv => cbv)) | (with_reducible refine mT hD ?_; try (conv => cbv)) | (with_reducible refine mF hD ?_; try (conv => cbv)) | (with_reducible refine mB hD (fun _ => ?_) (fun _ => ?_) <;> try (conv => cbv)) | (with_reducible exact True.intro) | (with_reducible refine And.intro ?_ ?_)))
    all_goals try (first | exact trivial | assumption | rfl | exact DEq.rfl' _ | ((subst hD; (try simp only [nc] at *); (try simp only [Int.ofNat_eq_natCast] at *); (try simp (disch := omega) only [std, wrap64, Int.toNat_natCast, Nat.succ_eq_add_one, Int.natCast_add, Int.natCast_one, decide_eq_true_eq, decide_eq_false_iff_not, Int.not_lt, Int.not_le, Nat.not_lt, Nat.not_le, beq_iff_eq, beq_eq_false_iff_ne, Bool.not_eq_true', Bool.not_eq_false', ne_eq, hI] at *)) <;> first | omega | exact int_eq (by omega) | assumption | rfl | exact DEq.rfl' _))
  · intro k hk
    have e1 : (2 * (k : Int)).toNat = 2 * k := by omega
    have e2 : (2 * (k : Int) + 1).toNat = 2 * k + 1 := by omega
    have hk1 := ht k
    have hk2 := hf k
    ((try (conv => cbv)); repeat' (first | (with_reducible refine mK hD ?_; kernel_rfl) | (with_reducible refine mS hD ?_; try (conv => cbv)) | (with_reducible refine mT hD ?_; try (conv => cbv)) | (with_reducible refine mF hD ?_; try (conv => cbv)) | (with_reducible refine mB hD (fun _ => ?_) (fun _ => ?_) <;> try (conv => cbv)) | (with_reducible exact True.intro) | (with_reducible refine And.intro ?_ ?_)))
    all_goals try (first | exact trivial | assumption | rfl | exact DEq.rfl' _ | ((subst hD; (try simp only [nc] at *); (try simp only [Int.ofNat_eq_natCast] at *); (try simp (disch := omega) only [std, wrap64, Int.toNat_natCast, Nat.succ_eq_add_one, Int.natCast_add, Int.natCast_one, decide_eq_true_eq, decide_eq_false_iff_not, Int.not_lt, Int.not_le, Nat.not_lt, Nat.not_le, beq_iff_eq, beq_eq_false_iff_ne, Bool.not_eq_true', Bool.not_eq_false', ne_eq, hI, e1, e2] at *)) <;> first | omega | exact int_eq (by omega) | assumption | rfl | exact DEq.rfl' _))
    · (subst hD; (try simp only [nc] at *); (try simp only [Int.ofNat_eq_natCast] at *); (try simp (disch := omega) only [std, wrap64, Int.toNat_natCast, Nat.succ_eq_add_one, Int.natCast_add, Int.natCast_one, decide_eq_true_eq, decide_eq_false_iff_not, Int.not_lt, Int.not_le, Nat.not_lt, Nat.not_le, beq_iff_eq, beq_eq_false_iff_ne, Bool.not_eq_true', Bool.not_eq_false', ne_eq, hI, e1, e2] at *))
      rw [hk1 (by omega) (by assumption) (by assumption)]
    iterate 2
      · have hne : ¬ (f (2 * k) ≤ x ∧ x ≤ f (2 * k + 1)) ∧ 2 * k + 1 < n := by (subst hD; (try simp only [nc] at *); (try simp only [Int.ofNat_eq_natCast] at *); (try simp (disch := omega) only [std, wrap64, Int.toNat_natCast, Nat.succ_eq_add_one, Int.natCast_add, Int.natCast_one, decide_eq_true_eq, decide_eq_false_iff_not, Int.not_lt, Int.not_le, Nat.not_lt, Nat.not_le, beq_iff_eq, beq_eq_false_iff_ne, Bool.not_eq_true', Bool.not_eq_false', ne_eq, hI, e1, e2] at *)); omega
        refine ⟨k + 1, ⟨by omega, fun i hi => ?_⟩, ssem_of ?_, by omega⟩
        · rcases Nat.lt_or_ge i k with h | h
          · exact hk.2 i h
          · rw [show i = k by omega]; exact hne.1
        · ((try (conv => cbv)); repeat' (first | (with_reducible refine mK hD ?_; kernel_rfl) | (with_reducible refine mS hD ?_; try (conv => cbv)) | (with_reducible refine mT hD ?_; try (conv => cbv)) | (with_reducible refine mF hD ?_; try (conv => cbv)) | (with_reducible refine mB hD (fun _ => ?_) (fun _ => ?_) <;> try (conv => cbv)) | (with_reducible exact True.intro) | (with_reducible refine And.intro ?_ ?_)))
          all_goals try (first | exact trivial | assumption | rfl | exact DEq.rfl' _ | ((subst hD; (try simp only [nc] at *); (try simp only [Int.ofNat_eq_natCast] at *); (try simp (disch := omega) only [std, wrap64, Int.toNat_natCast, Nat.succ_eq_add_one, Int.natCast_add, Int.natCast_one, decide_eq_true_eq, decide_eq_false_iff_not, Int.not_lt, Int.not_le, Nat.not_lt, Nat.not_le, beq_iff_eq, beq_eq_false_iff_ne, Bool.not_eq_true', Bool.not_eq_false', ne_eq, hI] at *)) <;> first | omega | exact int_eq (by omega) | assumption | rfl | exact DEq.rfl' _))
    · have hb2 := hk2 (by (subst hD; (try simp only [nc] at *); (try simp only [Int.ofNat_eq_natCast] at *); (try simp (disch := omega) only [std, wrap64, Int.toNat_natCast, Nat.succ_eq_add_one, Int.natCast_add, Int.natCast_one, decide_eq_true_eq, decide_eq_false_iff_not, Int.not_lt, Int.not_le, Nat.not_lt, Nat.not_le, beq_iff_eq, beq_eq_false_iff_ne, Bool.not_eq_true', Bool.not_eq_false', ne_eq, hI] at *)); omega) hk.2
      rw [hb2]
def zLo : List Int := [768, 1155, 1425, 8203, 8400, 65024, 65056]
def zHi : List Int := [879, 1161, 1469, 8207, 8432, 65039, 65071]
abbrev spanRow (lo hi : Nat → Int) (i : Nat) : List DV := [.s (.int .i32 (lo i)), .s (.int .i32 (hi i))]
abbrev at0 (l : List Int) : Nat → Int := fun i => l.getD i 0
theorem con_zeroSpans : PRet Try.prog 113 [] [.c (.l 2 7 (spanRow (at0 zLo) (at0 zHi)))] [] := by
  refine pret_of_awp (fn := Try.f113) (c := bodyOf Try.f113) envOk (by kernel_rfl) (by kernel_rfl) (by kernel_rfl) (by kernel_rfl) rfl (by kernel_rfl) (by kernel_rfl) ?_
  intro w0 mine D C L hD hC hL
  ((try (conv => cbv)); repeat' (first | (with_reducible refine mK hD ?_; kernel_rfl) | (with_reducible refine mS hD ?_; try (conv => cbv)) | (with_reducible refine mT hD ?_; try (conv => cbv)) | (with_reducible refine mF hD ?_; try (conv => cbv)) | (with_reducible refine mB hD (fun _ => ?_) (fun _ => ?_) <;> try (conv => cbv)) | (with_reducible exact True.intro) | (with_reducible refine And.intro ?_ ?_)))
  subst hD
  exact DEq.rfl' _
def wLo : List Int := [4352, 11904, 12353, 19968, 44032, 63744, 65072, 65280, 65504, 127744, 129280, 131072]
def wHi : List Int := [4447, 12350, 19903, 42191, 55203, 64255, 65135, 65376, 65510, 128591, 129535, 262141]
theorem con_wideSpans : PRet Try.prog 114 [] [.c (.l 2 12 (spanRow (at0 wLo) (at0 wHi)))] [] := by
  refine pret_of_awp (fn := Try.f114) (c := bodyOf Try.f114) envOk (by kernel_rfl) (by kernel_rfl) (by kernel_rfl) (by kernel_rfl) rfl (by kernel_rfl) (by kernel_rfl) ?_
  intro w0 mine D C L hD hC hL
  ((try (conv => cbv)); repeat' (first | (with_reducible refine mK hD ?_; kernel_rfl) | (with_reducible refine mS hD ?_; try (conv => cbv)) | (with_reducible refine mT hD ?_; try (conv => cbv)) | (with_reducible refine mF hD ?_; try (conv => cbv)) | (with_reducible refine mB hD (fun _ => ?_) (fun _ => ?_) <;> try (conv => cbv)) | (with_reducible exact True.intro) | (with_reducible refine And.intro ?_ ?_)))
  subst hD
  exact DEq.rfl' _
theorem con_inSpans1 (i r : Int) (z n : Nat) (lo hi : Nat → Int) (b : Bool) (h0 : 0 ≤ i) (h1 : i.toNat < n) (hb : b = decide (r ≤ hi i.toNat)) : PRet Try.prog 127 [AI i, .r (.p [.l z n (spanRow lo hi)]), .r (.p [.s (.int .i32 r)])] [RB b] [] := by
  refine pret_of_awp (fn := Try.f127) (c := bodyOf Try.f127) envOk (by kernel_rfl) (by kernel_rfl) (by kernel_rfl) (by kernel_rfl) rfl (by kernel_rfl) (by kernel_rfl) ?_
  intro w0 mine D C L hD hC hL
  ((try (conv => cbv)); repeat' (first | (with_reducible refine mK hD ?_; kernel_rfl) | (with_reducible refine mS hD ?_; try (conv => cbv)) | (with_reducible refine mT hD ?_; try (conv => cbv)) | (with_reducible refine mF hD ?_; try (conv => cbv)) | (with_reducible refine mB hD (fun _ => ?_) (fun _ => ?_) <;> try (conv => cbv)) | (with_reducible exact True.intro) | (with_reducible refine And.intro ?_ ?_)))
  all_goals try (first | exact trivial | assumption | rfl | exact DEq.rfl' _ | ((subst hD; (try simp only [nc] at *); (try simp only [Int.ofNat_eq_natCast] at *); (try simp (disch := omega) only [std, wrap64, Int.toNat_natCast, Nat.succ_eq_add_one, Int.natCast_add, Int.natCast_one, decide_eq_true_eq, decide_eq_false_iff_not, Int.not_lt, Int.not_le, Nat.not_lt, Nat.not_le, beq_iff_eq, beq_eq_false_iff_ne, Bool.not_eq_true', Bool.not_eq_false', ne_eq] at *)) <;> first | omega | exact int_eq (by omega) | assumption | rfl | exact DEq.rfl' _))
  rw [hb]
  subst hD
  rfl
structure OkS (n : Nat) (p : Nat → Bool) (i j : Int) : Prop where
  h : 0 ≤ i ∧ i ≤ j ∧ j ≤ n
  lo : ∀ a : Nat, (a : Int) < i → p a = false
  hi : ∀ a : Nat, j ≤ (a : Int) → a < n → p a = true
def muS (x : Int × Int) : Nat := (x.2 - x.1).toNat
theorem mid_eq {i j : Int} (h : 0 ≤ i ∧ i < j ∧ j ≤ 1000000) : std.wrapI IntKind.i64 (std.shrI IntKind.u64 (std.wrapI IntKind.u64 (std.addI IntKind.i64 i j)) 1) = (i + j) / 2 := by
  have h1 : IntKind.wrap .i64 (i + j) = i + j := wrap64 _ (by omega)
  have h2 : IntKind.wrap .u64 (i + j) = i + j := IntWalk.u64_in _ (by omega)
  have h3 : (i + j).fdiv (2 ^ min (1 : Int).toNat IntKind.u64.bits) = (i + j) / 2 := by
    rw [show (2 : Int) ^ min (1 : Int).toNat IntKind.u64.bits = 2 by decide]
    rw [Int.fdiv_eq_ediv_of_nonneg _ (by omega)]
  simp only [std, h1, h2, h3]
  exact wrap64 _ (by omega)
section
variable {n : Nat} {p : Nat → Bool} {i j : Int}
theorem OkS.high (hok : OkS n p i j) (hn : n ≤ 1000000) (hmono : ∀ a b, a ≤ b → b < n → p a = true → p b = true) (h : i < j) (hp : p ((i + j) / 2).toNat = true) : OkS n p i ((i + j) / 2) := by
  have := hok.h
  exact ⟨by omega, hok.lo, fun a ha hlt => hmono _ a (by omega) hlt hp⟩
theorem OkS.low (hok : OkS n p i j) (hn : n ≤ 1000000) (hmono : ∀ a b, a ≤ b → b < n → p a = true → p b = true) (h : i < j) (hp : p ((i + j) / 2).toNat = false) : OkS n p ((i + j) / 2 + 1) j := by
  have := hok.h
  refine ⟨by omega, fun a ha => ?_, hok.hi⟩
  cases hpa : p a with
  | false => rfl
  | true => rw [hmono a ((i + j) / 2).toNat (by omega) (by omega) hpa] at hp; cases hp
theorem OkS.mu1 (hok : OkS n p i j) (h : i < j) : muS (i, (i + j) / 2) < muS (i, j) := by
  have := hok.h
  simp only [muS]; omega
theorem OkS.mu2 (hok : OkS n p i j) (h : i < j) : muS ((i + j) / 2 + 1, j) < muS (i, j) := by
  have := hok.h
  simp only [muS]; omega
end
set_option maxHeartbeats 1000000 in
theorem con_Search (g : Nat) (r1 r2 : List DV) (n : Nat) (p : Nat → Bool) (hn : n ≤ 1000000) (hmono : ∀ a b, a ≤ b → b < n → p a = true → p b = true)
    (hg : ∀ i : Int, 0 ≤ i → i.toNat < n → ∀ b, b = p i.toNat → PRet Try.prog g [AI i, .r (.p r1), .r (.p r2)] [RB b] []) :
    PCon Try.prog 126 [AI (n : Nat), .r (.fr g [r1, r2])] (fun rs outs => outs = [] ∧ ∃ r : Nat, rs = [RI (r : Nat)] ∧ r ≤ n ∧ (∀ a, a < r → p a = false) ∧ (r < n → p r = true)) := by
  refine prel_of_awp (fn := Try.f126) (c := bodyOf Try.f126) envOk (by kernel_rfl) (by kernel_rfl) (by kernel_rfl) (by kernel_rfl) rfl (by kernel_rfl) (by kernel_rfl) ?_
  intro w0 mine D C L hD hC hL
  ((try (conv => cbv)); repeat' (first | (with_reducible refine mK hD ?_; kernel_rfl) | (with_reducible refine mS hD ?_; try (conv => cbv)) | (with_reducible refine mT hD ?_; try (conv => cbv)) | (with_reducible refine mF hD ?_; try (conv => cbv)) | (with_reducible refine mB hD (fun _ => ?_) (fun _ => ?_) <;> try (conv => cbv)) | (with_reducible exact True.intro) | (with_reducible refine And.intro ?_ ?_)))
  refine loop_of hL (fun x : Int × Int => [(5, VI x.1), (6, VI x.2)]) (fun _ => []) (fun x => OkS n p x.1 x.2) muS (0, (n : Int)) ⟨by omega, fun a h => by omega, fun a h => by omega⟩ ?_ ?_
  · ((try (conv => cbv)); repeat' (first | (with_reducible refine mK hD ?_; kernel_rfl) | (with_reducible refine mS hD ?_; try (conv => cbv)) | (with_reducible refine mT hD ?_; try (conv => cbv)) | (with_reducible refine mF hD ?_; try (conv => cbv)) | (with_reducible refine mB hD (fun _ => ?_) (fun _ => ?_) <;> try (conv => cbv)) | (with_reducible exact True.intro) | (with_reducible refine And.intro ?_ ?_)))
    all_goals try (first | exact trivial | assumption | rfl | exact DEq.rfl' _ | ((subst hD; (try simp only [nc] at *); (try simp only [Int.ofNat_eq_natCast] at *); (try simp (disch := omega) only [std, wrap64, Int.toNat_natCast, Nat.succ_eq_add_one, Int.natCast_add, Int.natCast_one, decide_eq_true_eq, decide_eq_false_iff_not, Int.not_lt, Int.not_le, Nat.not_lt, Nat.not_le, beq_iff_eq, beq_eq_false_iff_ne, Bool.not_eq_true', Bool.not_eq_false', ne_eq] at *)) <;> first | omega | exact int_eq (by omega) | assumption | rfl | exact DEq.rfl' _))
  · rintro ⟨i, j⟩ hok
    have hb := hok.h
    simp only at hb hok
    have hen : i.toNat ≤ n ∧ ((i.toNat : Nat) : Int) = i := ⟨by omega, Int.toNat_of_nonneg hb.1⟩
    have hen2 : ¬ i < j → (∀ a : Nat, a < i.toNat → (a : Int) < i) ∧ j ≤ ((i.toNat : Nat) : Int) := fun h => ⟨fun a ha => by omega, by omega⟩
    have hqb : i < j → 0 ≤ (i + j) / 2 ∧ ((i + j) / 2).toNat < n ∧ j ≤ 1000000 := fun h => by omega
    ((try (conv => cbv)); repeat' (first | (with_reducible refine mK hD ?_; kernel_rfl) | (with_reducible refine mS hD ?_; try (conv => cbv)) | (with_reducible refine mT hD ?_; try (conv => cbv)) | (with_reducible refine mF hD ?_; try (conv => cbv)) | (with_reducible refine mB hD (fun _ => ?_) (fun _ => ?_) <;> try (conv => cbv)) | (with_reducible exact True.intro) | (with_reducible refine And.intro ?_ ?_)))
    all_goals try (first | exact trivial | assumption | rfl | exact DEq.rfl' _ | ((subst hD; (try simp only [nc] at *); (try simp only [Int.ofNat_eq_natCast] at *); (try simp (disch := omega) only [std, wrap64, Int.toNat_natCast, Nat.succ_eq_add_one, Int.natCast_add, Int.natCast_one, decide_eq_true_eq, decide_eq_false_iff_not, Int.not_lt, Int.not_le, Nat.not_lt, Nat.not_le, beq_iff_eq, beq_eq_false_iff_ne, Bool.not_eq_true', Bool.not_eq_false', ne_eq] at *)) <;> first | omega | exact int_eq (by omega) | assumption | rfl | exact DEq.rfl' _))
    · have hlt : i < j := by (subst hD; (try simp only [nc] at *); (try simp only [Int.ofNat_eq_natCast] at *); (try simp (disch := omega) only [std, wrap64, Int.toNat_natCast, Nat.succ_eq_add_one, Int.natCast_add, Int.natCast_one, decide_eq_true_eq, decide_eq_false_iff_not, Int.not_lt, Int.not_le, Nat.not_lt, Nat.not_le, beq_iff_eq, beq_eq_false_iff_ne, Bool.not_eq_true', Bool.not_eq_false', ne_eq] at *)); omega
      obtain ⟨q, hq⟩ : ∃ q, q = (i + j) / 2 := ⟨_, rfl⟩
      obtain ⟨b, hbq⟩ := opq (p q.toNat)
      have hqb2 := hqb hlt
      rw [← hq] at hqb2
      refine call_of hD hC (hg q hqb2.1 hqb2.2.1 b hbq) ?_
      obtain ⟨q1, hq1⟩ : ∃ x, x = q + 1 := ⟨_, rfl⟩
      have hhi : p q.toNat = true → OkS n p i q := fun h => by rw [hq] at h ⊢; exact hok.high hn hmono hlt h
      have hlo : p q.toNat = false → OkS n p q1 j := fun h => by rw [hq1, hq]; rw [hq] at h; exact hok.low hn hmono hlt h
      have hm1 : muS (i, q) < muS (i, j) := by rw [hq]; exact hok.mu1 hlt
      have hm2 : muS (q1, j) < muS (i, j) := by rw [hq1, hq]; exact hok.mu2 hlt
      have hmid : D.wrapI IntKind.i64 (D.shrI IntKind.u64 (D.wrapI IntKind.u64 (D.addI IntKind.i64 i j)) 1) = q := by
        rw [hD, hq]; exact mid_eq ⟨hb.1, hlt, hqb2.2.2⟩
      ((try (conv => cbv)); repeat' (first | (with_reducible refine mK hD ?_; kernel_rfl) | (with_reducible refine mS hD ?_; try (conv => cbv)) | (with_reducible refine mT hD ?_; try (conv => cbv)) | (with_reducible refine mF hD ?_; try (conv => cbv)) | (with_reducible refine mB hD (fun _ => ?_) (fun _ => ?_) <;> try (conv => cbv)) | (with_reducible exact True.intro) | (with_reducible refine And.intro ?_ ?_)))
      · exact int_eq hmid
      · cases r1 with
        | nil => exact trivial
        | cons d l => exact allLe_ro (d :: l)
      · cases r2 with
        | nil => exact trivial
        | cons d l => exact allLe_ro (d :: l)
      all_goals try (first | exact trivial | assumption | rfl | exact DEq.rfl' _ | ((subst hD; (try simp only [nc] at *); (try simp only [Int.ofNat_eq_natCast] at *); (try simp (disch := omega) only [std, wrap64, Int.toNat_natCast, Nat.succ_eq_add_one, Int.natCast_add, Int.natCast_one, decide_eq_true_eq, decide_eq_false_iff_not, Int.not_lt, Int.not_le, Nat.not_lt, Nat.not_le, beq_iff_eq, beq_eq_false_iff_ne, Bool.not_eq_true', Bool.not_eq_false', ne_eq] at *)) <;> first | omega | exact int_eq (by omega) | assumption | rfl | exact DEq.rfl' _))
      · rename_i hp
        refine ⟨(i, q), hhi (by rw [← hbq]; exact hp), ssem_of ?_, hm1⟩
        ((try (conv => cbv)); repeat' (first | (with_reducible refine mK hD ?_; kernel_rfl) | (with_reducible refine mS hD ?_; try (conv => cbv)) | (with_reducible refine mT hD ?_; try (conv => cbv)) | (with_reducible refine mF hD ?_; try (conv => cbv)) | (with_reducible refine mB hD (fun _ => ?_) (fun _ => ?_) <;> try (conv => cbv)) | (with_reducible exact True.intro) | (with_reducible refine And.intro ?_ ?_)))
        all_goals try (first | exact trivial | assumption | rfl | exact DEq.rfl' _ | ((subst hD; (try simp only [nc] at *); (try simp only [Int.ofNat_eq_natCast] at *); (try simp (disch := omega) only [std, wrap64, Int.toNat_natCast, Nat.succ_eq_add_one, Int.natCast_add, Int.natCast_one, decide_eq_true_eq, decide_eq_false_iff_not, Int.not_lt, Int.not_le, Nat.not_lt, Nat.not_le, beq_iff_eq, beq_eq_false_iff_ne, Bool.not_eq_true', Bool.not_eq_false', ne_eq] at *)) <;> first | omega | exact int_eq (by omega) | assumption | rfl | exact DEq.rfl' _))
        all_goals exact int_eq hmid
      · rename_i hp
        refine ⟨(q1, j), hlo (by rw [← hbq]; exact hp), ssem_of ?_, hm2⟩
        ((try (conv => cbv)); repeat' (first | (with_reducible refine mK hD ?_; kernel_rfl) | (with_reducible refine mS hD ?_; try (conv => cbv)) | (with_reducible refine mT hD ?_; try (conv => cbv)) | (with_reducible refine mF hD ?_; try (conv => cbv)) | (with_reducible refine mB hD (fun _ => ?_) (fun _ => ?_) <;> try (conv => cbv)) | (with_reducible exact True.intro) | (with_reducible refine And.intro ?_ ?_)))
        all_goals try (first | exact trivial | assumption | rfl | exact DEq.rfl' _ | ((subst hD; (try simp only [nc] at *); (try simp only [Int.ofNat_eq_natCast] at *); (try simp (disch := omega) only [std, wrap64, Int.toNat_natCast, Nat.succ_eq_add_one, Int.natCast_add, Int.natCast_one, decide_eq_true_eq, decide_eq_false_iff_not, Int.not_lt, Int.not_le, Nat.not_lt, Nat.not_le, beq_iff_eq, beq_eq_false_iff_ne, Bool.not_eq_true', Bool.not_eq_false', ne_eq] at *)) <;> first | omega | exact int_eq (by omega) | assumption | rfl | exact DEq.rfl' _))
        have hend : D.addI IntKind.i64 (D.wrapI IntKind.i64 (D.shrI IntKind.u64 (D.wrapI IntKind.u64 (D.addI IntKind.i64 i j)) 1)) 1 = q1 := by
          rw [hmid, hq1, hD]
          exact wrap64 _ (by omega)
        exact int_eq hend
    · have hlt : ¬ i < j := by (subst hD; (try simp only [nc] at *); (try simp only [Int.ofNat_eq_natCast] at *); (try simp (disch := omega) only [std, wrap64, Int.toNat_natCast, Nat.succ_eq_add_one, Int.natCast_add, Int.natCast_one, decide_eq_true_eq, decide_eq_false_iff_not, Int.not_lt, Int.not_le, Nat.not_lt, Nat.not_le, beq_iff_eq, beq_eq_false_iff_ne, Bool.not_eq_true', Bool.not_eq_false', ne_eq] at *)); omega
      exact ⟨[RI i], [], ⟨rfl, trivial⟩, trivial, rfl, i.toNat, congrArg (fun z : Int => [RI z]) hen.2.symm, hen.1, fun a ha => hok.lo a ((hen2 hlt).1 a ha), fun h => hok.hi _ (hen2 hlt).2 h⟩
end Go.AW
/- Widths of runes, both sides. -/
set_option linter.unusedVariables false
set_option linter.unusedSimpArgs false
namespace Go.AW
open Go.Proofs
set_option maxRecDepth 100000
def inSp (lo hi : Nat → Int) (n : Nat) (r : Int) : Bool := (List.range n).any fun i => decide (lo i ≤ r) && decide (r ≤ hi i)
structure Span (lo hi : Nat → Int) (n : Nat) : Prop where
  le : ∀ i, i < n → lo i ≤ hi i
  lt : ∀ i j, i < j → j < n → hi i < lo j
theorem inSp_of {lo hi : Nat → Int} {n k : Nat} {r : Int} (S : Span lo hi n) (hk : k ≤ n) (h1 : ∀ a, a < k → decide (r ≤ hi a) = false) (h2 : k < n → decide (r ≤ hi k) = true) : inSp lo hi n r = (decide (k < n) && decide (lo k ≤ r)) := by
  rw [Bool.eq_iff_iff]
  simp only [inSp, List.any_eq_true, List.mem_range, Bool.and_eq_true, decide_eq_true_eq] at *
  constructor
  · rintro ⟨i, hi, h3, h4⟩
    have hki : k ≤ i := by
      rcases Nat.lt_or_ge i k with h | h
      · have := h1 i h; simp at this; omega
      · exact h
    rcases Nat.lt_or_ge k i with h | h
    · have := S.lt k i h hi
      have := h2 (by omega)
      omega
    · have : k = i := by omega
      subst this; exact ⟨hi, h3⟩
  · rintro ⟨h3, h4⟩
    exact ⟨k, h3, h4, h2 h3⟩
theorem span_mono {lo hi : Nat → Int} {n : Nat} (S : Span lo hi n) (r : Int) : ∀ a b, a ≤ b → b < n → decide (r ≤ hi a) = true → decide (r ≤ hi b) = true := fun a b h1 h2 h3 => by
  have e : hi a ≤ hi b := by
    rcases Nat.lt_or_ge a b with h | h
    · have := S.lt a b h h2
      have := S.le b h2
      omega
    · have : a = b := by omega
      subst this; exact Int.le_refl _
  simp only [decide_eq_true_eq] at *
  omega
theorem con_inSpans (z n : Nat) (lo hi : Nat → Int) (r : Int) (b : Bool) (hn : n ≤ 1000) (S : Span lo hi n) (hb : b = inSp lo hi n r) : PRet Try.prog 112 [.r (.c (.l z n (spanRow lo hi))), AK .i32 r] [RB b] [] := by
  refine pret_of_awp (fn := Try.f112) (c := bodyOf Try.f112) envOk (by kernel_rfl) (by kernel_rfl) (by kernel_rfl) (by kernel_rfl) rfl (by kernel_rfl) (by kernel_rfl) ?_
  intro w0 mine D C L hD hC hL
  ((try (conv => cbv)); repeat' (first | (with_reducible refine mK hD ?_; kernel_rfl) | (with_reducible refine mS hD ?_; try (conv => cbv)) | (with_reducible refine mT hD ?_; try (conv => cbv)) | (with_reducible refine mF hD ?_; try (conv => cbv)) | (with_reducible refine mB hD (fun _ => ?_) (fun _ => ?_) <;> try (conv => cbv)) | (with_reducible exact True.intro) | (with_reducible refine And.intro ?_ ?_)))
  refine call_rel hD hC (con_Search 127 [.l 0 n (spanRow lo hi)] [.s (.int .i32 r)] n (fun i => decide (r ≤ hi i)) (by omega) (span_mono S r) (fun i h0 h1 b hb => con_inSpans1 i r 0 n lo hi b h0 h1 hb)) ?_
  ((try (conv => cbv)); repeat' (first | (with_reducible refine mK hD ?_; kernel_rfl) | (with_reducible refine mS hD ?_; try (conv => cbv)) | (with_reducible refine mT hD ?_; try (conv => cbv)) | (with_reducible refine mF hD ?_; try (conv => cbv)) | (with_reducible refine mB hD (fun _ => ?_) (fun _ => ?_) <;> try (conv => cbv)) | (with_reducible exact True.intro) | (with_reducible refine And.intro ?_ ?_)))
  all_goals try (first | exact trivial | assumption | rfl | exact DEq.rfl' _ | ((subst hD; (try simp only [nc] at *); (try simp only [Int.ofNat_eq_natCast] at *); (try simp (disch := omega) only [std, wrap64, Int.toNat_natCast, Nat.succ_eq_add_one, Int.natCast_add, Int.natCast_one, decide_eq_true_eq, decide_eq_false_iff_not, Int.not_lt, Int.not_le, Nat.not_lt, Nat.not_le, beq_iff_eq, beq_eq_false_iff_ne, Bool.not_eq_true', Bool.not_eq_false', ne_eq] at *)) <;> first | omega | exact int_eq (by omega) | assumption | rfl | exact DEq.rfl' _))
  rintro _ _ ⟨rfl, k, rfl, hk, h1, h2⟩
  have hb2 := hb.trans (inSp_of S hk h1 h2)
  ((try (conv => cbv)); repeat' (first | (with_reducible refine mK hD ?_; kernel_rfl) | (with_reducible refine mS hD ?_; try (conv => cbv)) | (with_reducible refine mT hD ?_; try (conv => cbv)) | (with_reducible refine mF hD ?_; try (conv => cbv)) | (with_reducible refine mB hD (fun _ => ?_) (fun _ => ?_) <;> try (conv => cbv)) | (with_reducible exact True.intro) | (with_reducible refine And.intro ?_ ?_)))
  all_goals try (first | exact trivial | assumption | rfl | exact DEq.rfl' _ | ((subst hD; (try simp only [nc] at *); (try simp only [Int.ofNat_eq_natCast] at *); (try simp (disch := omega) only [std, wrap64, Int.toNat_natCast, Nat.succ_eq_add_one, Int.natCast_add, Int.natCast_one, decide_eq_true_eq, decide_eq_false_iff_not, Int.not_lt, Int.not_le, Nat.not_lt, Nat.not_le, beq_iff_eq, beq_eq_false_iff_ne, Bool.not_eq_true', Bool.not_eq_false', ne_eq] at *)) <;> first | omega | exact int_eq (by omega) | assumption | rfl | exact DEq.rfl' _))
  · have hkn : k < n := by (subst hD; (try simp only [nc] at *); (try simp only [Int.ofNat_eq_natCast] at *); (try simp (disch := omega) only [std, wrap64, Int.toNat_natCast, Nat.succ_eq_add_one, Int.natCast_add, Int.natCast_one, decide_eq_true_eq, decide_eq_false_iff_not, Int.not_lt, Int.not_le, Nat.not_lt, Nat.not_le, beq_iff_eq, beq_eq_false_iff_ne, Bool.not_eq_true', Bool.not_eq_false', ne_eq] at *)); omega
    rw [hb2, decide_eq_true hkn, Bool.true_and]
    subst hD
    rfl
  · have hkn : ¬ k < n := by (subst hD; (try simp only [nc] at *); (try simp only [Int.ofNat_eq_natCast] at *); (try simp (disch := omega) only [std, wrap64, Int.toNat_natCast, Nat.succ_eq_add_one, Int.natCast_add, Int.natCast_one, decide_eq_true_eq, decide_eq_false_iff_not, Int.not_lt, Int.not_le, Nat.not_lt, Nat.not_le, beq_iff_eq, beq_eq_false_iff_ne, Bool.not_eq_true', Bool.not_eq_false', ne_eq] at *)); omega
    rw [hb2, decide_eq_false hkn]
    rfl
theorem spanZ : Span (at0 zLo) (at0 zHi) 7 := ⟨by decide, fun i j h1 h2 => (by decide : ∀ j, j < 7 → ∀ i, i < j → at0 zHi i < at0 zLo j) j h2 i h1⟩
theorem spanW : Span (at0 wLo) (at0 wHi) 12 := ⟨by decide, fun i j h1 h2 => (by decide : ∀ j, j < 12 → ∀ i, i < j → at0 wHi i < at0 wLo j) j h2 i h1⟩
def runeWidth (r : Int) : Int := if inSp (at0 zLo) (at0 zHi) 7 r then 0 else if inSp (at0 wLo) (at0 wHi) 12 r then 2 else 1
theorem con_implRuneWidth (r w : Int) (hw : w = runeWidth r) : PRet Try.prog 81 [AK .i32 r] [RI w] [] := by
  refine pret_of_awp (fn := Try.f81) (c := bodyOf Try.f81) envOk (by kernel_rfl) (by kernel_rfl) (by kernel_rfl) (by kernel_rfl) rfl (by kernel_rfl) (by kernel_rfl) ?_
  intro w0 mine D C L hD hC hL
  obtain ⟨zl, hzl⟩ := opq (at0 zLo)
  obtain ⟨zh, hzh⟩ := opq (at0 zHi)
  obtain ⟨wl, hwl⟩ := opq (at0 wLo)
  obtain ⟨wh, hwh⟩ := opq (at0 wHi)
  obtain ⟨b1, hb1⟩ := opq (inSp zl zh 7 r)
  obtain ⟨b2, hb2⟩ := opq (inSp wl wh 12 r)
  have hw2 : w = if b1 = true then 0 else if b2 = true then 2 else 1 := by rw [hw, hb1, hb2, hzl, hzh, hwl, hwh]; rfl
  have hz := con_zeroSpans
  have hws := con_wideSpans
  have sz := spanZ
  have sw := spanW
  rw [← hzl, ← hzh] at hz sz
  rw [← hwl, ← hwh] at hws sw
  ((try (conv => cbv)); repeat' (first | (with_reducible refine mK hD ?_; kernel_rfl) | (with_reducible refine mS hD ?_; try (conv => cbv)) | (with_reducible refine mT hD ?_; try (conv => cbv)) | (with_reducible refine mF hD ?_; try (conv => cbv)) | (with_reducible refine mB hD (fun _ => ?_) (fun _ => ?_) <;> try (conv => cbv)) | (with_reducible exact True.intro) | (with_reducible refine And.intro ?_ ?_)))
  refine call_of hD hC hz ?_
  ((try (conv => cbv)); repeat' (first | (with_reducible refine mK hD ?_; kernel_rfl) | (with_reducible refine mS hD ?_; try (conv => cbv)) | (with_reducible refine mT hD ?_; try (conv => cbv)) | (with_reducible refine mF hD ?_; try (conv => cbv)) | (with_reducible refine mB hD (fun _ => ?_) (fun _ => ?_) <;> try (conv => cbv)) | (with_reducible exact True.intro) | (with_reducible refine And.intro ?_ ?_)))
  all_goals try (first | exact trivial | assumption | rfl | exact DEq.rfl' _ | ((subst hD; (try simp only [nc] at *); (try simp only [Int.ofNat_eq_natCast] at *); (try simp (disch := omega) only [std, wrap64, Int.toNat_natCast, Nat.succ_eq_add_one, Int.natCast_add, Int.natCast_one, decide_eq_true_eq, decide_eq_false_iff_not, Int.not_lt, Int.not_le, Nat.not_lt, Nat.not_le, beq_iff_eq, beq_eq_false_iff_ne, Bool.not_eq_true', Bool.not_eq_false', ne_eq] at *)) <;> first | omega | exact int_eq (by omega) | assumption | rfl | exact DEq.rfl' _))
  refine call_of hD hC (con_inSpans 2 7 zl zh r b1 (by omega) sz hb1) ?_
  ((try (conv => cbv)); repeat' (first | (with_reducible refine mK hD ?_; kernel_rfl) | (with_reducible refine mS hD ?_; try (conv => cbv)) | (with_reducible refine mT hD ?_; try (conv => cbv)) | (with_reducible refine mF hD ?_; try (conv => cbv)) | (with_reducible refine mB hD (fun _ => ?_) (fun _ => ?_) <;> try (conv => cbv)) | (with_reducible exact True.intro) | (with_reducible refine And.intro ?_ ?_)))
  all_goals try (first | exact trivial | assumption | rfl | exact DEq.rfl' _ | ((subst hD; (try simp only [nc] at *); (try simp only [Int.ofNat_eq_natCast] at *); (try simp (disch := omega) only [std, wrap64, Int.toNat_natCast, Nat.succ_eq_add_one, Int.natCast_add, Int.natCast_one, decide_eq_true_eq, decide_eq_false_iff_not, Int.not_lt, Int.not_le, Nat.not_lt, Nat.not_le, beq_iff_eq, beq_eq_false_iff_ne, Bool.not_eq_true', Bool.not_eq_false', ne_eq] at *)) <;> first | omega | exact int_eq (by omega) | assumption | rfl | exact DEq.rfl' _))
  · rename_i h
    rw [hw2, if_pos h]
  rename_i hf
  refine call_of hD hC hws ?_
  ((try (conv => cbv)); repeat' (first | (with_reducible refine mK hD ?_; kernel_rfl) | (with_reducible refine mS hD ?_; try (conv => cbv)) | (with_reducible refine mT hD ?_; try (conv => cbv)) | (with_reducible refine mF hD ?_; try (conv => cbv)) | (with_reducible refine mB hD (fun _ => ?_) (fun _ => ?_) <;> try (conv => cbv)) | (with_reducible exact True.intro) | (with_reducible refine And.intro ?_ ?_)))
  all_goals try (first | exact trivial | assumption | rfl | exact DEq.rfl' _ | ((subst hD; (try simp only [nc] at *); (try simp only [Int.ofNat_eq_natCast] at *); (try simp (disch := omega) only [std, wrap64, Int.toNat_natCast, Nat.succ_eq_add_one, Int.natCast_add, Int.natCast_one, decide_eq_true_eq, decide_eq_false_iff_not, Int.not_lt, Int.not_le, Nat.not_lt, Nat.not_le, beq_iff_eq, beq_eq_false_iff_ne, Bool.not_eq_true', Bool.not_eq_false', ne_eq] at *)) <;> first | omega | exact int_eq (by omega) | assumption | rfl | exact DEq.rfl' _))
  refine call_of hD hC (con_inSpans 2 12 wl wh r b2 (by omega) sw hb2) ?_
  ((try (conv => cbv)); repeat' (first | (with_reducible refine mK hD ?_; kernel_rfl) | (with_reducible refine mS hD ?_; try (conv => cbv)) | (with_reducible refine mT hD ?_; try (conv => cbv)) | (with_reducible refine mF hD ?_; try (conv => cbv)) | (with_reducible refine mB hD (fun _ => ?_) (fun _ => ?_) <;> try (conv => cbv)) | (with_reducible exact True.intro) | (with_reducible refine And.intro ?_ ?_)))
  all_goals try (first | exact trivial | assumption | rfl | exact DEq.rfl' _ | ((subst hD; (try simp only [nc] at *); (try simp only [Int.ofNat_eq_natCast] at *); (try simp (disch := omega) only [std, wrap64, Int.toNat_natCast, Nat.succ_eq_add_one, Int.natCast_add, Int.natCast_one, decide_eq_true_eq, decide_eq_false_iff_not, Int.not_lt, Int.not_le, Nat.not_lt, Nat.not_le, beq_iff_eq, beq_eq_false_iff_ne, Bool.not_eq_true', Bool.not_eq_false', ne_eq] at *)) <;> first | omega | exact int_eq (by omega) | assumption | rfl | exact DEq.rfl' _))
  · rename_i h
    rw [hw2, if_neg (by rw [hf]; decide), if_pos h]
  · rename_i h
    rw [hw2, if_neg (by rw [hf]; decide), if_neg (by rw [h]; decide)]
def zs : List Int := [768, 879, 1155, 1161, 1425, 1469, 8203, 8207, 8400, 8432, 65024, 65039, 65056, 65071]
def ws : List Int := [4352, 4447, 11904, 12350, 12353, 19903, 19968, 42191, 44032, 55203, 63744, 64255, 65072, 65135, 65280, 65376, 65504, 65510, 127744, 128591, 129280, 129535, 131072, 262141]
theorem zs_eq (r : Int) : l1In r (at0 zs) 14 = inSp (at0 zLo) (at0 zHi) 7 r := rfl
theorem ws_eq (r : Int) : l1In r (at0 ws) 24 = inSp (at0 wLo) (at0 wHi) 12 r := rfl
theorem con_specRuneWidth (r w : Int) (hr : -2147483648 ≤ r ∧ r ≤ 2147483647) (hw : w = runeWidth r) : PRet Try.prog 80 [AK .i32 r] [RI w] [] := by
  refine pret_of_awp (fn := Try.f80) (c := bodyOf Try.f80) envOk (by kernel_rfl) (by kernel_rfl) (by kernel_rfl) (by kernel_rfl) rfl (by kernel_rfl) (by kernel_rfl) ?_
  intro w0 mine D C L hD hC hL
  obtain ⟨b1, hb1⟩ := opq (l1In r (at0 zs) 14)
  obtain ⟨b2, hb2⟩ := opq (l1In r (at0 ws) 24)
  have hw2 : w = if b1 = true then 0 else if b2 = true then 2 else 1 := by rw [hw, hb1, hb2, zs_eq, ws_eq]; rfl
  ((try (conv => cbv)); repeat' (first | (with_reducible refine mK hD ?_; kernel_rfl) | (with_reducible refine mS hD ?_; try (conv => cbv)) | (with_reducible refine mT hD ?_; try (conv => cbv)) | (with_reducible refine mF hD ?_; try (conv => cbv)) | (with_reducible refine mB hD (fun _ => ?_) (fun _ => ?_) <;> try (conv => cbv)) | (with_reducible exact True.intro) | (with_reducible refine And.intro ?_ ?_)))
  refine call_of hD hC (con_l1In 1 14 (fun i => D.nthI zs i) r b1 (by omega) (by rw [hD]; exact hb1)) ?_
  ((try (conv => cbv)); repeat' (first | (with_reducible refine mK hD ?_; kernel_rfl) | (with_reducible refine mS hD ?_; try (conv => cbv)) | (with_reducible refine mT hD ?_; try (conv => cbv)) | (with_reducible refine mF hD ?_; try (conv => cbv)) | (with_reducible refine mB hD (fun _ => ?_) (fun _ => ?_) <;> try (conv => cbv)) | (with_reducible exact True.intro) | (with_reducible refine And.intro ?_ ?_)))
  all_goals try (first | exact trivial | assumption | rfl | exact DEq.rfl' _ | ((subst hD; (try simp only [nc] at *); (try simp only [Int.ofNat_eq_natCast] at *); (try simp (disch := omega) only [std, wrap64, Int.toNat_natCast, Nat.succ_eq_add_one, Int.natCast_add, Int.natCast_one, decide_eq_true_eq, decide_eq_false_iff_not, Int.not_lt, Int.not_le, Nat.not_lt, Nat.not_le, beq_iff_eq, beq_eq_false_iff_ne, Bool.not_eq_true', Bool.not_eq_false', ne_eq] at *)) <;> first | omega | exact int_eq (by omega) | assumption | rfl | exact DEq.rfl' _))
  · rename_i h
    rw [hw2, if_pos h]
  rename_i hf
  refine call_of hD hC (con_l1In 1 24 (fun i => D.nthI ws i) r b2 (by omega) (by rw [hD]; exact hb2)) ?_
  ((try (conv => cbv)); repeat' (first | (with_reducible refine mK hD ?_; kernel_rfl) | (with_reducible refine mS hD ?_; try (conv => cbv)) | (with_reducible refine mT hD ?_; try (conv => cbv)) | (with_reducible refine mF hD ?_; try (conv => cbv)) | (with_reducible refine mB hD (fun _ => ?_) (fun _ => ?_) <;> try (conv => cbv)) | (with_reducible exact True.intro) | (with_reducible refine And.intro ?_ ?_)))
  all_goals try (first | exact trivial | assumption | rfl | exact DEq.rfl' _ | ((subst hD; (try simp only [nc] at *); (try simp only [Int.ofNat_eq_natCast] at *); (try simp (disch := omega) only [std, wrap64, Int.toNat_natCast, Nat.succ_eq_add_one, Int.natCast_add, Int.natCast_one, decide_eq_true_eq, decide_eq_false_iff_not, Int.not_lt, Int.not_le, Nat.not_lt, Nat.not_le, beq_iff_eq, beq_eq_false_iff_ne, Bool.not_eq_true', Bool.not_eq_false', ne_eq] at *)) <;> first | omega | exact int_eq (by omega) | assumption | rfl | exact DEq.rfl' _))
  · rename_i h
    rw [hw2, if_neg (by rw [hf]; decide), if_pos h]
  · rename_i h
    rw [hw2, if_neg (by rw [hf]; decide), if_neg (by rw [h]; decide)]
end Go.AW
/- Runes as bytes: what the functions compute. -/
set_option linter.unusedVariables false
set_option linter.unusedSimpArgs false
namespace Go.AW
open Go.Proofs
set_option maxRecDepth 100000
theorem con_l1Valid (r : Int) (b : Bool) (hb : b = validR r) : PRet Try.prog 68 [AI r] [RB b] [] := by
  refine pret_of_awp (fn := Try.f68) (c := bodyOf Try.f68) envOk (by kernel_rfl) (by kernel_rfl) (by kernel_rfl) (by kernel_rfl) rfl (by kernel_rfl) (by kernel_rfl) ?_
  intro w0 mine D C L hD hC hL
  ((try (conv => cbv)); repeat' (first | (with_reducible refine mK hD ?_; kernel_rfl) | (with_reducible refine mS hD ?_; try (conv => cbv)) | (with_reducible refine mT hD ?_; try (conv => cbv)) | (with_reducible refine mF hD ?_; try (conv => cbv)) | (with_reducible refine mB hD (fun _ => ?_) (fun _ => ?_) <;> try (conv => cbv)) | (with_reducible exact True.intro) | (with_reducible refine And.intro ?_ ?_)))
  all_goals try exact trivial
  all_goals (subst hb; refine congrArg Value.bool ?_; (subst hD; (try simp only [nc] at *); (try simp only [Int.ofNat_eq_natCast] at *); (try simp (disch := omega) only [std, wrap64, Int.toNat_natCast, Nat.succ_eq_add_one, Int.natCast_add, Int.natCast_one, decide_eq_true_eq, decide_eq_false_iff_not, Int.not_lt, Int.not_le, Nat.not_lt, Nat.not_le, beq_iff_eq, beq_eq_false_iff_ne, Bool.not_eq_true', Bool.not_eq_false', ne_eq] at *)); unfold validR; first | (rw [eq_comm, Bool.eq_iff_iff]; simp; omega) | (rw [Bool.eq_iff_iff]; simp; omega))
theorem con_l1Utf8 (r : Int) (s : ByteArray) (hv : validR r = true) (hs : s = Utf8.encode r) : PRet Try.prog 69 [AI r] [RS s] [] := by
  refine pret_of_awp (fn := Try.f69) (c := bodyOf Try.f69) envOk (by kernel_rfl) (by kernel_rfl) (by kernel_rfl) (by kernel_rfl) rfl (by kernel_rfl) (by kernel_rfl) ?_
  intro w0 mine D C L hD hC hL
  ((try (conv => cbv)); repeat' (first | (with_reducible refine mK hD ?_; kernel_rfl) | (with_reducible refine mS hD ?_; try (conv => cbv)) | (with_reducible refine mT hD ?_; try (conv => cbv)) | (with_reducible refine mF hD ?_; try (conv => cbv)) | (with_reducible refine mB hD (fun _ => ?_) (fun _ => ?_) <;> try (conv => cbv)) | (with_reducible exact True.intro) | (with_reducible refine And.intro ?_ ?_)))
  all_goals try exact trivial
  all_goals try (first | exact trivial | assumption | rfl | exact DEq.rfl' _ | ((subst hD; (try simp only [nc] at *); (try simp only [Int.ofNat_eq_natCast] at *); (try simp (disch := omega) only [std, wrap64, Int.toNat_natCast, Nat.succ_eq_add_one, Int.natCast_add, Int.natCast_one, decide_eq_true_eq, decide_eq_false_iff_not, Int.not_lt, Int.not_le, Nat.not_lt, Nat.not_le, beq_iff_eq, beq_eq_false_iff_ne, Bool.not_eq_true', Bool.not_eq_false', ne_eq] at *)) <;> first | omega | exact int_eq (by omega) | assumption | rfl | exact DEq.rfl' _))
  all_goals (try (subst hD; exact fun i _ => ⟨_, rfl⟩))
  all_goals (
    refine str_eq (str_ext ?_)
    subst hs
    show _ = enc r
    have h0 := hv
    unfold validR at h0
    simp at h0
    (subst hD; (try simp only [nc] at *); (try simp only [Int.ofNat_eq_natCast] at *); (try simp (disch := omega) only [std, wrap64, Int.toNat_natCast, Nat.succ_eq_add_one, Int.natCast_add, Int.natCast_one, decide_eq_true_eq, decide_eq_false_iff_not, Int.not_lt, Int.not_le, Nat.not_lt, Nat.not_le, beq_iff_eq, beq_eq_false_iff_ne, Bool.not_eq_true', Bool.not_eq_false', ne_eq, wU8, quo64, rem64] at *))
    first
    | rw [enc_1 (by omega)]
    | rw [enc_2 (by omega)]
    | rw [enc_3 hv (by omega)]
    | rw [enc_4 hv (by omega)])
  · show [b8 _] = _
    refine congrArg (fun x => [b8 x]) ?_
    omega
  · show [b8 _, b8 _] = _
    exact congr (congrArg _ (congrArg b8 (by simp (disch := omega) only [List.getD_cons_zero, List.getD_cons_succ, Int.tdiv_eq_ediv_of_nonneg, Int.tmod_eq_emod_of_nonneg, wrap64] <;> omega))) (congrArg (fun x => [b8 x]) (by simp (disch := omega) only [List.getD_cons_zero, List.getD_cons_succ, Int.tdiv_eq_ediv_of_nonneg, Int.tmod_eq_emod_of_nonneg, wrap64] <;> omega))
  · show [b8 _, b8 _, b8 _] = _
    exact congr (congrArg _ (congrArg b8 (by simp (disch := omega) only [List.getD_cons_zero, List.getD_cons_succ, Int.tdiv_eq_ediv_of_nonneg, Int.tmod_eq_emod_of_nonneg, wrap64] <;> omega))) (congr (congrArg _ (congrArg b8 (by simp (disch := omega) only [List.getD_cons_zero, List.getD_cons_succ, Int.tdiv_eq_ediv_of_nonneg, Int.tmod_eq_emod_of_nonneg, wrap64] <;> omega))) (congrArg (fun x => [b8 x]) (by simp (disch := omega) only [List.getD_cons_zero, List.getD_cons_succ, Int.tdiv_eq_ediv_of_nonneg, Int.tmod_eq_emod_of_nonneg, wrap64] <;> omega)))
  · show [b8 _, b8 _, b8 _, b8 _] = _
    exact congr (congrArg _ (congrArg b8 (by simp (disch := omega) only [List.getD_cons_zero, List.getD_cons_succ, Int.tdiv_eq_ediv_of_nonneg, Int.tmod_eq_emod_of_nonneg, wrap64] <;> omega))) (congr (congrArg _ (congrArg b8 (by simp (disch := omega) only [List.getD_cons_zero, List.getD_cons_succ, Int.tdiv_eq_ediv_of_nonneg, Int.tmod_eq_emod_of_nonneg, wrap64] <;> omega))) (congr (congrArg _ (congrArg b8 (by simp (disch := omega) only [List.getD_cons_zero, List.getD_cons_succ, Int.tdiv_eq_ediv_of_nonneg, Int.tmod_eq_emod_of_nonneg, wrap64] <;> omega))) (congrArg (fun x => [b8 x]) (by simp (disch := omega) only [List.getD_cons_zero, List.getD_cons_succ, Int.tdiv_eq_ediv_of_nonneg, Int.tmod_eq_emod_of_nonneg, wrap64] <;> omega))))
end Go.AW
/- A rune out of bytes: what the functions compute. -/
set_option linter.unusedVariables false
set_option linter.unusedSimpArgs false
namespace Go.AW
open Go.Proofs
set_option maxRecDepth 100000
/-- How many bytes a first byte asks for. -/
def needB (b : Int) : Int := if b < 128 then 1 else if b < 192 ∨ 248 ≤ b then 0 else if b < 224 then 2 else if b < 240 then 3 else 4
theorem con_l1Need (b r : Int) (hb : 0 ≤ b ∧ b ≤ 255) (hr : r = needB b) : PRet Try.prog 108 [AK .u8 b] [RI r] [] := by
  refine pret_of_awp (fn := Try.f108) (c := bodyOf Try.f108) envOk (by kernel_rfl) (by kernel_rfl) (by kernel_rfl) (by kernel_rfl) rfl (by kernel_rfl) (by kernel_rfl) ?_
  intro w0 mine D C L hD hC hL
  ((try (conv => cbv)); repeat' (first | (with_reducible refine mK hD ?_; kernel_rfl) | (with_reducible refine mS hD ?_; try (conv => cbv)) | (with_reducible refine mT hD ?_; try (conv => cbv)) | (with_reducible refine mF hD ?_; try (conv => cbv)) | (with_reducible refine mB hD (fun _ => ?_) (fun _ => ?_) <;> try (conv => cbv)) | (with_reducible exact True.intro) | (with_reducible refine And.intro ?_ ?_)))
  all_goals ((subst hD; (try simp only [nc] at *); (try simp only [Int.ofNat_eq_natCast] at *); (try simp (disch := omega) only [std, wrap64, Int.toNat_natCast, Nat.succ_eq_add_one, Int.natCast_add, Int.natCast_one, decide_eq_true_eq, decide_eq_false_iff_not, Int.not_lt, Int.not_le, Nat.not_lt, Nat.not_le, beq_iff_eq, beq_eq_false_iff_ne, Bool.not_eq_true', Bool.not_eq_false', ne_eq] at *)); subst hr; refine int_eq ?_; unfold needB; omega)
/-- What is shown for a rune. -/
def shownR (r : Int) : Int := if validR r = true ∧ 32 ≤ r ∧ ¬ (127 ≤ r ∧ r ≤ 159) then r else 65533
theorem con_l1Shown (r s : Int) (hs : s = shownR r) : PRet Try.prog 74 [AI r] [RI s] [] := by
  refine pret_of_awp (fn := Try.f74) (c := bodyOf Try.f74) envOk (by kernel_rfl) (by kernel_rfl) (by kernel_rfl) (by kernel_rfl) rfl (by kernel_rfl) (by kernel_rfl) ?_
  intro w0 mine D C L hD hC hL
  obtain ⟨b, hb⟩ := opq (validR r)
  ((try (conv => cbv)); repeat' (first | (with_reducible refine mK hD ?_; kernel_rfl) | (with_reducible refine mS hD ?_; try (conv => cbv)) | (with_reducible refine mT hD ?_; try (conv => cbv)) | (with_reducible refine mF hD ?_; try (conv => cbv)) | (with_reducible refine mB hD (fun _ => ?_) (fun _ => ?_) <;> try (conv => cbv)) | (with_reducible exact True.intro) | (with_reducible refine And.intro ?_ ?_)))
  refine call_of hD hC (con_l1Valid r b hb) ?_
  ((try (conv => cbv)); repeat' (first | (with_reducible refine mK hD ?_; kernel_rfl) | (with_reducible refine mS hD ?_; try (conv => cbv)) | (with_reducible refine mT hD ?_; try (conv => cbv)) | (with_reducible refine mF hD ?_; try (conv => cbv)) | (with_reducible refine mB hD (fun _ => ?_) (fun _ => ?_) <;> try (conv => cbv)) | (with_reducible exact True.intro) | (with_reducible refine And.intro ?_ ?_)))
  all_goals ((subst hD; (try simp only [nc] at *); (try simp only [Int.ofNat_eq_natCast] at *); (try simp (disch := omega) only [std, wrap64, Int.toNat_natCast, Nat.succ_eq_add_one, Int.natCast_add, Int.natCast_one, decide_eq_true_eq, decide_eq_false_iff_not, Int.not_lt, Int.not_le, Nat.not_lt, Nat.not_le, beq_iff_eq, beq_eq_false_iff_ne, Bool.not_eq_true', Bool.not_eq_false', ne_eq] at *)); subst hs; refine int_eq ?_; unfold shownR; rw [← hb]; simp_all <;> omega)
theorem con_ValidRune (r : Int) (b : Bool) (hb : b = validR r) : PRet Try.prog 110 [AK .i32 r] [RB b] [] := by
  refine pret_of_awp (fn := Try.f110) (c := bodyOf Try.f110) envOk (by kernel_rfl) (by kernel_rfl) (by kernel_rfl) (by kernel_rfl) rfl (by kernel_rfl) (by kernel_rfl) ?_
  intro w0 mine D C L hD hC hL
  ((try (conv => cbv)); repeat' (first | (with_reducible refine mK hD ?_; kernel_rfl) | (with_reducible refine mS hD ?_; try (conv => cbv)) | (with_reducible refine mT hD ?_; try (conv => cbv)) | (with_reducible refine mF hD ?_; try (conv => cbv)) | (with_reducible refine mB hD (fun _ => ?_) (fun _ => ?_) <;> try (conv => cbv)) | (with_reducible exact True.intro) | (with_reducible refine And.intro ?_ ?_)))
  all_goals (subst hb; refine congrArg Value.bool ?_; (subst hD; (try simp only [nc] at *); (try simp only [Int.ofNat_eq_natCast] at *); (try simp (disch := omega) only [std, wrap64, Int.toNat_natCast, Nat.succ_eq_add_one, Int.natCast_add, Int.natCast_one, decide_eq_true_eq, decide_eq_false_iff_not, Int.not_lt, Int.not_le, Nat.not_lt, Nat.not_le, beq_iff_eq, beq_eq_false_iff_ne, Bool.not_eq_true', Bool.not_eq_false', ne_eq] at *)); unfold validR; first | (rw [eq_comm, Bool.eq_iff_iff]; simp; omega) | (rw [Bool.eq_iff_iff]; simp; omega))
theorem con_shown (r s : Int) (hs : s = shownR r) : PRet Try.prog 75 [AK .i32 r] [RK .i32 s] [] := by
  refine pret_of_awp (fn := Try.f75) (c := bodyOf Try.f75) envOk (by kernel_rfl) (by kernel_rfl) (by kernel_rfl) (by kernel_rfl) rfl (by kernel_rfl) (by kernel_rfl) ?_
  intro w0 mine D C L hD hC hL
  obtain ⟨b, hb⟩ := opq (validR r)
  ((try (conv => cbv)); repeat' (first | (with_reducible refine mK hD ?_; kernel_rfl) | (with_reducible refine mS hD ?_; try (conv => cbv)) | (with_reducible refine mT hD ?_; try (conv => cbv)) | (with_reducible refine mF hD ?_; try (conv => cbv)) | (with_reducible refine mB hD (fun _ => ?_) (fun _ => ?_) <;> try (conv => cbv)) | (with_reducible exact True.intro) | (with_reducible refine And.intro ?_ ?_)))
  all_goals try (refine call_of hD hC (con_ValidRune r b hb) ?_; ((try (conv => cbv)); repeat' (first | (with_reducible refine mK hD ?_; kernel_rfl) | (with_reducible refine mS hD ?_; try (conv => cbv)) | (with_reducible refine mT hD ?_; try (conv => cbv)) | (with_reducible refine mF hD ?_; try (conv => cbv)) | (with_reducible refine mB hD (fun _ => ?_) (fun _ => ?_) <;> try (conv => cbv)) | (with_reducible exact True.intro) | (with_reducible refine And.intro ?_ ?_))))
  all_goals ((subst hD; (try simp only [nc] at *); (try simp only [Int.ofNat_eq_natCast] at *); (try simp (disch := omega) only [std, wrap64, Int.toNat_natCast, Nat.succ_eq_add_one, Int.natCast_add, Int.natCast_one, decide_eq_true_eq, decide_eq_false_iff_not, Int.not_lt, Int.not_le, Nat.not_lt, Nat.not_le, beq_iff_eq, beq_eq_false_iff_ne, Bool.not_eq_true', Bool.not_eq_false', ne_eq] at *)); subst hs; refine int_eq ?_; unfold shownR; rw [← hb]; simp_all <;> omega)
end Go.AW
/- A rune out of bytes: its value. -/
set_option linter.unusedVariables false
set_option linter.unusedSimpArgs false
namespace Go.AW
open Go.Proofs
set_option maxRecDepth 100000
def ContB (B : Nat → Int) (i d : Nat) : Prop := ∀ k, 1 ≤ k → k < d → 128 ≤ B (i + k) ∧ B (i + k) ≤ 191
def valM (B : Nat → Int) (i : Nat) (m0 : Int) : Nat → Int
  | 0 => m0
  | k + 1 => valM B i m0 k * 64 + B (i + (k + 1)) - 128
def headB (b : Int) (d : Nat) : Int := match d with
  | 2 => b % 32
  | 3 => b % 16
  | 4 => b % 8
  | _ => b
theorem con_l1Value (d : Nat) (hd : d = 1 ∨ d = 2 ∨ d = 3 ∨ d = 4) (n : Nat) (B : Nat → Int) (i : Nat) (r : Int) (hB : ∀ j, j < n → 0 ≤ B j ∧ B j ≤ 255) (hi : i + d ≤ n) (hn : n ≤ 1099511627776)
    (hr1 : ContB B i d → r = valM B i (headB (B i) d) (d - 1)) (hr2 : ¬ ContB B i d → r = -1) :
    PRet Try.prog 109 [.r (.c (dI .u8 n B)), AI i, AI d] [RI r] [] := by
  refine pret_of_awp (fn := Try.f109) (c := bodyOf Try.f109) envOk (by kernel_rfl) (by kernel_rfl) (by kernel_rfl) (by kernel_rfl) rfl (by kernel_rfl) (by kernel_rfl) ?_
  intro w0 mine D C L hD hC hL
  obtain ⟨M, hM⟩ : ∃ M : Nat → Int, ∀ k, M k = valM B i (headB (B i) d) k := ⟨_, fun _ => rfl⟩
  obtain ⟨I, hI⟩ : ∃ I : Nat → Int, ∀ k, I k = (k : Int) + 1 := ⟨_, fun _ => rfl⟩
  have hI0 : I 0 = 1 := by rw [hI]; rfl
  have hM0 : M 0 = headB (B i) d := by rw [hM]; rfl
  have hMs : ∀ k, M (k + 1) = M k * 64 + B (i + (k + 1)) - 128 := fun k => by rw [hM, hM]; rfl
  have hb0 := hB i (by omega)
  have hdv : d = 1 ∧ headB (B i) d = B i ∨ d = 2 ∧ headB (B i) d = B i % 32 ∨ d = 3 ∧ headB (B i) d = B i % 16 ∨ d = 4 ∧ headB (B i) d = B i % 8 := by
    rcases hd with rfl | rfl | rfl | rfl
    · exact .inl ⟨rfl, rfl⟩
    · exact .inr (.inl ⟨rfl, rfl⟩)
    · exact .inr (.inr (.inl ⟨rfl, rfl⟩))
    · exact .inr (.inr (.inr ⟨rfl, rfl⟩))
  have hnth : (d = 1 → ([0, 0, 32, 16, 8] : List Int).getD d 0 = 0) ∧ (d = 2 → ([0, 0, 32, 16, 8] : List Int).getD d 0 = 32) ∧ (d = 3 → ([0, 0, 32, 16, 8] : List Int).getD d 0 = 16) ∧ (d = 4 → ([0, 0, 32, 16, 8] : List Int).getD d 0 = 8) := by
    refine ⟨?_, ?_, ?_, ?_⟩ <;> (intro h; subst h; rfl)
  have hrem : ∀ x : Int, 0 ≤ x → ∀ y, x.tmod y = x % y := fun x h y => Int.tmod_eq_emod_of_nonneg h
  -- the loop, from either side
  have hbd : ∀ k, k < 4 → (∀ j, 1 ≤ j → j ≤ k → 128 ≤ B (i + j) ∧ B (i + j) ≤ 191) → 0 ≤ M k ∧ M k ≤ 67108863 := by
    intro k hk hc
    have c1 := fun h : 1 ≤ k => hc 1 (by omega) h
    have c2 := fun h : 2 ≤ k => hc 2 (by omega) h
    have c3 := fun h : 3 ≤ k => hc 3 (by omega) h
    have m0 : 0 ≤ M 0 ∧ M 0 ≤ 255 := by rw [hM0]; omega
    have m1 := hMs 0
    have m2 := hMs 1
    have m3 := hMs 2
    simp only [Nat.zero_add, Nat.reduceAdd] at m1 m2 m3
    obtain rfl | rfl | rfl | rfl : k = 0 ∨ k = 1 ∨ k = 2 ∨ k = 3 := by omega
    all_goals simp at c1 c2 c3
    all_goals omega
  ((try (conv => cbv)); repeat' (first | (with_reducible refine mK hD ?_; kernel_rfl) | (with_reducible refine mS hD ?_; try (conv => cbv)) | (with_reducible refine mT hD ?_; try (conv => cbv)) | (with_reducible refine mF hD ?_; try (conv => cbv)) | (with_reducible refine mB hD (fun _ => ?_) (fun _ => ?_) <;> try (conv => cbv)) | (with_reducible exact True.intro) | (with_reducible refine And.intro ?_ ?_)))
  all_goals try (first | exact trivial | assumption | rfl | exact DEq.rfl' _ | ((subst hD; (try simp only [nc] at *); (try simp only [Int.ofNat_eq_natCast] at *); (try simp (disch := omega) only [std, wrap64, Int.toNat_natCast, Nat.succ_eq_add_one, Int.natCast_add, Int.natCast_one, decide_eq_true_eq, decide_eq_false_iff_not, Int.not_lt, Int.not_le, Nat.not_lt, Nat.not_le, beq_iff_eq, beq_eq_false_iff_ne, Bool.not_eq_true', Bool.not_eq_false', ne_eq] at *)) <;> first | omega | exact int_eq (by omega) | assumption | rfl | exact DEq.rfl' _))
  all_goals refine loop_nat hL 3 (fun k => [(7, VI (M k)), (8, VI (I k))]) (fun k => []) (fun k => k + 1 ≤ d ∧ ∀ j, 1 ≤ j → j ≤ k → 128 ≤ B (i + j) ∧ B (i + j) ≤ 191) ⟨by omega, fun j h1 h2 => by omega⟩ ?_ ?_
  · ((try (conv => cbv)); repeat' (first | (with_reducible refine mK hD ?_; kernel_rfl) | (with_reducible refine mS hD ?_; try (conv => cbv)) | (with_reducible refine mT hD ?_; try (conv => cbv)) | (with_reducible refine mF hD ?_; try (conv => cbv)) | (with_reducible refine mB hD (fun _ => ?_) (fun _ => ?_) <;> try (conv => cbv)) | (with_reducible exact True.intro) | (with_reducible refine And.intro ?_ ?_)))
    all_goals try (first | exact trivial | assumption | rfl | exact DEq.rfl' _ | ((subst hD; (try simp only [nc] at *); (try simp only [Int.ofNat_eq_natCast] at *); (try simp (disch := omega) only [std, wrap64, Int.toNat_natCast, Nat.succ_eq_add_one, Int.natCast_add, Int.natCast_one, decide_eq_true_eq, decide_eq_false_iff_not, Int.not_lt, Int.not_le, Nat.not_lt, Nat.not_le, beq_iff_eq, beq_eq_false_iff_ne, Bool.not_eq_true', Bool.not_eq_false', ne_eq, hI, hrem] at *)) <;> first | omega | exact int_eq (by omega) | assumption | rfl | exact DEq.rfl' _))
    (subst hD; (try simp only [nc] at *); (try simp only [Int.ofNat_eq_natCast] at *); (try simp (disch := omega) only [std, wrap64, Int.toNat_natCast, Nat.succ_eq_add_one, Int.natCast_add, Int.natCast_one, decide_eq_true_eq, decide_eq_false_iff_not, Int.not_lt, Int.not_le, Nat.not_lt, Nat.not_le, beq_iff_eq, beq_eq_false_iff_ne, Bool.not_eq_true', Bool.not_eq_false', ne_eq, hI, hrem] at *))
    refine int_eq ?_
    have e : B i % ([0, 0, 32, 16, 8] : List Int).getD d 0 = M 0 := by
      rw [hM0]
      rcases hdv with h | h | h | h
      · omega
      · rw [hnth.2.1 h.1, h.2]
      · rw [hnth.2.2.1 h.1, h.2]
      · rw [hnth.2.2.2 h.1, h.2]
    rw [← e]
  · intro k hk
    have hM1 := hbd k (by omega) hk.2.2
    have hMs1 := hMs k
    have ei : (((i : Int) + ((k : Int) + 1)).toNat) = i + (k + 1) := by omega
    have hbk := fun h : i + (k + 1) < n => hB (i + (k + 1)) h
    ((try (conv => cbv)); repeat' (first | (with_reducible refine mK hD ?_; kernel_rfl) | (with_reducible refine mS hD ?_; try (conv => cbv)) | (with_reducible refine mT hD ?_; try (conv => cbv)) | (with_reducible refine mF hD ?_; try (conv => cbv)) | (with_reducible refine mB hD (fun _ => ?_) (fun _ => ?_) <;> try (conv => cbv)) | (with_reducible exact True.intro) | (with_reducible refine And.intro ?_ ?_)))
    all_goals try (first | exact trivial | assumption | rfl | exact DEq.rfl' _ | ((subst hD; (try simp only [nc] at *); (try simp only [Int.ofNat_eq_natCast] at *); (try simp (disch := omega) only [std, wrap64, Int.toNat_natCast, Nat.succ_eq_add_one, Int.natCast_add, Int.natCast_one, decide_eq_true_eq, decide_eq_false_iff_not, Int.not_lt, Int.not_le, Nat.not_lt, Nat.not_le, beq_iff_eq, beq_eq_false_iff_ne, Bool.not_eq_true', Bool.not_eq_false', ne_eq, hI, ei] at *)) <;> first | omega | exact int_eq (by omega) | assumption | rfl | exact DEq.rfl' _))
    iterate 2
      · (subst hD; (try simp only [nc] at *); (try simp only [Int.ofNat_eq_natCast] at *); (try simp (disch := omega) only [std, wrap64, Int.toNat_natCast, Nat.succ_eq_add_one, Int.natCast_add, Int.natCast_one, decide_eq_true_eq, decide_eq_false_iff_not, Int.not_lt, Int.not_le, Nat.not_lt, Nat.not_le, beq_iff_eq, beq_eq_false_iff_ne, Bool.not_eq_true', Bool.not_eq_false', ne_eq, hI, ei] at *))
        refine int_eq (hr2 fun hc => ?_).symm
        have := hc (k + 1) (by omega) (by omega)
        omega
    · have hk1 : k + 1 < d ∧ 128 ≤ B (i + (k + 1)) ∧ B (i + (k + 1)) ≤ 191 := by
        (subst hD; (try simp only [nc] at *); (try simp only [Int.ofNat_eq_natCast] at *); (try simp (disch := omega) only [std, wrap64, Int.toNat_natCast, Nat.succ_eq_add_one, Int.natCast_add, Int.natCast_one, decide_eq_true_eq, decide_eq_false_iff_not, Int.not_lt, Int.not_le, Nat.not_lt, Nat.not_le, beq_iff_eq, beq_eq_false_iff_ne, Bool.not_eq_true', Bool.not_eq_false', ne_eq, hI, ei] at *))
        omega
      have hM2 := hbd (k + 1) (by omega) (fun j h1 h2 => by
        rcases Nat.lt_or_ge k j with h3 | h3
        · rw [show j = k + 1 by omega]; exact hk1.2
        · exact hk.2.2 j h1 h3)
      refine ⟨k + 1, ⟨by omega, by omega, fun j h1 h2 => ?_⟩, ssem_of ?_, ?_⟩
      · rcases Nat.lt_or_ge k j with h3 | h3
        · rw [show j = k + 1 by omega]; exact hk1.2
        · exact hk.2.2 j h1 h3
      · ((try (conv => cbv)); repeat' (first | (with_reducible refine mK hD ?_; kernel_rfl) | (with_reducible refine mS hD ?_; try (conv => cbv)) | (with_reducible refine mT hD ?_; try (conv => cbv)) | (with_reducible refine mF hD ?_; try (conv => cbv)) | (with_reducible refine mB hD (fun _ => ?_) (fun _ => ?_) <;> try (conv => cbv)) | (with_reducible exact True.intro) | (with_reducible refine And.intro ?_ ?_)))
        all_goals try (first | exact trivial | assumption | rfl | exact DEq.rfl' _ | ((subst hD; (try simp only [nc] at *); (try simp only [Int.ofNat_eq_natCast] at *); (try simp (disch := omega) only [std, wrap64, Int.toNat_natCast, Nat.succ_eq_add_one, Int.natCast_add, Int.natCast_one, decide_eq_true_eq, decide_eq_false_iff_not, Int.not_lt, Int.not_le, Nat.not_lt, Nat.not_le, beq_iff_eq, beq_eq_false_iff_ne, Bool.not_eq_true', Bool.not_eq_false', ne_eq, hI, ei] at *)) <;> first | omega | exact int_eq (by omega) | assumption | rfl | exact DEq.rfl' _))
      · omega
    · have hk1 : k + 1 = d := by
        (subst hD; (try simp only [nc] at *); (try simp only [Int.ofNat_eq_natCast] at *); (try simp (disch := omega) only [std, wrap64, Int.toNat_natCast, Nat.succ_eq_add_one, Int.natCast_add, Int.natCast_one, decide_eq_true_eq, decide_eq_false_iff_not, Int.not_lt, Int.not_le, Nat.not_lt, Nat.not_le, beq_iff_eq, beq_eq_false_iff_ne, Bool.not_eq_true', Bool.not_eq_false', ne_eq, hI, ei] at *))
        omega
      have hc : ContB B i d := fun j h1 h2 => hk.2.2 j h1 (by omega)
      refine int_eq ?_
      rw [hr1 hc, hM, ← hk1]
      rfl
  · ((try (conv => cbv)); repeat' (first | (with_reducible refine mK hD ?_; kernel_rfl) | (with_reducible refine mS hD ?_; try (conv => cbv)) | (with_reducible refine mT hD ?_; try (conv => cbv)) | (with_reducible refine mF hD ?_; try (conv => cbv)) | (with_reducible refine mB hD (fun _ => ?_) (fun _ => ?_) <;> try (conv => cbv)) | (with_reducible exact True.intro) | (with_reducible refine And.intro ?_ ?_)))
    all_goals try (first | exact trivial | assumption | rfl | exact DEq.rfl' _ | ((subst hD; (try simp only [nc] at *); (try simp only [Int.ofNat_eq_natCast] at *); (try simp (disch := omega) only [std, wrap64, Int.toNat_natCast, Nat.succ_eq_add_one, Int.natCast_add, Int.natCast_one, decide_eq_true_eq, decide_eq_false_iff_not, Int.not_lt, Int.not_le, Nat.not_lt, Nat.not_le, beq_iff_eq, beq_eq_false_iff_ne, Bool.not_eq_true', Bool.not_eq_false', ne_eq, hI] at *)) <;> first | omega | exact int_eq (by omega) | assumption | rfl | exact DEq.rfl' _))
  · intro k hk
    have hM1 := hbd k (by omega) hk.2.2
    have hMs1 := hMs k
    have ei : (((i : Int) + ((k : Int) + 1)).toNat) = i + (k + 1) := by omega
    have hbk := fun h : i + (k + 1) < n => hB (i + (k + 1)) h
    ((try (conv => cbv)); repeat' (first | (with_reducible refine mK hD ?_; kernel_rfl) | (with_reducible refine mS hD ?_; try (conv => cbv)) | (with_reducible refine mT hD ?_; try (conv => cbv)) | (with_reducible refine mF hD ?_; try (conv => cbv)) | (with_reducible refine mB hD (fun _ => ?_) (fun _ => ?_) <;> try (conv => cbv)) | (with_reducible exact True.intro) | (with_reducible refine And.intro ?_ ?_)))
    all_goals try (first | exact trivial | assumption | rfl | exact DEq.rfl' _ | ((subst hD; (try simp only [nc] at *); (try simp only [Int.ofNat_eq_natCast] at *); (try simp (disch := omega) only [std, wrap64, Int.toNat_natCast, Nat.succ_eq_add_one, Int.natCast_add, Int.natCast_one, decide_eq_true_eq, decide_eq_false_iff_not, Int.not_lt, Int.not_le, Nat.not_lt, Nat.not_le, beq_iff_eq, beq_eq_false_iff_ne, Bool.not_eq_true', Bool.not_eq_false', ne_eq, hI, ei] at *)) <;> first | omega | exact int_eq (by omega) | assumption | rfl | exact DEq.rfl' _))
    · have hk1 : k + 1 = d := by
        (subst hD; (try simp only [nc] at *); (try simp only [Int.ofNat_eq_natCast] at *); (try simp (disch := omega) only [std, wrap64, Int.toNat_natCast, Nat.succ_eq_add_one, Int.natCast_add, Int.natCast_one, decide_eq_true_eq, decide_eq_false_iff_not, Int.not_lt, Int.not_le, Nat.not_lt, Nat.not_le, beq_iff_eq, beq_eq_false_iff_ne, Bool.not_eq_true', Bool.not_eq_false', ne_eq, hI, ei] at *))
        omega
      have hc : ContB B i d := fun j h1 h2 => hk.2.2 j h1 (by omega)
      refine int_eq ?_
      rw [hr1 hc, hM, ← hk1]
      rfl
end Go.AW
/- A rune out of bytes, in plain words; the model's decoder is the same. -/
set_option linter.unusedVariables false
set_option linter.unusedSimpArgs false
namespace Go.AW
set_option maxRecDepth 100000
/-- A byte that goes on. -/
def CB (B : Nat → Int) (j : Nat) : Prop := 128 ≤ B j ∧ B j ≤ 191
def v2 (B : Nat → Int) (i : Nat) : Int := (B i - 192) * 64 + (B (i + 1) - 128)
def v3 (B : Nat → Int) (i : Nat) : Int := (B i - 224) * 4096 + (B (i + 1) - 128) * 64 + (B (i + 2) - 128)
def v4 (B : Nat → Int) (i : Nat) : Int := (B i - 240) * 262144 + (B (i + 1) - 128) * 4096 + (B (i + 2) - 128) * 64 + (B (i + 3) - 128)
/-- The rune at a place and how many bytes it takes, told as cases. -/
inductive RuneB (B : Nat → Int) (n i : Nat) : Int → Nat → Prop where
  | r1 (h : B i < 128) : RuneB B n i (B i) 1
  | r2 (h : 192 ≤ B i ∧ B i < 224) (hn : i + 1 < n) (h1 : CB B (i + 1)) (hm : 128 ≤ v2 B i) : RuneB B n i (v2 B i) 2
  | r3 (h : 224 ≤ B i ∧ B i < 240) (hn : i + 2 < n) (h1 : CB B (i + 1)) (h2 : CB B (i + 2)) (hm : 2048 ≤ v3 B i) (hv : v3 B i < 55296 ∨ 57343 < v3 B i) : RuneB B n i (v3 B i) 3
  | r4 (h : 240 ≤ B i ∧ B i < 248) (hn : i + 3 < n) (h1 : CB B (i + 1)) (h2 : CB B (i + 2)) (h3 : CB B (i + 3)) (hm : 65536 ≤ v4 B i) (hv : v4 B i ≤ 1114111) : RuneB B n i (v4 B i) 4
  | no (h1 : 128 ≤ B i) (h2 : 192 ≤ B i → B i < 224 → i + 1 < n → CB B (i + 1) → v2 B i < 128)
      (h3 : 224 ≤ B i → B i < 240 → i + 2 < n → CB B (i + 1) → CB B (i + 2) → 2048 ≤ v3 B i → 55296 ≤ v3 B i ∧ v3 B i ≤ 57343)
      (h4 : 240 ≤ B i → B i < 248 → i + 3 < n → CB B (i + 1) → CB B (i + 2) → CB B (i + 3) → 65536 ≤ v4 B i → 1114111 < v4 B i) : RuneB B n i 65533 1
theorem RuneB.uniq {B : Nat → Int} {n i : Nat} {r r' : Int} {d d' : Nat} (h : RuneB B n i r d) (h' : RuneB B n i r' d') : r = r' ∧ d = d' := by
  cases h <;> cases h' <;> first | exact ⟨rfl, rfl⟩ | (exfalso; unfold CB at *; omega) | (exfalso; simp_all; unfold CB at *; omega)
theorem RuneB.width {B : Nat → Int} {n i : Nat} {r : Int} {d : Nat} (hi : i < n) (h : RuneB B n i r d) : 1 ≤ d ∧ d ≤ 4 ∧ i + d ≤ n := by
  cases h <;> omega
theorem RuneB.range {B : Nat → Int} {n i : Nat} {r : Int} {d : Nat} (hB : 0 ≤ B i ∧ B i ≤ 255) (h : RuneB B n i r d) : 0 ≤ r ∧ r ≤ 1114111 := by
  cases h <;> first | omega | (unfold CB v2 at *; omega) | (unfold CB v3 at *; omega) | (unfold CB v4 at *; omega)
theorem get_B {l : List UInt8} {n : Nat} {B : Nat → Int} (h : IsB l n B) {j : Nat} (hj : j < n) : (((⟨l.toArray⟩ : ByteArray).get! j).toNat : Int) = B j := by
  have hs : j < l.length := by rw [← h.1]; exact hj
  rw [h.2 j hj]
  show (((l.toArray)[j]!).toNat : Int) = _
  simp [List.getD_eq_getElem?_getD, hs]
theorem decode_as (s : ByteArray) (i : Nat) : ∃ a : Nat → Nat, (∀ k, a k = (s.get! (i + k)).toNat) ∧ Utf8.decode s i =
    if a 0 < 128 then (a 0, 1)
    else if a 0 / 32 == 6 && (i + 1 < s.size && a 1 / 64 == 2) then if (a 0 % 32) * 64 + a 1 % 64 ≥ 128 then ((a 0 % 32) * 64 + a 1 % 64, 2) else (65533, 1)
    else if a 0 / 16 == 14 && (i + 1 < s.size && a 1 / 64 == 2) && (i + 2 < s.size && a 2 / 64 == 2) then
      if (a 0 % 16) * 4096 + (a 1 % 64) * 64 + a 2 % 64 ≥ 2048 && Utf8.valid ((a 0 % 16) * 4096 + (a 1 % 64) * 64 + a 2 % 64 : Nat) then ((a 0 % 16) * 4096 + (a 1 % 64) * 64 + a 2 % 64, 3) else (65533, 1)
    else if a 0 / 8 == 30 && (i + 1 < s.size && a 1 / 64 == 2) && (i + 2 < s.size && a 2 / 64 == 2) && (i + 3 < s.size && a 3 / 64 == 2) then
      if (a 0 % 8) * 262144 + (a 1 % 64) * 4096 + (a 2 % 64) * 64 + a 3 % 64 ≥ 65536 && Utf8.valid ((a 0 % 8) * 262144 + (a 1 % 64) * 4096 + (a 2 % 64) * 64 + a 3 % 64 : Nat) then ((a 0 % 8) * 262144 + (a 1 % 64) * 4096 + (a 2 % 64) * 64 + a 3 % 64, 4) else (65533, 1)
    else (65533, 1) := ⟨fun k => (s.get! (i + k)).toNat, fun _ => rfl, rfl⟩
theorem decode_B {l : List UInt8} {n : Nat} {B : Nat → Int} (h : IsB l n B) {i : Nat} (hi : i < n) : RuneB B n i ((Utf8.decode ⟨l.toArray⟩ i).1 : Nat) (Utf8.decode ⟨l.toArray⟩ i).2 := by
  have hsz : (⟨l.toArray⟩ : ByteArray).size = n := by rw [h.1]; simp [ByteArray.size]
  obtain ⟨a, ha, hd⟩ := decode_as ⟨l.toArray⟩ i
  have gk : ∀ k, i + k < n → (a k : Int) = B (i + k) := fun k hk => by rw [ha]; exact get_B h hk
  have g0 : (a 0 : Int) = B i := gk 0 hi
  have g1 := gk 1
  have g2 := gk 2
  have g3 := gk 3
  have k1 : i + 1 < n → 0 ≤ B (i + 1) ∧ B (i + 1) ≤ 255 := fun hj => h.range _ hj
  have k2 : i + 2 < n → 0 ≤ B (i + 2) ∧ B (i + 2) ≤ 255 := fun hj => h.range _ hj
  have k3 : i + 3 < n → 0 ≤ B (i + 3) ∧ B (i + 3) ≤ 255 := fun hj => h.range _ hj
  have k0 := h.range i hi
  rw [hd, hsz]
  clear hd ha gk
  generalize a 0 = x0 at *
  generalize a 1 = x1 at *
  generalize a 2 = x2 at *
  generalize a 3 = x3 at *
  simp only [Utf8.runeError, valid_eq, validR, Bool.and_eq_true, Bool.not_eq_true', beq_iff_eq, decide_eq_true_eq, Bool.and_eq_false_iff, decide_eq_false_iff_not]
  split
  · rw [g0]; exact .r1 (by omega)
  rename_i n0
  split
  · rename_i c
    have e := g1 c.2.1
    have hv : v2 B i = ((x0 % 32 * 64 + x1 % 64 : Nat) : Int) := by unfold v2; omega
    split
    · rw [← hv]; exact .r2 (by omega) c.2.1 (by unfold CB; omega) (by omega)
    · refine .no (by omega) (fun _ _ _ _ => by omega) (fun _ _ => by omega) (fun _ _ => by omega)
  rename_i n1
  split
  · rename_i c
    have e1 := g1 (by omega)
    have e2 := g2 c.2.1
    have hv : v3 B i = ((x0 % 16 * 4096 + x1 % 64 * 64 + x2 % 64 : Nat) : Int) := by unfold v3; omega
    split
    · rw [← hv]; exact .r3 (by omega) c.2.1 (by unfold CB; omega) (by unfold CB; omega) (by omega) (by omega)
    · refine .no (by omega) (fun _ _ => by omega) (fun _ _ _ _ _ _ => by omega) (fun _ _ => by omega)
  rename_i n2
  split
  · rename_i c
    have e1 := g1 (by omega)
    have e2 := g2 (by omega)
    have e3 := g3 c.2.1
    have hv : v4 B i = ((x0 % 8 * 262144 + x1 % 64 * 4096 + x2 % 64 * 64 + x3 % 64 : Nat) : Int) := by unfold v4; omega
    split
    · rw [← hv]; exact .r4 (by omega) c.2.1 (by unfold CB; omega) (by unfold CB; omega) (by unfold CB; omega) (by omega) (by omega)
    · refine .no (by omega) (fun _ _ => by omega) (fun _ _ => by omega) (fun _ _ _ _ _ _ _ => by omega)
  rename_i n3
  refine .no (by omega) (fun a b c d => ?_) (fun a b c d e => ?_) (fun a b c d e f => ?_)
  · have := g1 c; unfold CB at d; omega
  · have := g1 (by omega); have := g2 c; unfold CB at d e; omega
  · have := g1 (by omega); have := g2 (by omega); have := g3 c; unfold CB at d e f; omega
end Go.AW
/- A rune out of bytes: spec.l1Rune. -/
set_option linter.unusedVariables false
set_option linter.unusedSimpArgs false
namespace Go.AW
open Go.Proofs
set_option maxRecDepth 100000
theorem needB_cases (b : Int) (hb : 0 ≤ b ∧ b ≤ 255) : (needB b = 0 ∧ (128 ≤ b ∧ b < 192 ∨ 248 ≤ b)) ∨ (needB b = 1 ∧ b < 128) ∨ (needB b = 2 ∧ 192 ≤ b ∧ b < 224) ∨ (needB b = 3 ∧ 224 ≤ b ∧ b < 240) ∨ (needB b = 4 ∧ 240 ≤ b ∧ b < 248) := by
  unfold needB
  omega
theorem valM_0 (B : Nat → Int) (i : Nat) (m : Int) : valM B i m 0 = m := rfl
def VC (B : Nat → Int) (i e : Nat) (v : Int) : Prop := (e = 1 ∧ v = B i) ∨ (e = 2 ∧ (CB B (i + 1) ∧ v = v2 B i ∨ ¬ CB B (i + 1) ∧ v = -1)) ∨ (e = 3 ∧ (CB B (i + 1) ∧ CB B (i + 2) ∧ v = v3 B i ∨ ¬ (CB B (i + 1) ∧ CB B (i + 2)) ∧ v = -1)) ∨
    (e = 4 ∧ (CB B (i + 1) ∧ CB B (i + 2) ∧ CB B (i + 3) ∧ v = v4 B i ∨ ¬ (CB B (i + 1) ∧ CB B (i + 2) ∧ CB B (i + 3)) ∧ v = -1))
theorem val_cases (B : Nat → Int) (i e : Nat) (v : Int) (h1 : ContB B i e → v = valM B i (headB (B i) e) (e - 1)) (h2 : ¬ ContB B i e → v = -1)
    (he : e = 1 ∧ 0 ≤ B i ∧ B i < 128 ∨ e = 2 ∧ 192 ≤ B i ∧ B i < 224 ∨ e = 3 ∧ 224 ≤ B i ∧ B i < 240 ∨ e = 4 ∧ 240 ≤ B i ∧ B i < 248) :
    VC B i e v := by
  unfold VC
  rcases he with ⟨rfl, he⟩ | ⟨rfl, he⟩ | ⟨rfl, he⟩ | ⟨rfl, he⟩
  · refine .inl ⟨rfl, ?_⟩
    exact h1 fun k a b => by omega
  · refine .inr (.inl ⟨rfl, ?_⟩)
    by_cases c : CB B (i + 1)
    · refine .inl ⟨c, ?_⟩
      rw [h1 fun k a b => by rw [show k = 1 by omega]; exact c]
      simp only [valM, headB, v2]; simp only [Nat.reduceSub, Nat.reduceAdd, valM]; omega
    · exact .inr ⟨c, h2 fun h => c (h 1 (by omega) (by omega))⟩
  · refine .inr (.inr (.inl ⟨rfl, ?_⟩))
    by_cases c : CB B (i + 1) ∧ CB B (i + 2)
    · refine .inl ⟨c.1, c.2, ?_⟩
      rw [h1 fun k a b => by obtain rfl | rfl : k = 1 ∨ k = 2 := by omega
                             · exact c.1
                             · exact c.2]
      simp only [valM, headB, v3]; simp only [Nat.reduceSub, Nat.reduceAdd, valM]; omega
    · exact .inr ⟨c, h2 fun h => c ⟨h 1 (by omega) (by omega), h 2 (by omega) (by omega)⟩⟩
  · refine .inr (.inr (.inr ⟨rfl, ?_⟩))
    by_cases c : CB B (i + 1) ∧ CB B (i + 2) ∧ CB B (i + 3)
    · refine .inl ⟨c.1, c.2.1, c.2.2, ?_⟩
      rw [h1 fun k a b => by obtain rfl | rfl | rfl : k = 1 ∨ k = 2 ∨ k = 3 := by omega
                             · exact c.1
                             · exact c.2.1
                             · exact c.2.2]
      simp only [valM, headB, v4]; simp only [Nat.reduceSub, Nat.reduceAdd, valM]; omega
    · exact .inr ⟨c, h2 fun h => c ⟨h 1 (by omega) (by omega), h 2 (by omega) (by omega), h 3 (by omega) (by omega)⟩⟩
abbrev HE (B : Nat → Int) (i e : Nat) : Prop := e = 1 ∧ 0 ≤ B i ∧ B i < 128 ∨ e = 2 ∧ 192 ≤ B i ∧ B i < 224 ∨ e = 3 ∧ 224 ≤ B i ∧ B i < 240 ∨ e = 4 ∧ 240 ≤ B i ∧ B i < 248
theorem valid_iff (v : Int) : validR v = true ↔ 0 ≤ v ∧ v ≤ 1114111 ∧ (v < 55296 ∨ 57343 < v) := by
  unfold validR; simp; omega
theorem rune_bad {B : Nat → Int} {n i e : Nat} {v : Int} (hv : VC B i e v) (he : HE B i e) (hb : validR v = false) : RuneB B n i 65533 1 := by
  have hb' : ¬ (0 ≤ v ∧ v ≤ 1114111 ∧ (v < 55296 ∨ 57343 < v)) := fun h => by rw [(valid_iff v).mpr h] at hb; cases hb
  rcases hv with ⟨rfl, hv⟩ | ⟨rfl, hv⟩ | ⟨rfl, hv⟩ | ⟨rfl, hv⟩
  · omega
  · refine .no (by omega) (fun a b c d => ?_) (fun a b => by omega) (fun a b => by omega)
    rcases hv with hv | hv
    · exfalso; unfold CB v2 at *; omega
    · exact absurd d hv.1
  · refine .no (by omega) (fun a b => by omega) (fun a b c d e f => ?_) (fun a b => by omega)
    rcases hv with hv | hv
    · unfold CB v3 at *; omega
    · exact absurd ⟨d, e⟩ hv.1
  · refine .no (by omega) (fun a b => by omega) (fun a b => by omega) (fun a b c d e f g => ?_)
    rcases hv with hv | hv
    · unfold CB v4 at *; omega
    · exact absurd ⟨d, e, f⟩ hv.1
abbrev rowL (B : Nat → Int) (i e : Nat) : List UInt8 := (List.range e).map fun j => b8 (B (i + j))
theorem rune_same {B : Nat → Int} {n i e : Nat} {v : Int} (hn : i + e ≤ n) (hv : VC B i e v) (he : HE B i e) (hb : validR v = true) : (enc v = rowL B i e ∧ RuneB B n i v e) ∨ (enc v ≠ rowL B i e ∧ RuneB B n i 65533 1) := by
  have hb' := (valid_iff v).mp hb
  rcases hv with ⟨rfl, hv⟩ | ⟨rfl, hv⟩ | ⟨rfl, hv⟩ | ⟨rfl, hv⟩
  · refine .inl ⟨?_, ?_⟩
    · rw [enc_1 (by omega), hv]; rfl
    · rw [hv]; exact .r1 (by omega)
  · rcases hv with hv | hv
    · rcases Int.lt_or_le v 128 with h | h
      · refine .inr ⟨fun h1 => ?_, .no (by omega) (fun a b c d => by omega) (fun a b => by omega) (fun a b => by omega)⟩
        have := congrArg List.length h1
        rw [enc_1 (by omega)] at this
        simp at this
      · refine .inl ⟨?_, ?_⟩
        · have e1 : 192 + v / 64 = B i ∧ 128 + v % 64 = B (i + 1) := by unfold CB v2 at *; omega
          rw [enc_2 (by unfold CB v2 at *; omega), e1.1, e1.2]; rfl
        · rw [hv.2]; exact .r2 (by omega) (by omega) hv.1 (by omega)
    · omega
  · rcases hv with hv | hv
    · rcases Int.lt_or_le v 2048 with h | h
      · refine .inr ⟨fun h1 => ?_, .no (by omega) (fun a b c d => by omega) (fun a b c d e f => by omega) (fun a b => by omega)⟩
        have := congrArg List.length h1
        rcases Int.lt_or_le v 128 with h2 | h2
        · rw [enc_1 (by omega)] at this
          simp at this
        · rw [enc_2 (by omega)] at this
          simp at this
      · refine .inl ⟨?_, ?_⟩
        · have e1 : 224 + v / 4096 = B i ∧ 128 + v / 64 % 64 = B (i + 1) ∧ 128 + v % 64 = B (i + 2) := by unfold CB v3 at *; omega
          rw [enc_3 hb (by unfold CB v3 at *; omega), e1.1, e1.2.1, e1.2.2]; rfl
        · rw [hv.2.2]; exact .r3 (by omega) (by omega) hv.1 hv.2.1 (by omega) (by omega)
    · omega
  · rcases hv with hv | hv
    · rcases Int.lt_or_le v 65536 with h | h
      · refine .inr ⟨fun h1 => ?_, .no (by omega) (fun a b c d => by omega) (fun a b c d e f => by omega) (fun a b c d e f g => by omega)⟩
        have := congrArg List.length h1
        rcases Int.lt_or_le v 128 with h2 | h2
        · rw [enc_1 (by omega)] at this
          simp at this
        rcases Int.lt_or_le v 2048 with h3 | h3
        · rw [enc_2 (by omega)] at this
          simp at this
        · rw [enc_3 hb (by omega)] at this
          simp at this
      · refine .inl ⟨?_, ?_⟩
        · have e1 : 240 + v / 262144 = B i ∧ 128 + v / 4096 % 64 = B (i + 1) ∧ 128 + v / 64 % 64 = B (i + 2) ∧ 128 + v % 64 = B (i + 3) := by unfold CB v4 at *; omega
          rw [enc_4 hb (by omega), e1.1, e1.2.1, e1.2.2.1, e1.2.2.2]; rfl
        · rw [hv.2.2.2]; exact .r4 (by omega) (by omega) hv.1 hv.2.1 hv.2.2.1 (by omega) (by omega)
    · omega
theorem row_str (B : Nat → Int) (i e : Nat) : (std.strF e (fun j => [.s (.int .u8 (B (i + j)))])).data.toList = rowL B i e := by
  simp only [std]
  rfl
theorem neS_row {B : Nat → Int} {i e m : Nat} {v : Int} {s : ByteArray} (hs : s = Utf8.encode v) (hm : m = e) : std.neS s (std.strF m (fun j => [.s (.int .u8 (B (std.addN (std.natI (Int.ofNat i)) j)))])) = !(enc v == rowL B i e) := by
  subst hs hm
  show (!((Utf8.encode v).toList == (std.strF m (fun j => [.s (.int .u8 (B (i + j)))])).toList)) = _
  rw [ByteArray.toList_eq, ByteArray.toList_eq, row_str]
  rfl
theorem span_i {i e : Nat} {q : Int} (h : (e : Int) = q) (hb : i ≤ 1099511627776) (he : e ≤ 4) : std.spanN (Int.ofNat i) (std.addI .i64 (Int.ofNat i) q) = e := by
  subst h
  simp only [std, Int.ofNat_eq_natCast]
  rw [wrap64 _ (by omega)]
  omega
theorem con_l1Rune (n : Nat) (B : Nat → Int) (i : Nat) (r : Int) (d : Nat) (hB : ∀ j, j < n → 0 ≤ B j ∧ B j ≤ 255) (hi : i < n) (hn : n ≤ 1099511627776) (hr : RuneB B n i r d) :
    PRet Try.prog 73 [.r (.c (dI .u8 n B)), AI i] [RI r, RI d] [] := by
  refine pret_of_awp (fn := Try.f73) (c := bodyOf Try.f73) envOk (by kernel_rfl) (by kernel_rfl) (by kernel_rfl) (by kernel_rfl) rfl (by kernel_rfl) (by kernel_rfl) ?_
  intro w0 mine D C L hD hC hL
  obtain ⟨q, hq⟩ := opq (needB (B i))
  have hqc := needB_cases (B i) (hB i hi)
  rw [← hq] at hqc
  ((try (conv => cbv)); repeat' (first | (with_reducible refine mK hD ?_; kernel_rfl) | (with_reducible refine mS hD ?_; try (conv => cbv)) | (with_reducible refine mT hD ?_; try (conv => cbv)) | (with_reducible refine mF hD ?_; try (conv => cbv)) | (with_reducible refine mB hD (fun _ => ?_) (fun _ => ?_) <;> try (conv => cbv)) | (with_reducible exact True.intro) | (with_reducible refine And.intro ?_ ?_)))
  all_goals try (first | exact trivial | assumption | rfl | exact DEq.rfl' _ | ((subst hD; (try simp only [nc] at *); (try simp only [Int.ofNat_eq_natCast] at *); (try simp (disch := omega) only [std, wrap64, Int.toNat_natCast, Nat.succ_eq_add_one, Int.natCast_add, Int.natCast_one, decide_eq_true_eq, decide_eq_false_iff_not, Int.not_lt, Int.not_le, Nat.not_lt, Nat.not_le, beq_iff_eq, beq_eq_false_iff_ne, Bool.not_eq_true', Bool.not_eq_false', ne_eq] at *)) <;> first | omega | exact int_eq (by omega) | assumption | rfl | exact DEq.rfl' _))
  refine call_of hD hC (con_l1Need (B i) q (hB i hi) hq) ?_
  ((try (conv => cbv)); repeat' (first | (with_reducible refine mK hD ?_; kernel_rfl) | (with_reducible refine mS hD ?_; try (conv => cbv)) | (with_reducible refine mT hD ?_; try (conv => cbv)) | (with_reducible refine mF hD ?_; try (conv => cbv)) | (with_reducible refine mB hD (fun _ => ?_) (fun _ => ?_) <;> try (conv => cbv)) | (with_reducible exact True.intro) | (with_reducible refine And.intro ?_ ?_)))
  all_goals try (first | exact trivial | assumption | rfl | exact DEq.rfl' _ | ((subst hD; (try simp only [nc] at *); (try simp only [Int.ofNat_eq_natCast] at *); (try simp (disch := omega) only [std, wrap64, Int.toNat_natCast, Nat.succ_eq_add_one, Int.natCast_add, Int.natCast_one, decide_eq_true_eq, decide_eq_false_iff_not, Int.not_lt, Int.not_le, Nat.not_lt, Nat.not_le, beq_iff_eq, beq_eq_false_iff_ne, Bool.not_eq_true', Bool.not_eq_false', ne_eq] at *)) <;> first | omega | exact int_eq (by omega) | assumption | rfl | exact DEq.rfl' _))
  · have := hr.uniq (.no (by (subst hD; (try simp only [nc] at *); (try simp only [Int.ofNat_eq_natCast] at *); (try simp (disch := omega) only [std, wrap64, Int.toNat_natCast, Nat.succ_eq_add_one, Int.natCast_add, Int.natCast_one, decide_eq_true_eq, decide_eq_false_iff_not, Int.not_lt, Int.not_le, Nat.not_lt, Nat.not_le, beq_iff_eq, beq_eq_false_iff_ne, Bool.not_eq_true', Bool.not_eq_false', ne_eq] at *)); omega) (fun a b => by (subst hD; (try simp only [nc] at *); (try simp only [Int.ofNat_eq_natCast] at *); (try simp (disch := omega) only [std, wrap64, Int.toNat_natCast, Nat.succ_eq_add_one, Int.natCast_add, Int.natCast_one, decide_eq_true_eq, decide_eq_false_iff_not, Int.not_lt, Int.not_le, Nat.not_lt, Nat.not_le, beq_iff_eq, beq_eq_false_iff_ne, Bool.not_eq_true', Bool.not_eq_false', ne_eq] at *)); omega) (fun a b => by (subst hD; (try simp only [nc] at *); (try simp only [Int.ofNat_eq_natCast] at *); (try simp (disch := omega) only [std, wrap64, Int.toNat_natCast, Nat.succ_eq_add_one, Int.natCast_add, Int.natCast_one, decide_eq_true_eq, decide_eq_false_iff_not, Int.not_lt, Int.not_le, Nat.not_lt, Nat.not_le, beq_iff_eq, beq_eq_false_iff_ne, Bool.not_eq_true', Bool.not_eq_false', ne_eq] at *)); omega) (fun a b => by (subst hD; (try simp only [nc] at *); (try simp only [Int.ofNat_eq_natCast] at *); (try simp (disch := omega) only [std, wrap64, Int.toNat_natCast, Nat.succ_eq_add_one, Int.natCast_add, Int.natCast_one, decide_eq_true_eq, decide_eq_false_iff_not, Int.not_lt, Int.not_le, Nat.not_lt, Nat.not_le, beq_iff_eq, beq_eq_false_iff_ne, Bool.not_eq_true', Bool.not_eq_false', ne_eq] at *)); omega))
    exact int_eq this.1.symm
  · have := hr.uniq (.no (by (subst hD; (try simp only [nc] at *); (try simp only [Int.ofNat_eq_natCast] at *); (try simp (disch := omega) only [std, wrap64, Int.toNat_natCast, Nat.succ_eq_add_one, Int.natCast_add, Int.natCast_one, decide_eq_true_eq, decide_eq_false_iff_not, Int.not_lt, Int.not_le, Nat.not_lt, Nat.not_le, beq_iff_eq, beq_eq_false_iff_ne, Bool.not_eq_true', Bool.not_eq_false', ne_eq] at *)); omega) (fun a b => by (subst hD; (try simp only [nc] at *); (try simp only [Int.ofNat_eq_natCast] at *); (try simp (disch := omega) only [std, wrap64, Int.toNat_natCast, Nat.succ_eq_add_one, Int.natCast_add, Int.natCast_one, decide_eq_true_eq, decide_eq_false_iff_not, Int.not_lt, Int.not_le, Nat.not_lt, Nat.not_le, beq_iff_eq, beq_eq_false_iff_ne, Bool.not_eq_true', Bool.not_eq_false', ne_eq] at *)); omega) (fun a b => by (subst hD; (try simp only [nc] at *); (try simp only [Int.ofNat_eq_natCast] at *); (try simp (disch := omega) only [std, wrap64, Int.toNat_natCast, Nat.succ_eq_add_one, Int.natCast_add, Int.natCast_one, decide_eq_true_eq, decide_eq_false_iff_not, Int.not_lt, Int.not_le, Nat.not_lt, Nat.not_le, beq_iff_eq, beq_eq_false_iff_ne, Bool.not_eq_true', Bool.not_eq_false', ne_eq] at *)); omega) (fun a b => by (subst hD; (try simp only [nc] at *); (try simp only [Int.ofNat_eq_natCast] at *); (try simp (disch := omega) only [std, wrap64, Int.toNat_natCast, Nat.succ_eq_add_one, Int.natCast_add, Int.natCast_one, decide_eq_true_eq, decide_eq_false_iff_not, Int.not_lt, Int.not_le, Nat.not_lt, Nat.not_le, beq_iff_eq, beq_eq_false_iff_ne, Bool.not_eq_true', Bool.not_eq_false', ne_eq] at *)); omega))
    rw [this.2]; rfl
  · have := hr.uniq (.no (by (subst hD; (try simp only [nc] at *); (try simp only [Int.ofNat_eq_natCast] at *); (try simp (disch := omega) only [std, wrap64, Int.toNat_natCast, Nat.succ_eq_add_one, Int.natCast_add, Int.natCast_one, decide_eq_true_eq, decide_eq_false_iff_not, Int.not_lt, Int.not_le, Nat.not_lt, Nat.not_le, beq_iff_eq, beq_eq_false_iff_ne, Bool.not_eq_true', Bool.not_eq_false', ne_eq] at *)); omega) (fun a b => by (subst hD; (try simp only [nc] at *); (try simp only [Int.ofNat_eq_natCast] at *); (try simp (disch := omega) only [std, wrap64, Int.toNat_natCast, Nat.succ_eq_add_one, Int.natCast_add, Int.natCast_one, decide_eq_true_eq, decide_eq_false_iff_not, Int.not_lt, Int.not_le, Nat.not_lt, Nat.not_le, beq_iff_eq, beq_eq_false_iff_ne, Bool.not_eq_true', Bool.not_eq_false', ne_eq] at *)); omega) (fun a b => by (subst hD; (try simp only [nc] at *); (try simp only [Int.ofNat_eq_natCast] at *); (try simp (disch := omega) only [std, wrap64, Int.toNat_natCast, Nat.succ_eq_add_one, Int.natCast_add, Int.natCast_one, decide_eq_true_eq, decide_eq_false_iff_not, Int.not_lt, Int.not_le, Nat.not_lt, Nat.not_le, beq_iff_eq, beq_eq_false_iff_ne, Bool.not_eq_true', Bool.not_eq_false', ne_eq] at *)); omega) (fun a b => by (subst hD; (try simp only [nc] at *); (try simp only [Int.ofNat_eq_natCast] at *); (try simp (disch := omega) only [std, wrap64, Int.toNat_natCast, Nat.succ_eq_add_one, Int.natCast_add, Int.natCast_one, decide_eq_true_eq, decide_eq_false_iff_not, Int.not_lt, Int.not_le, Nat.not_lt, Nat.not_le, beq_iff_eq, beq_eq_false_iff_ne, Bool.not_eq_true', Bool.not_eq_false', ne_eq] at *)); omega))
    exact int_eq this.1.symm
  · have := hr.uniq (.no (by (subst hD; (try simp only [nc] at *); (try simp only [Int.ofNat_eq_natCast] at *); (try simp (disch := omega) only [std, wrap64, Int.toNat_natCast, Nat.succ_eq_add_one, Int.natCast_add, Int.natCast_one, decide_eq_true_eq, decide_eq_false_iff_not, Int.not_lt, Int.not_le, Nat.not_lt, Nat.not_le, beq_iff_eq, beq_eq_false_iff_ne, Bool.not_eq_true', Bool.not_eq_false', ne_eq] at *)); omega) (fun a b => by (subst hD; (try simp only [nc] at *); (try simp only [Int.ofNat_eq_natCast] at *); (try simp (disch := omega) only [std, wrap64, Int.toNat_natCast, Nat.succ_eq_add_one, Int.natCast_add, Int.natCast_one, decide_eq_true_eq, decide_eq_false_iff_not, Int.not_lt, Int.not_le, Nat.not_lt, Nat.not_le, beq_iff_eq, beq_eq_false_iff_ne, Bool.not_eq_true', Bool.not_eq_false', ne_eq] at *)); omega) (fun a b => by (subst hD; (try simp only [nc] at *); (try simp only [Int.ofNat_eq_natCast] at *); (try simp (disch := omega) only [std, wrap64, Int.toNat_natCast, Nat.succ_eq_add_one, Int.natCast_add, Int.natCast_one, decide_eq_true_eq, decide_eq_false_iff_not, Int.not_lt, Int.not_le, Nat.not_lt, Nat.not_le, beq_iff_eq, beq_eq_false_iff_ne, Bool.not_eq_true', Bool.not_eq_false', ne_eq] at *)); omega) (fun a b => by (subst hD; (try simp only [nc] at *); (try simp only [Int.ofNat_eq_natCast] at *); (try simp (disch := omega) only [std, wrap64, Int.toNat_natCast, Nat.succ_eq_add_one, Int.natCast_add, Int.natCast_one, decide_eq_true_eq, decide_eq_false_iff_not, Int.not_lt, Int.not_le, Nat.not_lt, Nat.not_le, beq_iff_eq, beq_eq_false_iff_ne, Bool.not_eq_true', Bool.not_eq_false', ne_eq] at *)); omega))
    rw [this.2]; rfl
  obtain ⟨e, he, hie⟩ : ∃ e : Nat, (e : Int) = q ∧ i + e ≤ n := by (subst hD; (try simp only [nc] at *); (try simp only [Int.ofNat_eq_natCast] at *); (try simp (disch := omega) only [std, wrap64, Int.toNat_natCast, Nat.succ_eq_add_one, Int.natCast_add, Int.natCast_one, decide_eq_true_eq, decide_eq_false_iff_not, Int.not_lt, Int.not_le, Nat.not_lt, Nat.not_le, beq_iff_eq, beq_eq_false_iff_ne, Bool.not_eq_true', Bool.not_eq_false', ne_eq] at *)); exact ⟨q.toNat, by omega, by omega⟩
  obtain ⟨v, hv1, hv2⟩ : ∃ v : Int, (ContB B i e → v = valM B i (headB (B i) e) (e - 1)) ∧ (¬ ContB B i e → v = -1) := by
    by_cases c : ContB B i e
    · exact ⟨_, fun _ => rfl, fun h => absurd c h⟩
    · exact ⟨_, fun h => absurd h c, fun _ => rfl⟩
  have hq0 : q ≠ 0 := by (subst hD; (try simp only [nc] at *); (try simp only [Int.ofNat_eq_natCast] at *); (try simp (disch := omega) only [std, wrap64, Int.toNat_natCast, Nat.succ_eq_add_one, Int.natCast_add, Int.natCast_one, decide_eq_true_eq, decide_eq_false_iff_not, Int.not_lt, Int.not_le, Nat.not_lt, Nat.not_le, beq_iff_eq, beq_eq_false_iff_ne, Bool.not_eq_true', Bool.not_eq_false', ne_eq] at *)); omega
  have hbi := hB i hi
  have he4 : e = 1 ∧ 0 ≤ B i ∧ B i < 128 ∨ e = 2 ∧ 192 ≤ B i ∧ B i < 224 ∨ e = 3 ∧ 224 ≤ B i ∧ B i < 240 ∨ e = 4 ∧ 240 ≤ B i ∧ B i < 248 := by omega
  have hvc := val_cases B i e v hv1 hv2 he4
  obtain ⟨b, hb⟩ := opq (validR v)
  obtain ⟨s, hs⟩ := opq (Utf8.encode v)
  refine call_of hD hC (con_l1Value e (by omega) n B i v hB hie hn hv1 hv2) ?_
  ((try (conv => cbv)); repeat' (first | (with_reducible refine mK hD ?_; kernel_rfl) | (with_reducible refine mS hD ?_; try (conv => cbv)) | (with_reducible refine mT hD ?_; try (conv => cbv)) | (with_reducible refine mF hD ?_; try (conv => cbv)) | (with_reducible refine mB hD (fun _ => ?_) (fun _ => ?_) <;> try (conv => cbv)) | (with_reducible exact True.intro) | (with_reducible refine And.intro ?_ ?_)))
  all_goals try (first | exact trivial | assumption | rfl | exact DEq.rfl' _ | ((subst hD; (try simp only [nc] at *); (try simp only [Int.ofNat_eq_natCast] at *); (try simp (disch := omega) only [std, wrap64, Int.toNat_natCast, Nat.succ_eq_add_one, Int.natCast_add, Int.natCast_one, decide_eq_true_eq, decide_eq_false_iff_not, Int.not_lt, Int.not_le, Nat.not_lt, Nat.not_le, beq_iff_eq, beq_eq_false_iff_ne, Bool.not_eq_true', Bool.not_eq_false', ne_eq] at *)) <;> first | omega | exact int_eq (by omega) | assumption | rfl | exact DEq.rfl' _))
  refine call_of hD hC (con_l1Valid v b hb) ?_
  ((try (conv => cbv)); repeat' (first | (with_reducible refine mK hD ?_; kernel_rfl) | (with_reducible refine mS hD ?_; try (conv => cbv)) | (with_reducible refine mT hD ?_; try (conv => cbv)) | (with_reducible refine mF hD ?_; try (conv => cbv)) | (with_reducible refine mB hD (fun _ => ?_) (fun _ => ?_) <;> try (conv => cbv)) | (with_reducible exact True.intro) | (with_reducible refine And.intro ?_ ?_)))
  all_goals try (first | exact trivial | assumption | rfl | exact DEq.rfl' _ | ((subst hD; (try simp only [nc] at *); (try simp only [Int.ofNat_eq_natCast] at *); (try simp (disch := omega) only [std, wrap64, Int.toNat_natCast, Nat.succ_eq_add_one, Int.natCast_add, Int.natCast_one, decide_eq_true_eq, decide_eq_false_iff_not, Int.not_lt, Int.not_le, Nat.not_lt, Nat.not_le, beq_iff_eq, beq_eq_false_iff_ne, Bool.not_eq_true', Bool.not_eq_false', ne_eq] at *)) <;> first | omega | exact int_eq (by omega) | assumption | rfl | exact DEq.rfl' _))
  · subst hD; exact fun _ _ => rfl
  · subst hD; exact fun j _ => ⟨_, rfl⟩
  · refine call_of hD hC (con_l1Utf8 v s (by rw [← hb]; assumption) hs) ?_
    ((try (conv => cbv)); repeat' (first | (with_reducible refine mK hD ?_; kernel_rfl) | (with_reducible refine mS hD ?_; try (conv => cbv)) | (with_reducible refine mT hD ?_; try (conv => cbv)) | (with_reducible refine mF hD ?_; try (conv => cbv)) | (with_reducible refine mB hD (fun _ => ?_) (fun _ => ?_) <;> try (conv => cbv)) | (with_reducible exact True.intro) | (with_reducible refine And.intro ?_ ?_)))
    all_goals try (first | exact trivial | assumption | rfl | exact DEq.rfl' _ | ((subst hD; (try simp only [nc] at *); (try simp only [Int.ofNat_eq_natCast] at *); (try simp (disch := omega) only [std, wrap64, Int.toNat_natCast, Nat.succ_eq_add_one, Int.natCast_add, Int.natCast_one, decide_eq_true_eq, decide_eq_false_iff_not, Int.not_lt, Int.not_le, Nat.not_lt, Nat.not_le, beq_iff_eq, beq_eq_false_iff_ne, Bool.not_eq_true', Bool.not_eq_false', ne_eq] at *)) <;> first | omega | exact int_eq (by omega) | assumption | rfl | exact DEq.rfl' _))
    · subst hD; exact fun _ _ => rfl
    · subst hD; exact fun j _ => ⟨_, rfl⟩
    all_goals (
      rename_i hne
      subst hD
      have hne := (neS_row hs (span_i he (by omega) (by omega))).symm.trans hne
      have hsm := rune_same hie hvc he4 (by rw [← hb]; assumption)
      simp at hne
      first
      | (have h2 := hr.uniq (hsm.resolve_left (fun h => hne h.1)).2
         first | exact int_eq h2.1.symm | (rw [h2.2]; rfl))
      | (have h2 := hr.uniq (hsm.resolve_right (fun h => h.1 hne)).2
         first | exact int_eq h2.1.symm | (rw [h2.2]; exact int_eq he.symm)))
  · have := hr.uniq (rune_bad hvc he4 (by rw [← hb]; assumption))
    exact int_eq this.1.symm
  · have := hr.uniq (rune_bad hvc he4 (by rw [← hb]; assumption))
    rw [this.2]; rfl
end Go.AW
/- Runes appended; the text of clusters. -/
set_option linter.unusedVariables false
set_option linter.unusedSimpArgs false
namespace Go.AW
open Go.Proofs
set_option maxRecDepth 100000
set_option maxHeartbeats 4000000
theorem LR_lit8 {xs : List Int} {n : Nat} {ys : Str} (h : ys.map (fun b => (b.toNat : Int)) = xs) (hn : n = xs.length) : LR (rB std uid) 0 (fun i => [.s (.int .u8 (std.nthI xs i))]) n ys := by
  subst h hn
  refine ⟨by simp, fun i hi => ?_⟩
  have hi' : i < ys.length := by simpa using hi
  refine aLe_1 ?_
  have : std.nthI (ys.map fun b => (b.toNat : Int)) i = std.u8I (ys.getD i 0) := by
    simp [std, List.getD_eq_getElem?_getD, hi']
  rw [this]
theorem LR_lit8' {xs : List Int} {n : Nat} {ys : Str} (h : ys.map (fun b => (b.toNat : Int)) = xs) (hn : n = xs.length) : LR (rB std uid) 0 (fun j => List.map (fun c => c j) [fun i => DV.s (.int .u8 (std.nthI xs i))]) n ys := LR_lit8 h hn
theorem lit2 (r : Int) (h : 128 ≤ r ∧ r < 2048) : [b8 (192 + r / 64), b8 (128 + r % 64)].map (fun b => (b.toNat : Int)) = [std.bitI .or .u8 192 (std.wrapI .u8 (std.shrI .i32 r 6)), std.bitI .or .u8 128 (std.bitI .and .u8 (std.wrapI .u8 r) 63)] := by
  simp only [List.map]
  rw [shr6 _ bits32, ← lead2 _ (by omega), ← tail8]
theorem lit3 (r : Int) (h : 2048 ≤ r ∧ r < 65536) : [b8 (224 + r / 4096), b8 (128 + r / 64 % 64), b8 (128 + r % 64)].map (fun b => (b.toNat : Int)) = [std.bitI .or .u8 224 (std.wrapI .u8 (std.shrI .i32 r 12)), std.bitI .or .u8 128 (std.bitI .and .u8 (std.wrapI .u8 (std.shrI .i32 r 6)) 63), std.bitI .or .u8 128 (std.bitI .and .u8 (std.wrapI .u8 r) 63)] := by
  simp only [List.map]
  rw [shr6 _ bits32, shr12 _ bits32, ← lead3 _ (by omega), ← tail8, ← tail8]
theorem lit4 (r : Int) (h : 65536 ≤ r ∧ r ≤ 1114111) : [b8 (240 + r / 262144), b8 (128 + r / 4096 % 64), b8 (128 + r / 64 % 64), b8 (128 + r % 64)].map (fun b => (b.toNat : Int)) = [std.bitI .or .u8 240 (std.wrapI .u8 (std.shrI .i32 r 18)), std.bitI .or .u8 128 (std.bitI .and .u8 (std.wrapI .u8 (std.shrI .i32 r 12)) 63), std.bitI .or .u8 128 (std.bitI .and .u8 (std.wrapI .u8 (std.shrI .i32 r 6)) 63), std.bitI .or .u8 128 (std.bitI .and .u8 (std.wrapI .u8 r) 63)] := by
  simp only [List.map]
  rw [shr6 _ bits32, shr12 _ bits32, shr18 _ bits32, ← lead4 _ (by omega), ← tail8, ← tail8, ← tail8]
theorem x_appendRuneNonASCII (l : Str) (r : Int) (hr : -2147483648 ≤ r ∧ r ≤ 2147483647) (hr2 : r < 0 ∨ 127 < r) (hn : l.length ≤ 1099511627776) :
    PX Try.prog 107 (fun D u => [.g (.c (lB D u (u _ l))), AK .i32 (u _ r)]) (fun D u => [.c (lB D u (u _ (l ++ enc r)))]) (fun D u => []) := by
  refine px_of_awp (fn := Try.f107) (c := bodyOf Try.f107) envOk (by kernel_rfl) (by kernel_rfl) (by kernel_rfl) (by kernel_rfl) rfl (by kernel_rfl) (by kernel_rfl) ?_
  intro w0 mine D u C L hD hu hC hL
  have h4 := (enc_len r).1
  ((try conv => cbv); (repeat' (first | (with_reducible refine mK hD ?_; kernel_rfl) | (with_reducible first | refine mS hD ?_ | refine mT hD ?_ | refine mF hD ?_ | refine mB hD (fun _ => ?_) (fun _ => ?_) | exact True.intro | refine And.intro ?_ ?_) <;> try conv => cbv)); all_goals try (first | trivial | (subst hD; first | exact fun _ _ => ⟨_, rfl⟩ | exact fl1 | exact fl1') | (((try subst hD hu); (try simp only [nc] at *); (try simp only [Int.ofNat_eq_natCast] at *); try simp (disch := omega) only [std, uid, S0] at *) <;> first | omega | rfl | (exfalso; simp_all only [Bool.true_eq_false, Bool.false_eq_true]; done))))
  all_goals first
    | ( have he : enc r = [b8 (192 + r / 64), b8 (128 + r % 64)] ∧ 128 ≤ r ∧ r < 2048 := by ((try subst hD hu); (try simp only [nc] at *); (try simp only [Int.ofNat_eq_natCast] at *); try simp (disch := omega) only [std, uid, S0, wU32] at *); exact ⟨enc_2 (by omega), by omega, by omega⟩
        subst hD hu
        first
        | (simp only [uid, std, List.length_append, he.1]; rfl)
        | (apply qB
           · first | apply LR.cat | apply LR.cat'
             · exact LR.refl
             · apply LR_lit8' (ys := enc r)
               · rw [he.1]
                 exact lit2 r he.2
               · rfl
           · rfl))
    | ( have he : enc r = [b8 (224 + r / 4096), b8 (128 + r / 64 % 64), b8 (128 + r % 64)] ∧ 2048 ≤ r ∧ r < 65536 := by ((try subst hD hu); (try simp only [nc] at *); (try simp only [Int.ofNat_eq_natCast] at *); try simp (disch := omega) only [std, uid, S0, wU32] at *); exact ⟨enc_3 (validR_of (by omega)) (by omega), by omega, by omega⟩
        subst hD hu
        first
        | (simp only [uid, std, List.length_append, he.1]; rfl)
        | (apply qB
           · first | apply LR.cat | apply LR.cat'
             · exact LR.refl
             · apply LR_lit8' (ys := enc r)
               · rw [he.1]
                 exact lit3 r he.2
               · rfl
           · rfl))
    | ( have he : enc r = [b8 (240 + r / 262144), b8 (128 + r / 4096 % 64), b8 (128 + r / 64 % 64), b8 (128 + r % 64)] ∧ 65536 ≤ r ∧ r ≤ 1114111 := by ((try subst hD hu); (try simp only [nc] at *); (try simp only [Int.ofNat_eq_natCast] at *); try simp (disch := omega) only [std, uid, S0, wU32] at *); exact ⟨enc_4 (validR_of (by omega)) (by omega), by omega, by omega⟩
        subst hD hu
        first
        | (simp only [uid, std, List.length_append, he.1]; rfl)
        | (apply qB
           · first | apply LR.cat | apply LR.cat'
             · exact LR.refl
             · apply LR_lit8' (ys := enc r)
               · rw [he.1]
                 exact lit4 r he.2
               · rfl
           · rfl))
    | ( have he : enc r = [239, 191, 189] := by ((try subst hD hu); (try simp only [nc] at *); (try simp only [Int.ofNat_eq_natCast] at *); try simp (disch := omega) only [std, uid, S0, wU32] at *); exact enc_invalid (validR_not (by omega))
        subst hD hu
        first
        | (simp only [uid, std, List.length_append, he]; rfl)
        | (apply qB
           · first | apply LR.cat | apply LR.cat'
             · exact LR.refl
             · apply LR_lit8' (ys := enc r)
               · rw [he]
                 rfl
               · rfl
           · rfl))
theorem u8_b8 (r : Int) (h : 0 ≤ r ∧ r < 128) : DEq (.s (.int .u8 (std.wrapI .u8 r))) (.s (.int .u8 (std.u8I (b8 r)))) := by
  have : std.u8I (b8 r) = std.wrapI .u8 r := by
    simp only [std]
    rw [b8_toNat _ (by omega), wrapU8 _ (by omega)]
  rw [this]
theorem x_AppendRune (l : Str) (r : Int) (hr : -2147483648 ≤ r ∧ r ≤ 2147483647) (hn : l.length ≤ 1099511627776) :
    PX Try.prog 71 (fun D u => [.g (.c (lB D u (u _ l))), AK .i32 (u _ r)]) (fun D u => [.c (lB D u (u _ (l ++ enc r)))]) (fun D u => []) := by
  refine px_of_awp (fn := Try.f71) (c := bodyOf Try.f71) envOk (by kernel_rfl) (by kernel_rfl) (by kernel_rfl) (by kernel_rfl) rfl (by kernel_rfl) (by kernel_rfl) ?_
  intro w0 mine D u C L hD hu hC hL
  have h4 := (enc_len r).1
  ((try conv => cbv); (repeat' (first | (with_reducible refine mK hD ?_; kernel_rfl) | (with_reducible first | refine mS hD ?_ | refine mT hD ?_ | refine mF hD ?_ | refine mB hD (fun _ => ?_) (fun _ => ?_) | exact True.intro | refine And.intro ?_ ?_) <;> try conv => cbv)); all_goals try (first | trivial | (subst hD; first | exact fun _ _ => ⟨_, rfl⟩ | exact fl1 | exact fl1') | (((try subst hD hu); (try simp only [nc] at *); (try simp only [Int.ofNat_eq_natCast] at *); try simp (disch := omega) only [std, uid, S0] at *) <;> first | omega | rfl | (exfalso; simp_all only [Bool.true_eq_false, Bool.false_eq_true]; done))))
  iterate 2
    have he : enc r = [b8 r] ∧ 0 ≤ r ∧ r < 128 := by ((try subst hD hu); (try simp only [nc] at *); (try simp only [Int.ofNat_eq_natCast] at *); try simp (disch := omega) only [std, uid, S0, wU32] at *); exact ⟨enc_1 (by omega), by omega, by omega⟩
    subst hD hu
    first
    | (simp only [uid, std, List.length_append, he.1]; rfl)
    | (apply qB
       · first | apply LR.cat | apply LR.cat'
         · exact LR.refl
         · exact LR.one (x := b8 r) ⟨u8_b8 r he.2, trivial⟩
       · rw [he.1]; rfl)
  refine callx hD hu hC (x_appendRuneNonASCII l r hr (by ((try subst hD hu); (try simp only [nc] at *); (try simp only [Int.ofNat_eq_natCast] at *); try simp (disch := omega) only [std, uid, S0, wU32] at *); omega) hn) ?_
  ((try conv => cbv); (repeat' (first | (with_reducible refine mK hD ?_; kernel_rfl) | (with_reducible first | refine mS hD ?_ | refine mT hD ?_ | refine mF hD ?_ | refine mB hD (fun _ => ?_) (fun _ => ?_) | exact True.intro | refine And.intro ?_ ?_) <;> try conv => cbv)); all_goals try (first | trivial | (subst hD; first | exact fun _ _ => ⟨_, rfl⟩ | exact fl1 | exact fl1') | (((try subst hD hu); (try simp only [nc] at *); (try simp only [Int.ofNat_eq_natCast] at *); try simp (disch := omega) only [std, uid, S0] at *) <;> first | omega | rfl | (exfalso; simp_all only [Bool.true_eq_false, Bool.false_eq_true]; done))))
def textOf (cs : List Clu) : Str := cs.flatMap fun c => c.runes.flatMap enc
theorem encs_len (l : List Int) : (l.flatMap enc).length ≤ 4 * l.length := by
  induction l with
  | nil => simp
  | cons r l ih =>
    have := (enc_len r).1
    simp only [List.flatMap_cons, List.length_append, List.length_cons]
    omega
theorem textOf_len (cs : List Clu) : (textOf cs).length ≤ 4 * cntL toEClu cs := by
  induction cs with
  | nil => simp [textOf]
  | cons c l ih =>
    have := encs_len c.runes
    simp only [textOf, List.flatMap_cons, List.length_append, cntL, List.map_cons, List.sum_cons, toEClu] at *
    omega
theorem textOf_snoc (cs : List Clu) (k : Nat) (h : k < cs.length) : textOf (cs.take (k + 1)) = textOf (cs.take k) ++ (cs.getD k dClu).runes.flatMap enc := by
  rw [take_snoc cs dClu k h]
  simp [textOf]
theorem encs_snoc (l : List Int) (k : Nat) (h : k < l.length) : (l.take (k + 1)).flatMap enc = (l.take k).flatMap enc ++ enc (l.getD k 0) := by
  rw [take_snoc l 0 k h]
  simp
theorem x_implTextOf (cs : List Clu) (hn : totL toEClu cs ≤ 1000000000) (hc : ∀ c, c ∈ cs → okClu c) : PX Try.prog 16 (fun D u => [.r (.c (lClu D u (u _ cs)))]) (fun D u => [.c (.s (.string (D.strB (u _ (textOf cs)))))]) (fun D u => []) := by
  refine px_of_awp (fn := Try.f16) (c := bodyOf Try.f16) envOk (by kernel_rfl) (by kernel_rfl) (by kernel_rfl) (by kernel_rfl) rfl (by kernel_rfl) (by kernel_rfl) ?_
  intro w0 mine D u C L hD hu hC hL
  simp only [totL] at hn
  ((try conv => cbv); (repeat' (first | (with_reducible refine mK hD ?_; kernel_rfl) | (with_reducible first | refine mS hD ?_ | refine mT hD ?_ | refine mF hD ?_ | refine mB hD (fun _ => ?_) (fun _ => ?_) | exact True.intro | refine And.intro ?_ ?_) <;> try conv => cbv)); all_goals try (first | trivial | (subst hD; first | exact fun _ _ => ⟨_, rfl⟩ | exact fl1 | exact fl1') | (((try subst hD hu); (try simp only [nc] at *); (try simp only [Int.ofNat_eq_natCast] at *); try simp (disch := omega) only [std, uid, S0] at *) <;> first | omega | rfl | (exfalso; simp_all only [Bool.true_eq_false, Bool.false_eq_true]; done))))
  refine loop_st hL cs.length (fun k s => s = textOf (cs.take k)) [] (fun k s => [(3, vO D 0 (u _ s)), (8, .bad), (11, VI (u _ k))]) (fun k s => [(0, oB D u (u _ s))]) rfl ?_ ?_
  · ((try conv => cbv); (repeat' (first | (with_reducible refine mK hD ?_; kernel_rfl) | (with_reducible first | refine mS hD ?_ | refine mT hD ?_ | refine mF hD ?_ | refine mB hD (fun _ => ?_) (fun _ => ?_) | exact True.intro | refine And.intro ?_ ?_) <;> try conv => cbv)); all_goals try (first | trivial | (subst hD; first | exact fun _ _ => ⟨_, rfl⟩ | exact fl1 | exact fl1') | (((try subst hD hu); (try simp only [nc] at *); (try simp only [Int.ofNat_eq_natCast] at *); try simp (disch := omega) only [std, uid, S0] at *) <;> first | omega | rfl | (exfalso; simp_all only [Bool.true_eq_false, Bool.false_eq_true]; done))))
    (subst hD hu; apply qB; (focus repeat' (first | exact LR.refl | exact LR_bytes | apply mClu | apply mCel | apply mKey | apply mSnp | apply mKRd | apply mLin | apply mHis | apply mBlk | apply mScr | apply mSes | exact zR | exact zB | exact zT | exact zN | exact zClu | exact zCel | exact zCelS | exact zSnp | exact zKey | exact zSes | exact zScr | apply LR.deq | exact LR.nil | apply LR.one | apply LR.rep | apply LR.cat | apply LR.cat' | apply LR.set | exact u8_0 | exact DEq.s _ | (apply str_deq; (repeat' apply sr_cat) <;> rfl) | apply aLe_1 | (apply LR.rfl'; simp only [uid, std, S0]; omega))); all_goals try simp only [uid, std, Int.toNat_natCast, Int.ofNat_eq_natCast])
  · intro k s hk hs
    subst hs
    have hb1 := textOf_len (cs.take k)
    have hb2 := cntL_le toEClu cs k
    ((try conv => cbv); (repeat' (first | (with_reducible refine mK hD ?_; kernel_rfl) | (with_reducible first | refine mS hD ?_ | refine mT hD ?_ | refine mF hD ?_ | refine mB hD (fun _ => ?_) (fun _ => ?_) | exact True.intro | refine And.intro ?_ ?_) <;> try conv => cbv)); all_goals try (first | trivial | (subst hD; first | exact fun _ _ => ⟨_, rfl⟩ | exact fl1 | exact fl1') | (((try subst hD hu); (try simp only [nc] at *); (try simp only [Int.ofNat_eq_natCast] at *); try simp (disch := omega) only [std, uid, S0] at *) <;> first | omega | rfl | (exfalso; simp_all only [Bool.true_eq_false, Bool.false_eq_true]; done))))
    · have hkn : k < cs.length := by ((try subst hD hu); (try simp only [nc] at *); (try simp only [Int.ofNat_eq_natCast] at *); try simp (disch := omega) only [std, uid, S0] at *); omega
      have hsn := textOf_snoc cs k hkn
      have hb3 := cntL_snoc toEClu cs dClu k hkn
      have hb4 := cntL_le toEClu cs (k + 1)
      have hx := (hc _ (getD_mem cs dClu k hkn)).1
      generalize hx' : cs.getD k dClu = x at *
      simp only [toEClu] at hb3
      refine loop_st hL x.runes.length (fun j s => s = textOf (cs.take k) ++ (x.runes.take j).flatMap enc) _ (fun j s => [(3, vO D 0 (u _ s)), (18, VI (u _ j))]) (fun j s => [(0, oB D u (u _ s))]) rfl ?_ ?_
      · ((try conv => cbv); (repeat' (first | (with_reducible refine mK hD ?_; kernel_rfl) | (with_reducible first | refine mS hD ?_ | refine mT hD ?_ | refine mF hD ?_ | refine mB hD (fun _ => ?_) (fun _ => ?_) | exact True.intro | refine And.intro ?_ ?_) <;> try conv => cbv)); all_goals try (first | trivial | (subst hD; first | exact fun _ _ => ⟨_, rfl⟩ | exact fl1 | exact fl1') | (((try subst hD hu); (try simp only [nc] at *); (try simp only [Int.ofNat_eq_natCast] at *); try simp (disch := omega) only [std, uid, S0] at *) <;> first | omega | rfl | (exfalso; simp_all only [Bool.true_eq_false, Bool.false_eq_true]; done))))
        all_goals ((subst hD hu; apply qB; (focus repeat' (first | exact LR.refl | exact LR_bytes | apply mClu | apply mCel | apply mKey | apply mSnp | apply mKRd | apply mLin | apply mHis | apply mBlk | apply mScr | apply mSes | exact zR | exact zB | exact zT | exact zN | exact zClu | exact zCel | exact zCelS | exact zSnp | exact zKey | exact zSes | exact zScr | apply LR.deq | exact LR.nil | apply LR.one | apply LR.rep | apply LR.cat | apply LR.cat' | apply LR.set | exact u8_0 | exact DEq.s _ | (apply str_deq; (repeat' apply sr_cat) <;> rfl) | apply aLe_1 | (apply LR.rfl'; simp only [uid, std, S0]; omega))); all_goals try simp only [uid, std, Int.toNat_natCast, Int.ofNat_eq_natCast]); simp)
      · intro j s hj hs
        subst hs
        have hb5 := encs_len (x.runes.take j)
        ((try conv => cbv); (repeat' (first | (with_reducible refine mK hD ?_; kernel_rfl) | (with_reducible first | refine mS hD ?_ | refine mT hD ?_ | refine mF hD ?_ | refine mB hD (fun _ => ?_) (fun _ => ?_) | exact True.intro | refine And.intro ?_ ?_) <;> try conv => cbv)); all_goals try (first | trivial | (subst hD; first | exact fun _ _ => ⟨_, rfl⟩ | exact fl1 | exact fl1') | (((try subst hD hu); (try simp only [nc] at *); (try simp only [Int.ofNat_eq_natCast] at *); try simp (disch := omega) only [std, uid, S0] at *) <;> first | omega | rfl | (exfalso; simp_all only [Bool.true_eq_false, Bool.false_eq_true]; done))))
        · have hjn : j < x.runes.length := by ((try subst hD hu); (try simp only [nc] at *); (try simp only [Int.ofNat_eq_natCast] at *); try simp (disch := omega) only [std, uid, S0, hx'] at *); omega
          have hsj := encs_snoc x.runes j hjn
          refine callx hD hu hC (x_AppendRune (textOf (cs.take k) ++ (x.runes.take j).flatMap enc) (x.runes.getD j 0) (hx _ (getD_mem _ _ _ hjn)) (by simp only [List.length_append, List.length_take] at *; omega)) ?_
          ((try conv => cbv); (repeat' (first | (with_reducible refine mK hD ?_; kernel_rfl) | (with_reducible first | refine mS hD ?_ | refine mT hD ?_ | refine mF hD ?_ | refine mB hD (fun _ => ?_) (fun _ => ?_) | exact True.intro | refine And.intro ?_ ?_) <;> try conv => cbv)); all_goals try (first | trivial | (subst hD; first | exact fun _ _ => ⟨_, rfl⟩ | exact fl1 | exact fl1') | (((try subst hD hu); (try simp only [nc] at *); (try simp only [Int.ofNat_eq_natCast] at *); try simp (disch := omega) only [std, uid, S0] at *) <;> first | omega | rfl | (exfalso; simp_all only [Bool.true_eq_false, Bool.false_eq_true]; done))))
          all_goals try ((subst hD hu; (try simp only [std, uid, rR, rB, rT, rN, rClu, rCel, rSnp, rKey, rCluS, rCelS, lR, lB, lT, lN, lClu, lCel, eL, dClu, dCel, dSnp, dKey, Int.toNat_natCast, Int.ofNat_eq_natCast, hx']) <;> rfl))
          refine ⟨j + 1, textOf (cs.take k) ++ (x.runes.take j).flatMap enc ++ enc (x.runes.getD j 0), hjn, by rw [hsj, List.append_assoc], ssem_of ?_, by omega⟩
          ((try conv => cbv); (repeat' (first | (with_reducible refine mK hD ?_; kernel_rfl) | (with_reducible first | refine mS hD ?_ | refine mT hD ?_ | refine mF hD ?_ | refine mB hD (fun _ => ?_) (fun _ => ?_) | exact True.intro | refine And.intro ?_ ?_) <;> try conv => cbv)); all_goals try (first | trivial | (subst hD; first | exact fun _ _ => ⟨_, rfl⟩ | exact fl1 | exact fl1') | (((try subst hD hu); (try simp only [nc] at *); (try simp only [Int.ofNat_eq_natCast] at *); try simp (disch := omega) only [std, uid, S0] at *) <;> first | omega | rfl | (exfalso; simp_all only [Bool.true_eq_false, Bool.false_eq_true]; done))))
        · have e : j = x.runes.length := by ((try subst hD hu); (try simp only [nc] at *); (try simp only [Int.ofNat_eq_natCast] at *); try simp (disch := omega) only [std, uid, S0, hx'] at *); omega
          subst e
          refine ⟨k + 1, textOf (cs.take k) ++ (x.runes.take x.runes.length).flatMap enc, hkn, by rw [hsn, List.take_length], ssem_of ?_, by omega⟩
          ((try conv => cbv); (repeat' (first | (with_reducible refine mK hD ?_; kernel_rfl) | (with_reducible first | refine mS hD ?_ | refine mT hD ?_ | refine mF hD ?_ | refine mB hD (fun _ => ?_) (fun _ => ?_) | exact True.intro | refine And.intro ?_ ?_) <;> try conv => cbv)); all_goals try (first | trivial | (subst hD; first | exact fun _ _ => ⟨_, rfl⟩ | exact fl1 | exact fl1') | (((try subst hD hu); (try simp only [nc] at *); (try simp only [Int.ofNat_eq_natCast] at *); try simp (disch := omega) only [std, uid, S0] at *) <;> first | omega | rfl | (exfalso; simp_all only [Bool.true_eq_false, Bool.false_eq_true]; done))))
    · have e : k = cs.length := by ((try subst hD hu); (try simp only [nc] at *); (try simp only [Int.ofNat_eq_natCast] at *); try simp (disch := omega) only [std, uid, S0] at *); omega
      subst e
      subst hD hu
      refine str_eq' ((sr_strF LR.refl).trans ?_)
      rw [show uid (List UInt8) (textOf (cs.take cs.length)) = textOf cs by rw [List.take_length]; rfl]
      rfl
theorem strB_enc (r : Int) : std.strB (enc r) = Utf8.encode r := rfl
theorem x_l1Valid (r : Int) : PX Try.prog 68 (fun D u => [AI (u _ r)]) (fun D u => [RB (u _ (validR r))]) (fun D u => []) := px_of (con_l1Valid r _ rfl)
theorem x_l1Utf8 (r : Int) (hv : validR r = true) : PX Try.prog 69 (fun D u => [AI (u _ r)]) (fun D u => [.c (.s (.string (D.strB (u _ (enc r)))))]) (fun D u => []) := px_of (con_l1Utf8 r _ hv (strB_enc r))
theorem enc_bad {r : Int} (h : validR r = false) : enc r = enc 65533 := by rw [enc_invalid h]; decide
theorem x_specTextOf (cs : List Clu) (hn : totL toEClu cs ≤ 1000000000) (hc : ∀ c, c ∈ cs → okClu c) : PX Try.prog 14 (fun D u => [.r (.c (lClu D u (u _ cs)))]) (fun D u => [.c (.s (.string (D.strB (u _ (textOf cs)))))]) (fun D u => []) := by
  refine px_of_awp (fn := Try.f14) (c := bodyOf Try.f14) envOk (by kernel_rfl) (by kernel_rfl) (by kernel_rfl) (by kernel_rfl) rfl (by kernel_rfl) (by kernel_rfl) ?_
  intro w0 mine D u C L hD hu hC hL
  simp only [totL] at hn
  ((try conv => cbv); (repeat' (first | (with_reducible refine mK hD ?_; kernel_rfl) | (with_reducible first | refine mS hD ?_ | refine mT hD ?_ | refine mF hD ?_ | refine mB hD (fun _ => ?_) (fun _ => ?_) | exact True.intro | refine And.intro ?_ ?_) <;> try conv => cbv)); all_goals try (first | trivial | (subst hD; first | exact fun _ _ => ⟨_, rfl⟩ | exact fl1 | exact fl1') | (((try subst hD hu); (try simp only [nc] at *); (try simp only [Int.ofNat_eq_natCast] at *); try simp (disch := omega) only [std, uid, S0] at *) <;> first | omega | rfl | (exfalso; simp_all only [Bool.true_eq_false, Bool.false_eq_true]; done))))
  refine loop_st hL cs.length (fun k s => s = textOf (cs.take k)) [] (fun k s => [(3, vO D 0 (u _ s)), (7, .bad), (4, VI (u _ k))]) (fun k s => [(0, oB D u (u _ s))]) rfl ?_ ?_
  · ((try conv => cbv); (repeat' (first | (with_reducible refine mK hD ?_; kernel_rfl) | (with_reducible first | refine mS hD ?_ | refine mT hD ?_ | refine mF hD ?_ | refine mB hD (fun _ => ?_) (fun _ => ?_) | exact True.intro | refine And.intro ?_ ?_) <;> try conv => cbv)); all_goals try (first | trivial | (subst hD; first | exact fun _ _ => ⟨_, rfl⟩ | exact fl1 | exact fl1') | (((try subst hD hu); (try simp only [nc] at *); (try simp only [Int.ofNat_eq_natCast] at *); try simp (disch := omega) only [std, uid, S0] at *) <;> first | omega | rfl | (exfalso; simp_all only [Bool.true_eq_false, Bool.false_eq_true]; done))))
    (subst hD hu; apply qB; (focus repeat' (first | exact LR.refl | exact LR_bytes | apply mClu | apply mCel | apply mKey | apply mSnp | apply mKRd | apply mLin | apply mHis | apply mBlk | apply mScr | apply mSes | exact zR | exact zB | exact zT | exact zN | exact zClu | exact zCel | exact zCelS | exact zSnp | exact zKey | exact zSes | exact zScr | apply LR.deq | exact LR.nil | apply LR.one | apply LR.rep | apply LR.cat | apply LR.cat' | apply LR.set | exact u8_0 | exact DEq.s _ | (apply str_deq; (repeat' apply sr_cat) <;> rfl) | apply aLe_1 | (apply LR.rfl'; simp only [uid, std, S0]; omega))); all_goals try simp only [uid, std, Int.toNat_natCast, Int.ofNat_eq_natCast])
  · intro k s hk hs
    subst hs
    have hb1 := textOf_len (cs.take k)
    have hb2 := cntL_le toEClu cs k
    ((try conv => cbv); (repeat' (first | (with_reducible refine mK hD ?_; kernel_rfl) | (with_reducible first | refine mS hD ?_ | refine mT hD ?_ | refine mF hD ?_ | refine mB hD (fun _ => ?_) (fun _ => ?_) | exact True.intro | refine And.intro ?_ ?_) <;> try conv => cbv)); all_goals try (first | trivial | (subst hD; first | exact fun _ _ => ⟨_, rfl⟩ | exact fl1 | exact fl1') | (((try subst hD hu); (try simp only [nc] at *); (try simp only [Int.ofNat_eq_natCast] at *); try simp (disch := omega) only [std, uid, S0] at *) <;> first | omega | rfl | (exfalso; simp_all only [Bool.true_eq_false, Bool.false_eq_true]; done))))
    · have hkn : k < cs.length := by ((try subst hD hu); (try simp only [nc] at *); (try simp only [Int.ofNat_eq_natCast] at *); try simp (disch := omega) only [std, uid, S0] at *); omega
      have hsn := textOf_snoc cs k hkn
      have hb3 := cntL_snoc toEClu cs dClu k hkn
      have hb4 := cntL_le toEClu cs (k + 1)
      have hx := (hc _ (getD_mem cs dClu k hkn)).1
      generalize hx' : cs.getD k dClu = x at *
      simp only [toEClu] at hb3
      refine loop_st hL x.runes.length (fun j s => s = textOf (cs.take k) ++ (x.runes.take j).flatMap enc) _ (fun j s => [(3, vO D 0 (u _ s)), (7, .bad), (5, VI (u _ j))]) (fun j s => [(0, oB D u (u _ s))]) rfl ?_ ?_
      · ((try conv => cbv); (repeat' (first | (with_reducible refine mK hD ?_; kernel_rfl) | (with_reducible first | refine mS hD ?_ | refine mT hD ?_ | refine mF hD ?_ | refine mB hD (fun _ => ?_) (fun _ => ?_) | exact True.intro | refine And.intro ?_ ?_) <;> try conv => cbv)); all_goals try (first | trivial | (subst hD; first | exact fun _ _ => ⟨_, rfl⟩ | exact fl1 | exact fl1') | (((try subst hD hu); (try simp only [nc] at *); (try simp only [Int.ofNat_eq_natCast] at *); try simp (disch := omega) only [std, uid, S0] at *) <;> first | omega | rfl | (exfalso; simp_all only [Bool.true_eq_false, Bool.false_eq_true]; done))))
        all_goals ((subst hD hu; apply qB; (focus repeat' (first | exact LR.refl | exact LR_bytes | apply mClu | apply mCel | apply mKey | apply mSnp | apply mKRd | apply mLin | apply mHis | apply mBlk | apply mScr | apply mSes | exact zR | exact zB | exact zT | exact zN | exact zClu | exact zCel | exact zCelS | exact zSnp | exact zKey | exact zSes | exact zScr | apply LR.deq | exact LR.nil | apply LR.one | apply LR.rep | apply LR.cat | apply LR.cat' | apply LR.set | exact u8_0 | exact DEq.s _ | (apply str_deq; (repeat' apply sr_cat) <;> rfl) | apply aLe_1 | (apply LR.rfl'; simp only [uid, std, S0]; omega))); all_goals try simp only [uid, std, Int.toNat_natCast, Int.ofNat_eq_natCast]); simp)
      · intro j s hj hs
        subst hs
        have hb5 := encs_len (x.runes.take j)
        ((try conv => cbv); (repeat' (first | (with_reducible refine mK hD ?_; kernel_rfl) | (with_reducible first | refine mS hD ?_ | refine mT hD ?_ | refine mF hD ?_ | refine mB hD (fun _ => ?_) (fun _ => ?_) | exact True.intro | refine And.intro ?_ ?_) <;> try conv => cbv)); all_goals try (first | trivial | (subst hD; first | exact fun _ _ => ⟨_, rfl⟩ | exact fl1 | exact fl1') | (((try subst hD hu); (try simp only [nc] at *); (try simp only [Int.ofNat_eq_natCast] at *); try simp (disch := omega) only [std, uid, S0] at *) <;> first | omega | rfl | (exfalso; simp_all only [Bool.true_eq_false, Bool.false_eq_true]; done))))
        · have hjn : j < x.runes.length := by ((try subst hD hu); (try simp only [nc] at *); (try simp only [Int.ofNat_eq_natCast] at *); try simp (disch := omega) only [std, uid, S0, hx'] at *); omega
          have hsj := encs_snoc x.runes j hjn
          have hr := hx _ (getD_mem x.runes 0 j hjn)
          have hel := (enc_len (x.runes.getD j 0)).1
          generalize hr' : x.runes.getD j 0 = r at *
          obtain ⟨hr1, hr2⟩ := hr
          refine callx hD hu hC (x_l1Valid r) ?_
          ((try conv => cbv); (repeat' (first | (with_reducible refine mK hD ?_; kernel_rfl) | (with_reducible first | refine mS hD ?_ | refine mT hD ?_ | refine mF hD ?_ | refine mB hD (fun _ => ?_) (fun _ => ?_) | exact True.intro | refine And.intro ?_ ?_) <;> try conv => cbv)); all_goals try (first | trivial | (subst hD; first | exact fun _ _ => ⟨_, rfl⟩ | exact fl1 | exact fl1') | (((try subst hD hu); (try simp only [nc] at *); (try simp only [Int.ofNat_eq_natCast] at *); try simp (disch := omega) only [std, uid, S0] at *) <;> first | omega | rfl | (exfalso; simp_all only [Bool.true_eq_false, Bool.false_eq_true]; done))))
          all_goals try (((try subst hD hu); (try simp only [nc] at *); (try simp only [Int.ofNat_eq_natCast] at *); try simp (disch := omega) only [std, uid, S0, hx', hr'] at *); done)
          · have hv : validR r = true := by ((try subst hD hu); (try simp only [nc] at *); (try simp only [Int.ofNat_eq_natCast] at *); try simp (disch := omega) only [std, uid, S0] at *); assumption
            refine callx hD hu hC (x_l1Utf8 r hv) ?_
            ((try conv => cbv); (repeat' (first | (with_reducible refine mK hD ?_; kernel_rfl) | (with_reducible first | refine mS hD ?_ | refine mT hD ?_ | refine mF hD ?_ | refine mB hD (fun _ => ?_) (fun _ => ?_) | exact True.intro | refine And.intro ?_ ?_) <;> try conv => cbv)); all_goals try (first | trivial | (subst hD; first | exact fun _ _ => ⟨_, rfl⟩ | exact fl1 | exact fl1') | (((try subst hD hu); (try simp only [nc] at *); (try simp only [Int.ofNat_eq_natCast] at *); try simp (disch := omega) only [std, uid, S0] at *) <;> first | omega | rfl | (exfalso; simp_all only [Bool.true_eq_false, Bool.false_eq_true]; done))))
            all_goals try (((try subst hD hu); (try simp only [nc] at *); (try simp only [Int.ofNat_eq_natCast] at *); try simp (disch := omega) only [std, uid, S0, hx', hr'] at *); done)
            all_goals try (((try subst hD hu); (try simp only [nc] at *); (try simp only [Int.ofNat_eq_natCast] at *); try simp (disch := omega) only [std, uid, S0] at *); simp only [List.length_append, List.length_take] at *; omega; done)
            refine ⟨j + 1, textOf (cs.take k) ++ (x.runes.take j).flatMap enc ++ enc r, hjn, by rw [hsj, List.append_assoc], ssem_of ?_, by omega⟩
            ((try conv => cbv); (repeat' (first | (with_reducible refine mK hD ?_; kernel_rfl) | (with_reducible first | refine mS hD ?_ | refine mT hD ?_ | refine mF hD ?_ | refine mB hD (fun _ => ?_) (fun _ => ?_) | exact True.intro | refine And.intro ?_ ?_) <;> try conv => cbv)); all_goals try (first | trivial | (subst hD; first | exact fun _ _ => ⟨_, rfl⟩ | exact fl1 | exact fl1') | (((try subst hD hu); (try simp only [nc] at *); (try simp only [Int.ofNat_eq_natCast] at *); try simp (disch := omega) only [std, uid, S0] at *) <;> first | omega | rfl | (exfalso; simp_all only [Bool.true_eq_false, Bool.false_eq_true]; done))))
            (subst hD hu; apply qB; (focus repeat' (first | exact LR.refl | exact LR_bytes | apply mClu | apply mCel | apply mKey | apply mSnp | apply mKRd | apply mLin | apply mHis | apply mBlk | apply mScr | apply mSes | exact zR | exact zB | exact zT | exact zN | exact zClu | exact zCel | exact zCelS | exact zSnp | exact zKey | exact zSes | exact zScr | apply LR.deq | exact LR.nil | apply LR.one | apply LR.rep | apply LR.cat | apply LR.cat' | apply LR.set | exact u8_0 | exact DEq.s _ | (apply str_deq; (repeat' apply sr_cat) <;> rfl) | apply aLe_1 | (apply LR.rfl'; simp only [uid, std, S0]; omega))); all_goals try simp only [uid, std, Int.toNat_natCast, Int.ofNat_eq_natCast])
          · have hv : validR r = false := by ((try subst hD hu); (try simp only [nc] at *); (try simp only [Int.ofNat_eq_natCast] at *); try simp (disch := omega) only [std, uid, S0] at *); assumption
            refine callx hD hu hC (x_l1Utf8 65533 (by decide)) ?_
            rw [enc_bad hv] at hsj hel
            ((try conv => cbv); (repeat' (first | (with_reducible refine mK hD ?_; kernel_rfl) | (with_reducible first | refine mS hD ?_ | refine mT hD ?_ | refine mF hD ?_ | refine mB hD (fun _ => ?_) (fun _ => ?_) | exact True.intro | refine And.intro ?_ ?_) <;> try conv => cbv)); all_goals try (first | trivial | (subst hD; first | exact fun _ _ => ⟨_, rfl⟩ | exact fl1 | exact fl1') | (((try subst hD hu); (try simp only [nc] at *); (try simp only [Int.ofNat_eq_natCast] at *); try simp (disch := omega) only [std, uid, S0] at *) <;> first | omega | rfl | (exfalso; simp_all only [Bool.true_eq_false, Bool.false_eq_true]; done))))
            all_goals try (((try subst hD hu); (try simp only [nc] at *); (try simp only [Int.ofNat_eq_natCast] at *); try simp (disch := omega) only [std, uid, S0] at *); simp only [List.length_append, List.length_take] at *; omega; done)
            refine ⟨j + 1, textOf (cs.take k) ++ (x.runes.take j).flatMap enc ++ enc 65533, hjn, by rw [hsj, List.append_assoc], ssem_of ?_, by omega⟩
            ((try conv => cbv); (repeat' (first | (with_reducible refine mK hD ?_; kernel_rfl) | (with_reducible first | refine mS hD ?_ | refine mT hD ?_ | refine mF hD ?_ | refine mB hD (fun _ => ?_) (fun _ => ?_) | exact True.intro | refine And.intro ?_ ?_) <;> try conv => cbv)); all_goals try (first | trivial | (subst hD; first | exact fun _ _ => ⟨_, rfl⟩ | exact fl1 | exact fl1') | (((try subst hD hu); (try simp only [nc] at *); (try simp only [Int.ofNat_eq_natCast] at *); try simp (disch := omega) only [std, uid, S0] at *) <;> first | omega | rfl | (exfalso; simp_all only [Bool.true_eq_false, Bool.false_eq_true]; done))))
            (subst hD hu; apply qB; (focus repeat' (first | exact LR.refl | exact LR_bytes | apply mClu | apply mCel | apply mKey | apply mSnp | apply mKRd | apply mLin | apply mHis | apply mBlk | apply mScr | apply mSes | exact zR | exact zB | exact zT | exact zN | exact zClu | exact zCel | exact zCelS | exact zSnp | exact zKey | exact zSes | exact zScr | apply LR.deq | exact LR.nil | apply LR.one | apply LR.rep | apply LR.cat | apply LR.cat' | apply LR.set | exact u8_0 | exact DEq.s _ | (apply str_deq; (repeat' apply sr_cat) <;> rfl) | apply aLe_1 | (apply LR.rfl'; simp only [uid, std, S0]; omega))); all_goals try simp only [uid, std, Int.toNat_natCast, Int.ofNat_eq_natCast])
        · have e : j = x.runes.length := by ((try subst hD hu); (try simp only [nc] at *); (try simp only [Int.ofNat_eq_natCast] at *); try simp (disch := omega) only [std, uid, S0, hx'] at *); omega
          subst e
          refine ⟨k + 1, textOf (cs.take k) ++ (x.runes.take x.runes.length).flatMap enc, hkn, by rw [hsn, List.take_length], ssem_of ?_, by omega⟩
          ((try conv => cbv); (repeat' (first | (with_reducible refine mK hD ?_; kernel_rfl) | (with_reducible first | refine mS hD ?_ | refine mT hD ?_ | refine mF hD ?_ | refine mB hD (fun _ => ?_) (fun _ => ?_) | exact True.intro | refine And.intro ?_ ?_) <;> try conv => cbv)); all_goals try (first | trivial | (subst hD; first | exact fun _ _ => ⟨_, rfl⟩ | exact fl1 | exact fl1') | (((try subst hD hu); (try simp only [nc] at *); (try simp only [Int.ofNat_eq_natCast] at *); try simp (disch := omega) only [std, uid, S0] at *) <;> first | omega | rfl | (exfalso; simp_all only [Bool.true_eq_false, Bool.false_eq_true]; done))))
    · have e : k = cs.length := by ((try subst hD hu); (try simp only [nc] at *); (try simp only [Int.ofNat_eq_natCast] at *); try simp (disch := omega) only [std, uid, S0] at *); omega
      subst e
      subst hD hu
      refine str_eq' ((sr_strF LR.refl).trans ?_)
      rw [show uid (List UInt8) (textOf (cs.take cs.length)) = textOf cs by rw [List.take_length]; rfl]
      rfl
end Go.AW
/- Bytes as runes, in lists. -/
set_option linter.unusedVariables false
set_option linter.unusedSimpArgs false
namespace Go.AW
def bI (s : Str) : Nat → Int := fun j => ((s.getD j 0).toNat : Int)
theorem isB_bI (s : Str) : IsB s s.length (bI s) := ⟨rfl, fun _ _ => rfl⟩
/-- The first rune of bytes, and how many bytes it takes. -/
def dec (s : Str) : Int × Nat := ((Utf8.decode (std.strB s) 0).1, (Utf8.decode (std.strB s) 0).2)
theorem dec_rune {s : Str} (h : 0 < s.length) : RuneB (bI s) s.length 0 (dec s).1 (dec s).2 := decode_B (isB_bI s) h
theorem bI_drop (s : Str) (i j : Nat) : bI (s.drop i) j = bI s (i + j) := by
  simp [bI, List.getD_eq_getElem?_getD, List.getElem?_drop]
theorem rune_drop {s : Str} {i : Nat} {r : Int} {d : Nat} (hi : i < s.length) (h : RuneB (bI (s.drop i)) (s.drop i).length 0 r d) : RuneB (bI s) s.length i r d := by
  have e : ∀ j, bI (s.drop i) j = bI s (i + j) := bI_drop s i
  have hl : (s.drop i).length = s.length - i := List.length_drop
  rw [hl] at h
  have e0 := e 0
  have e1 := e 1
  have e2 := e 2
  have e3 := e 3
  have c1 : CB (bI (s.drop i)) (0 + 1) ↔ CB (bI s) (i + 1) := by unfold CB; rw [Nat.zero_add, e1]
  have c2 : CB (bI (s.drop i)) (0 + 2) ↔ CB (bI s) (i + 2) := by unfold CB; rw [Nat.zero_add, e2]
  have c3 : CB (bI (s.drop i)) (0 + 3) ↔ CB (bI s) (i + 3) := by unfold CB; rw [Nat.zero_add, e3]
  rw [Nat.add_zero] at e0
  have w2 : v2 (bI (s.drop i)) 0 = v2 (bI s) i := by simp only [v2, Nat.zero_add, e0, e1]
  have w3 : v3 (bI (s.drop i)) 0 = v3 (bI s) i := by simp only [v3, Nat.zero_add, e0, e1, e2]
  have w4 : v4 (bI (s.drop i)) 0 = v4 (bI s) i := by simp only [v4, Nat.zero_add, e0, e1, e2, e3]
  cases h with
  | r1 h => rw [e0] at *; exact .r1 h
  | r2 h hn h1 hm => rw [e0] at *; rw [w2] at *; exact .r2 h (by omega) (c1.mp h1) hm
  | r3 h hn h1 h2 hm hv => rw [e0] at *; rw [w3] at *; exact .r3 h (by omega) (c1.mp h1) (c2.mp h2) hm hv
  | r4 h hn h1 h2 h3 hm hv => rw [e0] at *; rw [w4] at *; exact .r4 h (by omega) (c1.mp h1) (c2.mp h2) (c3.mp h3) hm hv
  | no h1 h2 h3 h4 =>
    rw [e0, w2] at h2
    rw [e0, w3] at h3
    rw [e0, w4] at h4
    rw [e0] at h1
    exact .no h1 (fun a b c d => h2 a b (by omega) (c1.mpr d)) (fun a b c d e => h3 a b (by omega) (c1.mpr d) (c2.mpr e)) (fun a b c d e f => h4 a b (by omega) (c1.mpr d) (c2.mpr e) (c3.mpr f))
theorem dec_drop {s : Str} {i : Nat} (hi : i < s.length) : RuneB (bI s) s.length i (dec (s.drop i)).1 (dec (s.drop i)).2 :=
  rune_drop hi (dec_rune (by rw [List.length_drop]; omega))
/-- The decoder at a place. -/
theorem dec_at {s : Str} {i : Nat} (hi : i < s.length) : ((Utf8.decode (std.strB s) i).1 : Int) = (dec (s.drop i)).1 ∧ (Utf8.decode (std.strB s) i).2 = (dec (s.drop i)).2 :=
  RuneB.uniq (decode_B (isB_bI s) hi) (dec_drop hi)
theorem dec_width {s : Str} (h : 0 < s.length) : 1 ≤ (dec s).2 ∧ (dec s).2 ≤ 4 ∧ (dec s).2 ≤ s.length := by
  have := (dec_rune h).width h
  omega
theorem dec_range {s : Str} (h : 0 < s.length) : 0 ≤ (dec s).1 ∧ (dec s).1 ≤ 1114111 :=
  (dec_rune h).range ((isB_bI s).range 0 h)
/-- Bytes as runes. -/
def runesOf (s : Str) : List Int :=
  if h : 0 < s.length then (dec s).1 :: runesOf (s.drop (dec s).2) else []
termination_by s.length
decreasing_by rw [List.length_drop]; have := dec_width h; omega
theorem runesOf_nil : runesOf [] = [] := by rw [runesOf]; rfl
theorem runesOf_cons {s : Str} (h : 0 < s.length) : runesOf s = (dec s).1 :: runesOf (s.drop (dec s).2) := by rw [runesOf, dif_pos h]
theorem runesOf_len (s : Str) : (runesOf s).length ≤ s.length := by
  rcases Nat.eq_zero_or_pos s.length with h | h
  · rw [List.length_eq_zero_iff.mp h, runesOf_nil]; simp
  · rw [runesOf_cons h]
    have := dec_width h
    have := runesOf_len (s.drop (dec s).2)
    rw [List.length_drop] at this
    simp only [List.length_cons]
    omega
termination_by s.length
decreasing_by rw [List.length_drop]; have := dec_width h; omega
def tabR (r : Int) : Int := if r = 9 then 32 else r
def clean (s : Str) : List Int := (runesOf s).map fun r => shownR (tabR r)
theorem clean_nil : clean [] = [] := by rw [clean, runesOf_nil]; rfl
theorem clean_cons {s : Str} (h : 0 < s.length) : clean s = shownR (tabR (dec s).1) :: clean (s.drop (dec s).2) := by rw [clean, runesOf_cons h]; rfl
theorem clean_len (s : Str) : (clean s).length ≤ s.length := by simpa [clean] using runesOf_len s
theorem shown_range (r : Int) : 0 ≤ shownR r ∧ shownR r ≤ 1114111 := by
  unfold shownR
  split
  · rename_i h; have := (valid_iff r).mp h.1; omega
  · omega
end Go.AW
/- Clean on both sides. -/
set_option linter.unusedVariables false
set_option linter.unusedSimpArgs false
namespace Go.AW
open Go.Proofs
set_option maxRecDepth 100000
set_option maxHeartbeats 4000000
theorem x_l1Rune (b : Str) (i : Nat) (hi : i < b.length) (hn : b.length ≤ 1099511627776) : PX Try.prog 73 (fun D u => [.r (.c (lB D u (u _ b))), AI (u _ i)]) (fun D u => [RI (u _ ((dec (b.drop i)).1)), RI (u _ ((dec (b.drop i)).2))]) (fun D u => []) :=
  px_of (con_l1Rune b.length (bI b) i _ _ (fun j hj => (isB_bI b).range j hj) hi hn (dec_drop hi))
theorem x_l1Shown (r : Int) : PX Try.prog 74 (fun D u => [AI (u _ r)]) (fun D u => [RI (u _ (shownR r))]) (fun D u => []) := px_of (con_l1Shown r _ rfl)
theorem x_shown (r : Int) : PX Try.prog 75 (fun D u => [AK .i32 (u _ r)]) (fun D u => [RK .i32 (u _ (shownR r))]) (fun D u => []) := px_of (con_shown r _ rfl)
structure ClI (b : Str) (s : Nat × List Int) : Prop where
  h1 : s.1 ≤ b.length
  h2 : s.2 ++ clean (b.drop s.1) = clean b
  h3 : s.2.length ≤ s.1
theorem ClI.step {b : Str} {s : Nat × List Int} (h : ClI b s) (hi : s.1 < b.length) : ClI b (s.1 + (dec (b.drop s.1)).2, s.2 ++ [shownR (tabR (dec (b.drop s.1)).1)]) := by
  have hp : 0 < (b.drop s.1).length := by rw [List.length_drop]; omega
  have hw := dec_width hp
  rw [List.length_drop] at hw
  refine ⟨by simp only; omega, ?_, by simp only [List.length_append, List.length_cons, List.length_nil]; have := h.h3; omega⟩
  rw [← h.h2, clean_cons hp, List.drop_drop]
  simp
theorem ClI.fin {b : Str} {s : Nat × List Int} (h : ClI b s) (hi : ¬ s.1 < b.length) : s.2 = clean b := by
  have := h.h2
  rw [List.drop_eq_nil_of_le (by omega), clean_nil, List.append_nil] at this
  exact this
theorem x_specClean (b : Str) (hn : b.length ≤ 1000000000) : PX Try.prog 18 (fun D u => [.r (.c (lB D u (u _ b)))]) (fun D u => [.c (lR D u (u _ (clean b)))]) (fun D u => []) := by
  refine px_of_awp (fn := Try.f18) (c := bodyOf Try.f18) envOk (by kernel_rfl) (by kernel_rfl) (by kernel_rfl) (by kernel_rfl) rfl (by kernel_rfl) (by kernel_rfl) ?_
  intro w0 mine D u C L hD hu hC hL
  ((try conv => cbv); (repeat' (first | (with_reducible refine mK hD ?_; kernel_rfl) | (with_reducible first | refine mS hD ?_ | refine mT hD ?_ | refine mF hD ?_ | refine mB hD (fun _ => ?_) (fun _ => ?_) | exact True.intro | refine And.intro ?_ ?_) <;> try conv => cbv)); all_goals try (first | trivial | (subst hD; first | exact fun _ _ => ⟨_, rfl⟩ | exact fl1 | exact fl1') | (((try subst hD hu); (try simp only [nc] at *); (try simp only [Int.ofNat_eq_natCast] at *); try simp (disch := omega) only [std, uid, S0] at *) <;> first | omega | rfl | (exfalso; simp_all only [Bool.true_eq_false, Bool.false_eq_true]; done))))
  refine loop_mu hL (ClI b) (fun s => b.length - s.1) (0, []) (fun s => [(3, vO D 0 (u _ (s.2))), (7, .bad), (4, VI (u _ (s.1)))]) (fun s => [(0, oR D u (u _ (s.2)))]) ⟨by simp, by simp, by simp⟩ ?_ ?_
  · ((try conv => cbv); (repeat' (first | (with_reducible refine mK hD ?_; kernel_rfl) | (with_reducible first | refine mS hD ?_ | refine mT hD ?_ | refine mF hD ?_ | refine mB hD (fun _ => ?_) (fun _ => ?_) | exact True.intro | refine And.intro ?_ ?_) <;> try conv => cbv)); all_goals try (first | trivial | (subst hD; first | exact fun _ _ => ⟨_, rfl⟩ | exact fl1 | exact fl1') | (((try subst hD hu); (try simp only [nc] at *); (try simp only [Int.ofNat_eq_natCast] at *); try simp (disch := omega) only [std, uid, S0] at *) <;> first | omega | rfl | (exfalso; simp_all only [Bool.true_eq_false, Bool.false_eq_true]; done))))
    (subst hD hu; apply qR; (focus repeat' (first | exact LR.refl | exact LR_bytes | apply mClu | apply mCel | apply mKey | apply mSnp | apply mKRd | apply mLin | apply mHis | apply mBlk | apply mScr | apply mSes | exact zR | exact zB | exact zT | exact zN | exact zClu | exact zCel | exact zCelS | exact zSnp | exact zKey | exact zSes | exact zScr | apply LR.deq | exact LR.nil | apply LR.one | apply LR.rep | apply LR.cat | apply LR.cat' | apply LR.set | exact u8_0 | exact DEq.s _ | (apply str_deq; (repeat' apply sr_cat) <;> rfl) | apply aLe_1 | (apply LR.rfl'; simp only [uid, std, S0]; omega))); all_goals try simp only [uid, std, Int.toNat_natCast, Int.ofNat_eq_natCast])
  · intro s hs
    have h1 := hs.h1
    have h3 := hs.h3
    ((try conv => cbv); (repeat' (first | (with_reducible refine mK hD ?_; kernel_rfl) | (with_reducible first | refine mS hD ?_ | refine mT hD ?_ | refine mF hD ?_ | refine mB hD (fun _ => ?_) (fun _ => ?_) | exact True.intro | refine And.intro ?_ ?_) <;> try conv => cbv)); all_goals try (first | trivial | (subst hD; first | exact fun _ _ => ⟨_, rfl⟩ | exact fl1 | exact fl1') | (((try subst hD hu); (try simp only [nc] at *); (try simp only [Int.ofNat_eq_natCast] at *); try simp (disch := omega) only [std, uid, S0] at *) <;> first | omega | rfl | (exfalso; simp_all only [Bool.true_eq_false, Bool.false_eq_true]; done))))
    · have hi : s.1 < b.length := by ((try subst hD hu); (try simp only [nc] at *); (try simp only [Int.ofNat_eq_natCast] at *); try simp (disch := omega) only [std, uid, S0] at *); omega
      have hp : 0 < (b.drop s.1).length := by rw [List.length_drop]; omega
      have hw := dec_width hp
      have hr := dec_range hp
      rw [List.length_drop] at hw
      have hst := hs.step hi
      generalize hd : dec (b.drop s.1) = d at *
      refine callx hD hu hC (x_l1Rune b s.1 hi (by omega)) ?_
      rw [hd]
      ((try conv => cbv); (repeat' (first | (with_reducible refine mK hD ?_; kernel_rfl) | (with_reducible first | refine mS hD ?_ | refine mT hD ?_ | refine mF hD ?_ | refine mB hD (fun _ => ?_) (fun _ => ?_) | exact True.intro | refine And.intro ?_ ?_) <;> try conv => cbv)); all_goals try (first | trivial | (subst hD; first | exact fun _ _ => ⟨_, rfl⟩ | exact fl1 | exact fl1') | (((try subst hD hu); (try simp only [nc] at *); (try simp only [Int.ofNat_eq_natCast] at *); try simp (disch := omega) only [std, uid, S0] at *) <;> first | omega | rfl | (exfalso; simp_all only [Bool.true_eq_false, Bool.false_eq_true]; done))))
      · have he : d.1 = 9 := by ((try subst hD hu); (try simp only [nc] at *); (try simp only [Int.ofNat_eq_natCast] at *); try simp (disch := omega) only [std, uid, S0] at *); omega
        have hsr := shown_range 32
        refine callx hD hu hC (x_l1Shown 32) ?_
        ((try conv => cbv); (repeat' (first | (with_reducible refine mK hD ?_; kernel_rfl) | (with_reducible first | refine mS hD ?_ | refine mT hD ?_ | refine mF hD ?_ | refine mB hD (fun _ => ?_) (fun _ => ?_) | exact True.intro | refine And.intro ?_ ?_) <;> try conv => cbv)); all_goals try (first | trivial | (subst hD; first | exact fun _ _ => ⟨_, rfl⟩ | exact fl1 | exact fl1') | (((try subst hD hu); (try simp only [nc] at *); (try simp only [Int.ofNat_eq_natCast] at *); try simp (disch := omega) only [std, uid, S0] at *) <;> first | omega | rfl | (exfalso; simp_all only [Bool.true_eq_false, Bool.false_eq_true]; done))))
        refine ⟨(s.1 + d.2, s.2 ++ [shownR (tabR d.1)]), hst, ssem_of ?_, by simp only; omega⟩
        ((try conv => cbv); (repeat' (first | (with_reducible refine mK hD ?_; kernel_rfl) | (with_reducible first | refine mS hD ?_ | refine mT hD ?_ | refine mF hD ?_ | refine mB hD (fun _ => ?_) (fun _ => ?_) | exact True.intro | refine And.intro ?_ ?_) <;> try conv => cbv)); all_goals try (first | trivial | (subst hD; first | exact fun _ _ => ⟨_, rfl⟩ | exact fl1 | exact fl1') | (((try subst hD hu); (try simp only [nc] at *); (try simp only [Int.ofNat_eq_natCast] at *); try simp (disch := omega) only [std, uid, S0] at *) <;> first | omega | rfl | (exfalso; simp_all only [Bool.true_eq_false, Bool.false_eq_true]; done))))
        (subst hD hu; apply qR; (focus repeat' (first | exact LR.refl | exact LR_bytes | apply mClu | apply mCel | apply mKey | apply mSnp | apply mKRd | apply mLin | apply mHis | apply mBlk | apply mScr | apply mSes | exact zR | exact zB | exact zT | exact zN | exact zClu | exact zCel | exact zCelS | exact zSnp | exact zKey | exact zSes | exact zScr | apply LR.deq | exact LR.nil | apply LR.one | apply LR.rep | apply LR.cat | apply LR.cat' | apply LR.set | exact u8_0 | exact DEq.s _ | (apply str_deq; (repeat' apply sr_cat) <;> rfl) | apply aLe_1 | (apply LR.rfl'; simp only [uid, std, S0]; omega))); all_goals try simp only [uid, std, Int.toNat_natCast, Int.ofNat_eq_natCast])
        rw [wrapI32 _ (by omega), tabR, if_pos he]
      · have he : d.1 ≠ 9 := by ((try subst hD hu); (try simp only [nc] at *); (try simp only [Int.ofNat_eq_natCast] at *); try simp (disch := omega) only [std, uid, S0] at *); omega
        have hsr := shown_range d.1
        refine callx hD hu hC (x_l1Shown d.1) ?_
        ((try conv => cbv); (repeat' (first | (with_reducible refine mK hD ?_; kernel_rfl) | (with_reducible first | refine mS hD ?_ | refine mT hD ?_ | refine mF hD ?_ | refine mB hD (fun _ => ?_) (fun _ => ?_) | exact True.intro | refine And.intro ?_ ?_) <;> try conv => cbv)); all_goals try (first | trivial | (subst hD; first | exact fun _ _ => ⟨_, rfl⟩ | exact fl1 | exact fl1') | (((try subst hD hu); (try simp only [nc] at *); (try simp only [Int.ofNat_eq_natCast] at *); try simp (disch := omega) only [std, uid, S0] at *) <;> first | omega | rfl | (exfalso; simp_all only [Bool.true_eq_false, Bool.false_eq_true]; done))))
        refine ⟨(s.1 + d.2, s.2 ++ [shownR (tabR d.1)]), hst, ssem_of ?_, by simp only; omega⟩
        ((try conv => cbv); (repeat' (first | (with_reducible refine mK hD ?_; kernel_rfl) | (with_reducible first | refine mS hD ?_ | refine mT hD ?_ | refine mF hD ?_ | refine mB hD (fun _ => ?_) (fun _ => ?_) | exact True.intro | refine And.intro ?_ ?_) <;> try conv => cbv)); all_goals try (first | trivial | (subst hD; first | exact fun _ _ => ⟨_, rfl⟩ | exact fl1 | exact fl1') | (((try subst hD hu); (try simp only [nc] at *); (try simp only [Int.ofNat_eq_natCast] at *); try simp (disch := omega) only [std, uid, S0] at *) <;> first | omega | rfl | (exfalso; simp_all only [Bool.true_eq_false, Bool.false_eq_true]; done))))
        (subst hD hu; apply qR; (focus repeat' (first | exact LR.refl | exact LR_bytes | apply mClu | apply mCel | apply mKey | apply mSnp | apply mKRd | apply mLin | apply mHis | apply mBlk | apply mScr | apply mSes | exact zR | exact zB | exact zT | exact zN | exact zClu | exact zCel | exact zCelS | exact zSnp | exact zKey | exact zSes | exact zScr | apply LR.deq | exact LR.nil | apply LR.one | apply LR.rep | apply LR.cat | apply LR.cat' | apply LR.set | exact u8_0 | exact DEq.s _ | (apply str_deq; (repeat' apply sr_cat) <;> rfl) | apply aLe_1 | (apply LR.rfl'; simp only [uid, std, S0]; omega))); all_goals try simp only [uid, std, Int.toNat_natCast, Int.ofNat_eq_natCast])
        rw [wrapI32 _ (by omega), tabR, if_neg he]
    · have he := hs.fin (by ((try subst hD hu); (try simp only [nc] at *); (try simp only [Int.ofNat_eq_natCast] at *); try simp (disch := omega) only [std, uid, S0] at *); omega)
      ((try subst hD hu); (try simp only [nc] at *); (try simp only [Int.ofNat_eq_natCast] at *); try simp (disch := omega) only [std, uid, S0, he] at *)
    · have he := hs.fin (by ((try subst hD hu); (try simp only [nc] at *); (try simp only [Int.ofNat_eq_natCast] at *); try simp (disch := omega) only [std, uid, S0] at *); omega)
      (subst hD hu; apply qR; (focus repeat' (first | exact LR.refl | exact LR_bytes | apply mClu | apply mCel | apply mKey | apply mSnp | apply mKRd | apply mLin | apply mHis | apply mBlk | apply mScr | apply mSes | exact zR | exact zB | exact zT | exact zN | exact zClu | exact zCel | exact zCelS | exact zSnp | exact zKey | exact zSes | exact zScr | apply LR.deq | exact LR.nil | apply LR.one | apply LR.rep | apply LR.cat | apply LR.cat' | apply LR.set | exact u8_0 | exact DEq.s _ | (apply str_deq; (repeat' apply sr_cat) <;> rfl) | apply aLe_1 | (apply LR.rfl'; simp only [uid, std, S0]; omega))); all_goals try simp only [uid, std, Int.toNat_natCast, Int.ofNat_eq_natCast])
      exact he
theorem x_implClean (b : Str) (hn : b.length ≤ 1000000000) : PX Try.prog 20 (fun D u => [.r (.c (lB D u (u _ b)))]) (fun D u => [.c (lR D u (u _ (clean b)))]) (fun D u => []) := by
  refine px_of_awp (fn := Try.f20) (c := bodyOf Try.f20) envOk (by kernel_rfl) (by kernel_rfl) (by kernel_rfl) (by kernel_rfl) rfl (by kernel_rfl) (by kernel_rfl) ?_
  intro w0 mine D u C L hD hu hC hL
  ((try conv => cbv); (repeat' (first | (with_reducible refine mK hD ?_; kernel_rfl) | (with_reducible first | refine mS hD ?_ | refine mT hD ?_ | refine mF hD ?_ | refine mB hD (fun _ => ?_) (fun _ => ?_) | exact True.intro | refine And.intro ?_ ?_) <;> try conv => cbv)); all_goals try (first | trivial | (subst hD; first | exact fun _ _ => ⟨_, rfl⟩ | exact fl1 | exact fl1') | (((try subst hD hu); (try simp only [nc] at *); (try simp only [Int.ofNat_eq_natCast] at *); try simp (disch := omega) only [std, uid, S0] at *) <;> first | omega | rfl | (exfalso; simp_all only [Bool.true_eq_false, Bool.false_eq_true]; done))))
  refine loop_mu hL (ClI b) (fun s => b.length - s.1) (0, []) (fun s => [(3, vO D 0 (u _ (s.2))), (8, .bad), (10, .bad)]) (fun s => [(1, .it (D.strB (u _ b)) (u _ (s.1))), (0, oR D u (u _ (s.2)))]) ⟨by simp, by simp, by simp⟩ ?_ ?_
  · ((try conv => cbv); (repeat' (first | (with_reducible refine mK hD ?_; kernel_rfl) | (with_reducible first | refine mS hD ?_ | refine mT hD ?_ | refine mF hD ?_ | refine mB hD (fun _ => ?_) (fun _ => ?_) | exact True.intro | refine And.intro ?_ ?_) <;> try conv => cbv)); all_goals try (first | trivial | (subst hD; first | exact fun _ _ => ⟨_, rfl⟩ | exact fl1 | exact fl1') | (((try subst hD hu); (try simp only [nc] at *); (try simp only [Int.ofNat_eq_natCast] at *); try simp (disch := omega) only [std, uid, S0] at *) <;> first | omega | rfl | (exfalso; simp_all only [Bool.true_eq_false, Bool.false_eq_true]; done))))
    subst hD hu
    exact sr_strF LR.refl
  · intro s hs
    have h1 := hs.h1
    have h3 := hs.h3
    ((try conv => cbv); (repeat' (first | (with_reducible refine mK hD ?_; kernel_rfl) | (with_reducible first | refine mS hD ?_ | refine mT hD ?_ | refine mF hD ?_ | refine mB hD (fun _ => ?_) (fun _ => ?_) | exact True.intro | refine And.intro ?_ ?_) <;> try conv => cbv)); all_goals try (first | trivial | (subst hD; first | exact fun _ _ => ⟨_, rfl⟩ | exact fl1 | exact fl1') | (((try subst hD hu); (try simp only [nc] at *); (try simp only [Int.ofNat_eq_natCast] at *); try simp (disch := omega) only [std, uid, S0] at *) <;> first | omega | rfl | (exfalso; simp_all only [Bool.true_eq_false, Bool.false_eq_true]; done))))
    · have hi : s.1 < b.length := by ((try subst hD hu); (try simp only [nc] at *); (try simp only [Int.ofNat_eq_natCast] at *); try simp (disch := omega) only [std, uid, S0] at *); omega
      have hp : 0 < (b.drop s.1).length := by rw [List.length_drop]; omega
      have hw := dec_width hp
      have hr := dec_range hp
      rw [List.length_drop] at hw
      have hst := hs.step hi
      obtain ⟨hda1, hda2⟩ := dec_at hi
      generalize hd : dec (b.drop s.1) = d at *
      have he : d.1 = 9 := by ((try subst hD hu); (try simp only [nc] at *); (try simp only [Int.ofNat_eq_natCast] at *); try simp (disch := omega) only [std, uid, S0] at *); omega
      refine callx hD hu hC (x_shown (32)) ?_
      ((try conv => cbv); (repeat' (first | (with_reducible refine mK hD ?_; kernel_rfl) | (with_reducible first | refine mS hD ?_ | refine mT hD ?_ | refine mF hD ?_ | refine mB hD (fun _ => ?_) (fun _ => ?_) | exact True.intro | refine And.intro ?_ ?_) <;> try conv => cbv)); all_goals try (first | trivial | (subst hD; first | exact fun _ _ => ⟨_, rfl⟩ | exact fl1 | exact fl1') | (((try subst hD hu); (try simp only [nc] at *); (try simp only [Int.ofNat_eq_natCast] at *); try simp (disch := omega) only [std, uid, S0] at *) <;> first | omega | rfl | (exfalso; simp_all only [Bool.true_eq_false, Bool.false_eq_true]; done))))
      refine ⟨(s.1 + d.2, s.2 ++ [shownR (tabR d.1)]), hst, ssem_of ?_, by simp only; omega⟩
      ((try conv => cbv); (repeat' (first | (with_reducible refine mK hD ?_; kernel_rfl) | (with_reducible first | refine mS hD ?_ | refine mT hD ?_ | refine mF hD ?_ | refine mB hD (fun _ => ?_) (fun _ => ?_) | exact True.intro | refine And.intro ?_ ?_) <;> try conv => cbv)); all_goals try (first | trivial | (subst hD; first | exact fun _ _ => ⟨_, rfl⟩ | exact fl1 | exact fl1') | (((try subst hD hu); (try simp only [nc] at *); (try simp only [Int.ofNat_eq_natCast] at *); try simp (disch := omega) only [std, uid, S0] at *) <;> first | omega | rfl | (exfalso; simp_all only [Bool.true_eq_false, Bool.false_eq_true]; done))))
      (subst hD hu; apply qR; (focus repeat' (first | exact LR.refl | exact LR_bytes | apply mClu | apply mCel | apply mKey | apply mSnp | apply mKRd | apply mLin | apply mHis | apply mBlk | apply mScr | apply mSes | exact zR | exact zB | exact zT | exact zN | exact zClu | exact zCel | exact zCelS | exact zSnp | exact zKey | exact zSes | exact zScr | apply LR.deq | exact LR.nil | apply LR.one | apply LR.rep | apply LR.cat | apply LR.cat' | apply LR.set | exact u8_0 | exact DEq.s _ | (apply str_deq; (repeat' apply sr_cat) <;> rfl) | apply aLe_1 | (apply LR.rfl'; simp only [uid, std, S0]; omega))); all_goals try simp only [uid, std, Int.toNat_natCast, Int.ofNat_eq_natCast])
      rw [tabR, if_pos he]
    · have hi : s.1 < b.length := by ((try subst hD hu); (try simp only [nc] at *); (try simp only [Int.ofNat_eq_natCast] at *); try simp (disch := omega) only [std, uid, S0] at *); omega
      have hp : 0 < (b.drop s.1).length := by rw [List.length_drop]; omega
      have hw := dec_width hp
      have hr := dec_range hp
      rw [List.length_drop] at hw
      have hst := hs.step hi
      obtain ⟨hda1, hda2⟩ := dec_at hi
      generalize hd : dec (b.drop s.1) = d at *
      have he : d.1 ≠ 9 := by ((try subst hD hu); (try simp only [nc] at *); (try simp only [Int.ofNat_eq_natCast] at *); try simp (disch := omega) only [std, uid, S0] at *); omega
      refine callx hD hu hC (x_shown (d.1)) ?_
      ((try conv => cbv); (repeat' (first | (with_reducible refine mK hD ?_; kernel_rfl) | (with_reducible first | refine mS hD ?_ | refine mT hD ?_ | refine mF hD ?_ | refine mB hD (fun _ => ?_) (fun _ => ?_) | exact True.intro | refine And.intro ?_ ?_) <;> try conv => cbv)); all_goals try (first | trivial | (subst hD; first | exact fun _ _ => ⟨_, rfl⟩ | exact fl1 | exact fl1') | (((try subst hD hu); (try simp only [nc] at *); (try simp only [Int.ofNat_eq_natCast] at *); try simp (disch := omega) only [std, uid, S0] at *) <;> first | omega | rfl | (exfalso; simp_all only [Bool.true_eq_false, Bool.false_eq_true]; done))))
      refine ⟨(s.1 + d.2, s.2 ++ [shownR (tabR d.1)]), hst, ssem_of ?_, by simp only; omega⟩
      ((try conv => cbv); (repeat' (first | (with_reducible refine mK hD ?_; kernel_rfl) | (with_reducible first | refine mS hD ?_ | refine mT hD ?_ | refine mF hD ?_ | refine mB hD (fun _ => ?_) (fun _ => ?_) | exact True.intro | refine And.intro ?_ ?_) <;> try conv => cbv)); all_goals try (first | trivial | (subst hD; first | exact fun _ _ => ⟨_, rfl⟩ | exact fl1 | exact fl1') | (((try subst hD hu); (try simp only [nc] at *); (try simp only [Int.ofNat_eq_natCast] at *); try simp (disch := omega) only [std, uid, S0] at *) <;> first | omega | rfl | (exfalso; simp_all only [Bool.true_eq_false, Bool.false_eq_true]; done))))
      (subst hD hu; apply qR; (focus repeat' (first | exact LR.refl | exact LR_bytes | apply mClu | apply mCel | apply mKey | apply mSnp | apply mKRd | apply mLin | apply mHis | apply mBlk | apply mScr | apply mSes | exact zR | exact zB | exact zT | exact zN | exact zClu | exact zCel | exact zCelS | exact zSnp | exact zKey | exact zSes | exact zScr | apply LR.deq | exact LR.nil | apply LR.one | apply LR.rep | apply LR.cat | apply LR.cat' | apply LR.set | exact u8_0 | exact DEq.s _ | (apply str_deq; (repeat' apply sr_cat) <;> rfl) | apply aLe_1 | (apply LR.rfl'; simp only [uid, std, S0]; omega))); all_goals try simp only [uid, std, Int.toNat_natCast, Int.ofNat_eq_natCast])
      rw [tabR, if_neg he]
    · have he := hs.fin (by ((try subst hD hu); (try simp only [nc] at *); (try simp only [Int.ofNat_eq_natCast] at *); try simp (disch := omega) only [std, uid, S0] at *); omega)
      ((try subst hD hu); (try simp only [nc] at *); (try simp only [Int.ofNat_eq_natCast] at *); try simp (disch := omega) only [std, uid, S0, he] at *)
    · have he := hs.fin (by ((try subst hD hu); (try simp only [nc] at *); (try simp only [Int.ofNat_eq_natCast] at *); try simp (disch := omega) only [std, uid, S0] at *); omega)
      (subst hD hu; apply qR; (focus repeat' (first | exact LR.refl | exact LR_bytes | apply mClu | apply mCel | apply mKey | apply mSnp | apply mKRd | apply mLin | apply mHis | apply mBlk | apply mScr | apply mSes | exact zR | exact zB | exact zT | exact zN | exact zClu | exact zCel | exact zCelS | exact zSnp | exact zKey | exact zSes | exact zScr | apply LR.deq | exact LR.nil | apply LR.one | apply LR.rep | apply LR.cat | apply LR.cat' | apply LR.set | exact u8_0 | exact DEq.s _ | (apply str_deq; (repeat' apply sr_cat) <;> rfl) | apply aLe_1 | (apply LR.rfl'; simp only [uid, std, S0]; omega))); all_goals try simp only [uid, std, Int.toNat_natCast, Int.ofNat_eq_natCast])
      exact he
end Go.AW
/- Clusters in lists. -/
set_option linter.unusedVariables false
set_option linter.unusedSimpArgs false
namespace Go.AW
open Go.Proofs
set_option maxRecDepth 100000
set_option maxHeartbeats 4000000
theorem x_implRuneWidth (r : Int) : PX Try.prog 81 (fun D u => [AK .i32 (u _ r)]) (fun D u => [RI (u _ (runeWidth r))]) (fun D u => []) := px_of (con_implRuneWidth r _ rfl)
theorem x_specRuneWidth (r : Int) (hr : okR r) : PX Try.prog 80 (fun D u => [AK .i32 (u _ r)]) (fun D u => [RI (u _ (runeWidth r))]) (fun D u => []) := px_of (con_specRuneWidth r _ hr rfl)
theorem runeWidth_range (r : Int) : 0 ≤ runeWidth r ∧ runeWidth r ≤ 2 := by
  unfold runeWidth
  split
  · omega
  · split <;> omega
/-- A rune behind clusters. -/
def addRune (out : List Clu) (v : Int) : List Clu :=
  if 0 < runeWidth (shownR v) then out ++ [⟨[shownR v], runeWidth (shownR v)⟩]
  else if out = [] then [⟨[9676, shownR v], 1⟩]
  else out.set (out.length - 1) { out.getD (out.length - 1) dClu with runes := (out.getD (out.length - 1) dClu).runes ++ [shownR v] }
def clusters (rs : List Int) : List Clu := rs.foldl addRune []
theorem clusters_snoc (rs : List Int) (k : Nat) (h : k < rs.length) : clusters (rs.take (k + 1)) = addRune (clusters (rs.take k)) (rs.getD k 0) := by
  rw [take_snoc rs 0 k h]
  simp [clusters]
theorem addRune_len (out : List Clu) (v : Int) : (addRune out v).length ≤ out.length + 1 := by
  unfold addRune
  split
  · simp
  · split
    · simp
    · simp
theorem foldl_take_len (rs : List Int) (k : Nat) : (clusters (rs.take k)).length ≤ k := by
  induction k with
  | zero => simp [clusters]
  | succ k ih =>
    rcases Nat.lt_or_ge k rs.length with h | h
    · rw [clusters_snoc rs k h]
      have := addRune_len (clusters (rs.take k)) (rs.getD k 0)
      omega
    · rw [List.take_of_length_le (by omega)]
      rw [List.take_of_length_le (by omega)] at ih
      omega
theorem cntL_append {α : Type} (c : α → Nat) (a b : List α) : cntL c (a ++ b) = cntL c a + cntL c b := by simp [cntL]
theorem cntL_set {α : Type} (c : α → Nat) (d : α) : ∀ (l : List α) (k : Nat) (x : α), k < l.length → cntL c (l.set k x) + c (l.getD k d) = cntL c l + c x
  | [], k, x, h => by simp at h
  | y :: l, 0, x, h => by simp [cntL]; omega
  | y :: l, k + 1, x, h => by
    have := cntL_set c d l k x (by simpa using h)
    simp only [cntL, List.set_cons_succ, List.map_cons, List.sum_cons, List.getD_cons_succ] at *
    omega
theorem addRune_cnt (out : List Clu) (v : Int) : cntL toEClu (addRune out v) ≤ cntL toEClu out + 1 ∨ (out = [] ∧ cntL toEClu (addRune out v) ≤ 2) := by
  unfold addRune
  split
  · left; rw [cntL_append]; simp [cntL, toEClu]
  · split
    · right; rename_i h; exact ⟨h, by simp [cntL, toEClu]⟩
    · left
      rename_i h
      have hp : 0 < out.length := List.length_pos_iff.mpr h
      have := cntL_set toEClu dClu out (out.length - 1) { out.getD (out.length - 1) dClu with runes := (out.getD (out.length - 1) dClu).runes ++ [shownR v] } (by omega)
      simp only [toEClu, List.length_append, List.length_cons, List.length_nil] at this ⊢
      omega
theorem addRune_ne (out : List Clu) (v : Int) : addRune out v ≠ [] := by
  unfold addRune
  split
  · simp
  · split
    · simp
    · rename_i h
      intro h2
      have := congrArg List.length h2
      rw [List.length_set] at this
      exact h (List.length_eq_zero_iff.mp this)
theorem clusters_cnt (rs : List Int) : ∀ (out : List Clu), cntL toEClu (rs.foldl addRune out) ≤ cntL toEClu out + rs.length + (if out = [] then 1 else 0) := by
  induction rs with
  | nil => intro out; simp only [List.foldl_nil, List.length_nil]; omega
  | cons v rs ih =>
    intro out
    have h1 := ih (addRune out v)
    rw [if_neg (addRune_ne out v)] at h1
    simp only [List.foldl_cons, List.length_cons]
    rcases addRune_cnt out v with h2 | ⟨rfl, h2⟩
    · split <;> omega
    · have : cntL toEClu ([] : List Clu) = 0 := rfl
      rw [if_pos rfl]; omega
theorem clusters_tot (rs : List Int) : totL toEClu (clusters rs) ≤ 2 * rs.length + 1 := by
  have h1 := clusters_cnt rs []
  have h2 := foldl_take_len rs rs.length
  rw [List.take_length] at h2
  have : cntL toEClu ([] : List Clu) = 0 := rfl
  rw [if_pos rfl] at h1
  simp only [totL]
  unfold clusters at *
  omega
theorem okI_small {n : Int} (h : 0 ≤ n ∧ n ≤ 1000000) : okI n := by unfold okI; omega
theorem okR_shown (v : Int) : okR (shownR v) := by have := shown_range v; unfold okR; omega
theorem addRune_ok {out : List Clu} (v : Int) (h : ∀ c, c ∈ out → okClu c) : ∀ c, c ∈ addRune out v → okClu c := by
  unfold addRune
  have hw := runeWidth_range (shownR v)
  split
  · intro c hc
    rcases List.mem_append.mp hc with hc | hc
    · exact h c hc
    · rw [List.mem_singleton.mp hc]
      exact ⟨fun r hr => by rw [List.mem_singleton.mp hr]; exact okR_shown v, okI_small (by simp only; omega)⟩
  · split
    · intro c hc
      rw [List.mem_singleton.mp hc]
      refine ⟨fun r hr => ?_, okI_small (by simp only; omega)⟩
      rcases List.mem_cons.mp hr with rfl | hr
      · unfold okR; omega
      · rw [List.mem_singleton.mp hr]; exact okR_shown v
    · rename_i hne
      intro c hc
      have hp : 0 < out.length := List.length_pos_iff.mpr hne
      have hm := h _ (getD_mem out dClu (out.length - 1) (by omega))
      rcases List.mem_or_eq_of_mem_set hc with hc | rfl
      · exact h c hc
      · refine ⟨fun r hr => ?_, hm.2⟩
        rcases List.mem_append.mp hr with hr | hr
        · exact hm.1 r hr
        · rw [List.mem_singleton.mp hr]; exact okR_shown v
theorem clusters_ok (rs : List Int) : ∀ c, c ∈ clusters rs → okClu c := by
  have : ∀ (rs : List Int) (out : List Clu), (∀ c, c ∈ out → okClu c) → ∀ c, c ∈ rs.foldl addRune out → okClu c := by
    intro rs
    induction rs with
    | nil => intro out h; exact h
    | cons v rs ih => intro out h; exact ih _ (addRune_ok v h)
  exact this rs [] (fun c hc => by simp at hc)
end Go.AW
/- Clusters on both sides. -/
set_option linter.unusedVariables false
set_option linter.unusedSimpArgs false
namespace Go.AW
open Go.Proofs
set_option maxRecDepth 100000
set_option maxHeartbeats 4000000
theorem clusters_last (rs : List Int) (k : Nat) (hk : k ≤ rs.length) : (clusters (rs.take k)).length ≤ k ∧ ∀ i, ((clusters (rs.take k)).getD i dClu).runes.length ≤ k + 1 := by
  refine ⟨foldl_take_len rs k, fun i => ?_⟩
  have h1 := clusters_cnt (rs.take k) []
  have : cntL toEClu ([] : List Clu) = 0 := rfl
  rw [if_pos rfl, this, List.length_take] at h1
  rcases Nat.lt_or_ge i (clusters (rs.take k)).length with h | h
  · have h2 := le_cntL toEClu (clusters (rs.take k)) _ (getD_mem _ dClu i h)
    simp only [toEClu] at h2
    unfold clusters at *
    omega
  · rw [List.getD_eq_getElem?_getD, List.getElem?_eq_none (by omega)]
    simp [dClu]
theorem x_specClusters (rs : List Int) (hn : rs.length ≤ 1000000000) (hr : ∀ r, r ∈ rs → okR r) : PX Try.prog 36 (fun D u => [.r (.c (lR D u (u _ rs)))]) (fun D u => [.c (lClu D u (u _ (clusters rs)))]) (fun D u => []) := by
  refine px_of_awp (fn := Try.f36) (c := bodyOf Try.f36) envOk (by kernel_rfl) (by kernel_rfl) (by kernel_rfl) (by kernel_rfl) rfl (by kernel_rfl) (by kernel_rfl) ?_
  intro w0 mine D u C L hD hu hC hL
  (have hset := hsA hD; have hset3 := hsB hD; have hset2 := hset; (conv at hset2 => enter [f, a, row, 1]; whnf); (conv at hset3 => enter [f, a, row, row', 1]; whnf; enter [1]; whnf); (conv at hset3 => enter [f, a, row, row', 2]; whnf))
  ((try conv => cbv); (repeat' (first | (with_reducible refine mK hD ?_; kernel_rfl) | (with_reducible first | refine mS hD ?_ | refine mT hD ?_ | refine mF hD ?_ | refine mB hD (fun _ => ?_) (fun _ => ?_) | exact True.intro | refine And.intro ?_ ?_) <;> try conv => cbv)); all_goals try (first | trivial | (subst hD; first | exact fun _ _ => ⟨_, rfl⟩ | exact fl1 | exact fl1') | (((try subst hD hu); (try simp only [nc] at *); (try simp only [Int.ofNat_eq_natCast] at *); try simp (disch := omega) only [std, uid, S0] at *) <;> first | omega | rfl | (exfalso; simp_all only [Bool.true_eq_false, Bool.false_eq_true]; done))))
  refine loop_st hL rs.length (fun k s => s = clusters (rs.take k)) [] (fun k s => [(3, vO D 0 (u _ s)), (8, .bad), (4, VI (u _ k))]) (fun k s => [(0, oClu D u (u _ s))]) rfl ?_ ?_
  · ((try conv => cbv); (repeat' (first | (with_reducible refine mK hD ?_; kernel_rfl) | (with_reducible first | refine mS hD ?_ | refine mT hD ?_ | refine mF hD ?_ | refine mB hD (fun _ => ?_) (fun _ => ?_) | exact True.intro | refine And.intro ?_ ?_) <;> try conv => cbv)); all_goals try (first | trivial | (subst hD; first | exact fun _ _ => ⟨_, rfl⟩ | exact fl1 | exact fl1') | (((try subst hD hu); (try simp only [nc] at *); (try simp only [Int.ofNat_eq_natCast] at *); try simp (disch := omega) only [std, uid, S0] at *) <;> first | omega | rfl | (exfalso; simp_all only [Bool.true_eq_false, Bool.false_eq_true]; done))))
    (subst hD hu; apply qClu; (focus repeat' (first | exact LR.refl | exact LR_bytes | apply mClu | apply mCel | apply mKey | apply mSnp | apply mKRd | apply mLin | apply mHis | apply mBlk | apply mScr | apply mSes | exact zR | exact zB | exact zT | exact zN | exact zClu | exact zCel | exact zCelS | exact zSnp | exact zKey | exact zSes | exact zScr | apply LR.deq | exact LR.nil | apply LR.one | apply LR.rep | apply LR.cat | apply LR.cat' | apply LR.set | exact u8_0 | exact DEq.s _ | (apply str_deq; (repeat' apply sr_cat) <;> rfl) | apply aLe_1 | (apply LR.rfl'; simp only [uid, std, S0]; omega))); all_goals try simp only [uid, std, Int.toNat_natCast, Int.ofNat_eq_natCast])
  · intro k s hk hs
    have hb := clusters_last rs k hk
    rw [← hs] at hb
    have hb1 := hb.1
    have hb2 := hb.2
    ((try conv => cbv); (repeat' (first | (with_reducible refine mK hD ?_; kernel_rfl) | (with_reducible first | refine mS hD ?_ | refine mT hD ?_ | refine mF hD ?_ | refine mB hD (fun _ => ?_) (fun _ => ?_) | exact True.intro | refine And.intro ?_ ?_) <;> try conv => cbv)); all_goals try (first | trivial | (subst hD; first | exact fun _ _ => ⟨_, rfl⟩ | exact fl1 | exact fl1') | (((try subst hD hu); (try simp only [nc] at *); (try simp only [Int.ofNat_eq_natCast] at *); try simp (disch := omega) only [std, uid, S0] at *) <;> first | omega | rfl | (exfalso; simp_all only [Bool.true_eq_false, Bool.false_eq_true]; done))))
    · have hkn : k < rs.length := by ((try subst hD hu); (try simp only [nc] at *); (try simp only [Int.ofNat_eq_natCast] at *); try simp (disch := omega) only [std, uid, S0] at *); omega
      have hsn := clusters_snoc rs k hkn
      rw [← hs] at hsn
      have hok := hr _ (getD_mem rs 0 k hkn)
      unfold okR at hok
      generalize hv : rs.getD k 0 = v at *
      have hsr := shown_range v
      have hw := runeWidth_range (shownR v)
      refine callx hD hu hC (x_l1Shown v) ?_
      ((try conv => cbv); (repeat' (first | (with_reducible refine mK hD ?_; kernel_rfl) | (with_reducible first | refine mS hD ?_ | refine mT hD ?_ | refine mF hD ?_ | refine mB hD (fun _ => ?_) (fun _ => ?_) | exact True.intro | refine And.intro ?_ ?_) <;> try conv => cbv)); all_goals try (first | trivial | (subst hD; first | exact fun _ _ => ⟨_, rfl⟩ | exact fl1 | exact fl1') | (((try subst hD hu); (try simp only [nc] at *); (try simp only [Int.ofNat_eq_natCast] at *); try simp (disch := omega) only [std, uid, S0] at *) <;> first | omega | rfl | (exfalso; simp_all only [Bool.true_eq_false, Bool.false_eq_true]; done))))
      all_goals try (((try subst hD hu); (try simp only [nc] at *); (try simp only [Int.ofNat_eq_natCast] at *); try simp (disch := omega) only [std, uid, S0, hv] at *); done)
      refine callx hD hu hC (x_specRuneWidth (shownR v) (okR_shown v)) ?_
      ((try conv => cbv); (repeat' (first | (with_reducible refine mK hD ?_; kernel_rfl) | (with_reducible first | refine mS hD ?_ | refine mT hD ?_ | refine mF hD ?_ | refine mB hD (fun _ => ?_) (fun _ => ?_) | exact True.intro | refine And.intro ?_ ?_) <;> try conv => cbv)); all_goals try (first | trivial | (subst hD; first | exact fun _ _ => ⟨_, rfl⟩ | exact fl1 | exact fl1') | (((try subst hD hu); (try simp only [nc] at *); (try simp only [Int.ofNat_eq_natCast] at *); try simp (disch := omega) only [std, uid, S0] at *) <;> first | omega | rfl | (exfalso; simp_all only [Bool.true_eq_false, Bool.false_eq_true]; done))))
      all_goals try (((try subst hD hu); (try simp only [nc] at *); (try simp only [Int.ofNat_eq_natCast] at *); try simp (disch := omega) only [std, uid, S0] at *); rw [wrapI32 _ (by omega)]; done)
      · have hp : 0 < runeWidth (shownR v) := by ((try subst hD hu); (try simp only [nc] at *); (try simp only [Int.ofNat_eq_natCast] at *); try simp (disch := omega) only [std, uid, S0] at *); omega
        refine ⟨k + 1, s ++ [⟨[shownR v], runeWidth (shownR v)⟩], hkn, by rw [hsn, addRune, if_pos hp], ssem_of ?_, by omega⟩
        ((try conv => cbv); (repeat' (first | (with_reducible refine mK hD ?_; kernel_rfl) | (with_reducible first | refine mS hD ?_ | refine mT hD ?_ | refine mF hD ?_ | refine mB hD (fun _ => ?_) (fun _ => ?_) | exact True.intro | refine And.intro ?_ ?_) <;> try conv => cbv)); all_goals try (first | trivial | (subst hD; first | exact fun _ _ => ⟨_, rfl⟩ | exact fl1 | exact fl1') | (((try subst hD hu); (try simp only [nc] at *); (try simp only [Int.ofNat_eq_natCast] at *); try simp (disch := omega) only [std, uid, S0] at *) <;> first | omega | rfl | (exfalso; simp_all only [Bool.true_eq_false, Bool.false_eq_true]; done))))
        (subst hD hu; apply qClu; (focus repeat' (first | exact LR.refl | exact LR_bytes | apply mClu | apply mCel | apply mKey | apply mSnp | apply mKRd | apply mLin | apply mHis | apply mBlk | apply mScr | apply mSes | exact zR | exact zB | exact zT | exact zN | exact zClu | exact zCel | exact zCelS | exact zSnp | exact zKey | exact zSes | exact zScr | apply LR.deq | exact LR.nil | apply LR.one | apply LR.rep | apply LR.cat | apply LR.cat' | apply LR.set | exact u8_0 | exact DEq.s _ | (apply str_deq; (repeat' apply sr_cat) <;> rfl) | apply aLe_1 | (apply LR.rfl'; simp only [uid, std, S0]; omega))); all_goals try simp only [uid, std, Int.toNat_natCast, Int.ofNat_eq_natCast])
        rw [wrapI32 _ (by omega)]
      all_goals (
        have hcA : ∀ (f g : Nat → List DV), D.catF (D.lenL Clu (u _ s)) f 1 g (rowN D 0 (D.subI .i64 (D.ofN (D.addN (D.lenL Clu (u _ s)) 1)) 1)) = g 0 := fun f g => by
          subst hD hu
          simp only [uid, std, catR, rowN, Int.natCast_add, Int.natCast_one]
          rw [wrap64 _ (by omega), if_pos (by omega)]
          congr 1
          omega
        have hcB := hcA
        conv at hcB => enter [f, g, 1]; cbv)
      repeat' ((first | simp only [hcB] | simp only [hset2, hset3, hset, rowN]); ((try conv => cbv); (repeat' (first | (with_reducible refine mK hD ?_; kernel_rfl) | (with_reducible first | refine mS hD ?_ | refine mT hD ?_ | refine mF hD ?_ | refine mB hD (fun _ => ?_) (fun _ => ?_) | exact True.intro | refine And.intro ?_ ?_) <;> try conv => cbv)); all_goals try (first | trivial | (subst hD; first | exact fun _ _ => ⟨_, rfl⟩ | exact fl1 | exact fl1') | (((try subst hD hu); (try simp only [nc] at *); (try simp only [Int.ofNat_eq_natCast] at *); try simp (disch := omega) only [std, uid, S0] at *) <;> first | omega | rfl | (exfalso; simp_all only [Bool.true_eq_false, Bool.false_eq_true]; done)))))
      · have h0 : s = [] := by ((try subst hD hu); (try simp only [nc] at *); (try simp only [Int.ofNat_eq_natCast] at *); try simp (disch := omega) only [std, uid, S0] at *); exact List.length_eq_zero_iff.mp (by omega)
        subst h0
        have hp : ¬ 0 < runeWidth (shownR v) := by ((try subst hD hu); (try simp only [nc] at *); (try simp only [Int.ofNat_eq_natCast] at *); try simp (disch := omega) only [std, uid, S0] at *); omega
        refine ⟨k + 1, [⟨[9676, shownR v], 1⟩], hkn, by rw [hsn, addRune, if_neg hp, if_pos rfl], ssem_of ?_, by omega⟩
        ((try conv => cbv); (repeat' (first | (with_reducible refine mK hD ?_; kernel_rfl) | (with_reducible first | refine mS hD ?_ | refine mT hD ?_ | refine mF hD ?_ | refine mB hD (fun _ => ?_) (fun _ => ?_) | exact True.intro | refine And.intro ?_ ?_) <;> try conv => cbv)); all_goals try (first | trivial | (subst hD; first | exact fun _ _ => ⟨_, rfl⟩ | exact fl1 | exact fl1') | (((try subst hD hu); (try simp only [nc] at *); (try simp only [Int.ofNat_eq_natCast] at *); try simp (disch := omega) only [std, uid, S0] at *) <;> first | omega | rfl | (exfalso; simp_all only [Bool.true_eq_false, Bool.false_eq_true]; done))))
        (subst hD hu; apply qClu; (focus repeat' (first | exact LR.refl | exact LR_bytes | apply mClu | apply mCel | apply mKey | apply mSnp | apply mKRd | apply mLin | apply mHis | apply mBlk | apply mScr | apply mSes | exact zR | exact zB | exact zT | exact zN | exact zClu | exact zCel | exact zCelS | exact zSnp | exact zKey | exact zSes | exact zScr | apply LR.deq | exact LR.nil | apply LR.one | apply LR.rep | apply LR.cat | apply LR.cat' | apply LR.set | exact u8_0 | exact DEq.s _ | (apply str_deq; (repeat' apply sr_cat) <;> rfl) | apply aLe_1 | (apply LR.rfl'; simp only [uid, std, S0]; omega))); all_goals try simp only [uid, std, Int.toNat_natCast, Int.ofNat_eq_natCast])
        rw [wrapI32 _ (by omega)]
        rfl
      · have := hb2 ((s.length : Int) - 1).toNat
        have h0 : s.length ≠ 0 := by ((try subst hD hu); (try simp only [nc] at *); (try simp only [Int.ofNat_eq_natCast] at *); try simp (disch := omega) only [std, uid, S0] at *); omega
        ((try subst hD hu); (try simp only [nc] at *); (try simp only [Int.ofNat_eq_natCast] at *); try simp (disch := omega) only [std, uid, S0] at *)
        omega
      · have h0 : s ≠ [] := by
          intro h; subst h; ((try subst hD hu); (try simp only [nc] at *); (try simp only [Int.ofNat_eq_natCast] at *); try simp (disch := omega) only [std, uid, S0] at *); omega
        have hp : ¬ 0 < runeWidth (shownR v) := by ((try subst hD hu); (try simp only [nc] at *); (try simp only [Int.ofNat_eq_natCast] at *); try simp (disch := omega) only [std, uid, S0] at *); omega
        refine ⟨k + 1, s.set (s.length - 1) { s.getD (s.length - 1) dClu with runes := (s.getD (s.length - 1) dClu).runes ++ [shownR v] }, hkn, by rw [hsn, addRune, if_neg hp, if_neg h0], ssem_of ?_, by omega⟩
        have h0' : s.length ≠ 0 := fun h => h0 (List.length_eq_zero_iff.mp h)
        ((try conv => cbv); (repeat' (first | (with_reducible refine mK hD ?_; kernel_rfl) | (with_reducible first | refine mS hD ?_ | refine mT hD ?_ | refine mF hD ?_ | refine mB hD (fun _ => ?_) (fun _ => ?_) | exact True.intro | refine And.intro ?_ ?_) <;> try conv => cbv)); all_goals try (first | trivial | (subst hD; first | exact fun _ _ => ⟨_, rfl⟩ | exact fl1 | exact fl1') | (((try subst hD hu); (try simp only [nc] at *); (try simp only [Int.ofNat_eq_natCast] at *); try simp (disch := omega) only [std, uid, S0] at *) <;> first | omega | rfl | (exfalso; simp_all only [Bool.true_eq_false, Bool.false_eq_true]; done))))
        (subst hD hu; apply qClu; (focus repeat' (first | exact LR.refl | exact LR_bytes | apply mClu | apply mCel | apply mKey | apply mSnp | apply mKRd | apply mLin | apply mHis | apply mBlk | apply mScr | apply mSes | exact zR | exact zB | exact zT | exact zN | exact zClu | exact zCel | exact zCelS | exact zSnp | exact zKey | exact zSes | exact zScr | apply LR.deq | exact LR.nil | apply LR.one | apply LR.rep | apply LR.cat | apply LR.cat' | apply LR.set | exact u8_0 | exact DEq.s _ | (apply str_deq; (repeat' apply sr_cat) <;> rfl) | apply aLe_1 | (apply LR.rfl'; simp only [uid, std, S0]; omega))); all_goals try simp only [uid, std, Int.toNat_natCast, Int.ofNat_eq_natCast])
        rw [wrapI32 _ (by omega), wrap64 _ (by omega), show ((s.length : Int) - 1).toNat = s.length - 1 by omega]
    · have e : k = rs.length := by ((try subst hD hu); (try simp only [nc] at *); (try simp only [Int.ofNat_eq_natCast] at *); try simp (disch := omega) only [std, uid, S0] at *); omega
      subst e
      rw [List.take_length] at hs
      rw [hs]
    · have e : k = rs.length := by ((try subst hD hu); (try simp only [nc] at *); (try simp only [Int.ofNat_eq_natCast] at *); try simp (disch := omega) only [std, uid, S0] at *); omega
      subst e
      rw [List.take_length] at hs
      (subst hD hu; apply qClu; (focus repeat' (first | exact LR.refl | exact LR_bytes | apply mClu | apply mCel | apply mKey | apply mSnp | apply mKRd | apply mLin | apply mHis | apply mBlk | apply mScr | apply mSes | exact zR | exact zB | exact zT | exact zN | exact zClu | exact zCel | exact zCelS | exact zSnp | exact zKey | exact zSes | exact zScr | apply LR.deq | exact LR.nil | apply LR.one | apply LR.rep | apply LR.cat | apply LR.cat' | apply LR.set | exact u8_0 | exact DEq.s _ | (apply str_deq; (repeat' apply sr_cat) <;> rfl) | apply aLe_1 | (apply LR.rfl'; simp only [uid, std, S0]; omega))); all_goals try simp only [uid, std, Int.toNat_natCast, Int.ofNat_eq_natCast])
      exact hs
theorem x_implClusters (rs : List Int) (hn : rs.length ≤ 1000000000) (hr : ∀ r, r ∈ rs → okR r) : PX Try.prog 38 (fun D u => [.r (.c (lR D u (u _ rs)))]) (fun D u => [.c (lClu D u (u _ (clusters rs)))]) (fun D u => []) := by
  refine px_of_awp (fn := Try.f38) (c := bodyOf Try.f38) envOk (by kernel_rfl) (by kernel_rfl) (by kernel_rfl) (by kernel_rfl) rfl (by kernel_rfl) (by kernel_rfl) ?_
  intro w0 mine D u C L hD hu hC hL
  (have hset := hsA hD; have hset3 := hsB hD; have hset2 := hset; (conv at hset2 => enter [f, a, row, 1]; whnf); (conv at hset3 => enter [f, a, row, row', 1]; whnf; enter [1]; whnf); (conv at hset3 => enter [f, a, row, row', 2]; whnf))
  ((try conv => cbv); (repeat' (first | (with_reducible refine mK hD ?_; kernel_rfl) | (with_reducible first | refine mS hD ?_ | refine mT hD ?_ | refine mF hD ?_ | refine mB hD (fun _ => ?_) (fun _ => ?_) | exact True.intro | refine And.intro ?_ ?_) <;> try conv => cbv)); all_goals try (first | trivial | (subst hD; first | exact fun _ _ => ⟨_, rfl⟩ | exact fl1 | exact fl1') | (((try subst hD hu); (try simp only [nc] at *); (try simp only [Int.ofNat_eq_natCast] at *); try simp (disch := omega) only [std, uid, S0] at *) <;> first | omega | rfl | (exfalso; simp_all only [Bool.true_eq_false, Bool.false_eq_true]; done))))
  refine loop_st hL rs.length (fun k s => s = clusters (rs.take k)) [] (fun k s => [(3, vO D 0 (u _ s)), (9, .bad), (12, VI (u _ k))]) (fun k s => [(0, oClu D u (u _ s))]) rfl ?_ ?_
  · ((try conv => cbv); (repeat' (first | (with_reducible refine mK hD ?_; kernel_rfl) | (with_reducible first | refine mS hD ?_ | refine mT hD ?_ | refine mF hD ?_ | refine mB hD (fun _ => ?_) (fun _ => ?_) | exact True.intro | refine And.intro ?_ ?_) <;> try conv => cbv)); all_goals try (first | trivial | (subst hD; first | exact fun _ _ => ⟨_, rfl⟩ | exact fl1 | exact fl1') | (((try subst hD hu); (try simp only [nc] at *); (try simp only [Int.ofNat_eq_natCast] at *); try simp (disch := omega) only [std, uid, S0] at *) <;> first | omega | rfl | (exfalso; simp_all only [Bool.true_eq_false, Bool.false_eq_true]; done))))
    (subst hD hu; apply qClu; (focus repeat' (first | exact LR.refl | exact LR_bytes | apply mClu | apply mCel | apply mKey | apply mSnp | apply mKRd | apply mLin | apply mHis | apply mBlk | apply mScr | apply mSes | exact zR | exact zB | exact zT | exact zN | exact zClu | exact zCel | exact zCelS | exact zSnp | exact zKey | exact zSes | exact zScr | apply LR.deq | exact LR.nil | apply LR.one | apply LR.rep | apply LR.cat | apply LR.cat' | apply LR.set | exact u8_0 | exact DEq.s _ | (apply str_deq; (repeat' apply sr_cat) <;> rfl) | apply aLe_1 | (apply LR.rfl'; simp only [uid, std, S0]; omega))); all_goals try simp only [uid, std, Int.toNat_natCast, Int.ofNat_eq_natCast])
  · intro k s hk hs
    have hb := clusters_last rs k hk
    rw [← hs] at hb
    have hb1 := hb.1
    have hb2 := hb.2
    ((try conv => cbv); (repeat' (first | (with_reducible refine mK hD ?_; kernel_rfl) | (with_reducible first | refine mS hD ?_ | refine mT hD ?_ | refine mF hD ?_ | refine mB hD (fun _ => ?_) (fun _ => ?_) | exact True.intro | refine And.intro ?_ ?_) <;> try conv => cbv)); all_goals try (first | trivial | (subst hD; first | exact fun _ _ => ⟨_, rfl⟩ | exact fl1 | exact fl1') | (((try subst hD hu); (try simp only [nc] at *); (try simp only [Int.ofNat_eq_natCast] at *); try simp (disch := omega) only [std, uid, S0] at *) <;> first | omega | rfl | (exfalso; simp_all only [Bool.true_eq_false, Bool.false_eq_true]; done))))
    · have hkn : k < rs.length := by ((try subst hD hu); (try simp only [nc] at *); (try simp only [Int.ofNat_eq_natCast] at *); try simp (disch := omega) only [std, uid, S0] at *); omega
      have hsn := clusters_snoc rs k hkn
      rw [← hs] at hsn
      have hok := hr _ (getD_mem rs 0 k hkn)
      unfold okR at hok
      generalize hv : rs.getD k 0 = v at *
      have hsr := shown_range v
      have hw := runeWidth_range (shownR v)
      refine callx hD hu hC (x_shown v) ?_
      ((try conv => cbv); (repeat' (first | (with_reducible refine mK hD ?_; kernel_rfl) | (with_reducible first | refine mS hD ?_ | refine mT hD ?_ | refine mF hD ?_ | refine mB hD (fun _ => ?_) (fun _ => ?_) | exact True.intro | refine And.intro ?_ ?_) <;> try conv => cbv)); all_goals try (first | trivial | (subst hD; first | exact fun _ _ => ⟨_, rfl⟩ | exact fl1 | exact fl1') | (((try subst hD hu); (try simp only [nc] at *); (try simp only [Int.ofNat_eq_natCast] at *); try simp (disch := omega) only [std, uid, S0] at *) <;> first | omega | rfl | (exfalso; simp_all only [Bool.true_eq_false, Bool.false_eq_true]; done))))
      all_goals try (((try subst hD hu); (try simp only [nc] at *); (try simp only [Int.ofNat_eq_natCast] at *); try simp (disch := omega) only [std, uid, S0, hv] at *); done)
      refine callx hD hu hC (x_implRuneWidth (shownR v)) ?_
      ((try conv => cbv); (repeat' (first | (with_reducible refine mK hD ?_; kernel_rfl) | (with_reducible first | refine mS hD ?_ | refine mT hD ?_ | refine mF hD ?_ | refine mB hD (fun _ => ?_) (fun _ => ?_) | exact True.intro | refine And.intro ?_ ?_) <;> try conv => cbv)); all_goals try (first | trivial | (subst hD; first | exact fun _ _ => ⟨_, rfl⟩ | exact fl1 | exact fl1') | (((try subst hD hu); (try simp only [nc] at *); (try simp only [Int.ofNat_eq_natCast] at *); try simp (disch := omega) only [std, uid, S0] at *) <;> first | omega | rfl | (exfalso; simp_all only [Bool.true_eq_false, Bool.false_eq_true]; done))))
      · have hp : 0 < runeWidth (shownR v) := by ((try subst hD hu); (try simp only [nc] at *); (try simp only [Int.ofNat_eq_natCast] at *); try simp (disch := omega) only [std, uid, S0] at *); omega
        refine ⟨k + 1, s ++ [⟨[shownR v], runeWidth (shownR v)⟩], hkn, by rw [hsn, addRune, if_pos hp], ssem_of ?_, by omega⟩
        ((try conv => cbv); (repeat' (first | (with_reducible refine mK hD ?_; kernel_rfl) | (with_reducible first | refine mS hD ?_ | refine mT hD ?_ | refine mF hD ?_ | refine mB hD (fun _ => ?_) (fun _ => ?_) | exact True.intro | refine And.intro ?_ ?_) <;> try conv => cbv)); all_goals try (first | trivial | (subst hD; first | exact fun _ _ => ⟨_, rfl⟩ | exact fl1 | exact fl1') | (((try subst hD hu); (try simp only [nc] at *); (try simp only [Int.ofNat_eq_natCast] at *); try simp (disch := omega) only [std, uid, S0] at *) <;> first | omega | rfl | (exfalso; simp_all only [Bool.true_eq_false, Bool.false_eq_true]; done))))
        (subst hD hu; apply qClu; (focus repeat' (first | exact LR.refl | exact LR_bytes | apply mClu | apply mCel | apply mKey | apply mSnp | apply mKRd | apply mLin | apply mHis | apply mBlk | apply mScr | apply mSes | exact zR | exact zB | exact zT | exact zN | exact zClu | exact zCel | exact zCelS | exact zSnp | exact zKey | exact zSes | exact zScr | apply LR.deq | exact LR.nil | apply LR.one | apply LR.rep | apply LR.cat | apply LR.cat' | apply LR.set | exact u8_0 | exact DEq.s _ | (apply str_deq; (repeat' apply sr_cat) <;> rfl) | apply aLe_1 | (apply LR.rfl'; simp only [uid, std, S0]; omega))); all_goals try simp only [uid, std, Int.toNat_natCast, Int.ofNat_eq_natCast])
      all_goals (
        have hcA : ∀ (f g : Nat → List DV), D.catF (D.lenL Clu (u _ s)) f 1 g (rowN D 0 (D.subI .i64 (D.ofN (D.addN (D.lenL Clu (u _ s)) 1)) 1)) = g 0 := fun f g => by
          subst hD hu
          simp only [uid, std, catR, rowN, Int.natCast_add, Int.natCast_one]
          rw [wrap64 _ (by omega), if_pos (by omega)]
          congr 1
          omega
        have hcB := hcA
        conv at hcB => enter [f, g, 1]; cbv)
      repeat' ((first | simp only [hcB] | simp only [hset2, hset3, hset, rowN]); ((try conv => cbv); (repeat' (first | (with_reducible refine mK hD ?_; kernel_rfl) | (with_reducible first | refine mS hD ?_ | refine mT hD ?_ | refine mF hD ?_ | refine mB hD (fun _ => ?_) (fun _ => ?_) | exact True.intro | refine And.intro ?_ ?_) <;> try conv => cbv)); all_goals try (first | trivial | (subst hD; first | exact fun _ _ => ⟨_, rfl⟩ | exact fl1 | exact fl1') | (((try subst hD hu); (try simp only [nc] at *); (try simp only [Int.ofNat_eq_natCast] at *); try simp (disch := omega) only [std, uid, S0] at *) <;> first | omega | rfl | (exfalso; simp_all only [Bool.true_eq_false, Bool.false_eq_true]; done)))))
      · have h0 : s = [] := by ((try subst hD hu); (try simp only [nc] at *); (try simp only [Int.ofNat_eq_natCast] at *); try simp (disch := omega) only [std, uid, S0] at *); exact List.length_eq_zero_iff.mp (by omega)
        subst h0
        have hp : ¬ 0 < runeWidth (shownR v) := by ((try subst hD hu); (try simp only [nc] at *); (try simp only [Int.ofNat_eq_natCast] at *); try simp (disch := omega) only [std, uid, S0] at *); omega
        refine ⟨k + 1, [⟨[9676, shownR v], 1⟩], hkn, by rw [hsn, addRune, if_neg hp, if_pos rfl], ssem_of ?_, by omega⟩
        ((try conv => cbv); (repeat' (first | (with_reducible refine mK hD ?_; kernel_rfl) | (with_reducible first | refine mS hD ?_ | refine mT hD ?_ | refine mF hD ?_ | refine mB hD (fun _ => ?_) (fun _ => ?_) | exact True.intro | refine And.intro ?_ ?_) <;> try conv => cbv)); all_goals try (first | trivial | (subst hD; first | exact fun _ _ => ⟨_, rfl⟩ | exact fl1 | exact fl1') | (((try subst hD hu); (try simp only [nc] at *); (try simp only [Int.ofNat_eq_natCast] at *); try simp (disch := omega) only [std, uid, S0] at *) <;> first | omega | rfl | (exfalso; simp_all only [Bool.true_eq_false, Bool.false_eq_true]; done))))
        (subst hD hu; apply qClu; (focus repeat' (first | exact LR.refl | exact LR_bytes | apply mClu | apply mCel | apply mKey | apply mSnp | apply mKRd | apply mLin | apply mHis | apply mBlk | apply mScr | apply mSes | exact zR | exact zB | exact zT | exact zN | exact zClu | exact zCel | exact zCelS | exact zSnp | exact zKey | exact zSes | exact zScr | apply LR.deq | exact LR.nil | apply LR.one | apply LR.rep | apply LR.cat | apply LR.cat' | apply LR.set | exact u8_0 | exact DEq.s _ | (apply str_deq; (repeat' apply sr_cat) <;> rfl) | apply aLe_1 | (apply LR.rfl'; simp only [uid, std, S0]; omega))); all_goals try simp only [uid, std, Int.toNat_natCast, Int.ofNat_eq_natCast])
        rfl
      · have := hb2 ((s.length : Int) - 1).toNat
        have h0 : s.length ≠ 0 := by ((try subst hD hu); (try simp only [nc] at *); (try simp only [Int.ofNat_eq_natCast] at *); try simp (disch := omega) only [std, uid, S0] at *); omega
        ((try subst hD hu); (try simp only [nc] at *); (try simp only [Int.ofNat_eq_natCast] at *); try simp (disch := omega) only [std, uid, S0] at *)
        omega
      · have h0 : s ≠ [] := by
          intro h; subst h; ((try subst hD hu); (try simp only [nc] at *); (try simp only [Int.ofNat_eq_natCast] at *); try simp (disch := omega) only [std, uid, S0] at *); omega
        have hp : ¬ 0 < runeWidth (shownR v) := by ((try subst hD hu); (try simp only [nc] at *); (try simp only [Int.ofNat_eq_natCast] at *); try simp (disch := omega) only [std, uid, S0] at *); omega
        refine ⟨k + 1, s.set (s.length - 1) { s.getD (s.length - 1) dClu with runes := (s.getD (s.length - 1) dClu).runes ++ [shownR v] }, hkn, by rw [hsn, addRune, if_neg hp, if_neg h0], ssem_of ?_, by omega⟩
        have h0' : s.length ≠ 0 := fun h => h0 (List.length_eq_zero_iff.mp h)
        ((try conv => cbv); (repeat' (first | (with_reducible refine mK hD ?_; kernel_rfl) | (with_reducible first | refine mS hD ?_ | refine mT hD ?_ | refine mF hD ?_ | refine mB hD (fun _ => ?_) (fun _ => ?_) | exact True.intro | refine And.intro ?_ ?_) <;> try conv => cbv)); all_goals try (first | trivial | (subst hD; first | exact fun _ _ => ⟨_, rfl⟩ | exact fl1 | exact fl1') | (((try subst hD hu); (try simp only [nc] at *); (try simp only [Int.ofNat_eq_natCast] at *); try simp (disch := omega) only [std, uid, S0] at *) <;> first | omega | rfl | (exfalso; simp_all only [Bool.true_eq_false, Bool.false_eq_true]; done))))
        (subst hD hu; apply qClu; (focus repeat' (first | exact LR.refl | exact LR_bytes | apply mClu | apply mCel | apply mKey | apply mSnp | apply mKRd | apply mLin | apply mHis | apply mBlk | apply mScr | apply mSes | exact zR | exact zB | exact zT | exact zN | exact zClu | exact zCel | exact zCelS | exact zSnp | exact zKey | exact zSes | exact zScr | apply LR.deq | exact LR.nil | apply LR.one | apply LR.rep | apply LR.cat | apply LR.cat' | apply LR.set | exact u8_0 | exact DEq.s _ | (apply str_deq; (repeat' apply sr_cat) <;> rfl) | apply aLe_1 | (apply LR.rfl'; simp only [uid, std, S0]; omega))); all_goals try simp only [uid, std, Int.toNat_natCast, Int.ofNat_eq_natCast])
        rw [wrap64 _ (by omega), show ((s.length : Int) - 1).toNat = s.length - 1 by omega]
    · have e : k = rs.length := by ((try subst hD hu); (try simp only [nc] at *); (try simp only [Int.ofNat_eq_natCast] at *); try simp (disch := omega) only [std, uid, S0] at *); omega
      subst e
      rw [List.take_length] at hs
      rw [hs]
    · have e : k = rs.length := by ((try subst hD hu); (try simp only [nc] at *); (try simp only [Int.ofNat_eq_natCast] at *); try simp (disch := omega) only [std, uid, S0] at *); omega
      subst e
      rw [List.take_length] at hs
      (subst hD hu; apply qClu; (focus repeat' (first | exact LR.refl | exact LR_bytes | apply mClu | apply mCel | apply mKey | apply mSnp | apply mKRd | apply mLin | apply mHis | apply mBlk | apply mScr | apply mSes | exact zR | exact zB | exact zT | exact zN | exact zClu | exact zCel | exact zCelS | exact zSnp | exact zKey | exact zSes | exact zScr | apply LR.deq | exact LR.nil | apply LR.one | apply LR.rep | apply LR.cat | apply LR.cat' | apply LR.set | exact u8_0 | exact DEq.s _ | (apply str_deq; (repeat' apply sr_cat) <;> rfl) | apply aLe_1 | (apply LR.rfl'; simp only [uid, std, S0]; omega))); all_goals try simp only [uid, std, Int.toNat_natCast, Int.ofNat_eq_natCast])
      exact hs
end Go.AW
/- Settle on both sides. -/
set_option linter.unusedVariables false
set_option linter.unusedSimpArgs false
namespace Go.AW
open Go.Proofs
set_option maxRecDepth 100000
set_option maxHeartbeats 4000000
def cutT (s : Str) : List Clu := clusters (clean s)
def settleT (s : Str) : Str := textOf (cutT s)
theorem clean_ok (s : Str) : ∀ r, r ∈ clean s → okR r := by
  intro r hr
  obtain ⟨x, _, rfl⟩ := List.mem_map.mp hr
  exact okR_shown _
theorem cut_ok (s : Str) : ∀ c, c ∈ cutT s → okClu c := clusters_ok _
theorem cut_tot (s : Str) : totL toEClu (cutT s) ≤ 2 * s.length + 1 := by
  have h1 := clusters_tot (clean s)
  have h2 := clean_len s
  unfold cutT
  omega
theorem settle_len (s : Str) : (settleT s).length ≤ 8 * s.length + 4 := by
  have h1 := cut_tot s
  have h2 := textOf_len (cutT s)
  simp only [totL] at h1
  unfold settleT
  omega
theorem x_clustersOf (s : Str) (hn : s.length ≤ 100000000) : PX Try.prog 93 (fun D u => [.r (.c (.s (.string (D.strB (u _ s)))))]) (fun D u => [.c (lClu D u (u _ (cutT s)))]) (fun D u => []) := by
  refine px_of_awp (fn := Try.f93) (c := bodyOf Try.f93) envOk (by kernel_rfl) (by kernel_rfl) (by kernel_rfl) (by kernel_rfl) rfl (by kernel_rfl) (by kernel_rfl) ?_
  intro w0 mine D u C L hD hu hC hL
  have h1 := clean_len s
  ((try conv => cbv); (repeat' (first | (with_reducible refine mK hD ?_; kernel_rfl) | (with_reducible first | refine mS hD ?_ | refine mT hD ?_ | refine mF hD ?_ | refine mB hD (fun _ => ?_) (fun _ => ?_) | exact True.intro | refine And.intro ?_ ?_) <;> try conv => cbv)); all_goals try (first | trivial | (subst hD; first | exact fun _ _ => ⟨_, rfl⟩ | exact fl1 | exact fl1') | (((try subst hD hu); (try simp only [nc] at *); (try simp only [Int.ofNat_eq_natCast] at *); try simp (disch := omega) only [std, uid, S0] at *) <;> first | omega | rfl | (exfalso; simp_all only [Bool.true_eq_false, Bool.false_eq_true]; done))))
  refine callx hD hu hC (x_implClean s (by omega)) ?_
  ((try conv => cbv); (repeat' (first | (with_reducible refine mK hD ?_; kernel_rfl) | (with_reducible first | refine mS hD ?_ | refine mT hD ?_ | refine mF hD ?_ | refine mB hD (fun _ => ?_) (fun _ => ?_) | exact True.intro | refine And.intro ?_ ?_) <;> try conv => cbv)); all_goals try (first | trivial | (subst hD; first | exact fun _ _ => ⟨_, rfl⟩ | exact fl1 | exact fl1') | (((try subst hD hu); (try simp only [nc] at *); (try simp only [Int.ofNat_eq_natCast] at *); try simp (disch := omega) only [std, uid, S0] at *) <;> first | omega | rfl | (exfalso; simp_all only [Bool.true_eq_false, Bool.false_eq_true]; done))))
  refine callx hD hu hC (x_implClusters (clean s) (by omega) (clean_ok s)) ?_
  ((try conv => cbv); (repeat' (first | (with_reducible refine mK hD ?_; kernel_rfl) | (with_reducible first | refine mS hD ?_ | refine mT hD ?_ | refine mF hD ?_ | refine mB hD (fun _ => ?_) (fun _ => ?_) | exact True.intro | refine And.intro ?_ ?_) <;> try conv => cbv)); all_goals try (first | trivial | (subst hD; first | exact fun _ _ => ⟨_, rfl⟩ | exact fl1 | exact fl1') | (((try subst hD hu); (try simp only [nc] at *); (try simp only [Int.ofNat_eq_natCast] at *); try simp (disch := omega) only [std, uid, S0] at *) <;> first | omega | rfl | (exfalso; simp_all only [Bool.true_eq_false, Bool.false_eq_true]; done))))
theorem x_implSettle (s : Str) (hn : s.length ≤ 100000000) : PX Try.prog 52 (fun D u => [.r (.c (.s (.string (D.strB (u _ s)))))]) (fun D u => [.c (.s (.string (D.strB (u _ (settleT s)))))]) (fun D u => []) := by
  refine px_of_awp (fn := Try.f52) (c := bodyOf Try.f52) envOk (by kernel_rfl) (by kernel_rfl) (by kernel_rfl) (by kernel_rfl) rfl (by kernel_rfl) (by kernel_rfl) ?_
  intro w0 mine D u C L hD hu hC hL
  have h1 := cut_tot s
  ((try conv => cbv); (repeat' (first | (with_reducible refine mK hD ?_; kernel_rfl) | (with_reducible first | refine mS hD ?_ | refine mT hD ?_ | refine mF hD ?_ | refine mB hD (fun _ => ?_) (fun _ => ?_) | exact True.intro | refine And.intro ?_ ?_) <;> try conv => cbv)); all_goals try (first | trivial | (subst hD; first | exact fun _ _ => ⟨_, rfl⟩ | exact fl1 | exact fl1') | (((try subst hD hu); (try simp only [nc] at *); (try simp only [Int.ofNat_eq_natCast] at *); try simp (disch := omega) only [std, uid, S0] at *) <;> first | omega | rfl | (exfalso; simp_all only [Bool.true_eq_false, Bool.false_eq_true]; done))))
  refine callx hD hu hC (x_clustersOf s hn) ?_
  ((try conv => cbv); (repeat' (first | (with_reducible refine mK hD ?_; kernel_rfl) | (with_reducible first | refine mS hD ?_ | refine mT hD ?_ | refine mF hD ?_ | refine mB hD (fun _ => ?_) (fun _ => ?_) | exact True.intro | refine And.intro ?_ ?_) <;> try conv => cbv)); all_goals try (first | trivial | (subst hD; first | exact fun _ _ => ⟨_, rfl⟩ | exact fl1 | exact fl1') | (((try subst hD hu); (try simp only [nc] at *); (try simp only [Int.ofNat_eq_natCast] at *); try simp (disch := omega) only [std, uid, S0] at *) <;> first | omega | rfl | (exfalso; simp_all only [Bool.true_eq_false, Bool.false_eq_true]; done))))
  refine callx hD hu hC (x_implTextOf (cutT s) (by omega) (cut_ok s)) ?_
  ((try conv => cbv); (repeat' (first | (with_reducible refine mK hD ?_; kernel_rfl) | (with_reducible first | refine mS hD ?_ | refine mT hD ?_ | refine mF hD ?_ | refine mB hD (fun _ => ?_) (fun _ => ?_) | exact True.intro | refine And.intro ?_ ?_) <;> try conv => cbv)); all_goals try (first | trivial | (subst hD; first | exact fun _ _ => ⟨_, rfl⟩ | exact fl1 | exact fl1') | (((try subst hD hu); (try simp only [nc] at *); (try simp only [Int.ofNat_eq_natCast] at *); try simp (disch := omega) only [std, uid, S0] at *) <;> first | omega | rfl | (exfalso; simp_all only [Bool.true_eq_false, Bool.false_eq_true]; done))))
theorem x_specSettle (s : Str) (hn : s.length ≤ 100000000) : PX Try.prog 51 (fun D u => [.r (.c (.s (.string (D.strB (u _ s)))))]) (fun D u => [.c (.s (.string (D.strB (u _ (settleT s)))))]) (fun D u => []) := by
  refine px_of_awp (fn := Try.f51) (c := bodyOf Try.f51) envOk (by kernel_rfl) (by kernel_rfl) (by kernel_rfl) (by kernel_rfl) rfl (by kernel_rfl) (by kernel_rfl) ?_
  intro w0 mine D u C L hD hu hC hL
  have h1 := cut_tot s
  have h2 := clean_len s
  ((try conv => cbv); (repeat' (first | (with_reducible refine mK hD ?_; kernel_rfl) | (with_reducible first | refine mS hD ?_ | refine mT hD ?_ | refine mF hD ?_ | refine mB hD (fun _ => ?_) (fun _ => ?_) | exact True.intro | refine And.intro ?_ ?_) <;> try conv => cbv)); all_goals try (first | trivial | (subst hD; first | exact fun _ _ => ⟨_, rfl⟩ | exact fl1 | exact fl1') | (((try subst hD hu); (try simp only [nc] at *); (try simp only [Int.ofNat_eq_natCast] at *); try simp (disch := omega) only [std, uid, S0] at *) <;> first | omega | rfl | (exfalso; simp_all only [Bool.true_eq_false, Bool.false_eq_true]; done))))
  refine callx hD hu hC (x_specClean s (by omega)) ?_
  ((try conv => cbv); (repeat' (first | (with_reducible refine mK hD ?_; kernel_rfl) | (with_reducible first | refine mS hD ?_ | refine mT hD ?_ | refine mF hD ?_ | refine mB hD (fun _ => ?_) (fun _ => ?_) | exact True.intro | refine And.intro ?_ ?_) <;> try conv => cbv)); all_goals try (first | trivial | (subst hD; first | exact fun _ _ => ⟨_, rfl⟩ | exact fl1 | exact fl1') | (((try subst hD hu); (try simp only [nc] at *); (try simp only [Int.ofNat_eq_natCast] at *); try simp (disch := omega) only [std, uid, S0] at *) <;> first | omega | rfl | (exfalso; simp_all only [Bool.true_eq_false, Bool.false_eq_true]; done))))
  refine callx hD hu hC (x_specClusters (clean s) (by omega) (clean_ok s)) ?_
  ((try conv => cbv); (repeat' (first | (with_reducible refine mK hD ?_; kernel_rfl) | (with_reducible first | refine mS hD ?_ | refine mT hD ?_ | refine mF hD ?_ | refine mB hD (fun _ => ?_) (fun _ => ?_) | exact True.intro | refine And.intro ?_ ?_) <;> try conv => cbv)); all_goals try (first | trivial | (subst hD; first | exact fun _ _ => ⟨_, rfl⟩ | exact fl1 | exact fl1') | (((try subst hD hu); (try simp only [nc] at *); (try simp only [Int.ofNat_eq_natCast] at *); try simp (disch := omega) only [std, uid, S0] at *) <;> first | omega | rfl | (exfalso; simp_all only [Bool.true_eq_false, Bool.false_eq_true]; done))))
  refine callx hD hu hC (x_specTextOf (cutT s) (by omega) (cut_ok s)) ?_
  ((try conv => cbv); (repeat' (first | (with_reducible refine mK hD ?_; kernel_rfl) | (with_reducible first | refine mS hD ?_ | refine mT hD ?_ | refine mF hD ?_ | refine mB hD (fun _ => ?_) (fun _ => ?_) | exact True.intro | refine And.intro ?_ ?_) <;> try conv => cbv)); all_goals try (first | trivial | (subst hD; first | exact fun _ _ => ⟨_, rfl⟩ | exact fl1 | exact fl1') | (((try subst hD hu); (try simp only [nc] at *); (try simp only [Int.ofNat_eq_natCast] at *); try simp (disch := omega) only [std, uid, S0] at *) <;> first | omega | rfl | (exfalso; simp_all only [Bool.true_eq_false, Bool.false_eq_true]; done))))
end Go.AW
/- Wrap on both sides. -/
set_option linter.unusedVariables false
set_option linter.unusedSimpArgs false
namespace Go.AW
open Go.Proofs
set_option maxRecDepth 100000
set_option maxHeartbeats 4000000
/-- The width of a cluster, brought into 0 .. 1000. -/
def wideC (c : Clu) : Int := if c.width < 0 then 0 else if 1000 < c.width then 1000 else c.width
theorem wideC_range (c : Clu) : 0 ≤ wideC c ∧ wideC c ≤ 1000 := by
  unfold wideC
  split
  · omega
  · split <;> omega
def lastI (l : List Int) : Int := l.getD (l.length - 1) 0
def stStep (cols : Int) (cs : List Clu) (s : List Int × Int) (i : Nat) : List Int × Int :=
  if lastI s.1 < i ∧ cols < s.2 + wideC (cs.getD i dClu) then (s.1 ++ [(i : Int)], wideC (cs.getD i dClu)) else (s.1, s.2 + wideC (cs.getD i dClu))
/-- The places where rows begin, and the width of the last one, behind k clusters. -/
def stF (cols : Int) (cs : List Clu) : Nat → List Int × Int
  | 0 => ([0], 0)
  | k + 1 => stStep cols cs (stF cols cs k) k
def starts (cs : List Clu) (cols : Int) : List Int := (stF cols cs cs.length).1
structure StI (k : Nat) (s : List Int × Int) : Prop where
  pos : 0 < s.1.length
  len : s.1.length ≤ k + 1
  rng : ∀ i, i < s.1.length → 0 ≤ s.1.getD i 0 ∧ s.1.getD i 0 ≤ k
  inc : ∀ i, i + 1 < s.1.length → s.1.getD i 0 < s.1.getD (i + 1) 0
  used : 0 ≤ s.2 ∧ s.2 ≤ 1000 * k
theorem getD_app_l {α : Type} (a b : List α) (d : α) (i : Nat) (h : i < a.length) : (a ++ b).getD i d = a.getD i d := by
  simp [List.getD_eq_getElem?_getD, List.getElem?_append_left h]
theorem getD_app_r {α : Type} (a b : List α) (d : α) (i : Nat) (h : a.length ≤ i) : (a ++ b).getD i d = b.getD (i - a.length) d := by
  simp [List.getD_eq_getElem?_getD, List.getElem?_append_right h]
theorem StI.last {k : Nat} {s : List Int × Int} (h : StI k s) : 0 ≤ lastI s.1 ∧ lastI s.1 ≤ k := h.rng _ (by have := h.pos; omega)
theorem stF_inv (cols : Int) (cs : List Clu) : ∀ k, StI k (stF cols cs k)
  | 0 => ⟨by simp [stF], by simp [stF], fun i hi => by
      have : i = 0 := by simp [stF] at hi; exact hi
      subst this; simp [stF], fun i hi => by simp [stF] at hi, by simp [stF]⟩
  | k + 1 => by
    have h := stF_inv cols cs k
    have hw := wideC_range (cs.getD k dClu)
    have hl := h.last
    have hu := h.used
    simp only [stF, stStep]
    generalize stF cols cs k = s at *
    obtain ⟨st, used⟩ := s
    simp only at *
    have hp := h.pos
    have hlen := h.len
    simp only at hp hlen
    split
    · rename_i hc
      refine ⟨by simp, by simp only [List.length_append, List.length_singleton]; omega, fun i hi => ?_, fun i hi => ?_, by simp only; omega⟩
      · rcases Nat.lt_or_ge i st.length with q | q
        · simp only [getD_app_l _ _ _ _ q]; have := h.rng i q; simp only at this; omega
        · simp only [getD_app_r _ _ _ _ q, List.length_append, List.length_singleton] at hi ⊢
          rw [show i - st.length = 0 by omega]; simp; omega
      · simp only [List.length_append, List.length_singleton] at hi
        rcases Nat.lt_or_ge (i + 1) st.length with q | q
        · simp only []
          rw [getD_app_l _ _ _ _ q, getD_app_l st [(k : Int)] _ i (by omega)]; exact h.inc i q
        · simp only []
          rw [getD_app_r _ _ _ _ q, getD_app_l st [(k : Int)] _ i (by omega)]
          rw [show i + 1 - st.length = 0 by omega]
          have : i = st.length - 1 := by omega
          subst this
          simpa [lastI] using hc.1
    · refine ⟨hp, by simp only; omega, fun i hi => by have := h.rng i hi; simp only at this ⊢; omega, h.inc, by simp only; omega⟩
/-- Clusters a .. b. -/
def seg (cs : List Clu) (a b : Int) : List Clu := (cs.drop a.toNat).take (b.toNat - a.toNat)
def rowsOf (cs : List Clu) (st : List Int) (n : Nat) : List (List Clu) := (List.range st.length).map fun i => seg cs (st.getD i 0) ((st ++ [(n : Int)]).getD (i + 1) 0)
def wrap (cs : List Clu) (cols : Int) : List (List Clu) := if cols < 2 then [] else rowsOf cs (starts cs cols) cs.length
theorem rowsOf_len (cs : List Clu) (st : List Int) (n : Nat) : (rowsOf cs st n).length = st.length := by simp [rowsOf]
theorem rowsOf_get (cs : List Clu) (st : List Int) (n : Nat) (i : Nat) (h : i < st.length) : (rowsOf cs st n).getD i [] = seg cs (st.getD i 0) ((st ++ [(n : Int)]).getD (i + 1) 0) := by
  simp [rowsOf, List.getD_eq_getElem?_getD, h]
theorem getD_end {α : Type} (l : List α) (x d : α) : (l ++ [x]).getD l.length d = x := by rw [getD_app_r _ _ _ _ (Nat.le_refl _)]; simp
theorem rowsOf_last (cs : List Clu) (st : List Int) (n : Nat) (h : 0 < st.length) : (rowsOf cs st n).getD (st.length - 1) [] = seg cs (lastI st) n := by
  rw [rowsOf_get _ _ _ _ (by omega), show st.length - 1 + 1 = st.length by omega, getD_end]
  rfl
theorem seg_len (cs : List Clu) (a b : Int) (h : b.toNat ≤ cs.length) : (seg cs a b).length = b.toNat - a.toNat := by
  simp only [seg, List.length_take, List.length_drop]; omega
theorem seg_snoc (cs : List Clu) (a : Int) (k : Nat) (h0 : 0 ≤ a ∧ a ≤ k) (h : k < cs.length) : seg cs a ((k + 1 : Nat) : Int) = seg cs a k ++ [cs.getD k dClu] := by
  unfold seg
  rw [show ((k + 1 : Nat) : Int).toNat - a.toNat = ((k : Int).toNat - a.toNat) + 1 by omega, take_snoc _ dClu _ (by simp; omega)]
  congr 2
  simp only [List.getD_eq_getElem?_getD, List.getElem?_drop]
  congr 2
  omega
theorem ext_getD {α : Type} (d : α) {a b : List α} (hl : a.length = b.length) (h : ∀ i, i < a.length → a.getD i d = b.getD i d) : a = b := by
  refine List.ext_getElem hl fun i h1 h2 => ?_
  have := h i h1
  simpa [List.getD_eq_getElem?_getD, h1, h2] using this
theorem rowsOf_new (cs : List Clu) (st : List Int) (k : Nat) (h : k < cs.length) : rowsOf cs (st ++ [(k : Int)]) (k + 1) = rowsOf cs st k ++ [[cs.getD k dClu]] := by
  refine ext_getD [] (by simp [rowsOf_len]) fun i hi => ?_
  rw [rowsOf_len, List.length_append, List.length_singleton] at hi
  rw [rowsOf_get _ _ _ _ (by simp; omega)]
  rcases Nat.lt_or_ge i st.length with q | q
  · rw [getD_app_l _ _ _ _ q, getD_app_l _ _ _ (i + 1) (by simp; omega), getD_app_l _ _ _ i (by rw [rowsOf_len]; exact q), rowsOf_get _ _ _ _ q]
  · have e : i = st.length := by omega
    subst e
    rw [getD_end, show st.length + 1 = (st ++ [(k : Int)]).length by simp, getD_end, seg_snoc cs k k (by omega) h]
    have : (rowsOf cs st k).length = st.length := rowsOf_len _ _ _
    rw [← this, getD_end]
    simp [seg]
theorem rowsOf_ext (cs : List Clu) (st : List Int) (k : Nat) (hp : 0 < st.length) (hl : 0 ≤ lastI st ∧ lastI st ≤ k) (h : k < cs.length) :
    rowsOf cs st (k + 1) = (rowsOf cs st k).set (st.length - 1) ((rowsOf cs st k).getD (st.length - 1) [] ++ [cs.getD k dClu]) := by
  refine ext_getD [] (by simp [rowsOf_len]) fun i hi => ?_
  rw [rowsOf_len] at hi
  rcases Nat.lt_or_ge i (st.length - 1) with q | q
  · rw [rowsOf_get _ _ _ _ hi, getD_app_l _ _ _ (i + 1) (by omega)]
    rw [List.getD_eq_getElem?_getD (l := List.set _ _ _), List.getElem?_set_ne (by omega), ← List.getD_eq_getElem?_getD, rowsOf_get _ _ _ _ hi, getD_app_l _ _ _ (i + 1) (by omega)]
  · have e : i = st.length - 1 := by omega
    subst e
    rw [rowsOf_last _ _ _ hp, seg_snoc _ _ _ hl h, rowsOf_last _ _ _ hp]
    rw [List.getD_eq_getElem?_getD (l := List.set _ _ _), List.getElem?_set_self (by rw [rowsOf_len]; exact hi)]
    rfl
theorem rowsOf_0 (cs : List Clu) : rowsOf cs [0] 0 = [[]] := by simp [rowsOf, seg]
theorem flatten_last {α : Type} (x : α) : ∀ (l : List (List α)), l ≠ [] → (l.set (l.length - 1) (l.getD (l.length - 1) [] ++ [x])).flatten = l.flatten ++ [x]
  | [], h => absurd rfl h
  | [a], _ => by simp
  | a :: b :: t, _ => by
    have ih := flatten_last x (b :: t) (by simp)
    simp only [List.length_cons, Nat.add_sub_cancel, List.set_cons_succ, List.getD_cons_succ, List.flatten_cons, List.append_assoc] at *
    rw [ih]
theorem rowsOf_flat (cols : Int) (cs : List Clu) : ∀ k, k ≤ cs.length → (rowsOf cs (stF cols cs k).1 k).flatten = cs.take k
  | 0, _ => by rw [stF, rowsOf_0]; simp
  | k + 1, h => by
    have ih := rowsOf_flat cols cs k (by omega)
    have hi := stF_inv cols cs k
    rw [stF, stStep, take_snoc cs dClu k h, ← ih]
    split
    · rw [rowsOf_new _ _ _ h]; simp
    · have hl := rowsOf_len cs (stF cols cs k).1 k
      have hne : rowsOf cs (stF cols cs k).1 k ≠ [] := fun e => by have := hi.pos; rw [e] at hl; simp at hl; omega
      have := flatten_last (cs.getD k dClu) _ hne
      rw [hl] at this
      rw [rowsOf_ext _ _ _ hi.pos hi.last h, this]
theorem wrap_flat {cs : List Clu} {cols : Int} (h : ¬ cols < 2) : (wrap cs cols).flatten = cs := by
  have := rowsOf_flat cols cs cs.length (Nat.le_refl _)
  rw [List.take_length] at this
  rw [wrap, if_neg h, starts, this]
theorem tot_flat (l : List (List Clu)) : totL toECluS l = l.length + totL toEClu l.flatten := by
  induction l with
  | nil => rfl
  | cons a l ih =>
    simp only [totL, toECluS, cntL, List.map_cons, List.sum_cons, List.length_cons, List.flatten_cons, List.length_append, List.map_append, List.sum_append] at *
    omega
theorem wrap_len (cs : List Clu) (cols : Int) : (wrap cs cols).length ≤ cs.length + 1 := by
  unfold wrap
  split
  · simp
  · rw [rowsOf_len]; exact (stF_inv cols cs cs.length).len
theorem wrap_tot (cs : List Clu) (cols : Int) : totL toECluS (wrap cs cols) ≤ 2 * totL toEClu cs + 1 := by
  rw [tot_flat]
  have h1 := wrap_len cs cols
  have h3 : cs.length ≤ totL toEClu cs := by simp only [totL]; omega
  by_cases h : cols < 2
  · have : wrap cs cols = [] := by rw [wrap, if_pos h]
    rw [this]
    simp [totL, cntL]
  · rw [wrap_flat h]; omega
theorem x_l1Wide (c : Clu) (r : Int) (hr : r = wideC c) : PX Try.prog 115 (fun D u => [.r (.a (rClu D u (u _ c)))]) (fun D u => [RI (u _ r)]) (fun D u => []) := by
  refine px_of_awp (fn := Try.f115) (c := bodyOf Try.f115) envOk (by kernel_rfl) (by kernel_rfl) (by kernel_rfl) (by kernel_rfl) rfl (by kernel_rfl) (by kernel_rfl) ?_
  intro w0 mine D u C L hD hu hC hL
  ((try conv => cbv); (repeat' (first | (with_reducible refine mK hD ?_; kernel_rfl) | (with_reducible first | refine mS hD ?_ | refine mT hD ?_ | refine mF hD ?_ | refine mB hD (fun _ => ?_) (fun _ => ?_) | exact True.intro | refine And.intro ?_ ?_) <;> try conv => cbv)); all_goals try (first | trivial | (subst hD; first | exact fun _ _ => ⟨_, rfl⟩ | exact fl1 | exact fl1') | (((try subst hD hu); (try simp only [nc] at *); (try simp only [Int.ofNat_eq_natCast] at *); try simp (disch := omega) only [std, uid, S0] at *) <;> first | omega | rfl | (exfalso; simp_all only [Bool.true_eq_false, Bool.false_eq_true]; done))))
  all_goals (subst hr; ((try subst hD hu); (try simp only [nc] at *); (try simp only [Int.ofNat_eq_natCast] at *); try simp (disch := omega) only [std, uid, S0, wideC] at *); first | (rw [if_pos (by omega)]; done) | (rw [if_neg (by omega), if_pos (by omega)]; done) | (rw [if_neg (by omega), if_neg (by omega)]; done))
theorem x_l1Copy (cs : List Clu) (hn : cs.length ≤ 1000000000) (hb : bdL bdEClu 1000000000 cs) : PX Try.prog 83 (fun D u => [.r (.c (lClu D u (u _ cs)))]) (fun D u => [.c (lClu D u (u _ cs))]) (fun D u => []) := by
  refine px_of_awp (fn := Try.f83) (c := bodyOf Try.f83) envOk (by kernel_rfl) (by kernel_rfl) (by kernel_rfl) (by kernel_rfl) rfl (by kernel_rfl) (by kernel_rfl) ?_
  intro w0 mine D u C L hD hu hC hL
  ((try conv => cbv); (repeat' (first | (with_reducible refine mK hD ?_; kernel_rfl) | (with_reducible first | refine mS hD ?_ | refine mT hD ?_ | refine mF hD ?_ | refine mB hD (fun _ => ?_) (fun _ => ?_) | exact True.intro | refine And.intro ?_ ?_) <;> try conv => cbv)); all_goals try (first | trivial | (subst hD; first | exact fun _ _ => ⟨_, rfl⟩ | exact fl1 | exact fl1') | (((try subst hD hu); (try simp only [nc] at *); (try simp only [Int.ofNat_eq_natCast] at *); try simp (disch := omega) only [std, uid, S0] at *) <;> first | omega | rfl | (exfalso; simp_all only [Bool.true_eq_false, Bool.false_eq_true]; done))))
  refine loop_st hL cs.length (fun k s => s = cs.take k) [] (fun k s => [(3, vO D 0 (u _ s)), (6, .bad), (4, VI (u _ k))]) (fun k s => [(0, oClu D u (u _ s))]) rfl ?_ ?_
  · ((try conv => cbv); (repeat' (first | (with_reducible refine mK hD ?_; kernel_rfl) | (with_reducible first | refine mS hD ?_ | refine mT hD ?_ | refine mF hD ?_ | refine mB hD (fun _ => ?_) (fun _ => ?_) | exact True.intro | refine And.intro ?_ ?_) <;> try conv => cbv)); all_goals try (first | trivial | (subst hD; first | exact fun _ _ => ⟨_, rfl⟩ | exact fl1 | exact fl1') | (((try subst hD hu); (try simp only [nc] at *); (try simp only [Int.ofNat_eq_natCast] at *); try simp (disch := omega) only [std, uid, S0] at *) <;> first | omega | rfl | (exfalso; simp_all only [Bool.true_eq_false, Bool.false_eq_true]; done))))
    (subst hD hu; apply qClu; (focus repeat' (first | exact LR.refl | exact LR_bytes | apply mClu | apply mCel | apply mKey | apply mSnp | apply mKRd | apply mLin | apply mHis | apply mBlk | apply mScr | apply mSes | exact zR | exact zB | exact zT | exact zN | exact zClu | exact zCel | exact zCelS | exact zSnp | exact zKey | exact zSes | exact zScr | apply LR.deq | exact LR.nil | apply LR.one | apply LR.rep | apply LR.cat | apply LR.cat' | apply LR.set | exact u8_0 | exact DEq.s _ | (apply str_deq; (repeat' apply sr_cat) <;> rfl) | apply aLe_1 | (apply LR.rfl'; simp only [uid, std, S0]; omega))); all_goals try simp only [uid, std, Int.toNat_natCast, Int.ofNat_eq_natCast])
  · intro k s hk hs
    have hsl : s.length = k := by rw [hs, List.length_take]; omega
    ((try conv => cbv); (repeat' (first | (with_reducible refine mK hD ?_; kernel_rfl) | (with_reducible first | refine mS hD ?_ | refine mT hD ?_ | refine mF hD ?_ | refine mB hD (fun _ => ?_) (fun _ => ?_) | exact True.intro | refine And.intro ?_ ?_) <;> try conv => cbv)); all_goals try (first | trivial | (subst hD; first | exact fun _ _ => ⟨_, rfl⟩ | exact fl1 | exact fl1') | (((try subst hD hu); (try simp only [nc] at *); (try simp only [Int.ofNat_eq_natCast] at *); try simp (disch := omega) only [std, uid, S0] at *) <;> first | omega | rfl | (exfalso; simp_all only [Bool.true_eq_false, Bool.false_eq_true]; done))))
    · have hkn : k < cs.length := by ((try subst hD hu); (try simp only [nc] at *); (try simp only [Int.ofNat_eq_natCast] at *); try simp (disch := omega) only [std, uid, S0] at *); omega
      have hx := hb.2 _ (getD_mem cs dClu k hkn)
      unfold bdEClu at hx
      ((try subst hD hu); (try simp only [nc] at *); (try simp only [Int.ofNat_eq_natCast] at *); try simp (disch := omega) only [std, uid, S0] at *)
      omega
    · have hkn : k < cs.length := by ((try subst hD hu); (try simp only [nc] at *); (try simp only [Int.ofNat_eq_natCast] at *); try simp (disch := omega) only [std, uid, S0] at *); omega
      refine ⟨k + 1, s ++ [cs.getD k dClu], hkn, by rw [hs, take_snoc _ dClu _ hkn], ssem_of ?_, by omega⟩
      ((try conv => cbv); (repeat' (first | (with_reducible refine mK hD ?_; kernel_rfl) | (with_reducible first | refine mS hD ?_ | refine mT hD ?_ | refine mF hD ?_ | refine mB hD (fun _ => ?_) (fun _ => ?_) | exact True.intro | refine And.intro ?_ ?_) <;> try conv => cbv)); all_goals try (first | trivial | (subst hD; first | exact fun _ _ => ⟨_, rfl⟩ | exact fl1 | exact fl1') | (((try subst hD hu); (try simp only [nc] at *); (try simp only [Int.ofNat_eq_natCast] at *); try simp (disch := omega) only [std, uid, S0] at *) <;> first | omega | rfl | (exfalso; simp_all only [Bool.true_eq_false, Bool.false_eq_true]; done))))
      (subst hD hu; apply qClu; (focus repeat' (first | exact LR.refl | exact LR_bytes | apply mClu | apply mCel | apply mKey | apply mSnp | apply mKRd | apply mLin | apply mHis | apply mBlk | apply mScr | apply mSes | exact zR | exact zB | exact zT | exact zN | exact zClu | exact zCel | exact zCelS | exact zSnp | exact zKey | exact zSes | exact zScr | apply LR.deq | exact LR.nil | apply LR.one | apply LR.rep | apply LR.cat | apply LR.cat' | apply LR.set | exact u8_0 | exact DEq.s _ | (apply str_deq; (repeat' apply sr_cat) <;> rfl) | apply aLe_1 | (apply LR.rfl'; simp only [uid, std, S0]; omega))); all_goals try simp only [uid, std, Int.toNat_natCast, Int.ofNat_eq_natCast])
      simp
    · have e : k = cs.length := by ((try subst hD hu); (try simp only [nc] at *); (try simp only [Int.ofNat_eq_natCast] at *); try simp (disch := omega) only [std, uid, S0] at *); omega
      subst e
      rw [List.take_length] at hs
      (subst hD hu; apply qClu; (focus repeat' (first | exact LR.refl | exact LR_bytes | apply mClu | apply mCel | apply mKey | apply mSnp | apply mKRd | apply mLin | apply mHis | apply mBlk | apply mScr | apply mSes | exact zR | exact zB | exact zT | exact zN | exact zClu | exact zCel | exact zCelS | exact zSnp | exact zKey | exact zSes | exact zScr | apply LR.deq | exact LR.nil | apply LR.one | apply LR.rep | apply LR.cat | apply LR.cat' | apply LR.set | exact u8_0 | exact DEq.s _ | (apply str_deq; (repeat' apply sr_cat) <;> rfl) | apply aLe_1 | (apply LR.rfl'; simp only [uid, std, S0]; omega))); all_goals try simp only [uid, std, Int.toNat_natCast, Int.ofNat_eq_natCast])
      exact hs
theorem x_specStarts (cs : List Clu) (cols : Int) (hn : cs.length ≤ 1000000000) (hc : okI cols) : PX Try.prog 82 (fun D u => [.r (.c (lClu D u (u _ cs))), AI (u _ cols)]) (fun D u => [.c (lN D u (u _ (starts cs cols)))]) (fun D u => []) := by
  obtain ⟨W, hW⟩ : ∃ W : Nat → Int, ∀ k, W k = wideC (cs.getD k dClu) := ⟨_, fun _ => rfl⟩
  refine px_of_awp (fn := Try.f82) (c := bodyOf Try.f82) envOk (by kernel_rfl) (by kernel_rfl) (by kernel_rfl) (by kernel_rfl) rfl (by kernel_rfl) (by kernel_rfl) ?_
  intro w0 mine D u C L hD hu hC hL
  ((try conv => cbv); (repeat' (first | (with_reducible refine mK hD ?_; kernel_rfl) | (with_reducible first | refine mS hD ?_ | refine mT hD ?_ | refine mF hD ?_ | refine mB hD (fun _ => ?_) (fun _ => ?_) | exact True.intro | refine And.intro ?_ ?_) <;> try conv => cbv)); all_goals try (first | trivial | (subst hD; first | exact fun _ _ => ⟨_, rfl⟩ | exact fl1 | exact fl1') | (((try subst hD hu); (try simp only [nc] at *); (try simp only [Int.ofNat_eq_natCast] at *); try simp (disch := omega) only [std, uid, S0] at *) <;> first | omega | rfl | (exfalso; simp_all only [Bool.true_eq_false, Bool.false_eq_true]; done))))
  refine loop_st hL cs.length (fun k s => s = stF cols cs k) ([0], 0) (fun k s => [(5, vO D 0 (u _ (s.1))), (8, .bad), (6, VI (u _ (s.2))), (7, VI (u _ k))]) (fun k s => [(0, oN D u (u _ (s.1)))]) rfl ?_ ?_
  · ((try conv => cbv); (repeat' (first | (with_reducible refine mK hD ?_; kernel_rfl) | (with_reducible first | refine mS hD ?_ | refine mT hD ?_ | refine mF hD ?_ | refine mB hD (fun _ => ?_) (fun _ => ?_) | exact True.intro | refine And.intro ?_ ?_) <;> try conv => cbv)); all_goals try (first | trivial | (subst hD; first | exact fun _ _ => ⟨_, rfl⟩ | exact fl1 | exact fl1') | (((try subst hD hu); (try simp only [nc] at *); (try simp only [Int.ofNat_eq_natCast] at *); try simp (disch := omega) only [std, uid, S0] at *) <;> first | omega | rfl | (exfalso; simp_all only [Bool.true_eq_false, Bool.false_eq_true]; done))))
    (subst hD hu; apply qN; (focus repeat' (first | exact LR.refl | exact LR_bytes | apply mClu | apply mCel | apply mKey | apply mSnp | apply mKRd | apply mLin | apply mHis | apply mBlk | apply mScr | apply mSes | exact zR | exact zB | exact zT | exact zN | exact zClu | exact zCel | exact zCelS | exact zSnp | exact zKey | exact zSes | exact zScr | apply LR.deq | exact LR.nil | apply LR.one | apply LR.rep | apply LR.cat | apply LR.cat' | apply LR.set | exact u8_0 | exact DEq.s _ | (apply str_deq; (repeat' apply sr_cat) <;> rfl) | apply aLe_1 | (apply LR.rfl'; simp only [uid, std, S0]; omega))); all_goals try simp only [uid, std, Int.toNat_natCast, Int.ofNat_eq_natCast])
  · intro k s hk hs
    have hi := stF_inv cols cs k
    rw [← hs] at hi
    have hp := hi.pos
    have hlen := hi.len
    have hu2 := hi.used
    have hl := hi.last
    have hw := wideC_range (cs.getD k dClu)
    have hwx := hW k
    rw [← hwx] at hw
    have e1 : ((s.1.length : Int) - 1).toNat = s.1.length - 1 := by omega
    ((try conv => cbv); (repeat' (first | (with_reducible refine mK hD ?_; kernel_rfl) | (with_reducible first | refine mS hD ?_ | refine mT hD ?_ | refine mF hD ?_ | refine mB hD (fun _ => ?_) (fun _ => ?_) | exact True.intro | refine And.intro ?_ ?_) <;> try conv => cbv)); all_goals try (first | trivial | (subst hD; first | exact fun _ _ => ⟨_, rfl⟩ | exact fl1 | exact fl1') | (((try subst hD hu); (try simp only [nc] at *); (try simp only [Int.ofNat_eq_natCast] at *); try simp (disch := omega) only [std, uid, S0] at *) <;> first | omega | rfl | (exfalso; simp_all only [Bool.true_eq_false, Bool.false_eq_true]; done))))
    · have hkn : k < cs.length := by ((try subst hD hu); (try simp only [nc] at *); (try simp only [Int.ofNat_eq_natCast] at *); try simp (disch := omega) only [std, uid, S0] at *); omega
      refine callx hD hu hC (x_l1Wide (cs.getD k dClu) (W k) hwx) ?_
      ((try conv => cbv); (repeat' (first | (with_reducible refine mK hD ?_; kernel_rfl) | (with_reducible first | refine mS hD ?_ | refine mT hD ?_ | refine mF hD ?_ | refine mB hD (fun _ => ?_) (fun _ => ?_) | exact True.intro | refine And.intro ?_ ?_) <;> try conv => cbv)); all_goals try (first | trivial | (subst hD; first | exact fun _ _ => ⟨_, rfl⟩ | exact fl1 | exact fl1') | (((try subst hD hu); (try simp only [nc] at *); (try simp only [Int.ofNat_eq_natCast] at *); try simp (disch := omega) only [std, uid, S0] at *) <;> first | omega | rfl | (exfalso; simp_all only [Bool.true_eq_false, Bool.false_eq_true]; done))))
      · have h1 : lastI s.1 < k ∧ cols < s.2 + W k := by ((try subst hD hu); (try simp only [nc] at *); (try simp only [Int.ofNat_eq_natCast] at *); try simp (disch := omega) only [std, uid, S0, e1] at *); unfold lastI; exact ⟨by assumption, by omega⟩
        refine callx hD hu hC (x_l1Wide (cs.getD k dClu) (W k) hwx) ?_
        ((try conv => cbv); (repeat' (first | (with_reducible refine mK hD ?_; kernel_rfl) | (with_reducible first | refine mS hD ?_ | refine mT hD ?_ | refine mF hD ?_ | refine mB hD (fun _ => ?_) (fun _ => ?_) | exact True.intro | refine And.intro ?_ ?_) <;> try conv => cbv)); all_goals try (first | trivial | (subst hD; first | exact fun _ _ => ⟨_, rfl⟩ | exact fl1 | exact fl1') | (((try subst hD hu); (try simp only [nc] at *); (try simp only [Int.ofNat_eq_natCast] at *); try simp (disch := omega) only [std, uid, S0] at *) <;> first | omega | rfl | (exfalso; simp_all only [Bool.true_eq_false, Bool.false_eq_true]; done))))
        refine ⟨k + 1, (s.1 ++ [(k : Int)], W k), hkn, by rw [stF, ← hs, stStep, ← hwx, if_pos h1], ssem_of ?_, by omega⟩
        ((try conv => cbv); (repeat' (first | (with_reducible refine mK hD ?_; kernel_rfl) | (with_reducible first | refine mS hD ?_ | refine mT hD ?_ | refine mF hD ?_ | refine mB hD (fun _ => ?_) (fun _ => ?_) | exact True.intro | refine And.intro ?_ ?_) <;> try conv => cbv)); all_goals try (first | trivial | (subst hD; first | exact fun _ _ => ⟨_, rfl⟩ | exact fl1 | exact fl1') | (((try subst hD hu); (try simp only [nc] at *); (try simp only [Int.ofNat_eq_natCast] at *); try simp (disch := omega) only [std, uid, S0] at *) <;> first | omega | rfl | (exfalso; simp_all only [Bool.true_eq_false, Bool.false_eq_true]; done))))
        (subst hD hu; apply qN; (focus repeat' (first | exact LR.refl | exact LR_bytes | apply mClu | apply mCel | apply mKey | apply mSnp | apply mKRd | apply mLin | apply mHis | apply mBlk | apply mScr | apply mSes | exact zR | exact zB | exact zT | exact zN | exact zClu | exact zCel | exact zCelS | exact zSnp | exact zKey | exact zSes | exact zScr | apply LR.deq | exact LR.nil | apply LR.one | apply LR.rep | apply LR.cat | apply LR.cat' | apply LR.set | exact u8_0 | exact DEq.s _ | (apply str_deq; (repeat' apply sr_cat) <;> rfl) | apply aLe_1 | (apply LR.rfl'; simp only [uid, std, S0]; omega))); all_goals try simp only [uid, std, Int.toNat_natCast, Int.ofNat_eq_natCast])
      · have h1 : ¬ (lastI s.1 < k ∧ cols < s.2 + W k) := by ((try subst hD hu); (try simp only [nc] at *); (try simp only [Int.ofNat_eq_natCast] at *); try simp (disch := omega) only [std, uid, S0, e1] at *); omega
        refine callx hD hu hC (x_l1Wide (cs.getD k dClu) (W k) hwx) ?_
        ((try conv => cbv); (repeat' (first | (with_reducible refine mK hD ?_; kernel_rfl) | (with_reducible first | refine mS hD ?_ | refine mT hD ?_ | refine mF hD ?_ | refine mB hD (fun _ => ?_) (fun _ => ?_) | exact True.intro | refine And.intro ?_ ?_) <;> try conv => cbv)); all_goals try (first | trivial | (subst hD; first | exact fun _ _ => ⟨_, rfl⟩ | exact fl1 | exact fl1') | (((try subst hD hu); (try simp only [nc] at *); (try simp only [Int.ofNat_eq_natCast] at *); try simp (disch := omega) only [std, uid, S0] at *) <;> first | omega | rfl | (exfalso; simp_all only [Bool.true_eq_false, Bool.false_eq_true]; done))))
        refine ⟨k + 1, (s.1, s.2 + W k), hkn, by rw [stF, ← hs, stStep, ← hwx, if_neg h1], ssem_of ?_, by omega⟩
        ((try conv => cbv); (repeat' (first | (with_reducible refine mK hD ?_; kernel_rfl) | (with_reducible first | refine mS hD ?_ | refine mT hD ?_ | refine mF hD ?_ | refine mB hD (fun _ => ?_) (fun _ => ?_) | exact True.intro | refine And.intro ?_ ?_) <;> try conv => cbv)); all_goals try (first | trivial | (subst hD; first | exact fun _ _ => ⟨_, rfl⟩ | exact fl1 | exact fl1') | (((try subst hD hu); (try simp only [nc] at *); (try simp only [Int.ofNat_eq_natCast] at *); try simp (disch := omega) only [std, uid, S0] at *) <;> first | omega | rfl | (exfalso; simp_all only [Bool.true_eq_false, Bool.false_eq_true]; done))))
    · have hkn : k < cs.length := by ((try subst hD hu); (try simp only [nc] at *); (try simp only [Int.ofNat_eq_natCast] at *); try simp (disch := omega) only [std, uid, S0] at *); omega
      have h1 : ¬ (lastI s.1 < k ∧ cols < s.2 + W k) := by ((try subst hD hu); (try simp only [nc] at *); (try simp only [Int.ofNat_eq_natCast] at *); try simp (disch := omega) only [std, uid, S0, e1] at *); unfold lastI; omega
      refine callx hD hu hC (x_l1Wide (cs.getD k dClu) (W k) hwx) ?_
      ((try conv => cbv); (repeat' (first | (with_reducible refine mK hD ?_; kernel_rfl) | (with_reducible first | refine mS hD ?_ | refine mT hD ?_ | refine mF hD ?_ | refine mB hD (fun _ => ?_) (fun _ => ?_) | exact True.intro | refine And.intro ?_ ?_) <;> try conv => cbv)); all_goals try (first | trivial | (subst hD; first | exact fun _ _ => ⟨_, rfl⟩ | exact fl1 | exact fl1') | (((try subst hD hu); (try simp only [nc] at *); (try simp only [Int.ofNat_eq_natCast] at *); try simp (disch := omega) only [std, uid, S0] at *) <;> first | omega | rfl | (exfalso; simp_all only [Bool.true_eq_false, Bool.false_eq_true]; done))))
      refine ⟨k + 1, (s.1, s.2 + W k), hkn, by rw [stF, ← hs, stStep, ← hwx, if_neg h1], ssem_of ?_, by omega⟩
      ((try conv => cbv); (repeat' (first | (with_reducible refine mK hD ?_; kernel_rfl) | (with_reducible first | refine mS hD ?_ | refine mT hD ?_ | refine mF hD ?_ | refine mB hD (fun _ => ?_) (fun _ => ?_) | exact True.intro | refine And.intro ?_ ?_) <;> try conv => cbv)); all_goals try (first | trivial | (subst hD; first | exact fun _ _ => ⟨_, rfl⟩ | exact fl1 | exact fl1') | (((try subst hD hu); (try simp only [nc] at *); (try simp only [Int.ofNat_eq_natCast] at *); try simp (disch := omega) only [std, uid, S0] at *) <;> first | omega | rfl | (exfalso; simp_all only [Bool.true_eq_false, Bool.false_eq_true]; done))))
    · have ek : k = cs.length := by ((try subst hD hu); (try simp only [nc] at *); (try simp only [Int.ofNat_eq_natCast] at *); try simp (disch := omega) only [std, uid, S0] at *); omega
      subst ek
      subst hD hu
      simp only [uid, std, hs, starts]
    · have ek : k = cs.length := by ((try subst hD hu); (try simp only [nc] at *); (try simp only [Int.ofNat_eq_natCast] at *); try simp (disch := omega) only [std, uid, S0] at *); omega
      subst ek
      (subst hD hu; apply qN; (focus repeat' (first | exact LR.refl | exact LR_bytes | apply mClu | apply mCel | apply mKey | apply mSnp | apply mKRd | apply mLin | apply mHis | apply mBlk | apply mScr | apply mSes | exact zR | exact zB | exact zT | exact zN | exact zClu | exact zCel | exact zCelS | exact zSnp | exact zKey | exact zSes | exact zScr | apply LR.deq | exact LR.nil | apply LR.one | apply LR.rep | apply LR.cat | apply LR.cat' | apply LR.set | exact u8_0 | exact DEq.s _ | (apply str_deq; (repeat' apply sr_cat) <;> rfl) | apply aLe_1 | (apply LR.rfl'; simp only [uid, std, S0]; omega))); all_goals try simp only [uid, std, Int.toNat_natCast, Int.ofNat_eq_natCast])
      rw [hs]; rfl
theorem LR_sub {α : Type} {row : α → List DV} {d : α} {l : List α} {a b : Nat} (h : b ≤ l.length) : LR row d (fun i => row (l.getD (a + i) d)) (b - a) ((l.drop a).take (b - a)) := by
  refine ⟨by simp only [List.length_take, List.length_drop]; omega, fun i hi => ?_⟩
  have : ((l.drop a).take (b - a)).getD i d = l.getD (a + i) d := by
    simp only [List.getD_eq_getElem?_getD, List.getElem?_take, hi, if_true, List.getElem?_drop]
  rw [this]
  exact aLe_rfl _
theorem rowsOf_tot (cs : List Clu) (st : List Int) (n : Nat) (k : Nat) : ((rowsOf cs st n).take k).length ≤ st.length := by
  rw [List.length_take, rowsOf_len]; omega
theorem seg_bd {cs : List Clu} {N : Nat} (h : bdL bdEClu N cs) (a b : Int) : bdL bdEClu N (seg cs a b) := by
  refine ⟨?_, fun x hx => h.2 x (List.mem_of_mem_drop (List.mem_of_mem_take hx))⟩
  have := h.1
  simp only [seg, List.length_take, List.length_drop]
  omega
theorem x_specWrap (cs : List Clu) (cols : Int) (hb : bdL bdEClu 100000000 cs) (hc : okI cols) : PX Try.prog 41 (fun D u => [.r (.c (lClu D u (u _ cs))), AI (u _ cols)]) (fun D u => [.c (lCluS D u (u _ (wrap cs cols)))]) (fun D u => []) := by
  refine px_of_awp (fn := Try.f41) (c := bodyOf Try.f41) envOk (by kernel_rfl) (by kernel_rfl) (by kernel_rfl) (by kernel_rfl) rfl (by kernel_rfl) (by kernel_rfl) ?_
  intro w0 mine D u C L hD hu hC hL
  have hn := hb.1
  have hI := stF_inv cols cs cs.length
  have hp := hI.pos
  have hlen := hI.len
  ((try conv => cbv); (repeat' (first | (with_reducible refine mK hD ?_; kernel_rfl) | (with_reducible first | refine mS hD ?_ | refine mT hD ?_ | refine mF hD ?_ | refine mB hD (fun _ => ?_) (fun _ => ?_) | exact True.intro | refine And.intro ?_ ?_) <;> try conv => cbv)); all_goals try (first | trivial | (subst hD; first | exact fun _ _ => ⟨_, rfl⟩ | exact fl1 | exact fl1') | (((try subst hD hu); (try simp only [nc] at *); (try simp only [Int.ofNat_eq_natCast] at *); try simp (disch := omega) only [std, uid, S0] at *) <;> first | omega | rfl | (exfalso; simp_all only [Bool.true_eq_false, Bool.false_eq_true]; done))))
  · have e : wrap cs cols = [] := by unfold wrap; rw [if_pos (by ((try subst hD hu); (try simp only [nc] at *); (try simp only [Int.ofNat_eq_natCast] at *); try simp (disch := omega) only [std, uid, S0] at *); omega)]
    subst hD hu
    simp only [uid, std, e]
    rfl
  · have e : wrap cs cols = [] := by unfold wrap; rw [if_pos (by ((try subst hD hu); (try simp only [nc] at *); (try simp only [Int.ofNat_eq_natCast] at *); try simp (disch := omega) only [std, uid, S0] at *); omega)]
    (subst hD hu; apply qCluS; (focus repeat' (first | exact LR.refl | exact LR_bytes | apply mClu | apply mCel | apply mKey | apply mSnp | apply mKRd | apply mLin | apply mHis | apply mBlk | apply mScr | apply mSes | exact zR | exact zB | exact zT | exact zN | exact zClu | exact zCel | exact zCelS | exact zSnp | exact zKey | exact zSes | exact zScr | apply LR.deq | exact LR.nil | apply LR.one | apply LR.rep | apply LR.cat | apply LR.cat' | apply LR.set | exact u8_0 | exact DEq.s _ | (apply str_deq; (repeat' apply sr_cat) <;> rfl) | apply aLe_1 | (apply LR.rfl'; simp only [uid, std, S0]; omega))); all_goals try simp only [uid, std, Int.toNat_natCast, Int.ofNat_eq_natCast])
    exact e.symm
  · refine callx hD hu hC (x_specStarts cs cols (by omega) hc) ?_
    ((try conv => cbv); (repeat' (first | (with_reducible refine mK hD ?_; kernel_rfl) | (with_reducible first | refine mS hD ?_ | refine mT hD ?_ | refine mF hD ?_ | refine mB hD (fun _ => ?_) (fun _ => ?_) | exact True.intro | refine And.intro ?_ ?_) <;> try conv => cbv)); all_goals try (first | trivial | (subst hD; first | exact fun _ _ => ⟨_, rfl⟩ | exact fl1 | exact fl1') | (((try subst hD hu); (try simp only [nc] at *); (try simp only [Int.ofNat_eq_natCast] at *); try simp (disch := omega) only [std, uid, S0] at *) <;> first | omega | rfl | (exfalso; simp_all only [Bool.true_eq_false, Bool.false_eq_true]; done))))
    · unfold starts; ((try subst hD hu); (try simp only [nc] at *); (try simp only [Int.ofNat_eq_natCast] at *); try simp (disch := omega) only [std, uid, S0] at *); omega
    refine loop_st hL (starts cs cols).length (fun k s => s = (rowsOf cs (starts cs cols) cs.length).take k) [] (fun k s => [(5, vO D 0 (u _ s)), (8, .bad), (6, vO D 1 (u _ (starts cs cols ++ [(cs.length : Int)]))), (7, VI (u _ k))]) (fun k s => [(0, oCluS D u (u _ s)), (1, oN D u (u _ (starts cs cols ++ [(cs.length : Int)])))]) rfl ?_ ?_
    · ((try conv => cbv); (repeat' (first | (with_reducible refine mK hD ?_; kernel_rfl) | (with_reducible first | refine mS hD ?_ | refine mT hD ?_ | refine mF hD ?_ | refine mB hD (fun _ => ?_) (fun _ => ?_) | exact True.intro | refine And.intro ?_ ?_) <;> try conv => cbv)); all_goals try (first | trivial | (subst hD; first | exact fun _ _ => ⟨_, rfl⟩ | exact fl1 | exact fl1') | (((try subst hD hu); (try simp only [nc] at *); (try simp only [Int.ofNat_eq_natCast] at *); try simp (disch := omega) only [std, uid, S0] at *) <;> first | omega | rfl | (exfalso; simp_all only [Bool.true_eq_false, Bool.false_eq_true]; done))))
      · (subst hD hu; apply qN; (focus repeat' (first | exact LR.refl | exact LR_bytes | apply mClu | apply mCel | apply mKey | apply mSnp | apply mKRd | apply mLin | apply mHis | apply mBlk | apply mScr | apply mSes | exact zR | exact zB | exact zT | exact zN | exact zClu | exact zCel | exact zCelS | exact zSnp | exact zKey | exact zSes | exact zScr | apply LR.deq | exact LR.nil | apply LR.one | apply LR.rep | apply LR.cat | apply LR.cat' | apply LR.set | exact u8_0 | exact DEq.s _ | (apply str_deq; (repeat' apply sr_cat) <;> rfl) | apply aLe_1 | (apply LR.rfl'; simp only [uid, std, S0]; omega))); all_goals try simp only [uid, std, Int.toNat_natCast, Int.ofNat_eq_natCast])
      · (subst hD hu; apply qCluS; (focus repeat' (first | exact LR.refl | exact LR_bytes | apply mClu | apply mCel | apply mKey | apply mSnp | apply mKRd | apply mLin | apply mHis | apply mBlk | apply mScr | apply mSes | exact zR | exact zB | exact zT | exact zN | exact zClu | exact zCel | exact zCelS | exact zSnp | exact zKey | exact zSes | exact zScr | apply LR.deq | exact LR.nil | apply LR.one | apply LR.rep | apply LR.cat | apply LR.cat' | apply LR.set | exact u8_0 | exact DEq.s _ | (apply str_deq; (repeat' apply sr_cat) <;> rfl) | apply aLe_1 | (apply LR.rfl'; simp only [uid, std, S0]; omega))); all_goals try simp only [uid, std, Int.toNat_natCast, Int.ofNat_eq_natCast])
    · intro k s hk hs
      generalize hst : starts cs cols = st at *
      have hr1 : ∀ i, i < st.length → 0 ≤ (st ++ [(cs.length : Int)]).getD i 0 ∧ (st ++ [(cs.length : Int)]).getD i 0 ≤ (st ++ [(cs.length : Int)]).getD (i + 1) 0 ∧ (st ++ [(cs.length : Int)]).getD (i + 1) 0 ≤ cs.length := fun i hi => by
        subst hst
        have h1 := hI.rng i hi
        have h2 := hI.inc i
        have h3 := hI.rng (i + 1)
        unfold starts at hi ⊢
        rw [getD_app_l _ _ _ _ hi]
        rcases Nat.lt_or_ge (i + 1) (stF cols cs cs.length).1.length with q | q
        · rw [getD_app_l _ _ _ _ q]
          have := h2 q
          have := h3 q
          omega
        · rw [show i + 1 = (stF cols cs cs.length).1.length by omega, getD_end]
          omega
      have hkt : ((k : Int) + 1).toNat = k + 1 := by omega
      have hstl : st.length ≤ cs.length + 1 := by subst hst; exact hlen
      ((try conv => cbv); (repeat' (first | (with_reducible refine mK hD ?_; kernel_rfl) | (with_reducible first | refine mS hD ?_ | refine mT hD ?_ | refine mF hD ?_ | refine mB hD (fun _ => ?_) (fun _ => ?_) | exact True.intro | refine And.intro ?_ ?_) <;> try conv => cbv)); all_goals try (first | trivial | (subst hD; first | exact fun _ _ => ⟨_, rfl⟩ | exact fl1 | exact fl1') | (((try subst hD hu); (try simp only [nc] at *); (try simp only [Int.ofNat_eq_natCast] at *); try simp (disch := omega) only [std, uid, S0] at *) <;> first | omega | rfl | (exfalso; simp_all only [Bool.true_eq_false, Bool.false_eq_true]; done))))
      all_goals try (
        have hks : k < st.length := by ((try subst hD hu); (try simp only [nc] at *); (try simp only [Int.ofNat_eq_natCast] at *); try simp (disch := omega) only [std, uid, S0] at *); omega
        have h1 := hr1 k hks
        ((try subst hD hu); (try simp only [nc] at *); (try simp only [Int.ofNat_eq_natCast] at *); try simp (disch := omega) only [std, uid, S0, hkt] at *)
        first | omega | exact fun i hi => rfl)
      · have hks : k < st.length := by ((try subst hD hu); (try simp only [nc] at *); (try simp only [Int.ofNat_eq_natCast] at *); try simp (disch := omega) only [std, uid, S0] at *); omega
        have h1 := hr1 k hks
        refine callx hD hu hC (x_l1Copy (seg cs ((st ++ [(cs.length : Int)]).getD k 0) ((st ++ [(cs.length : Int)]).getD (k + 1) 0)) ?_ ?_) ?_
        · have := seg_bd hb ((st ++ [(cs.length : Int)]).getD k 0) ((st ++ [(cs.length : Int)]).getD (k + 1) 0)
          have := this.1
          omega
        · exact bdL_mono bmEClu _ _ _ (by omega) (seg_bd hb _ _)
        · have hsl := seg_len cs ((st ++ [(cs.length : Int)]).getD k 0) ((st ++ [(cs.length : Int)]).getD (k + 1) 0) (by omega)
          ((try conv => cbv); (repeat' (first | (with_reducible refine mK hD ?_; kernel_rfl) | (with_reducible first | refine mS hD ?_ | refine mT hD ?_ | refine mF hD ?_ | refine mB hD (fun _ => ?_) (fun _ => ?_) | exact True.intro | refine And.intro ?_ ?_) <;> try conv => cbv)); all_goals try (first | trivial | (subst hD; first | exact fun _ _ => ⟨_, rfl⟩ | exact fl1 | exact fl1') | (((try subst hD hu); (try simp only [nc] at *); (try simp only [Int.ofNat_eq_natCast] at *); try simp (disch := omega) only [std, uid, S0] at *) <;> first | omega | rfl | (exfalso; simp_all only [Bool.true_eq_false, Bool.false_eq_true]; done))))
          · ((try subst hD hu); (try simp only [nc] at *); (try simp only [Int.ofNat_eq_natCast] at *); try simp (disch := omega) only [std, uid, S0, hkt] at *)
            omega
          · ((try subst hD hu); (try simp only [nc] at *); (try simp only [Int.ofNat_eq_natCast] at *); try simp (disch := omega) only [std, uid, S0, hkt] at *)
            exact (LR_sub (by omega)).deq2
          · have hsl2 : s.length = k := by rw [hs, List.length_take, rowsOf_len]; omega
            ((try subst hD hu); (try simp only [nc] at *); (try simp only [Int.ofNat_eq_natCast] at *); try simp (disch := omega) only [std, uid, S0] at *)
            omega
          · refine ⟨k + 1, s ++ [seg cs ((st ++ [(cs.length : Int)]).getD k 0) ((st ++ [(cs.length : Int)]).getD (k + 1) 0)], hks, ?_, ssem_of ?_, by omega⟩
            · rw [hs, take_snoc _ [] _ (by rw [rowsOf_len]; exact hks), rowsOf_get _ _ _ _ hks, getD_app_l _ _ _ _ hks]
            · ((try conv => cbv); (repeat' (first | (with_reducible refine mK hD ?_; kernel_rfl) | (with_reducible first | refine mS hD ?_ | refine mT hD ?_ | refine mF hD ?_ | refine mB hD (fun _ => ?_) (fun _ => ?_) | exact True.intro | refine And.intro ?_ ?_) <;> try conv => cbv)); all_goals try (first | trivial | (subst hD; first | exact fun _ _ => ⟨_, rfl⟩ | exact fl1 | exact fl1') | (((try subst hD hu); (try simp only [nc] at *); (try simp only [Int.ofNat_eq_natCast] at *); try simp (disch := omega) only [std, uid, S0] at *) <;> first | omega | rfl | (exfalso; simp_all only [Bool.true_eq_false, Bool.false_eq_true]; done))))
              (subst hD hu; apply qCluS; (focus repeat' (first | exact LR.refl | exact LR_bytes | apply mClu | apply mCel | apply mKey | apply mSnp | apply mKRd | apply mLin | apply mHis | apply mBlk | apply mScr | apply mSes | exact zR | exact zB | exact zT | exact zN | exact zClu | exact zCel | exact zCelS | exact zSnp | exact zKey | exact zSes | exact zScr | apply LR.deq | exact LR.nil | apply LR.one | apply LR.rep | apply LR.cat | apply LR.cat' | apply LR.set | exact u8_0 | exact DEq.s _ | (apply str_deq; (repeat' apply sr_cat) <;> rfl) | apply aLe_1 | (apply LR.rfl'; simp only [uid, std, S0]; omega))); all_goals try simp only [uid, std, Int.toNat_natCast, Int.ofNat_eq_natCast])
      all_goals (
        have ek : k = st.length := by ((try subst hD hu); (try simp only [nc] at *); (try simp only [Int.ofNat_eq_natCast] at *); try simp (disch := omega) only [std, uid, S0] at *); omega
        have e : s = wrap cs cols := by
          have : ¬ cols < 2 := by ((try subst hD hu); (try simp only [nc] at *); (try simp only [Int.ofNat_eq_natCast] at *); try simp (disch := omega) only [std, uid, S0] at *); omega
          rw [hs, ek, wrap, if_neg this, hst]
          exact List.take_of_length_le (by rw [rowsOf_len]; omega))
      · rw [e]
      · (subst hD hu; apply qCluS; (focus repeat' (first | exact LR.refl | exact LR_bytes | apply mClu | apply mCel | apply mKey | apply mSnp | apply mKRd | apply mLin | apply mHis | apply mBlk | apply mScr | apply mSes | exact zR | exact zB | exact zT | exact zN | exact zClu | exact zCel | exact zCelS | exact zSnp | exact zKey | exact zSes | exact zScr | apply LR.deq | exact LR.nil | apply LR.one | apply LR.rep | apply LR.cat | apply LR.cat' | apply LR.set | exact u8_0 | exact DEq.s _ | (apply str_deq; (repeat' apply sr_cat) <;> rfl) | apply aLe_1 | (apply LR.rfl'; simp only [uid, std, S0]; omega))); all_goals try simp only [uid, std, Int.toNat_natCast, Int.ofNat_eq_natCast])
        exact e
theorem x_implWrap (cs : List Clu) (cols : Int) (hb : bdL bdEClu 100000000 cs) (hc : okI cols) : PX Try.prog 42 (fun D u => [.r (.c (lClu D u (u _ cs))), AI (u _ cols)]) (fun D u => [.c (lCluS D u (u _ (wrap cs cols)))]) (fun D u => []) := by
  obtain ⟨W, hW⟩ : ∃ W : Nat → Int, ∀ k, W k = wideC (cs.getD k dClu) := ⟨_, fun _ => rfl⟩
  refine px_of_awp (fn := Try.f42) (c := bodyOf Try.f42) envOk (by kernel_rfl) (by kernel_rfl) (by kernel_rfl) (by kernel_rfl) rfl (by kernel_rfl) (by kernel_rfl) ?_
  intro w0 mine D u C L hD hu hC hL
  (have hset := hsA hD; have hset3 := hsB hD; have hset2 := hset; (conv at hset2 => enter [f, a, row, 1]; whnf); (conv at hset3 => enter [f, a, row, row', 1]; whnf; enter [1]; whnf); (conv at hset3 => enter [f, a, row, row', 2]; whnf))
  have hn := hb.1
  ((try conv => cbv); (repeat' (first | (with_reducible refine mK hD ?_; kernel_rfl) | (with_reducible first | refine mS hD ?_ | refine mT hD ?_ | refine mF hD ?_ | refine mB hD (fun _ => ?_) (fun _ => ?_) | exact True.intro | refine And.intro ?_ ?_) <;> try conv => cbv)); all_goals try (first | trivial | (subst hD; first | exact fun _ _ => ⟨_, rfl⟩ | exact fl1 | exact fl1') | (((try subst hD hu); (try simp only [nc] at *); (try simp only [Int.ofNat_eq_natCast] at *); try simp (disch := omega) only [std, uid, S0] at *) <;> first | omega | rfl | (exfalso; simp_all only [Bool.true_eq_false, Bool.false_eq_true]; done))))
  · have e : wrap cs cols = [] := by unfold wrap; rw [if_pos (by ((try subst hD hu); (try simp only [nc] at *); (try simp only [Int.ofNat_eq_natCast] at *); try simp (disch := omega) only [std, uid, S0] at *); omega)]
    subst hD hu
    simp only [uid, std, e]
    rfl
  · have e : wrap cs cols = [] := by unfold wrap; rw [if_pos (by ((try subst hD hu); (try simp only [nc] at *); (try simp only [Int.ofNat_eq_natCast] at *); try simp (disch := omega) only [std, uid, S0] at *); omega)]
    exact DEq.z _ _ _
  · refine loop_st hL cs.length (fun k s => s = (rowsOf cs (stF cols cs k).1 k, (stF cols cs k).2)) ([[]], 0) (fun k s => [(5, vO D 1 (u _ (s.1))), (14, .bad), (6, VI (u _ (s.2))), (17, VI (u _ k))]) (fun k s => [(1, oCluS D u (u _ (s.1)))]) (by rw [stF, rowsOf_0]) ?_ ?_
    · ((try conv => cbv); (repeat' (first | (with_reducible refine mK hD ?_; kernel_rfl) | (with_reducible first | refine mS hD ?_ | refine mT hD ?_ | refine mF hD ?_ | refine mB hD (fun _ => ?_) (fun _ => ?_) | exact True.intro | refine And.intro ?_ ?_) <;> try conv => cbv)); all_goals try (first | trivial | (subst hD; first | exact fun _ _ => ⟨_, rfl⟩ | exact fl1 | exact fl1') | (((try subst hD hu); (try simp only [nc] at *); (try simp only [Int.ofNat_eq_natCast] at *); try simp (disch := omega) only [std, uid, S0] at *) <;> first | omega | rfl | (exfalso; simp_all only [Bool.true_eq_false, Bool.false_eq_true]; done))))
      (subst hD hu; apply qCluS; (focus repeat' (first | exact LR.refl | exact LR_bytes | apply mClu | apply mCel | apply mKey | apply mSnp | apply mKRd | apply mLin | apply mHis | apply mBlk | apply mScr | apply mSes | exact zR | exact zB | exact zT | exact zN | exact zClu | exact zCel | exact zCelS | exact zSnp | exact zKey | exact zSes | exact zScr | apply LR.deq | exact LR.nil | apply LR.one | apply LR.rep | apply LR.cat | apply LR.cat' | apply LR.set | exact u8_0 | exact DEq.s _ | (apply str_deq; (repeat' apply sr_cat) <;> rfl) | apply aLe_1 | (apply LR.rfl'; simp only [uid, std, S0]; omega))); all_goals try simp only [uid, std, Int.toNat_natCast, Int.ofNat_eq_natCast])
    · intro k s hk hs
      have hi := stF_inv cols cs k
      have hs1 : s.1 = rowsOf cs (stF cols cs k).1 k := by rw [hs]
      have hs2 : s.2 = (stF cols cs k).2 := by rw [hs]
      have hrl : s.1.length = (stF cols cs k).1.length := by rw [hs1]; exact rowsOf_len _ _ _
      have hp : 0 < s.1.length := by rw [hrl]; exact hi.pos
      have hlen : s.1.length ≤ k + 1 := by rw [hrl]; exact hi.len
      have hu2 : 0 ≤ s.2 ∧ s.2 ≤ 1000 * k := by rw [hs2]; exact hi.used
      have hl := hi.last
      have hll : ((s.1.getD (s.1.length - 1) []).length : Int) = k - lastI (stF cols cs k).1 := by
        rw [hrl, hs1, rowsOf_last _ _ _ hi.pos, seg_len _ _ _ (by omega)]
        omega
      have hwd := hW k
      unfold wideC at hwd
      have hwr := wideC_range (cs.getD k dClu)
      rw [← hW k] at hwr
      have e1 : ((s.1.length : Int) - 1).toNat = s.1.length - 1 := by omega
      have e2 : ((s.1.length : Int) - 1 + 1).toNat = s.1.length := by omega
      ((try conv => cbv); (repeat' (first | (with_reducible refine mK hD ?_; kernel_rfl) | (with_reducible first | refine mS hD ?_ | refine mT hD ?_ | refine mF hD ?_ | refine mB hD (fun _ => ?_) (fun _ => ?_) | exact True.intro | refine And.intro ?_ ?_) <;> try conv => cbv)); all_goals try (first | trivial | (subst hD; first | exact fun _ _ => ⟨_, rfl⟩ | exact fl1 | exact fl1') | (((try subst hD hu); (try simp only [nc] at *); (try simp only [Int.ofNat_eq_natCast] at *); try simp (disch := omega) only [std, uid, S0] at *) <;> first | omega | rfl | (exfalso; simp_all only [Bool.true_eq_false, Bool.false_eq_true]; done))))
      all_goals try (have hkn : k < cs.length := by ((try subst hD hu); (try simp only [nc] at *); (try simp only [Int.ofNat_eq_natCast] at *); try simp (disch := omega) only [std, uid, S0] at *); omega)
      all_goals try (have hx := hb.2 _ (getD_mem cs dClu k hkn); unfold bdEClu at hx)
      all_goals (
        have hcA : ∀ (f g : Nat → List DV), D.catF (D.lenL (List Clu) (u _ s.1)) f 1 g (rowN D 0 (D.addI .i64 (D.subI .i64 (D.ofN (D.lenL (List Clu) (u _ s.1))) 1) 1)) = g 0 := fun f g => by
          subst hD hu
          simp only [uid, std, catR, rowN]
          rw [wrap64 ((s.1.length : Int) - 1) (by omega), wrap64 _ (by omega), if_pos (by omega)]
          congr 1
          omega
        have hcB := hcA
        conv at hcB => enter [f, g, 1]; cbv)
      repeat' ((first | simp only [hcB] | simp only [hset2, hset3, hset, rowN]); ((try conv => cbv); (repeat' (first | (with_reducible refine mK hD ?_; kernel_rfl) | (with_reducible first | refine mS hD ?_ | refine mT hD ?_ | refine mF hD ?_ | refine mB hD (fun _ => ?_) (fun _ => ?_) | exact True.intro | refine And.intro ?_ ?_) <;> try conv => cbv)); all_goals try (first | trivial | (subst hD; first | exact fun _ _ => ⟨_, rfl⟩ | exact fl1 | exact fl1') | (((try subst hD hu); (try simp only [nc] at *); (try simp only [Int.ofNat_eq_natCast] at *); try simp (disch := omega) only [std, uid, S0] at *) <;> first | omega | rfl | (exfalso; simp_all only [Bool.true_eq_false, Bool.false_eq_true]; done)))))
      all_goals try (((try subst hD hu); (try simp only [nc] at *); (try simp only [Int.ofNat_eq_natCast] at *); try simp (disch := omega) only [std, uid, S0, e1, e2] at *); omega; done)
      · have h1 : lastI (stF cols cs k).1 < k ∧ cols < (stF cols cs k).2 + wideC (cs.getD k dClu) := by
          rw [← hW k, ← hs2]; ((try subst hD hu); (try simp only [nc] at *); (try simp only [Int.ofNat_eq_natCast] at *); try simp (disch := omega) only [std, uid, S0, e1] at *); omega
        refine ⟨k + 1, (s.1 ++ [[cs.getD k dClu]], W k), hkn, by rw [stF, stStep, if_pos h1, rowsOf_new _ _ _ hkn, hs1, hW k], ssem_of ?_, by omega⟩
        ((try conv => cbv); (repeat' (first | (with_reducible refine mK hD ?_; kernel_rfl) | (with_reducible first | refine mS hD ?_ | refine mT hD ?_ | refine mF hD ?_ | refine mB hD (fun _ => ?_) (fun _ => ?_) | exact True.intro | refine And.intro ?_ ?_) <;> try conv => cbv)); all_goals try (first | trivial | (subst hD; first | exact fun _ _ => ⟨_, rfl⟩ | exact fl1 | exact fl1') | (((try subst hD hu); (try simp only [nc] at *); (try simp only [Int.ofNat_eq_natCast] at *); try simp (disch := omega) only [std, uid, S0] at *) <;> first | omega | rfl | (exfalso; simp_all only [Bool.true_eq_false, Bool.false_eq_true]; done))))
        (subst hD hu; apply qCluS; (focus repeat' (first | exact LR.refl | exact LR_bytes | apply mClu | apply mCel | apply mKey | apply mSnp | apply mKRd | apply mLin | apply mHis | apply mBlk | apply mScr | apply mSes | exact zR | exact zB | exact zT | exact zN | exact zClu | exact zCel | exact zCelS | exact zSnp | exact zKey | exact zSes | exact zScr | apply LR.deq | exact LR.nil | apply LR.one | apply LR.rep | apply LR.cat | apply LR.cat' | apply LR.set | exact u8_0 | exact DEq.s _ | (apply str_deq; (repeat' apply sr_cat) <;> rfl) | apply aLe_1 | (apply LR.rfl'; simp only [uid, std, S0]; omega))); all_goals try simp only [uid, std, Int.toNat_natCast, Int.ofNat_eq_natCast])
        rw [wrap64 ((s.1.length : Int) - 1) (by omega), wrap64 _ (by omega), e2, List.set_append_right _ _ (by omega)]
        simp
      · have h1 : ¬ (lastI (stF cols cs k).1 < k ∧ cols < (stF cols cs k).2 + wideC (cs.getD k dClu)) := by
          rw [← hW k, ← hs2]; ((try subst hD hu); (try simp only [nc] at *); (try simp only [Int.ofNat_eq_natCast] at *); try simp (disch := omega) only [std, uid, S0, e1] at *); omega
        refine ⟨k + 1, (s.1.set (s.1.length - 1) (s.1.getD (s.1.length - 1) [] ++ [cs.getD k dClu]), s.2 + W k), hkn, by rw [stF, stStep, if_neg h1, rowsOf_ext _ _ _ hi.pos hl hkn, hrl, hs1, hs2, hW k], ssem_of ?_, by omega⟩
        ((try conv => cbv); (repeat' (first | (with_reducible refine mK hD ?_; kernel_rfl) | (with_reducible first | refine mS hD ?_ | refine mT hD ?_ | refine mF hD ?_ | refine mB hD (fun _ => ?_) (fun _ => ?_) | exact True.intro | refine And.intro ?_ ?_) <;> try conv => cbv)); all_goals try (first | trivial | (subst hD; first | exact fun _ _ => ⟨_, rfl⟩ | exact fl1 | exact fl1') | (((try subst hD hu); (try simp only [nc] at *); (try simp only [Int.ofNat_eq_natCast] at *); try simp (disch := omega) only [std, uid, S0] at *) <;> first | omega | rfl | (exfalso; simp_all only [Bool.true_eq_false, Bool.false_eq_true]; done))))
        (subst hD hu; apply qCluS; (focus repeat' (first | exact LR.refl | exact LR_bytes | apply mClu | apply mCel | apply mKey | apply mSnp | apply mKRd | apply mLin | apply mHis | apply mBlk | apply mScr | apply mSes | exact zR | exact zB | exact zT | exact zN | exact zClu | exact zCel | exact zCelS | exact zSnp | exact zKey | exact zSes | exact zScr | apply LR.deq | exact LR.nil | apply LR.one | apply LR.rep | apply LR.cat | apply LR.cat' | apply LR.set | exact u8_0 | exact DEq.s _ | (apply str_deq; (repeat' apply sr_cat) <;> rfl) | apply aLe_1 | (apply LR.rfl'; simp only [uid, std, S0]; omega))); all_goals try simp only [uid, std, Int.toNat_natCast, Int.ofNat_eq_natCast])
        rw [wrap64 _ (by omega), e1]
        simp
      · have h1 : ¬ (lastI (stF cols cs k).1 < k ∧ cols < (stF cols cs k).2 + wideC (cs.getD k dClu)) := by
          rw [← hW k, ← hs2]; ((try subst hD hu); (try simp only [nc] at *); (try simp only [Int.ofNat_eq_natCast] at *); try simp (disch := omega) only [std, uid, S0, e1] at *); omega
        refine ⟨k + 1, (s.1.set (s.1.length - 1) (s.1.getD (s.1.length - 1) [] ++ [cs.getD k dClu]), s.2 + W k), hkn, by rw [stF, stStep, if_neg h1, rowsOf_ext _ _ _ hi.pos hl hkn, hrl, hs1, hs2, hW k], ssem_of ?_, by omega⟩
        ((try conv => cbv); (repeat' (first | (with_reducible refine mK hD ?_; kernel_rfl) | (with_reducible first | refine mS hD ?_ | refine mT hD ?_ | refine mF hD ?_ | refine mB hD (fun _ => ?_) (fun _ => ?_) | exact True.intro | refine And.intro ?_ ?_) <;> try conv => cbv)); all_goals try (first | trivial | (subst hD; first | exact fun _ _ => ⟨_, rfl⟩ | exact fl1 | exact fl1') | (((try subst hD hu); (try simp only [nc] at *); (try simp only [Int.ofNat_eq_natCast] at *); try simp (disch := omega) only [std, uid, S0] at *) <;> first | omega | rfl | (exfalso; simp_all only [Bool.true_eq_false, Bool.false_eq_true]; done))))
        (subst hD hu; apply qCluS; (focus repeat' (first | exact LR.refl | exact LR_bytes | apply mClu | apply mCel | apply mKey | apply mSnp | apply mKRd | apply mLin | apply mHis | apply mBlk | apply mScr | apply mSes | exact zR | exact zB | exact zT | exact zN | exact zClu | exact zCel | exact zCelS | exact zSnp | exact zKey | exact zSes | exact zScr | apply LR.deq | exact LR.nil | apply LR.one | apply LR.rep | apply LR.cat | apply LR.cat' | apply LR.set | exact u8_0 | exact DEq.s _ | (apply str_deq; (repeat' apply sr_cat) <;> rfl) | apply aLe_1 | (apply LR.rfl'; simp only [uid, std, S0]; omega))); all_goals try simp only [uid, std, Int.toNat_natCast, Int.ofNat_eq_natCast])
        rw [wrap64 _ (by omega), e1]
        simp
      all_goals (
        have ek : k = cs.length := by ((try subst hD hu); (try simp only [nc] at *); (try simp only [Int.ofNat_eq_natCast] at *); try simp (disch := omega) only [std, uid, S0] at *); omega
        have e : s.1 = wrap cs cols := by
          have : ¬ cols < 2 := by ((try subst hD hu); (try simp only [nc] at *); (try simp only [Int.ofNat_eq_natCast] at *); try simp (disch := omega) only [std, uid, S0] at *); omega
          rw [hs1, ek, wrap, if_neg this, starts])
      · rw [e]
      · (subst hD hu; apply qCluS; (focus repeat' (first | exact LR.refl | exact LR_bytes | apply mClu | apply mCel | apply mKey | apply mSnp | apply mKRd | apply mLin | apply mHis | apply mBlk | apply mScr | apply mSes | exact zR | exact zB | exact zT | exact zN | exact zClu | exact zCel | exact zCelS | exact zSnp | exact zKey | exact zSes | exact zScr | apply LR.deq | exact LR.nil | apply LR.one | apply LR.rep | apply LR.cat | apply LR.cat' | apply LR.set | exact u8_0 | exact DEq.s _ | (apply str_deq; (repeat' apply sr_cat) <;> rfl) | apply aLe_1 | (apply LR.rfl'; simp only [uid, std, S0]; omega))); all_goals try simp only [uid, std, Int.toNat_natCast, Int.ofNat_eq_natCast])
        exact e
end Go.AW
/- The law of Wrap. -/
set_option linter.unusedVariables false
set_option linter.unusedSimpArgs false
namespace Go.AW
open Go.Proofs
set_option maxRecDepth 100000
set_option maxHeartbeats 8000000
theorem con_FnExactWrap (a : List (Clu)) (h0 : a.length ≤ 140737488355328 ∧ ∀ x, x ∈ a → bdEClu 140737488355328 x ∧ okClu x) (b : Int) (h1 : okI b) : PX Try.prog 7 (fun D u => [.r (.c (lClu D u (u _ a))), AI (u _ b)]) (fun D u => [RB true]) (fun D u => []) := by
  refine px_of_awp (fn := Try.f7) (c := bodyOf Try.f7) envOk (by kernel_rfl) (by kernel_rfl) (by kernel_rfl) (by kernel_rfl) rfl (by kernel_rfl) (by kernel_rfl) ?_
  intro w0 mine D u C L hD hu hC hL
  ((try conv => cbv); (repeat' (first | (with_reducible refine mK hD ?_; kernel_rfl) | (with_reducible first | refine mS hD ?_ | refine mT hD ?_ | refine mF hD ?_ | refine mB hD (fun _ => ?_) (fun _ => ?_) | exact True.intro | refine And.intro ?_ ?_) <;> try conv => cbv)); all_goals try (first | trivial | (subst hD; first | exact fun _ _ => ⟨_, rfl⟩ | exact fl1 | exact fl1') | (((try subst hD hu); (try simp only [nc] at *); (try simp only [Int.ofNat_eq_natCast] at *); try simp (disch := omega) only [std, uid, S0] at *) <;> first | omega | rfl | (exfalso; simp_all only [Bool.true_eq_false, Bool.false_eq_true]; done))))
  obtain ⟨r1, hr1⟩ := opq (if (1048576 : Int) - (totL toEClu a : Nat) < 0 then -1 else (1048576 : Int) - (totL toEClu a : Nat))
  all_goals (
    refine callx hD hu hC (x_szClusterS a 1048576 r1 (by ((try subst hD hu); (try simp only [nc] at *); (try simp only [Int.ofNat_eq_natCast] at *); try simp (disch := omega) only [std, uid, S0] at *); omega) ⟨h0.1, fun x hx => (h0.2 x hx).1⟩ hr1) ?_
    ((try conv => cbv); (repeat' (first | (with_reducible refine mK hD ?_; kernel_rfl) | (with_reducible first | refine mS hD ?_ | refine mT hD ?_ | refine mF hD ?_ | refine mB hD (fun _ => ?_) (fun _ => ?_) | exact True.intro | refine And.intro ?_ ?_) <;> try conv => cbv)); all_goals try (first | trivial | (subst hD; first | exact fun _ _ => ⟨_, rfl⟩ | exact fl1 | exact fl1') | (((try subst hD hu); (try simp only [nc] at *); (try simp only [Int.ofNat_eq_natCast] at *); try simp (disch := omega) only [std, uid, S0] at *) <;> first | omega | rfl | (exfalso; simp_all only [Bool.true_eq_false, Bool.false_eq_true]; done))))
    all_goals try ((subst hD hu; (try simp only [std, uid, rR, rB, rT, rN, rClu, rCel, rSnp, rKey, rCluS, rCelS, lR, lB, lT, lN, lClu, lCel, eL, dClu, dCel, dSnp, dKey, Int.toNat_natCast, Int.ofNat_eq_natCast, markL_len, mkR_len, mkB_len, mkN_len]) <;> rfl)))
  have hz0 : totL toEClu a ≤ 1048576 := by ((try subst hD hu); (try simp only [nc] at *); (try simp only [Int.ofNat_eq_natCast] at *); try simp (disch := omega) only [std, uid, S0] at *); omega
  have hb0 : bdL bdEClu 1000000000 a := bdL_of boEClu _ _ (by omega)
  have hc0 := ccLClu a
  have ht0 : totL toECluS (wrap a b) ≤ 1000000000 := Nat.le_trans (wrap_tot a b) (by omega)
  have hbr0 : bdL bdECluS 1000000000 (wrap a b) := bdL_of boECluS _ _ ht0
  have hcr0 := ccLCluS (wrap a b)
  all_goals (
    refine callx hD hu hC (x_toClusterS a hb0) ?_
    ((try conv => cbv); (repeat' (first | (with_reducible refine mK hD ?_; kernel_rfl) | (with_reducible first | refine mS hD ?_ | refine mT hD ?_ | refine mF hD ?_ | refine mB hD (fun _ => ?_) (fun _ => ?_) | exact True.intro | refine And.intro ?_ ?_) <;> try conv => cbv)); all_goals try (first | trivial | (subst hD; first | exact fun _ _ => ⟨_, rfl⟩ | exact fl1 | exact fl1') | (((try subst hD hu); (try simp only [nc] at *); (try simp only [Int.ofNat_eq_natCast] at *); try simp (disch := omega) only [std, uid, S0] at *) <;> first | omega | rfl | (exfalso; simp_all only [Bool.true_eq_false, Bool.false_eq_true]; done))))
    all_goals try ((subst hD hu; (try simp only [std, uid, rR, rB, rT, rN, rClu, rCel, rSnp, rKey, rCluS, rCelS, lR, lB, lT, lN, lClu, lCel, eL, dClu, dCel, dSnp, dKey, Int.toNat_natCast, Int.ofNat_eq_natCast, markL_len, mkR_len, mkB_len, mkN_len]) <;> rfl)))
  all_goals (
    refine callx hD hu hC (x_specWrap a b (bdL_of boEClu _ _ (by omega)) h1) ?_
    ((try conv => cbv); (repeat' (first | (with_reducible refine mK hD ?_; kernel_rfl) | (with_reducible first | refine mS hD ?_ | refine mT hD ?_ | refine mF hD ?_ | refine mB hD (fun _ => ?_) (fun _ => ?_) | exact True.intro | refine And.intro ?_ ?_) <;> try conv => cbv)); all_goals try (first | trivial | (subst hD; first | exact fun _ _ => ⟨_, rfl⟩ | exact fl1 | exact fl1') | (((try subst hD hu); (try simp only [nc] at *); (try simp only [Int.ofNat_eq_natCast] at *); try simp (disch := omega) only [std, uid, S0] at *) <;> first | omega | rfl | (exfalso; simp_all only [Bool.true_eq_false, Bool.false_eq_true]; done))))
    all_goals try ((subst hD hu; (try simp only [std, uid, rR, rB, rT, rN, rClu, rCel, rSnp, rKey, rCluS, rCelS, lR, lB, lT, lN, lClu, lCel, eL, dClu, dCel, dSnp, dKey, Int.toNat_natCast, Int.ofNat_eq_natCast, markL_len, mkR_len, mkB_len, mkN_len]) <;> rfl)))
  all_goals (
    refine callx hD hu hC (x_toClusterS a hb0) ?_
    ((try conv => cbv); (repeat' (first | (with_reducible refine mK hD ?_; kernel_rfl) | (with_reducible first | refine mS hD ?_ | refine mT hD ?_ | refine mF hD ?_ | refine mB hD (fun _ => ?_) (fun _ => ?_) | exact True.intro | refine And.intro ?_ ?_) <;> try conv => cbv)); all_goals try (first | trivial | (subst hD; first | exact fun _ _ => ⟨_, rfl⟩ | exact fl1 | exact fl1') | (((try subst hD hu); (try simp only [nc] at *); (try simp only [Int.ofNat_eq_natCast] at *); try simp (disch := omega) only [std, uid, S0] at *) <;> first | omega | rfl | (exfalso; simp_all only [Bool.true_eq_false, Bool.false_eq_true]; done))))
    all_goals try ((subst hD hu; (try simp only [std, uid, rR, rB, rT, rN, rClu, rCel, rSnp, rKey, rCluS, rCelS, lR, lB, lT, lN, lClu, lCel, eL, dClu, dCel, dSnp, dKey, Int.toNat_natCast, Int.ofNat_eq_natCast, markL_len, mkR_len, mkB_len, mkN_len]) <;> rfl)))
  all_goals (
    refine callx hD hu hC (x_implWrap a b (bdL_of boEClu _ _ (by omega)) h1) ?_
    ((try conv => cbv); (repeat' (first | (with_reducible refine mK hD ?_; kernel_rfl) | (with_reducible first | refine mS hD ?_ | refine mT hD ?_ | refine mF hD ?_ | refine mB hD (fun _ => ?_) (fun _ => ?_) | exact True.intro | refine And.intro ?_ ?_) <;> try conv => cbv)); all_goals try (first | trivial | (subst hD; first | exact fun _ _ => ⟨_, rfl⟩ | exact fl1 | exact fl1') | (((try subst hD hu); (try simp only [nc] at *); (try simp only [Int.ofNat_eq_natCast] at *); try simp (disch := omega) only [std, uid, S0] at *) <;> first | omega | rfl | (exfalso; simp_all only [Bool.true_eq_false, Bool.false_eq_true]; done))))
    all_goals try ((subst hD hu; (try simp only [std, uid, rR, rB, rT, rN, rClu, rCel, rSnp, rKey, rCluS, rCelS, lR, lB, lT, lN, lClu, lCel, eL, dClu, dCel, dSnp, dKey, Int.toNat_natCast, Int.ofNat_eq_natCast, markL_len, mkR_len, mkB_len, mkN_len]) <;> rfl)))
  all_goals (
    refine callx hD hu hC (x_eqClusterSS (wrap a b) hbr0) ?_
    ((try conv => cbv); (repeat' (first | (with_reducible refine mK hD ?_; kernel_rfl) | (with_reducible first | refine mS hD ?_ | refine mT hD ?_ | refine mF hD ?_ | refine mB hD (fun _ => ?_) (fun _ => ?_) | exact True.intro | refine And.intro ?_ ?_) <;> try conv => cbv)); all_goals try (first | trivial | (subst hD; first | exact fun _ _ => ⟨_, rfl⟩ | exact fl1 | exact fl1') | (((try subst hD hu); (try simp only [nc] at *); (try simp only [Int.ofNat_eq_natCast] at *); try simp (disch := omega) only [std, uid, S0] at *) <;> first | omega | rfl | (exfalso; simp_all only [Bool.true_eq_false, Bool.false_eq_true]; done))))
    all_goals try ((subst hD hu; (try simp only [std, uid, rR, rB, rT, rN, rClu, rCel, rSnp, rKey, rCluS, rCelS, lR, lB, lT, lN, lClu, lCel, eL, dClu, dCel, dSnp, dKey, Int.toNat_natCast, Int.ofNat_eq_natCast, markL_len, mkR_len, mkB_len, mkN_len]) <;> rfl)))
  all_goals (
    refine callx hD hu hC (x_toClusterS a hb0) ?_
    ((try conv => cbv); (repeat' (first | (with_reducible refine mK hD ?_; kernel_rfl) | (with_reducible first | refine mS hD ?_ | refine mT hD ?_ | refine mF hD ?_ | refine mB hD (fun _ => ?_) (fun _ => ?_) | exact True.intro | refine And.intro ?_ ?_) <;> try conv => cbv)); all_goals try (first | trivial | (subst hD; first | exact fun _ _ => ⟨_, rfl⟩ | exact fl1 | exact fl1') | (((try subst hD hu); (try simp only [nc] at *); (try simp only [Int.ofNat_eq_natCast] at *); try simp (disch := omega) only [std, uid, S0] at *) <;> first | omega | rfl | (exfalso; simp_all only [Bool.true_eq_false, Bool.false_eq_true]; done))))
    all_goals try ((subst hD hu; (try simp only [std, uid, rR, rB, rT, rN, rClu, rCel, rSnp, rKey, rCluS, rCelS, lR, lB, lT, lN, lClu, lCel, eL, dClu, dCel, dSnp, dKey, Int.toNat_natCast, Int.ofNat_eq_natCast, markL_len, mkR_len, mkB_len, mkN_len]) <;> rfl)))
  all_goals (
    refine callx hD hu hC (x_eqClusterS a hb0) ?_
    ((try conv => cbv); (repeat' (first | (with_reducible refine mK hD ?_; kernel_rfl) | (with_reducible first | refine mS hD ?_ | refine mT hD ?_ | refine mF hD ?_ | refine mB hD (fun _ => ?_) (fun _ => ?_) | exact True.intro | refine And.intro ?_ ?_) <;> try conv => cbv)); all_goals try (first | trivial | (subst hD; first | exact fun _ _ => ⟨_, rfl⟩ | exact fl1 | exact fl1') | (((try subst hD hu); (try simp only [nc] at *); (try simp only [Int.ofNat_eq_natCast] at *); try simp (disch := omega) only [std, uid, S0] at *) <;> first | omega | rfl | (exfalso; simp_all only [Bool.true_eq_false, Bool.false_eq_true]; done))))
    all_goals try ((subst hD hu; (try simp only [std, uid, rR, rB, rT, rN, rClu, rCel, rSnp, rKey, rCluS, rCelS, lR, lB, lT, lN, lClu, lCel, eL, dClu, dCel, dSnp, dKey, Int.toNat_natCast, Int.ofNat_eq_natCast, markL_len, mkR_len, mkB_len, mkN_len]) <;> rfl)))
  all_goals (
    refine callx hD hu hC (x_markClusterS a (1) (1 + (cntL cnEClu a : Nat)) (by omega) hb0 rfl) ?_
    ((try conv => cbv); (repeat' (first | (with_reducible refine mK hD ?_; kernel_rfl) | (with_reducible first | refine mS hD ?_ | refine mT hD ?_ | refine mF hD ?_ | refine mB hD (fun _ => ?_) (fun _ => ?_) | exact True.intro | refine And.intro ?_ ?_) <;> try conv => cbv)); all_goals try (first | trivial | (subst hD; first | exact fun _ _ => ⟨_, rfl⟩ | exact fl1 | exact fl1') | (((try subst hD hu); (try simp only [nc] at *); (try simp only [Int.ofNat_eq_natCast] at *); try simp (disch := omega) only [std, uid, S0] at *) <;> first | omega | rfl | (exfalso; simp_all only [Bool.true_eq_false, Bool.false_eq_true]; done))))
    all_goals try ((subst hD hu; (try simp only [std, uid, rR, rB, rT, rN, rClu, rCel, rSnp, rKey, rCluS, rCelS, lR, lB, lT, lN, lClu, lCel, eL, dClu, dCel, dSnp, dKey, Int.toNat_natCast, Int.ofNat_eq_natCast, markL_len, mkR_len, mkB_len, mkN_len]) <;> rfl)))
  all_goals (
    refine callx hD hu hC (x_eqClusterSS (wrap a b) hbr0) ?_
    ((try conv => cbv); (repeat' (first | (with_reducible refine mK hD ?_; kernel_rfl) | (with_reducible first | refine mS hD ?_ | refine mT hD ?_ | refine mF hD ?_ | refine mB hD (fun _ => ?_) (fun _ => ?_) | exact True.intro | refine And.intro ?_ ?_) <;> try conv => cbv)); all_goals try (first | trivial | (subst hD; first | exact fun _ _ => ⟨_, rfl⟩ | exact fl1 | exact fl1') | (((try subst hD hu); (try simp only [nc] at *); (try simp only [Int.ofNat_eq_natCast] at *); try simp (disch := omega) only [std, uid, S0] at *) <;> first | omega | rfl | (exfalso; simp_all only [Bool.true_eq_false, Bool.false_eq_true]; done))))
    all_goals try ((subst hD hu; (try simp only [std, uid, rR, rB, rT, rN, rClu, rCel, rSnp, rKey, rCluS, rCelS, lR, lB, lT, lN, lClu, lCel, eL, dClu, dCel, dSnp, dKey, Int.toNat_natCast, Int.ofNat_eq_natCast, markL_len, mkR_len, mkB_len, mkN_len]) <;> rfl)))
  all_goals (
    refine callx hD hu hC (x_markClusterSS (wrap a b) (1) (1 + (cntL cnECluS (wrap a b) : Nat)) (by omega) hbr0 rfl) ?_
    ((try conv => cbv); (repeat' (first | (with_reducible refine mK hD ?_; kernel_rfl) | (with_reducible first | refine mS hD ?_ | refine mT hD ?_ | refine mF hD ?_ | refine mB hD (fun _ => ?_) (fun _ => ?_) | exact True.intro | refine And.intro ?_ ?_) <;> try conv => cbv)); all_goals try (first | trivial | (subst hD; first | exact fun _ _ => ⟨_, rfl⟩ | exact fl1 | exact fl1') | (((try subst hD hu); (try simp only [nc] at *); (try simp only [Int.ofNat_eq_natCast] at *); try simp (disch := omega) only [std, uid, S0] at *) <;> first | omega | rfl | (exfalso; simp_all only [Bool.true_eq_false, Bool.false_eq_true]; done))))
    all_goals try ((subst hD hu; (try simp only [std, uid, rR, rB, rT, rN, rClu, rCel, rSnp, rKey, rCluS, rCelS, lR, lB, lT, lN, lClu, lCel, eL, dClu, dCel, dSnp, dKey, Int.toNat_natCast, Int.ofNat_eq_natCast, markL_len, mkR_len, mkB_len, mkN_len]) <;> rfl)))
  all_goals (
    refine callx hD hu hC (x_heldClusterSS (wrap a b) (1) (1 + (cntL cnECluS (wrap a b) : Nat)) (by omega) hbr0 rfl) ?_
    ((try conv => cbv); (repeat' (first | (with_reducible refine mK hD ?_; kernel_rfl) | (with_reducible first | refine mS hD ?_ | refine mT hD ?_ | refine mF hD ?_ | refine mB hD (fun _ => ?_) (fun _ => ?_) | exact True.intro | refine And.intro ?_ ?_) <;> try conv => cbv)); all_goals try (first | trivial | (subst hD; first | exact fun _ _ => ⟨_, rfl⟩ | exact fl1 | exact fl1') | (((try subst hD hu); (try simp only [nc] at *); (try simp only [Int.ofNat_eq_natCast] at *); try simp (disch := omega) only [std, uid, S0] at *) <;> first | omega | rfl | (exfalso; simp_all only [Bool.true_eq_false, Bool.false_eq_true]; done))))
    all_goals try ((subst hD hu; (try simp only [std, uid, rR, rB, rT, rN, rClu, rCel, rSnp, rKey, rCluS, rCelS, lR, lB, lT, lN, lClu, lCel, eL, dClu, dCel, dSnp, dKey, Int.toNat_natCast, Int.ofNat_eq_natCast, markL_len, mkR_len, mkB_len, mkN_len]) <;> rfl)))
  all_goals (
    refine callx hD hu hC (x_toClusterS a hb0) ?_
    ((try conv => cbv); (repeat' (first | (with_reducible refine mK hD ?_; kernel_rfl) | (with_reducible first | refine mS hD ?_ | refine mT hD ?_ | refine mF hD ?_ | refine mB hD (fun _ => ?_) (fun _ => ?_) | exact True.intro | refine And.intro ?_ ?_) <;> try conv => cbv)); all_goals try (first | trivial | (subst hD; first | exact fun _ _ => ⟨_, rfl⟩ | exact fl1 | exact fl1') | (((try subst hD hu); (try simp only [nc] at *); (try simp only [Int.ofNat_eq_natCast] at *); try simp (disch := omega) only [std, uid, S0] at *) <;> first | omega | rfl | (exfalso; simp_all only [Bool.true_eq_false, Bool.false_eq_true]; done))))
    all_goals try ((subst hD hu; (try simp only [std, uid, rR, rB, rT, rN, rClu, rCel, rSnp, rKey, rCluS, rCelS, lR, lB, lT, lN, lClu, lCel, eL, dClu, dCel, dSnp, dKey, Int.toNat_natCast, Int.ofNat_eq_natCast, markL_len, mkR_len, mkB_len, mkN_len]) <;> rfl)))
  all_goals (
    refine callx hD hu hC (x_implWrap a b (bdL_of boEClu _ _ (by omega)) h1) ?_
    ((try conv => cbv); (repeat' (first | (with_reducible refine mK hD ?_; kernel_rfl) | (with_reducible first | refine mS hD ?_ | refine mT hD ?_ | refine mF hD ?_ | refine mB hD (fun _ => ?_) (fun _ => ?_) | exact True.intro | refine And.intro ?_ ?_) <;> try conv => cbv)); all_goals try (first | trivial | (subst hD; first | exact fun _ _ => ⟨_, rfl⟩ | exact fl1 | exact fl1') | (((try subst hD hu); (try simp only [nc] at *); (try simp only [Int.ofNat_eq_natCast] at *); try simp (disch := omega) only [std, uid, S0] at *) <;> first | omega | rfl | (exfalso; simp_all only [Bool.true_eq_false, Bool.false_eq_true]; done))))
    all_goals try ((subst hD hu; (try simp only [std, uid, rR, rB, rT, rN, rClu, rCel, rSnp, rKey, rCluS, rCelS, lR, lB, lT, lN, lClu, lCel, eL, dClu, dCel, dSnp, dKey, Int.toNat_natCast, Int.ofNat_eq_natCast, markL_len, mkR_len, mkB_len, mkN_len]) <;> rfl)))
  all_goals (
    refine callx hD hu hC (x_eqClusterSS (wrap a b) hbr0) ?_
    ((try conv => cbv); (repeat' (first | (with_reducible refine mK hD ?_; kernel_rfl) | (with_reducible first | refine mS hD ?_ | refine mT hD ?_ | refine mF hD ?_ | refine mB hD (fun _ => ?_) (fun _ => ?_) | exact True.intro | refine And.intro ?_ ?_) <;> try conv => cbv)); all_goals try (first | trivial | (subst hD; first | exact fun _ _ => ⟨_, rfl⟩ | exact fl1 | exact fl1') | (((try subst hD hu); (try simp only [nc] at *); (try simp only [Int.ofNat_eq_natCast] at *); try simp (disch := omega) only [std, uid, S0] at *) <;> first | omega | rfl | (exfalso; simp_all only [Bool.true_eq_false, Bool.false_eq_true]; done))))
    all_goals try ((subst hD hu; (try simp only [std, uid, rR, rB, rT, rN, rClu, rCel, rSnp, rKey, rCluS, rCelS, lR, lB, lT, lN, lClu, lCel, eL, dClu, dCel, dSnp, dKey, Int.toNat_natCast, Int.ofNat_eq_natCast, markL_len, mkR_len, mkB_len, mkN_len]) <;> rfl)))
  all_goals (
    refine callx hD hu hC (x_heldClusterSS (wrap a b) (1) (1 + (cntL cnECluS (wrap a b) : Nat)) (by omega) hbr0 rfl) ?_
    ((try conv => cbv); (repeat' (first | (with_reducible refine mK hD ?_; kernel_rfl) | (with_reducible first | refine mS hD ?_ | refine mT hD ?_ | refine mF hD ?_ | refine mB hD (fun _ => ?_) (fun _ => ?_) | exact True.intro | refine And.intro ?_ ?_) <;> try conv => cbv)); all_goals try (first | trivial | (subst hD; first | exact fun _ _ => ⟨_, rfl⟩ | exact fl1 | exact fl1') | (((try subst hD hu); (try simp only [nc] at *); (try simp only [Int.ofNat_eq_natCast] at *); try simp (disch := omega) only [std, uid, S0] at *) <;> first | omega | rfl | (exfalso; simp_all only [Bool.true_eq_false, Bool.false_eq_true]; done))))
    all_goals try ((subst hD hu; (try simp only [std, uid, rR, rB, rT, rN, rClu, rCel, rSnp, rKey, rCluS, rCelS, lR, lB, lT, lN, lClu, lCel, eL, dClu, dCel, dSnp, dKey, Int.toNat_natCast, Int.ofNat_eq_natCast, markL_len, mkR_len, mkB_len, mkN_len]) <;> rfl)))
end Go.AW
