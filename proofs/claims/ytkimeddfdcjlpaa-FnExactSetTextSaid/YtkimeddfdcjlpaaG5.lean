/- SetText on both sides. -/
import Derived.Test.YtkimeddfdcjlpaaG4
set_option linter.unusedVariables false
set_option linter.unusedSimpArgs false
set_option linter.unusedVariables false
set_option linter.unusedSimpArgs false
namespace Go.AW
open Go.Proofs
set_option maxRecDepth 100000
set_option maxHeartbeats 8000000
def pushU (u : List Snp) (s : Snp) : List Snp := if 50 < u.length + 1 then (u ++ [s]).drop 1 else u ++ [s]
def setLine (l : Lin) (left right : Str) : Lin := ⟨left, right, l.kill, pushU l.undo ⟨l.left, l.right⟩⟩
noncomputable def setText (l : Lin) (text : Str) : Lin := if lineOk l && within text 300 then setLine l text [] else l
theorem cntL_drop {α : Type} (c : α → Nat) (l : List α) (n : Nat) : cntL c (l.drop n) ≤ cntL c l := by
  have := cntL_append c (l.take n) (l.drop n)
  rw [List.take_append_drop] at this
  omega
theorem setText_tot (l : Lin) (t : Str) : toELin (setText l t) ≤ 2 * toELin l + t.length + 1 := by
  unfold setText
  split
  · have h1 : totL toESnp (pushU l.undo ⟨l.left, l.right⟩) ≤ totL toESnp l.undo + 1 + l.left.length + l.right.length := by
      have h2 := cntL_append toESnp l.undo [⟨l.left, l.right⟩]
      have h3 : cntL toESnp [(⟨l.left, l.right⟩ : Snp)] = l.left.length + l.right.length := by simp [cntL, toESnp]
      have h4 := cntL_drop toESnp (l.undo ++ [⟨l.left, l.right⟩]) 1
      unfold pushU
      split
      · simp only [totL, List.length_drop, List.length_append, List.length_singleton]; omega
      · simp only [totL, List.length_append, List.length_singleton]; omega
    simp only [setLine, toELin, List.length_nil]
    omega
  · simp only [toELin]; omega
theorem flat_snp (s : Snp) : (rSnp std uid s).length = 2 ∧ ∀ d, d ∈ rSnp std uid s → ∃ v, d = .s v :=
  ⟨rfl, fun d hd => by simp only [rSnp, List.mem_cons, List.not_mem_nil, or_false] at hd; rcases hd with rfl | rfl <;> exact ⟨_, rfl⟩⟩
theorem flat_snpL (l : List Snp) (n : Nat) : std.FlatRows n (fun i => rSnp std uid (std.nthL Snp dSnp l i)) 2 := fun i _ => flat_snp _
theorem flat_cat {n m sz : Nat} {f g : Nat → List DV} (hf : std.FlatRows n f sz) (hg : std.FlatRows m g sz) : std.FlatRows (n + m) (catR n f m g) sz := fun i hi => by
  simp only [catR]
  split
  · exact hg _ (by omega)
  · exact hf _ (by omega)
theorem flat_sh {n a m sz : Nat} {f : Nat → List DV} (h : std.FlatRows n f sz) (ha : a + m ≤ n) : std.FlatRows m (fun i => f (a + i)) sz := fun i hi => h _ (by omega)
theorem pushU_len (u : List Snp) (s : Snp) (h : u.length ≤ 1000000000) : (pushU u s).length ≤ u.length + 1 := by
  unfold pushU
  split <;> simp
theorem pushU_pos {u : List Snp} {s : Snp} (h : 50 < u.length + 1) : pushU u s = ((u ++ [s]).drop 1).take ((u ++ [s]).length - 1) := by
  rw [pushU, if_pos h, List.take_of_length_le (by rw [List.length_drop]; exact Nat.le_refl _)]
theorem pushU_neg {u : List Snp} {s : Snp} (h : ¬ 50 < u.length + 1) : pushU u s = u ++ [s] := by rw [pushU, if_neg h]
theorem x_CloneSnp (s : List Snp) (hn : s.length ≤ 1000000000) : PX Try.prog 108 (fun D u => [.r (.c (lSnp D u (u _ s)))]) (fun D u => [.c (lSnp D u (u _ s))]) (fun D u => []) := by
  refine px_of_awp (fn := Try.f108) (c := bodyOf Try.f108) envOk (by kernel_rfl) (by kernel_rfl) (by kernel_rfl) (by kernel_rfl) rfl (by kernel_rfl) (by kernel_rfl) ?_
  intro w0 mine D u C L hD hu hC hL
  ((try conv => cbv); (repeat' (first | (with_reducible refine mK hD ?_; kernel_rfl) | (with_reducible first | refine mS hD ?_ | refine mT hD ?_ | refine mF hD ?_ | refine mB hD (fun _ => ?_) (fun _ => ?_) | exact True.intro | refine And.intro ?_ ?_) <;> try conv => cbv)); all_goals try (first | trivial | (subst hD; first | exact fun _ _ => ⟨_, rfl⟩ | exact fl1 | exact fl1') | (((try subst hD hu); (try simp only [nc] at *); (try simp only [Int.ofNat_eq_natCast] at *); try simp (disch := omega) only [std, uid, S0] at *) <;> first | omega | rfl | (exfalso; simp_all only [Bool.true_eq_false, Bool.false_eq_true]; done))))
  · have h0 : s = [] := by ((try subst hD hu); (try simp only [nc] at *); (try simp only [Int.ofNat_eq_natCast] at *); try simp (disch := omega) only [std, uid, S0] at *); exact List.length_eq_zero_iff.mp (by omega)
    subst h0
    exact DEq.z _ _ _
  · (subst hD hu; apply qSnp; (focus repeat' (first | exact LR.refl | exact LR_bytes | apply mClu | apply mCel | apply mKey | apply mSnp | apply mKRd | apply mLin | apply mHis | apply mBlk | apply mScr | apply mSes | exact zR | exact zB | exact zT | exact zN | exact zClu | exact zCel | exact zCelS | exact zSnp | exact zKey | exact zSes | exact zScr | apply LR.deq | exact LR.nil | apply LR.one | apply LR.rep | apply LR.cat | apply LR.cat' | apply LR.set | exact u8_0 | exact DEq.s _ | (apply str_deq; (repeat' apply sr_cat) <;> rfl) | apply aLe_1 | (apply LR.rfl'; simp only [uid, std, S0]; omega))); all_goals try simp only [uid, std, Int.toNat_natCast, Int.ofNat_eq_natCast])
    simp
  · subst hD hu
    exact flat_snpL _ _
  · (subst hD hu; apply qSnp; (focus repeat' (first | exact LR.refl | exact LR_bytes | apply mClu | apply mCel | apply mKey | apply mSnp | apply mKRd | apply mLin | apply mHis | apply mBlk | apply mScr | apply mSes | exact zR | exact zB | exact zT | exact zN | exact zClu | exact zCel | exact zCelS | exact zSnp | exact zKey | exact zSes | exact zScr | apply LR.deq | exact LR.nil | apply LR.one | apply LR.rep | apply LR.cat | apply LR.cat' | apply LR.set | exact u8_0 | exact DEq.s _ | (apply str_deq; (repeat' apply sr_cat) <;> rfl) | apply aLe_1 | (apply LR.rfl'; simp only [uid, std, S0]; omega))); all_goals try simp only [uid, std, Int.toNat_natCast, Int.ofNat_eq_natCast])
    simp
theorem x_l4Copy (l : Lin) (hb : bdELin 100000000 l) : PX Try.prog 44 (fun D u => [.r (.a (rLin D u (u _ l)))]) (fun D u => [.a (rLin D u (u _ l))]) (fun D u => []) := by
  refine px_of_awp (fn := Try.f44) (c := bodyOf Try.f44) envOk (by kernel_rfl) (by kernel_rfl) (by kernel_rfl) (by kernel_rfl) rfl (by kernel_rfl) (by kernel_rfl) ?_
  intro w0 mine D u C L hD hu hC hL
  have hb4 := hb.2.2.2.1
  ((try conv => cbv); (repeat' (first | (with_reducible refine mK hD ?_; kernel_rfl) | (with_reducible first | refine mS hD ?_ | refine mT hD ?_ | refine mF hD ?_ | refine mB hD (fun _ => ?_) (fun _ => ?_) | exact True.intro | refine And.intro ?_ ?_) <;> try conv => cbv)); all_goals try (first | trivial | (subst hD; first | exact fun _ _ => ⟨_, rfl⟩ | exact fl1 | exact fl1') | (((try subst hD hu); (try simp only [nc] at *); (try simp only [Int.ofNat_eq_natCast] at *); try simp (disch := omega) only [std, uid, S0] at *) <;> first | omega | rfl | (exfalso; simp_all only [Bool.true_eq_false, Bool.false_eq_true]; done))))
  · subst hD hu
    exact flat_snpL _ _
  · (subst hD hu; apply qSnp; (focus repeat' (first | exact LR.refl | exact LR_bytes | apply mClu | apply mCel | apply mKey | apply mSnp | apply mKRd | apply mLin | apply mHis | apply mBlk | apply mScr | apply mSes | exact zR | exact zB | exact zT | exact zN | exact zClu | exact zCel | exact zCelS | exact zSnp | exact zKey | exact zSes | exact zScr | apply LR.deq | exact LR.nil | apply LR.one | apply LR.rep | apply LR.cat | apply LR.cat' | apply LR.set | exact u8_0 | exact DEq.s _ | (apply str_deq; (repeat' apply sr_cat) <;> rfl) | apply aLe_1 | (apply LR.rfl'; simp only [uid, std, S0]; omega))); all_goals try simp only [uid, std, Int.toNat_natCast, Int.ofNat_eq_natCast])
    simp
theorem x_l4Set (l : Lin) (left right : Str) (hb : bdELin 100000000 l) : PX Try.prog 45 (fun D u => [.r (.a (rLin D u (u _ l))), .r (.c (.s (.string (D.strB (u _ left))))), .r (.c (.s (.string (D.strB (u _ right)))))]) (fun D u => [.a (rLin D u (u _ (setLine l left right)))]) (fun D u => []) := by
  refine px_of_awp (fn := Try.f45) (c := bodyOf Try.f45) envOk (by kernel_rfl) (by kernel_rfl) (by kernel_rfl) (by kernel_rfl) rfl (by kernel_rfl) (by kernel_rfl) ?_
  intro w0 mine D u C L hD hu hC hL
  have hb4 := hb.2.2.2.1
  ((try conv => cbv); (repeat' (first | (with_reducible refine mK hD ?_; kernel_rfl) | (with_reducible first | refine mS hD ?_ | refine mT hD ?_ | refine mF hD ?_ | refine mB hD (fun _ => ?_) (fun _ => ?_) | exact True.intro | refine And.intro ?_ ?_) <;> try conv => cbv)); all_goals try (first | trivial | (subst hD; first | exact fun _ _ => ⟨_, rfl⟩ | exact fl1 | exact fl1') | (((try subst hD hu); (try simp only [nc] at *); (try simp only [Int.ofNat_eq_natCast] at *); try simp (disch := omega) only [std, uid, S0] at *) <;> first | omega | rfl | (exfalso; simp_all only [Bool.true_eq_false, Bool.false_eq_true]; done))))
  refine callx hD hu hC (x_l4Copy l hb) ?_
  ((try conv => cbv); (repeat' (first | (with_reducible refine mK hD ?_; kernel_rfl) | (with_reducible first | refine mS hD ?_ | refine mT hD ?_ | refine mF hD ?_ | refine mB hD (fun _ => ?_) (fun _ => ?_) | exact True.intro | refine And.intro ?_ ?_) <;> try conv => cbv)); all_goals try (first | trivial | (subst hD; first | exact fun _ _ => ⟨_, rfl⟩ | exact fl1 | exact fl1') | (((try subst hD hu); (try simp only [nc] at *); (try simp only [Int.ofNat_eq_natCast] at *); try simp (disch := omega) only [std, uid, S0] at *) <;> first | omega | rfl | (exfalso; simp_all only [Bool.true_eq_false, Bool.false_eq_true]; done))))
  · subst hD hu
    exact flat_sh (n := l.undo.length + 1) (a := 1) (flat_cat (flat_snpL _ _) (fun i _ => flat_snp ⟨l.left, l.right⟩)) (by simp only [std, uid]; omega)
  · have h1 : 50 < l.undo.length + 1 := by ((try subst hD hu); (try simp only [nc] at *); (try simp only [Int.ofNat_eq_natCast] at *); try simp (disch := omega) only [std, uid, S0] at *); omega
    ((try subst hD hu); (try simp only [nc] at *); (try simp only [Int.ofNat_eq_natCast] at *); try simp (disch := omega) only [std, uid, S0, setLine, pushU_pos h1] at *)
    omega
  · have h1 : 50 < l.undo.length + 1 := by ((try subst hD hu); (try simp only [nc] at *); (try simp only [Int.ofNat_eq_natCast] at *); try simp (disch := omega) only [std, uid, S0] at *); omega
    subst hD hu
    refine qSnp (LR.cat' LR.nil (LR.sh (a := 1) (LR.cat' LR.refl (LR.one (x := ⟨l.left, l.right⟩) (aLe_rfl _))) (by simp only [std, uid]; omega))) ?_
    simp only [uid, setLine, pushU_pos h1, std]
    simp
  · have h1 : ¬ 50 < l.undo.length + 1 := by ((try subst hD hu); (try simp only [nc] at *); (try simp only [Int.ofNat_eq_natCast] at *); try simp (disch := omega) only [std, uid, S0] at *); omega
    ((try subst hD hu); (try simp only [nc] at *); (try simp only [Int.ofNat_eq_natCast] at *); try simp (disch := omega) only [std, uid, S0, setLine, pushU_neg h1] at *)
  · have h1 : ¬ 50 < l.undo.length + 1 := by ((try subst hD hu); (try simp only [nc] at *); (try simp only [Int.ofNat_eq_natCast] at *); try simp (disch := omega) only [std, uid, S0] at *); omega
    (subst hD hu; apply qSnp; (focus repeat' (first | exact LR.refl | exact LR_bytes | apply mClu | apply mCel | apply mKey | apply mSnp | apply mKRd | apply mLin | apply mHis | apply mBlk | apply mScr | apply mSes | exact zR | exact zB | exact zT | exact zN | exact zClu | exact zCel | exact zCelS | exact zSnp | exact zKey | exact zSes | exact zScr | apply LR.deq | exact LR.nil | apply LR.one | apply LR.rep | apply LR.cat | apply LR.cat' | apply LR.set | exact u8_0 | exact DEq.s _ | (apply str_deq; (repeat' apply sr_cat) <;> rfl) | apply aLe_1 | (apply LR.rfl'; simp only [uid, std, S0]; omega))); all_goals try simp only [uid, std, Int.toNat_natCast, Int.ofNat_eq_natCast])
    simp only [setLine, pushU_neg h1]
theorem x_specSetText (l : Lin) (text : Str) (hb : bdELin 100000000 l) (hk : okLin l) (ht : text.length ≤ 100000000) : PX Try.prog 10 (fun D u => [.r (.a (rLin D u (u _ l))), .r (.c (.s (.string (D.strB (u _ text)))))]) (fun D u => [.a (rLin D u (u _ (setText l text))), RB (u _ (lineOk l && within text 300))]) (fun D u => []) := by
  refine px_of_awp (fn := Try.f10) (c := bodyOf Try.f10) envOk (by kernel_rfl) (by kernel_rfl) (by kernel_rfl) (by kernel_rfl) rfl (by kernel_rfl) (by kernel_rfl) ?_
  intro w0 mine D u C L hD hu hC hL
  cases h1 : lineOk l with
  | false =>
    have e : setText l text = l := by rw [setText, h1]; rfl
    rw [e, Bool.false_and]
    ((try conv => cbv); (repeat' (first | (with_reducible refine mK hD ?_; kernel_rfl) | (with_reducible first | refine mS hD ?_ | refine mT hD ?_ | refine mF hD ?_ | refine mB hD (fun _ => ?_) (fun _ => ?_) | exact True.intro | refine And.intro ?_ ?_) <;> try conv => cbv)); all_goals try (first | trivial | (subst hD; first | exact fun _ _ => ⟨_, rfl⟩ | exact fl1 | exact fl1') | (((try subst hD hu); (try simp only [nc] at *); (try simp only [Int.ofNat_eq_natCast] at *); try simp (disch := omega) only [std, uid, S0] at *) <;> first | omega | rfl | (exfalso; simp_all only [Bool.true_eq_false, Bool.false_eq_true]; done))))
    refine callx hD hu hC (x_specLineOk l hb hk) ?_
    rw [h1]
    ((try conv => cbv); (repeat' (first | (with_reducible refine mK hD ?_; kernel_rfl) | (with_reducible first | refine mS hD ?_ | refine mT hD ?_ | refine mF hD ?_ | refine mB hD (fun _ => ?_) (fun _ => ?_) | exact True.intro | refine And.intro ?_ ?_) <;> try conv => cbv)); all_goals try (first | trivial | (subst hD; first | exact fun _ _ => ⟨_, rfl⟩ | exact fl1 | exact fl1') | (((try subst hD hu); (try simp only [nc] at *); (try simp only [Int.ofNat_eq_natCast] at *); try simp (disch := omega) only [std, uid, S0] at *) <;> first | omega | rfl | (exfalso; simp_all only [Bool.true_eq_false, Bool.false_eq_true]; done))))
    refine callx hD hu hC (x_l4Copy l hb) ?_
    ((try conv => cbv); (repeat' (first | (with_reducible refine mK hD ?_; kernel_rfl) | (with_reducible first | refine mS hD ?_ | refine mT hD ?_ | refine mF hD ?_ | refine mB hD (fun _ => ?_) (fun _ => ?_) | exact True.intro | refine And.intro ?_ ?_) <;> try conv => cbv)); all_goals try (first | trivial | (subst hD; first | exact fun _ _ => ⟨_, rfl⟩ | exact fl1 | exact fl1') | (((try subst hD hu); (try simp only [nc] at *); (try simp only [Int.ofNat_eq_natCast] at *); try simp (disch := omega) only [std, uid, S0] at *) <;> first | omega | rfl | (exfalso; simp_all only [Bool.true_eq_false, Bool.false_eq_true]; done))))
  | true =>
    rw [Bool.true_and]
    cases h2 : within text 300 with
    | false =>
      have e : setText l text = l := by rw [setText, h1, h2]; rfl
      rw [e]
      ((try conv => cbv); (repeat' (first | (with_reducible refine mK hD ?_; kernel_rfl) | (with_reducible first | refine mS hD ?_ | refine mT hD ?_ | refine mF hD ?_ | refine mB hD (fun _ => ?_) (fun _ => ?_) | exact True.intro | refine And.intro ?_ ?_) <;> try conv => cbv)); all_goals try (first | trivial | (subst hD; first | exact fun _ _ => ⟨_, rfl⟩ | exact fl1 | exact fl1') | (((try subst hD hu); (try simp only [nc] at *); (try simp only [Int.ofNat_eq_natCast] at *); try simp (disch := omega) only [std, uid, S0] at *) <;> first | omega | rfl | (exfalso; simp_all only [Bool.true_eq_false, Bool.false_eq_true]; done))))
      refine callx hD hu hC (x_specLineOk l hb hk) ?_
      rw [h1]
      ((try conv => cbv); (repeat' (first | (with_reducible refine mK hD ?_; kernel_rfl) | (with_reducible first | refine mS hD ?_ | refine mT hD ?_ | refine mF hD ?_ | refine mB hD (fun _ => ?_) (fun _ => ?_) | exact True.intro | refine And.intro ?_ ?_) <;> try conv => cbv)); all_goals try (first | trivial | (subst hD; first | exact fun _ _ => ⟨_, rfl⟩ | exact fl1 | exact fl1') | (((try subst hD hu); (try simp only [nc] at *); (try simp only [Int.ofNat_eq_natCast] at *); try simp (disch := omega) only [std, uid, S0] at *) <;> first | omega | rfl | (exfalso; simp_all only [Bool.true_eq_false, Bool.false_eq_true]; done))))
      refine callx hD hu hC (x_l4TextOk text 300 ht (by omega)) ?_
      rw [h2]
      ((try conv => cbv); (repeat' (first | (with_reducible refine mK hD ?_; kernel_rfl) | (with_reducible first | refine mS hD ?_ | refine mT hD ?_ | refine mF hD ?_ | refine mB hD (fun _ => ?_) (fun _ => ?_) | exact True.intro | refine And.intro ?_ ?_) <;> try conv => cbv)); all_goals try (first | trivial | (subst hD; first | exact fun _ _ => ⟨_, rfl⟩ | exact fl1 | exact fl1') | (((try subst hD hu); (try simp only [nc] at *); (try simp only [Int.ofNat_eq_natCast] at *); try simp (disch := omega) only [std, uid, S0] at *) <;> first | omega | rfl | (exfalso; simp_all only [Bool.true_eq_false, Bool.false_eq_true]; done))))
      refine callx hD hu hC (x_l4Copy l hb) ?_
      ((try conv => cbv); (repeat' (first | (with_reducible refine mK hD ?_; kernel_rfl) | (with_reducible first | refine mS hD ?_ | refine mT hD ?_ | refine mF hD ?_ | refine mB hD (fun _ => ?_) (fun _ => ?_) | exact True.intro | refine And.intro ?_ ?_) <;> try conv => cbv)); all_goals try (first | trivial | (subst hD; first | exact fun _ _ => ⟨_, rfl⟩ | exact fl1 | exact fl1') | (((try subst hD hu); (try simp only [nc] at *); (try simp only [Int.ofNat_eq_natCast] at *); try simp (disch := omega) only [std, uid, S0] at *) <;> first | omega | rfl | (exfalso; simp_all only [Bool.true_eq_false, Bool.false_eq_true]; done))))
    | true =>
      have e : setText l text = setLine l text [] := by rw [setText, h1, h2]; rfl
      rw [e]
      ((try conv => cbv); (repeat' (first | (with_reducible refine mK hD ?_; kernel_rfl) | (with_reducible first | refine mS hD ?_ | refine mT hD ?_ | refine mF hD ?_ | refine mB hD (fun _ => ?_) (fun _ => ?_) | exact True.intro | refine And.intro ?_ ?_) <;> try conv => cbv)); all_goals try (first | trivial | (subst hD; first | exact fun _ _ => ⟨_, rfl⟩ | exact fl1 | exact fl1') | (((try subst hD hu); (try simp only [nc] at *); (try simp only [Int.ofNat_eq_natCast] at *); try simp (disch := omega) only [std, uid, S0] at *) <;> first | omega | rfl | (exfalso; simp_all only [Bool.true_eq_false, Bool.false_eq_true]; done))))
      refine callx hD hu hC (x_specLineOk l hb hk) ?_
      rw [h1]
      ((try conv => cbv); (repeat' (first | (with_reducible refine mK hD ?_; kernel_rfl) | (with_reducible first | refine mS hD ?_ | refine mT hD ?_ | refine mF hD ?_ | refine mB hD (fun _ => ?_) (fun _ => ?_) | exact True.intro | refine And.intro ?_ ?_) <;> try conv => cbv)); all_goals try (first | trivial | (subst hD; first | exact fun _ _ => ⟨_, rfl⟩ | exact fl1 | exact fl1') | (((try subst hD hu); (try simp only [nc] at *); (try simp only [Int.ofNat_eq_natCast] at *); try simp (disch := omega) only [std, uid, S0] at *) <;> first | omega | rfl | (exfalso; simp_all only [Bool.true_eq_false, Bool.false_eq_true]; done))))
      refine callx hD hu hC (x_l4TextOk text 300 ht (by omega)) ?_
      rw [h2]
      ((try conv => cbv); (repeat' (first | (with_reducible refine mK hD ?_; kernel_rfl) | (with_reducible first | refine mS hD ?_ | refine mT hD ?_ | refine mF hD ?_ | refine mB hD (fun _ => ?_) (fun _ => ?_) | exact True.intro | refine And.intro ?_ ?_) <;> try conv => cbv)); all_goals try (first | trivial | (subst hD; first | exact fun _ _ => ⟨_, rfl⟩ | exact fl1 | exact fl1') | (((try subst hD hu); (try simp only [nc] at *); (try simp only [Int.ofNat_eq_natCast] at *); try simp (disch := omega) only [std, uid, S0] at *) <;> first | omega | rfl | (exfalso; simp_all only [Bool.true_eq_false, Bool.false_eq_true]; done))))
      refine callx hD hu hC (x_l4Set l text [] hb) ?_
      ((try conv => cbv); (repeat' (first | (with_reducible refine mK hD ?_; kernel_rfl) | (with_reducible first | refine mS hD ?_ | refine mT hD ?_ | refine mF hD ?_ | refine mB hD (fun _ => ?_) (fun _ => ?_) | exact True.intro | refine And.intro ?_ ?_) <;> try conv => cbv)); all_goals try (first | trivial | (subst hD; first | exact fun _ _ => ⟨_, rfl⟩ | exact fl1 | exact fl1') | (((try subst hD hu); (try simp only [nc] at *); (try simp only [Int.ofNat_eq_natCast] at *); try simp (disch := omega) only [std, uid, S0] at *) <;> first | omega | rfl | (exfalso; simp_all only [Bool.true_eq_false, Bool.false_eq_true]; done))))
      all_goals try ((subst hD hu; (try simp only [std, uid, rR, rB, rT, rN, rClu, rCel, rSnp, rKey, rCluS, rCelS, lR, lB, lT, lN, lClu, lCel, eL, dClu, dCel, dSnp, dKey, Int.toNat_natCast, Int.ofNat_eq_natCast]) <;> rfl))
theorem x_implSetText (l : Lin) (text : Str) (hb : bdELin 100000000 l) (hk : okLin l) (ht : text.length ≤ 100000000) : PX Try.prog 12 (fun D u => [.r (.a (rLin D u (u _ l))), .r (.c (.s (.string (D.strB (u _ text)))))]) (fun D u => [.a (rLin D u (u _ (setText l text))), RB (u _ (lineOk l && within text 300))]) (fun D u => []) := by
  refine px_of_awp (fn := Try.f12) (c := bodyOf Try.f12) envOk (by kernel_rfl) (by kernel_rfl) (by kernel_rfl) (by kernel_rfl) rfl (by kernel_rfl) (by kernel_rfl) ?_
  intro w0 mine D u C L hD hu hC hL
  have hb4 := hb.2.2.2.1
  have hpl := pushU_len l.undo ⟨l.left, l.right⟩ (by omega)
  cases h1 : lineOk l with
  | false =>
    have e : setText l text = l := by rw [setText, h1]; rfl
    rw [e, Bool.false_and]
    ((try conv => cbv); (repeat' (first | (with_reducible refine mK hD ?_; kernel_rfl) | (with_reducible first | refine mS hD ?_ | refine mT hD ?_ | refine mF hD ?_ | refine mB hD (fun _ => ?_) (fun _ => ?_) | exact True.intro | refine And.intro ?_ ?_) <;> try conv => cbv)); all_goals try (first | trivial | (subst hD; first | exact fun _ _ => ⟨_, rfl⟩ | exact fl1 | exact fl1') | (((try subst hD hu); (try simp only [nc] at *); (try simp only [Int.ofNat_eq_natCast] at *); try simp (disch := omega) only [std, uid, S0] at *) <;> first | omega | rfl | (exfalso; simp_all only [Bool.true_eq_false, Bool.false_eq_true]; done))))
    refine call_in (fn := Try.f47) (c := bodyOf Try.f47) envOk (by kernel_rfl) (by kernel_rfl) (by kernel_rfl) (by kernel_rfl) rfl hD hC hL (by kernel_rfl) ?_; intro _
    ((try conv => cbv); (repeat' (first | (with_reducible refine mK hD ?_; kernel_rfl) | (with_reducible first | refine mS hD ?_ | refine mT hD ?_ | refine mF hD ?_ | refine mB hD (fun _ => ?_) (fun _ => ?_) | exact True.intro | refine And.intro ?_ ?_) <;> try conv => cbv)); all_goals try (first | trivial | (subst hD; first | exact fun _ _ => ⟨_, rfl⟩ | exact fl1 | exact fl1') | (((try subst hD hu); (try simp only [nc] at *); (try simp only [Int.ofNat_eq_natCast] at *); try simp (disch := omega) only [std, uid, S0] at *) <;> first | omega | rfl | (exfalso; simp_all only [Bool.true_eq_false, Bool.false_eq_true]; done))))
    refine callx hD hu hC (x_CloneSnp l.undo (by omega)) ?_
    ((try conv => cbv); (repeat' (first | (with_reducible refine mK hD ?_; kernel_rfl) | (with_reducible first | refine mS hD ?_ | refine mT hD ?_ | refine mF hD ?_ | refine mB hD (fun _ => ?_) (fun _ => ?_) | exact True.intro | refine And.intro ?_ ?_) <;> try conv => cbv)); all_goals try (first | trivial | (subst hD; first | exact fun _ _ => ⟨_, rfl⟩ | exact fl1 | exact fl1') | (((try subst hD hu); (try simp only [nc] at *); (try simp only [Int.ofNat_eq_natCast] at *); try simp (disch := omega) only [std, uid, S0] at *) <;> first | omega | rfl | (exfalso; simp_all only [Bool.true_eq_false, Bool.false_eq_true]; done))))
    refine callx hD hu hC (x_clustersOf l.left hb.1) ?_
    ((try conv => cbv); (repeat' (first | (with_reducible refine mK hD ?_; kernel_rfl) | (with_reducible first | refine mS hD ?_ | refine mT hD ?_ | refine mF hD ?_ | refine mB hD (fun _ => ?_) (fun _ => ?_) | exact True.intro | refine And.intro ?_ ?_) <;> try conv => cbv)); all_goals try (first | trivial | (subst hD; first | exact fun _ _ => ⟨_, rfl⟩ | exact fl1 | exact fl1') | (((try subst hD hu); (try simp only [nc] at *); (try simp only [Int.ofNat_eq_natCast] at *); try simp (disch := omega) only [std, uid, S0] at *) <;> first | omega | rfl | (exfalso; simp_all only [Bool.true_eq_false, Bool.false_eq_true]; done))))
    refine callx hD hu hC (x_clustersOf l.right hb.2.1) ?_
    ((try conv => cbv); (repeat' (first | (with_reducible refine mK hD ?_; kernel_rfl) | (with_reducible first | refine mS hD ?_ | refine mT hD ?_ | refine mF hD ?_ | refine mB hD (fun _ => ?_) (fun _ => ?_) | exact True.intro | refine And.intro ?_ ?_) <;> try conv => cbv)); all_goals try (first | trivial | (subst hD; first | exact fun _ _ => ⟨_, rfl⟩ | exact fl1 | exact fl1') | (((try subst hD hu); (try simp only [nc] at *); (try simp only [Int.ofNat_eq_natCast] at *); try simp (disch := omega) only [std, uid, S0] at *) <;> first | omega | rfl | (exfalso; simp_all only [Bool.true_eq_false, Bool.false_eq_true]; done))))
    refine callx hD hu hC (x_implLineOk l hb hk) ?_
    rw [h1]
    ((try conv => cbv); (repeat' (first | (with_reducible refine mK hD ?_; kernel_rfl) | (with_reducible first | refine mS hD ?_ | refine mT hD ?_ | refine mF hD ?_ | refine mB hD (fun _ => ?_) (fun _ => ?_) | exact True.intro | refine And.intro ?_ ?_) <;> try conv => cbv)); all_goals try (first | trivial | (subst hD; first | exact fun _ _ => ⟨_, rfl⟩ | exact fl1 | exact fl1') | (((try subst hD hu); (try simp only [nc] at *); (try simp only [Int.ofNat_eq_natCast] at *); try simp (disch := omega) only [std, uid, S0] at *) <;> first | omega | rfl | (exfalso; simp_all only [Bool.true_eq_false, Bool.false_eq_true]; done))))
  | true =>
    rw [Bool.true_and]
    cases h2 : within text 300 with
    | false =>
      have e : setText l text = l := by rw [setText, h1, h2]; rfl
      rw [e]
      ((try conv => cbv); (repeat' (first | (with_reducible refine mK hD ?_; kernel_rfl) | (with_reducible first | refine mS hD ?_ | refine mT hD ?_ | refine mF hD ?_ | refine mB hD (fun _ => ?_) (fun _ => ?_) | exact True.intro | refine And.intro ?_ ?_) <;> try conv => cbv)); all_goals try (first | trivial | (subst hD; first | exact fun _ _ => ⟨_, rfl⟩ | exact fl1 | exact fl1') | (((try subst hD hu); (try simp only [nc] at *); (try simp only [Int.ofNat_eq_natCast] at *); try simp (disch := omega) only [std, uid, S0] at *) <;> first | omega | rfl | (exfalso; simp_all only [Bool.true_eq_false, Bool.false_eq_true]; done))))
      refine call_in (fn := Try.f47) (c := bodyOf Try.f47) envOk (by kernel_rfl) (by kernel_rfl) (by kernel_rfl) (by kernel_rfl) rfl hD hC hL (by kernel_rfl) ?_; intro _
      ((try conv => cbv); (repeat' (first | (with_reducible refine mK hD ?_; kernel_rfl) | (with_reducible first | refine mS hD ?_ | refine mT hD ?_ | refine mF hD ?_ | refine mB hD (fun _ => ?_) (fun _ => ?_) | exact True.intro | refine And.intro ?_ ?_) <;> try conv => cbv)); all_goals try (first | trivial | (subst hD; first | exact fun _ _ => ⟨_, rfl⟩ | exact fl1 | exact fl1') | (((try subst hD hu); (try simp only [nc] at *); (try simp only [Int.ofNat_eq_natCast] at *); try simp (disch := omega) only [std, uid, S0] at *) <;> first | omega | rfl | (exfalso; simp_all only [Bool.true_eq_false, Bool.false_eq_true]; done))))
      refine callx hD hu hC (x_CloneSnp l.undo (by omega)) ?_
      ((try conv => cbv); (repeat' (first | (with_reducible refine mK hD ?_; kernel_rfl) | (with_reducible first | refine mS hD ?_ | refine mT hD ?_ | refine mF hD ?_ | refine mB hD (fun _ => ?_) (fun _ => ?_) | exact True.intro | refine And.intro ?_ ?_) <;> try conv => cbv)); all_goals try (first | trivial | (subst hD; first | exact fun _ _ => ⟨_, rfl⟩ | exact fl1 | exact fl1') | (((try subst hD hu); (try simp only [nc] at *); (try simp only [Int.ofNat_eq_natCast] at *); try simp (disch := omega) only [std, uid, S0] at *) <;> first | omega | rfl | (exfalso; simp_all only [Bool.true_eq_false, Bool.false_eq_true]; done))))
      refine callx hD hu hC (x_clustersOf l.left hb.1) ?_
      ((try conv => cbv); (repeat' (first | (with_reducible refine mK hD ?_; kernel_rfl) | (with_reducible first | refine mS hD ?_ | refine mT hD ?_ | refine mF hD ?_ | refine mB hD (fun _ => ?_) (fun _ => ?_) | exact True.intro | refine And.intro ?_ ?_) <;> try conv => cbv)); all_goals try (first | trivial | (subst hD; first | exact fun _ _ => ⟨_, rfl⟩ | exact fl1 | exact fl1') | (((try subst hD hu); (try simp only [nc] at *); (try simp only [Int.ofNat_eq_natCast] at *); try simp (disch := omega) only [std, uid, S0] at *) <;> first | omega | rfl | (exfalso; simp_all only [Bool.true_eq_false, Bool.false_eq_true]; done))))
      refine callx hD hu hC (x_clustersOf l.right hb.2.1) ?_
      ((try conv => cbv); (repeat' (first | (with_reducible refine mK hD ?_; kernel_rfl) | (with_reducible first | refine mS hD ?_ | refine mT hD ?_ | refine mF hD ?_ | refine mB hD (fun _ => ?_) (fun _ => ?_) | exact True.intro | refine And.intro ?_ ?_) <;> try conv => cbv)); all_goals try (first | trivial | (subst hD; first | exact fun _ _ => ⟨_, rfl⟩ | exact fl1 | exact fl1') | (((try subst hD hu); (try simp only [nc] at *); (try simp only [Int.ofNat_eq_natCast] at *); try simp (disch := omega) only [std, uid, S0] at *) <;> first | omega | rfl | (exfalso; simp_all only [Bool.true_eq_false, Bool.false_eq_true]; done))))
      refine callx hD hu hC (x_implLineOk l hb hk) ?_
      rw [h1]
      ((try conv => cbv); (repeat' (first | (with_reducible refine mK hD ?_; kernel_rfl) | (with_reducible first | refine mS hD ?_ | refine mT hD ?_ | refine mF hD ?_ | refine mB hD (fun _ => ?_) (fun _ => ?_) | exact True.intro | refine And.intro ?_ ?_) <;> try conv => cbv)); all_goals try (first | trivial | (subst hD; first | exact fun _ _ => ⟨_, rfl⟩ | exact fl1 | exact fl1') | (((try subst hD hu); (try simp only [nc] at *); (try simp only [Int.ofNat_eq_natCast] at *); try simp (disch := omega) only [std, uid, S0] at *) <;> first | omega | rfl | (exfalso; simp_all only [Bool.true_eq_false, Bool.false_eq_true]; done))))
      refine callx hD hu hC (x_settledWithin text 300 ht (by omega)) ?_
      rw [h2]
      ((try conv => cbv); (repeat' (first | (with_reducible refine mK hD ?_; kernel_rfl) | (with_reducible first | refine mS hD ?_ | refine mT hD ?_ | refine mF hD ?_ | refine mB hD (fun _ => ?_) (fun _ => ?_) | exact True.intro | refine And.intro ?_ ?_) <;> try conv => cbv)); all_goals try (first | trivial | (subst hD; first | exact fun _ _ => ⟨_, rfl⟩ | exact fl1 | exact fl1') | (((try subst hD hu); (try simp only [nc] at *); (try simp only [Int.ofNat_eq_natCast] at *); try simp (disch := omega) only [std, uid, S0] at *) <;> first | omega | rfl | (exfalso; simp_all only [Bool.true_eq_false, Bool.false_eq_true]; done))))
    | true =>
      have e : setText l text = setLine l text [] := by rw [setText, h1, h2]; rfl
      rw [e]
      ((try conv => cbv); (repeat' (first | (with_reducible refine mK hD ?_; kernel_rfl) | (with_reducible first | refine mS hD ?_ | refine mT hD ?_ | refine mF hD ?_ | refine mB hD (fun _ => ?_) (fun _ => ?_) | exact True.intro | refine And.intro ?_ ?_) <;> try conv => cbv)); all_goals try (first | trivial | (subst hD; first | exact fun _ _ => ⟨_, rfl⟩ | exact fl1 | exact fl1') | (((try subst hD hu); (try simp only [nc] at *); (try simp only [Int.ofNat_eq_natCast] at *); try simp (disch := omega) only [std, uid, S0] at *) <;> first | omega | rfl | (exfalso; simp_all only [Bool.true_eq_false, Bool.false_eq_true]; done))))
      refine call_in (fn := Try.f47) (c := bodyOf Try.f47) envOk (by kernel_rfl) (by kernel_rfl) (by kernel_rfl) (by kernel_rfl) rfl hD hC hL (by kernel_rfl) ?_; intro _
      ((try conv => cbv); (repeat' (first | (with_reducible refine mK hD ?_; kernel_rfl) | (with_reducible first | refine mS hD ?_ | refine mT hD ?_ | refine mF hD ?_ | refine mB hD (fun _ => ?_) (fun _ => ?_) | exact True.intro | refine And.intro ?_ ?_) <;> try conv => cbv)); all_goals try (first | trivial | (subst hD; first | exact fun _ _ => ⟨_, rfl⟩ | exact fl1 | exact fl1') | (((try subst hD hu); (try simp only [nc] at *); (try simp only [Int.ofNat_eq_natCast] at *); try simp (disch := omega) only [std, uid, S0] at *) <;> first | omega | rfl | (exfalso; simp_all only [Bool.true_eq_false, Bool.false_eq_true]; done))))
      refine callx hD hu hC (x_CloneSnp l.undo (by omega)) ?_
      ((try conv => cbv); (repeat' (first | (with_reducible refine mK hD ?_; kernel_rfl) | (with_reducible first | refine mS hD ?_ | refine mT hD ?_ | refine mF hD ?_ | refine mB hD (fun _ => ?_) (fun _ => ?_) | exact True.intro | refine And.intro ?_ ?_) <;> try conv => cbv)); all_goals try (first | trivial | (subst hD; first | exact fun _ _ => ⟨_, rfl⟩ | exact fl1 | exact fl1') | (((try subst hD hu); (try simp only [nc] at *); (try simp only [Int.ofNat_eq_natCast] at *); try simp (disch := omega) only [std, uid, S0] at *) <;> first | omega | rfl | (exfalso; simp_all only [Bool.true_eq_false, Bool.false_eq_true]; done))))
      refine callx hD hu hC (x_clustersOf l.left hb.1) ?_
      ((try conv => cbv); (repeat' (first | (with_reducible refine mK hD ?_; kernel_rfl) | (with_reducible first | refine mS hD ?_ | refine mT hD ?_ | refine mF hD ?_ | refine mB hD (fun _ => ?_) (fun _ => ?_) | exact True.intro | refine And.intro ?_ ?_) <;> try conv => cbv)); all_goals try (first | trivial | (subst hD; first | exact fun _ _ => ⟨_, rfl⟩ | exact fl1 | exact fl1') | (((try subst hD hu); (try simp only [nc] at *); (try simp only [Int.ofNat_eq_natCast] at *); try simp (disch := omega) only [std, uid, S0] at *) <;> first | omega | rfl | (exfalso; simp_all only [Bool.true_eq_false, Bool.false_eq_true]; done))))
      refine callx hD hu hC (x_clustersOf l.right hb.2.1) ?_
      ((try conv => cbv); (repeat' (first | (with_reducible refine mK hD ?_; kernel_rfl) | (with_reducible first | refine mS hD ?_ | refine mT hD ?_ | refine mF hD ?_ | refine mB hD (fun _ => ?_) (fun _ => ?_) | exact True.intro | refine And.intro ?_ ?_) <;> try conv => cbv)); all_goals try (first | trivial | (subst hD; first | exact fun _ _ => ⟨_, rfl⟩ | exact fl1 | exact fl1') | (((try subst hD hu); (try simp only [nc] at *); (try simp only [Int.ofNat_eq_natCast] at *); try simp (disch := omega) only [std, uid, S0] at *) <;> first | omega | rfl | (exfalso; simp_all only [Bool.true_eq_false, Bool.false_eq_true]; done))))
      refine callx hD hu hC (x_implLineOk l hb hk) ?_
      rw [h1]
      ((try conv => cbv); (repeat' (first | (with_reducible refine mK hD ?_; kernel_rfl) | (with_reducible first | refine mS hD ?_ | refine mT hD ?_ | refine mF hD ?_ | refine mB hD (fun _ => ?_) (fun _ => ?_) | exact True.intro | refine And.intro ?_ ?_) <;> try conv => cbv)); all_goals try (first | trivial | (subst hD; first | exact fun _ _ => ⟨_, rfl⟩ | exact fl1 | exact fl1') | (((try subst hD hu); (try simp only [nc] at *); (try simp only [Int.ofNat_eq_natCast] at *); try simp (disch := omega) only [std, uid, S0] at *) <;> first | omega | rfl | (exfalso; simp_all only [Bool.true_eq_false, Bool.false_eq_true]; done))))
      refine callx hD hu hC (x_settledWithin text 300 ht (by omega)) ?_
      rw [h2]
      ((try conv => cbv); (repeat' (first | (with_reducible refine mK hD ?_; kernel_rfl) | (with_reducible first | refine mS hD ?_ | refine mT hD ?_ | refine mF hD ?_ | refine mB hD (fun _ => ?_) (fun _ => ?_) | exact True.intro | refine And.intro ?_ ?_) <;> try conv => cbv)); all_goals try (first | trivial | (subst hD; first | exact fun _ _ => ⟨_, rfl⟩ | exact fl1 | exact fl1') | (((try subst hD hu); (try simp only [nc] at *); (try simp only [Int.ofNat_eq_natCast] at *); try simp (disch := omega) only [std, uid, S0] at *) <;> first | omega | rfl | (exfalso; simp_all only [Bool.true_eq_false, Bool.false_eq_true]; done))))
      refine call_in (fn := Try.f50) (c := bodyOf Try.f50) envOk (by kernel_rfl) (by kernel_rfl) (by kernel_rfl) (by kernel_rfl) rfl hD hC hL (by kernel_rfl) ?_; intro _
      ((try conv => cbv); (repeat' (first | (with_reducible refine mK hD ?_; kernel_rfl) | (with_reducible first | refine mS hD ?_ | refine mT hD ?_ | refine mF hD ?_ | refine mB hD (fun _ => ?_) (fun _ => ?_) | exact True.intro | refine And.intro ?_ ?_) <;> try conv => cbv)); all_goals try (first | trivial | (subst hD; first | exact fun _ _ => ⟨_, rfl⟩ | exact fl1 | exact fl1') | (((try subst hD hu); (try simp only [nc] at *); (try simp only [Int.ofNat_eq_natCast] at *); try simp (disch := omega) only [std, uid, S0] at *) <;> first | omega | rfl | (exfalso; simp_all only [Bool.true_eq_false, Bool.false_eq_true]; done))))
      · have h3 : 50 < l.undo.length + 1 := by ((try subst hD hu); (try simp only [nc] at *); (try simp only [Int.ofNat_eq_natCast] at *); try simp (disch := omega) only [std, uid, S0] at *); omega
        refine callx hD hu hC (x_CloneSnp (pushU l.undo ⟨l.left, l.right⟩) (by omega)) ?_
        ((try conv => cbv); (repeat' (first | (with_reducible refine mK hD ?_; kernel_rfl) | (with_reducible first | refine mS hD ?_ | refine mT hD ?_ | refine mF hD ?_ | refine mB hD (fun _ => ?_) (fun _ => ?_) | exact True.intro | refine And.intro ?_ ?_) <;> try conv => cbv)); all_goals try (first | trivial | (subst hD; first | exact fun _ _ => ⟨_, rfl⟩ | exact fl1 | exact fl1') | (((try subst hD hu); (try simp only [nc] at *); (try simp only [Int.ofNat_eq_natCast] at *); try simp (disch := omega) only [std, uid, S0] at *) <;> first | omega | rfl | (exfalso; simp_all only [Bool.true_eq_false, Bool.false_eq_true]; done))))
        · ((try subst hD hu); (try simp only [nc] at *); (try simp only [Int.ofNat_eq_natCast] at *); try simp (disch := omega) only [std, uid, S0, pushU_pos h3] at *)
          omega
        · subst hD hu
          refine ((LR.sh (a := 1) (LR.cat' LR.refl (LR.one (x := ⟨l.left, l.right⟩) (aLe_rfl _))) (by simp only [std, uid]; omega)).to ?_).deq2
          simp only [uid, pushU_pos h3, std]
          simp
      · have h3 : ¬ 50 < l.undo.length + 1 := by ((try subst hD hu); (try simp only [nc] at *); (try simp only [Int.ofNat_eq_natCast] at *); try simp (disch := omega) only [std, uid, S0] at *); omega
        refine callx hD hu hC (x_CloneSnp (pushU l.undo ⟨l.left, l.right⟩) (by omega)) ?_
        ((try conv => cbv); (repeat' (first | (with_reducible refine mK hD ?_; kernel_rfl) | (with_reducible first | refine mS hD ?_ | refine mT hD ?_ | refine mF hD ?_ | refine mB hD (fun _ => ?_) (fun _ => ?_) | exact True.intro | refine And.intro ?_ ?_) <;> try conv => cbv)); all_goals try (first | trivial | (subst hD; first | exact fun _ _ => ⟨_, rfl⟩ | exact fl1 | exact fl1') | (((try subst hD hu); (try simp only [nc] at *); (try simp only [Int.ofNat_eq_natCast] at *); try simp (disch := omega) only [std, uid, S0] at *) <;> first | omega | rfl | (exfalso; simp_all only [Bool.true_eq_false, Bool.false_eq_true]; done))))
        · ((try subst hD hu); (try simp only [nc] at *); (try simp only [Int.ofNat_eq_natCast] at *); try simp (disch := omega) only [std, uid, S0, pushU_neg h3] at *)
        · subst hD hu
          refine LR.deq2 (LR.to (l := l.undo ++ [(⟨l.left, l.right⟩ : Snp)]) ?_ (pushU_neg h3).symm)
          exact LR.cat' LR.refl (LR.one (x := (⟨l.left, l.right⟩ : Snp)) (aLe_rfl _))
end Go.AW
/- The law of SetText. -/
set_option linter.unusedVariables false
set_option linter.unusedSimpArgs false
namespace Go.AW
open Go.Proofs
set_option maxRecDepth 100000
set_option maxHeartbeats 8000000
theorem con_FnExactSetText (a : Lin) (h0 : bdELin 140737488355328 a ∧ okLin a) (b : Str) (h1 : b.length ≤ 140737488355328) : PX Try.prog 3 (fun D u => [.r (.a (rLin D u (u _ a))), .r (.c (.s (.string (D.strB (u _ b)))))]) (fun D u => [RB true]) (fun D u => []) := by
  refine px_of_awp (fn := Try.f3) (c := bodyOf Try.f3) envOk (by kernel_rfl) (by kernel_rfl) (by kernel_rfl) (by kernel_rfl) rfl (by kernel_rfl) (by kernel_rfl) ?_
  intro w0 mine D u C L hD hu hC hL
  ((try conv => cbv); (repeat' (first | (with_reducible refine mK hD ?_; kernel_rfl) | (with_reducible first | refine mS hD ?_ | refine mT hD ?_ | refine mF hD ?_ | refine mB hD (fun _ => ?_) (fun _ => ?_) | exact True.intro | refine And.intro ?_ ?_) <;> try conv => cbv)); all_goals try (first | trivial | (subst hD; first | exact fun _ _ => ⟨_, rfl⟩ | exact fl1 | exact fl1') | (((try subst hD hu); (try simp only [nc] at *); (try simp only [Int.ofNat_eq_natCast] at *); try simp (disch := omega) only [std, uid, S0] at *) <;> first | omega | rfl | (exfalso; simp_all only [Bool.true_eq_false, Bool.false_eq_true]; done))))
  have hz1 : b.length ≤ 1048576 := by ((try subst hD hu); (try simp only [nc] at *); (try simp only [Int.ofNat_eq_natCast] at *); try simp (disch := omega) only [std, uid, S0] at *); omega
  obtain ⟨r1, hr1⟩ := opq (if (1048576 : Int) - (toELin a : Nat) < 0 then -1 else (1048576 : Int) - (toELin a : Nat))
  all_goals (
    refine callx hD hu hC (x_szLine a 1048576 r1 (by ((try subst hD hu); (try simp only [nc] at *); (try simp only [Int.ofNat_eq_natCast] at *); try simp (disch := omega) only [std, uid, S0] at *); omega) (h0.1) hr1) ?_
    ((try conv => cbv); (repeat' (first | (with_reducible refine mK hD ?_; kernel_rfl) | (with_reducible first | refine mS hD ?_ | refine mT hD ?_ | refine mF hD ?_ | refine mB hD (fun _ => ?_) (fun _ => ?_) | exact True.intro | refine And.intro ?_ ?_) <;> try conv => cbv)); all_goals try (first | trivial | (subst hD; first | exact fun _ _ => ⟨_, rfl⟩ | exact fl1 | exact fl1') | (((try subst hD hu); (try simp only [nc] at *); (try simp only [Int.ofNat_eq_natCast] at *); try simp (disch := omega) only [std, uid, S0] at *) <;> first | omega | rfl | (exfalso; simp_all only [Bool.true_eq_false, Bool.false_eq_true]; done))))
    all_goals try ((subst hD hu; (try simp only [std, uid, rR, rB, rT, rN, rClu, rCel, rSnp, rKey, rCluS, rCelS, lR, lB, lT, lN, lClu, lCel, eL, dClu, dCel, dSnp, dKey, Int.toNat_natCast, Int.ofNat_eq_natCast, markL_len, mkR_len, mkB_len, mkN_len, mvLin]) <;> rfl)))
  have hz0 : toELin a ≤ 1048576 := by ((try subst hD hu); (try simp only [nc] at *); (try simp only [Int.ofNat_eq_natCast] at *); try simp (disch := omega) only [std, uid, S0] at *); omega
  have hb0 : bdELin 1000000000 a := boELin _ _ (by omega)
  have hc0 := ccVLin a
  have ht0 : toELin (setText a b) ≤ 1000000000 := Nat.le_trans (setText_tot a b) (by omega)
  have hbr0 : bdELin 1000000000 (setText a b) := boELin _ _ ht0
  have hcr0 := ccVLin (setText a b)
  all_goals (
    refine callx hD hu hC (x_toLine a hb0) ?_
    ((try conv => cbv); (repeat' (first | (with_reducible refine mK hD ?_; kernel_rfl) | (with_reducible first | refine mS hD ?_ | refine mT hD ?_ | refine mF hD ?_ | refine mB hD (fun _ => ?_) (fun _ => ?_) | exact True.intro | refine And.intro ?_ ?_) <;> try conv => cbv)); all_goals try (first | trivial | (subst hD; first | exact fun _ _ => ⟨_, rfl⟩ | exact fl1 | exact fl1') | (((try subst hD hu); (try simp only [nc] at *); (try simp only [Int.ofNat_eq_natCast] at *); try simp (disch := omega) only [std, uid, S0] at *) <;> first | omega | rfl | (exfalso; simp_all only [Bool.true_eq_false, Bool.false_eq_true]; done))))
    all_goals try ((subst hD hu; (try simp only [std, uid, rR, rB, rT, rN, rClu, rCel, rSnp, rKey, rCluS, rCelS, lR, lB, lT, lN, lClu, lCel, eL, dClu, dCel, dSnp, dKey, Int.toNat_natCast, Int.ofNat_eq_natCast, markL_len, mkR_len, mkB_len, mkN_len, mvLin]) <;> rfl)))
  all_goals (
    refine callx hD hu hC (x_specSetText a b (bmELin _ _ _ (by omega) (boELin _ a hz0)) h0.2 (by omega)) ?_
    ((try conv => cbv); (repeat' (first | (with_reducible refine mK hD ?_; kernel_rfl) | (with_reducible first | refine mS hD ?_ | refine mT hD ?_ | refine mF hD ?_ | refine mB hD (fun _ => ?_) (fun _ => ?_) | exact True.intro | refine And.intro ?_ ?_) <;> try conv => cbv)); all_goals try (first | trivial | (subst hD; first | exact fun _ _ => ⟨_, rfl⟩ | exact fl1 | exact fl1') | (((try subst hD hu); (try simp only [nc] at *); (try simp only [Int.ofNat_eq_natCast] at *); try simp (disch := omega) only [std, uid, S0] at *) <;> first | omega | rfl | (exfalso; simp_all only [Bool.true_eq_false, Bool.false_eq_true]; done))))
    all_goals try ((subst hD hu; (try simp only [std, uid, rR, rB, rT, rN, rClu, rCel, rSnp, rKey, rCluS, rCelS, lR, lB, lT, lN, lClu, lCel, eL, dClu, dCel, dSnp, dKey, Int.toNat_natCast, Int.ofNat_eq_natCast, markL_len, mkR_len, mkB_len, mkN_len, mvLin]) <;> rfl)))
  all_goals (
    refine callx hD hu hC (x_toLine a hb0) ?_
    ((try conv => cbv); (repeat' (first | (with_reducible refine mK hD ?_; kernel_rfl) | (with_reducible first | refine mS hD ?_ | refine mT hD ?_ | refine mF hD ?_ | refine mB hD (fun _ => ?_) (fun _ => ?_) | exact True.intro | refine And.intro ?_ ?_) <;> try conv => cbv)); all_goals try (first | trivial | (subst hD; first | exact fun _ _ => ⟨_, rfl⟩ | exact fl1 | exact fl1') | (((try subst hD hu); (try simp only [nc] at *); (try simp only [Int.ofNat_eq_natCast] at *); try simp (disch := omega) only [std, uid, S0] at *) <;> first | omega | rfl | (exfalso; simp_all only [Bool.true_eq_false, Bool.false_eq_true]; done))))
    all_goals try ((subst hD hu; (try simp only [std, uid, rR, rB, rT, rN, rClu, rCel, rSnp, rKey, rCluS, rCelS, lR, lB, lT, lN, lClu, lCel, eL, dClu, dCel, dSnp, dKey, Int.toNat_natCast, Int.ofNat_eq_natCast, markL_len, mkR_len, mkB_len, mkN_len, mvLin]) <;> rfl)))
  all_goals (
    refine callx hD hu hC (x_implSetText a b (bmELin _ _ _ (by omega) (boELin _ a hz0)) h0.2 (by omega)) ?_
    ((try conv => cbv); (repeat' (first | (with_reducible refine mK hD ?_; kernel_rfl) | (with_reducible first | refine mS hD ?_ | refine mT hD ?_ | refine mF hD ?_ | refine mB hD (fun _ => ?_) (fun _ => ?_) | exact True.intro | refine And.intro ?_ ?_) <;> try conv => cbv)); all_goals try (first | trivial | (subst hD; first | exact fun _ _ => ⟨_, rfl⟩ | exact fl1 | exact fl1') | (((try subst hD hu); (try simp only [nc] at *); (try simp only [Int.ofNat_eq_natCast] at *); try simp (disch := omega) only [std, uid, S0] at *) <;> first | omega | rfl | (exfalso; simp_all only [Bool.true_eq_false, Bool.false_eq_true]; done))))
    all_goals try ((subst hD hu; (try simp only [std, uid, rR, rB, rT, rN, rClu, rCel, rSnp, rKey, rCluS, rCelS, lR, lB, lT, lN, lClu, lCel, eL, dClu, dCel, dSnp, dKey, Int.toNat_natCast, Int.ofNat_eq_natCast, markL_len, mkR_len, mkB_len, mkN_len, mvLin]) <;> rfl)))
  all_goals (
    refine callx hD hu hC (x_eqLine (setText a b) hbr0) ?_
    ((try conv => cbv); (repeat' (first | (with_reducible refine mK hD ?_; kernel_rfl) | (with_reducible first | refine mS hD ?_ | refine mT hD ?_ | refine mF hD ?_ | refine mB hD (fun _ => ?_) (fun _ => ?_) | exact True.intro | refine And.intro ?_ ?_) <;> try conv => cbv)); all_goals try (first | trivial | (subst hD; first | exact fun _ _ => ⟨_, rfl⟩ | exact fl1 | exact fl1') | (((try subst hD hu); (try simp only [nc] at *); (try simp only [Int.ofNat_eq_natCast] at *); try simp (disch := omega) only [std, uid, S0] at *) <;> first | omega | rfl | (exfalso; simp_all only [Bool.true_eq_false, Bool.false_eq_true]; done))))
    all_goals try ((subst hD hu; (try simp only [std, uid, rR, rB, rT, rN, rClu, rCel, rSnp, rKey, rCluS, rCelS, lR, lB, lT, lN, lClu, lCel, eL, dClu, dCel, dSnp, dKey, Int.toNat_natCast, Int.ofNat_eq_natCast, markL_len, mkR_len, mkB_len, mkN_len, mvLin]) <;> rfl)))
  all_goals (
    refine callx hD hu hC (x_toLine a hb0) ?_
    ((try conv => cbv); (repeat' (first | (with_reducible refine mK hD ?_; kernel_rfl) | (with_reducible first | refine mS hD ?_ | refine mT hD ?_ | refine mF hD ?_ | refine mB hD (fun _ => ?_) (fun _ => ?_) | exact True.intro | refine And.intro ?_ ?_) <;> try conv => cbv)); all_goals try (first | trivial | (subst hD; first | exact fun _ _ => ⟨_, rfl⟩ | exact fl1 | exact fl1') | (((try subst hD hu); (try simp only [nc] at *); (try simp only [Int.ofNat_eq_natCast] at *); try simp (disch := omega) only [std, uid, S0] at *) <;> first | omega | rfl | (exfalso; simp_all only [Bool.true_eq_false, Bool.false_eq_true]; done))))
    all_goals try ((subst hD hu; (try simp only [std, uid, rR, rB, rT, rN, rClu, rCel, rSnp, rKey, rCluS, rCelS, lR, lB, lT, lN, lClu, lCel, eL, dClu, dCel, dSnp, dKey, Int.toNat_natCast, Int.ofNat_eq_natCast, markL_len, mkR_len, mkB_len, mkN_len, mvLin]) <;> rfl)))
  all_goals (
    refine callx hD hu hC (x_eqLine a hb0) ?_
    ((try conv => cbv); (repeat' (first | (with_reducible refine mK hD ?_; kernel_rfl) | (with_reducible first | refine mS hD ?_ | refine mT hD ?_ | refine mF hD ?_ | refine mB hD (fun _ => ?_) (fun _ => ?_) | exact True.intro | refine And.intro ?_ ?_) <;> try conv => cbv)); all_goals try (first | trivial | (subst hD; first | exact fun _ _ => ⟨_, rfl⟩ | exact fl1 | exact fl1') | (((try subst hD hu); (try simp only [nc] at *); (try simp only [Int.ofNat_eq_natCast] at *); try simp (disch := omega) only [std, uid, S0] at *) <;> first | omega | rfl | (exfalso; simp_all only [Bool.true_eq_false, Bool.false_eq_true]; done))))
    all_goals try ((subst hD hu; (try simp only [std, uid, rR, rB, rT, rN, rClu, rCel, rSnp, rKey, rCluS, rCelS, lR, lB, lT, lN, lClu, lCel, eL, dClu, dCel, dSnp, dKey, Int.toNat_natCast, Int.ofNat_eq_natCast, markL_len, mkR_len, mkB_len, mkN_len, mvLin]) <;> rfl)))
  all_goals (
    refine callx hD hu hC (x_markLine a (1) (1 + (cvLin a : Nat)) (by omega) hb0 rfl) ?_
    ((try conv => cbv); (repeat' (first | (with_reducible refine mK hD ?_; kernel_rfl) | (with_reducible first | refine mS hD ?_ | refine mT hD ?_ | refine mF hD ?_ | refine mB hD (fun _ => ?_) (fun _ => ?_) | exact True.intro | refine And.intro ?_ ?_) <;> try conv => cbv)); all_goals try (first | trivial | (subst hD; first | exact fun _ _ => ⟨_, rfl⟩ | exact fl1 | exact fl1') | (((try subst hD hu); (try simp only [nc] at *); (try simp only [Int.ofNat_eq_natCast] at *); try simp (disch := omega) only [std, uid, S0] at *) <;> first | omega | rfl | (exfalso; simp_all only [Bool.true_eq_false, Bool.false_eq_true]; done))))
    all_goals try ((subst hD hu; (try simp only [std, uid, rR, rB, rT, rN, rClu, rCel, rSnp, rKey, rCluS, rCelS, lR, lB, lT, lN, lClu, lCel, eL, dClu, dCel, dSnp, dKey, Int.toNat_natCast, Int.ofNat_eq_natCast, markL_len, mkR_len, mkB_len, mkN_len, mvLin]) <;> rfl)))
  all_goals (
    refine callx hD hu hC (x_eqLine (setText a b) hbr0) ?_
    ((try conv => cbv); (repeat' (first | (with_reducible refine mK hD ?_; kernel_rfl) | (with_reducible first | refine mS hD ?_ | refine mT hD ?_ | refine mF hD ?_ | refine mB hD (fun _ => ?_) (fun _ => ?_) | exact True.intro | refine And.intro ?_ ?_) <;> try conv => cbv)); all_goals try (first | trivial | (subst hD; first | exact fun _ _ => ⟨_, rfl⟩ | exact fl1 | exact fl1') | (((try subst hD hu); (try simp only [nc] at *); (try simp only [Int.ofNat_eq_natCast] at *); try simp (disch := omega) only [std, uid, S0] at *) <;> first | omega | rfl | (exfalso; simp_all only [Bool.true_eq_false, Bool.false_eq_true]; done))))
    all_goals try ((subst hD hu; (try simp only [std, uid, rR, rB, rT, rN, rClu, rCel, rSnp, rKey, rCluS, rCelS, lR, lB, lT, lN, lClu, lCel, eL, dClu, dCel, dSnp, dKey, Int.toNat_natCast, Int.ofNat_eq_natCast, markL_len, mkR_len, mkB_len, mkN_len, mvLin]) <;> rfl)))
  all_goals (
    refine callx hD hu hC (x_markLine (setText a b) (1) (1 + (cvLin (setText a b) : Nat)) (by omega) hbr0 rfl) ?_
    ((try conv => cbv); (repeat' (first | (with_reducible refine mK hD ?_; kernel_rfl) | (with_reducible first | refine mS hD ?_ | refine mT hD ?_ | refine mF hD ?_ | refine mB hD (fun _ => ?_) (fun _ => ?_) | exact True.intro | refine And.intro ?_ ?_) <;> try conv => cbv)); all_goals try (first | trivial | (subst hD; first | exact fun _ _ => ⟨_, rfl⟩ | exact fl1 | exact fl1') | (((try subst hD hu); (try simp only [nc] at *); (try simp only [Int.ofNat_eq_natCast] at *); try simp (disch := omega) only [std, uid, S0] at *) <;> first | omega | rfl | (exfalso; simp_all only [Bool.true_eq_false, Bool.false_eq_true]; done))))
    all_goals try ((subst hD hu; (try simp only [std, uid, rR, rB, rT, rN, rClu, rCel, rSnp, rKey, rCluS, rCelS, lR, lB, lT, lN, lClu, lCel, eL, dClu, dCel, dSnp, dKey, Int.toNat_natCast, Int.ofNat_eq_natCast, markL_len, mkR_len, mkB_len, mkN_len, mvLin]) <;> rfl)))
  all_goals (
    refine callx hD hu hC (x_heldLine (setText a b) (1) (1 + (cvLin (setText a b) : Nat)) (by omega) hbr0 rfl) ?_
    ((try conv => cbv); (repeat' (first | (with_reducible refine mK hD ?_; kernel_rfl) | (with_reducible first | refine mS hD ?_ | refine mT hD ?_ | refine mF hD ?_ | refine mB hD (fun _ => ?_) (fun _ => ?_) | exact True.intro | refine And.intro ?_ ?_) <;> try conv => cbv)); all_goals try (first | trivial | (subst hD; first | exact fun _ _ => ⟨_, rfl⟩ | exact fl1 | exact fl1') | (((try subst hD hu); (try simp only [nc] at *); (try simp only [Int.ofNat_eq_natCast] at *); try simp (disch := omega) only [std, uid, S0] at *) <;> first | omega | rfl | (exfalso; simp_all only [Bool.true_eq_false, Bool.false_eq_true]; done))))
    all_goals try ((subst hD hu; (try simp only [std, uid, rR, rB, rT, rN, rClu, rCel, rSnp, rKey, rCluS, rCelS, lR, lB, lT, lN, lClu, lCel, eL, dClu, dCel, dSnp, dKey, Int.toNat_natCast, Int.ofNat_eq_natCast, markL_len, mkR_len, mkB_len, mkN_len, mvLin]) <;> rfl)))
  all_goals (
    refine callx hD hu hC (x_toLine a hb0) ?_
    ((try conv => cbv); (repeat' (first | (with_reducible refine mK hD ?_; kernel_rfl) | (with_reducible first | refine mS hD ?_ | refine mT hD ?_ | refine mF hD ?_ | refine mB hD (fun _ => ?_) (fun _ => ?_) | exact True.intro | refine And.intro ?_ ?_) <;> try conv => cbv)); all_goals try (first | trivial | (subst hD; first | exact fun _ _ => ⟨_, rfl⟩ | exact fl1 | exact fl1') | (((try subst hD hu); (try simp only [nc] at *); (try simp only [Int.ofNat_eq_natCast] at *); try simp (disch := omega) only [std, uid, S0] at *) <;> first | omega | rfl | (exfalso; simp_all only [Bool.true_eq_false, Bool.false_eq_true]; done))))
    all_goals try ((subst hD hu; (try simp only [std, uid, rR, rB, rT, rN, rClu, rCel, rSnp, rKey, rCluS, rCelS, lR, lB, lT, lN, lClu, lCel, eL, dClu, dCel, dSnp, dKey, Int.toNat_natCast, Int.ofNat_eq_natCast, markL_len, mkR_len, mkB_len, mkN_len, mvLin]) <;> rfl)))
  all_goals (
    refine callx hD hu hC (x_implSetText a b (bmELin _ _ _ (by omega) (boELin _ a hz0)) h0.2 (by omega)) ?_
    ((try conv => cbv); (repeat' (first | (with_reducible refine mK hD ?_; kernel_rfl) | (with_reducible first | refine mS hD ?_ | refine mT hD ?_ | refine mF hD ?_ | refine mB hD (fun _ => ?_) (fun _ => ?_) | exact True.intro | refine And.intro ?_ ?_) <;> try conv => cbv)); all_goals try (first | trivial | (subst hD; first | exact fun _ _ => ⟨_, rfl⟩ | exact fl1 | exact fl1') | (((try subst hD hu); (try simp only [nc] at *); (try simp only [Int.ofNat_eq_natCast] at *); try simp (disch := omega) only [std, uid, S0] at *) <;> first | omega | rfl | (exfalso; simp_all only [Bool.true_eq_false, Bool.false_eq_true]; done))))
    all_goals try ((subst hD hu; (try simp only [std, uid, rR, rB, rT, rN, rClu, rCel, rSnp, rKey, rCluS, rCelS, lR, lB, lT, lN, lClu, lCel, eL, dClu, dCel, dSnp, dKey, Int.toNat_natCast, Int.ofNat_eq_natCast, markL_len, mkR_len, mkB_len, mkN_len, mvLin]) <;> rfl)))
  all_goals (
    refine callx hD hu hC (x_eqLine (setText a b) hbr0) ?_
    ((try conv => cbv); (repeat' (first | (with_reducible refine mK hD ?_; kernel_rfl) | (with_reducible first | refine mS hD ?_ | refine mT hD ?_ | refine mF hD ?_ | refine mB hD (fun _ => ?_) (fun _ => ?_) | exact True.intro | refine And.intro ?_ ?_) <;> try conv => cbv)); all_goals try (first | trivial | (subst hD; first | exact fun _ _ => ⟨_, rfl⟩ | exact fl1 | exact fl1') | (((try subst hD hu); (try simp only [nc] at *); (try simp only [Int.ofNat_eq_natCast] at *); try simp (disch := omega) only [std, uid, S0] at *) <;> first | omega | rfl | (exfalso; simp_all only [Bool.true_eq_false, Bool.false_eq_true]; done))))
    all_goals try ((subst hD hu; (try simp only [std, uid, rR, rB, rT, rN, rClu, rCel, rSnp, rKey, rCluS, rCelS, lR, lB, lT, lN, lClu, lCel, eL, dClu, dCel, dSnp, dKey, Int.toNat_natCast, Int.ofNat_eq_natCast, markL_len, mkR_len, mkB_len, mkN_len, mvLin]) <;> rfl)))
  all_goals (
    refine callx hD hu hC (x_heldLine (setText a b) (1) (1 + (cvLin (setText a b) : Nat)) (by omega) hbr0 rfl) ?_
    ((try conv => cbv); (repeat' (first | (with_reducible refine mK hD ?_; kernel_rfl) | (with_reducible first | refine mS hD ?_ | refine mT hD ?_ | refine mF hD ?_ | refine mB hD (fun _ => ?_) (fun _ => ?_) | exact True.intro | refine And.intro ?_ ?_) <;> try conv => cbv)); all_goals try (first | trivial | (subst hD; first | exact fun _ _ => ⟨_, rfl⟩ | exact fl1 | exact fl1') | (((try subst hD hu); (try simp only [nc] at *); (try simp only [Int.ofNat_eq_natCast] at *); try simp (disch := omega) only [std, uid, S0] at *) <;> first | omega | rfl | (exfalso; simp_all only [Bool.true_eq_false, Bool.false_eq_true]; done))))
    all_goals try ((subst hD hu; (try simp only [std, uid, rR, rB, rT, rN, rClu, rCel, rSnp, rKey, rCluS, rCelS, lR, lB, lT, lN, lClu, lCel, eL, dClu, dCel, dSnp, dKey, Int.toNat_natCast, Int.ofNat_eq_natCast, markL_len, mkR_len, mkB_len, mkN_len, mvLin]) <;> rfl)))
end Go.AW
