/- Texts. -/
import Derived.Test.YtkimeddfdcjlpaaG4
set_option linter.unusedVariables false
set_option linter.unusedSimpArgs false
set_option linter.unusedVariables false
set_option linter.unusedSimpArgs false
namespace Go.AW
open Go.Proofs
set_option maxRecDepth 100000
theorem x_szStringS (a : List (Str)) (left r : Int) (h : -1 ≤ left ∧ left ≤ 1048576) (hn : bdL bdET 140737488355328 a) (hr : r = if left - totL toET a < 0 then -1 else left - totL toET a) : PX Try.prog 69 (fun D u => [.r (.c (lT D u (u _ a))), AI (u _ left)]) (fun D u => [RI (u _ r)]) (fun D u => []) := by
  refine px_of_awp (fn := Try.f69) (c := bodyOf Try.f69) envOk (by kernel_rfl) (by kernel_rfl) (by kernel_rfl) (by kernel_rfl) rfl (by kernel_rfl) (by kernel_rfl) ?_
  intro w0 mine D u C L hD hu hC hL
  obtain ⟨hn1, hn2⟩ := hn
  have ht : totL toET a = a.length + cntL toET a := rfl
  have h0 := cntL_0 toET a
  ((try conv => cbv); (repeat' (first | (with_reducible refine mK hD ?_; kernel_rfl) | (with_reducible first | refine mS hD ?_ | refine mJ hL ?_ | refine mT hD ?_ | refine mF hD ?_ | refine mB hD (fun _ => ?_) (fun _ => ?_) | exact True.intro | refine And.intro ?_ ?_) <;> try conv => cbv)); all_goals try (first | trivial | (subst hD; first | exact fun _ _ => ⟨_, rfl⟩ | exact fl1 | exact fl1') | (((try subst hD hu); (try simp only [nc] at *); (try simp only [Int.ofNat_eq_natCast] at *); try simp (disch := omega) only [std, uid, S0] at *) <;> first | omega | rfl | (exfalso; simp_all only [Bool.true_eq_false, Bool.false_eq_true]; done))))
  refine loop_st hL a.length (fun k (_ : Unit) => 0 ≤ left - a.length - cntL toET (a.take k)) () (fun k s => [(5, VI (u _ k)), (1, VI (u _ (left - a.length - cntL toET (a.take k))))]) (fun k s => []) ?_ ?_ ?_
  · ((try subst hD hu); (try simp only [nc] at *); (try simp only [Int.ofNat_eq_natCast] at *); try simp (disch := omega) only [std, uid, S0] at *); omega
  · ((try conv => cbv); (repeat' (first | (with_reducible refine mK hD ?_; kernel_rfl) | (with_reducible first | refine mS hD ?_ | refine mJ hL ?_ | refine mT hD ?_ | refine mF hD ?_ | refine mB hD (fun _ => ?_) (fun _ => ?_) | exact True.intro | refine And.intro ?_ ?_) <;> try conv => cbv)); all_goals try (first | trivial | (subst hD; first | exact fun _ _ => ⟨_, rfl⟩ | exact fl1 | exact fl1') | (((try subst hD hu); (try simp only [nc] at *); (try simp only [Int.ofNat_eq_natCast] at *); try simp (disch := omega) only [std, uid, S0] at *) <;> first | omega | rfl | (exfalso; simp_all only [Bool.true_eq_false, Bool.false_eq_true]; done))))
  · intro k s hk hi
    have hc := cntL_le toET a k
    have hcs : k < a.length → cntL toET (a.take (k + 1)) = cntL toET (a.take k) + toET (a.getD k []) := cntL_snoc toET a [] k
    have hca := cntL_all toET a
    have hc1 := cntL_le toET a (k + 1)
    have hxs : k < a.length → bdET 140737488355328 (a.getD k []) := fun h => hn2 _ (getD_mem a [] k h)
    ((try conv => cbv); (repeat' (first | (with_reducible refine mK hD ?_; kernel_rfl) | (with_reducible first | refine mS hD ?_ | refine mJ hL ?_ | refine mT hD ?_ | refine mF hD ?_ | refine mB hD (fun _ => ?_) (fun _ => ?_) | exact True.intro | refine And.intro ?_ ?_) <;> try conv => cbv)); all_goals try (first | trivial | (subst hD; first | exact fun _ _ => ⟨_, rfl⟩ | exact fl1 | exact fl1') | (((try subst hD hu); (try simp only [nc] at *); (try simp only [Int.ofNat_eq_natCast] at *); try simp (disch := omega) only [std, uid, S0] at *) <;> first | omega | rfl | (exfalso; simp_all only [Bool.true_eq_false, Bool.false_eq_true]; done))))
    all_goals try (have hkn : k < a.length := by ((try subst hD hu); (try simp only [nc] at *); (try simp only [Int.ofNat_eq_natCast] at *); try simp (disch := omega) only [std, uid, S0] at *); omega)
    all_goals try (have hcs := hcs hkn; have hxs := hxs hkn; simp only [bdET, toET] at hcs hxs)
    · ((try subst hD hu); (try simp only [nc] at *); (try simp only [Int.ofNat_eq_natCast] at *); try simp (disch := omega) only [std, uid, S0] at *)
      omega
    · (have hkn : k + 1 ≤ a.length := (by ((try subst hD hu); (try simp only [nc] at *); (try simp only [Int.ofNat_eq_natCast] at *); try simp (disch := omega) only [std, uid, S0] at *); omega); refine ⟨k + 1, (), hkn, ?_, ssem_of ?_, by omega⟩)
      · ((try subst hD hu); (try simp only [nc] at *); (try simp only [Int.ofNat_eq_natCast] at *); try simp (disch := omega) only [std, uid, S0] at *)
        omega
      · ((try conv => cbv); (repeat' (first | (with_reducible refine mK hD ?_; kernel_rfl) | (with_reducible first | refine mS hD ?_ | refine mJ hL ?_ | refine mT hD ?_ | refine mF hD ?_ | refine mB hD (fun _ => ?_) (fun _ => ?_) | exact True.intro | refine And.intro ?_ ?_) <;> try conv => cbv)); all_goals try (first | trivial | (subst hD; first | exact fun _ _ => ⟨_, rfl⟩ | exact fl1 | exact fl1') | (((try subst hD hu); (try simp only [nc] at *); (try simp only [Int.ofNat_eq_natCast] at *); try simp (disch := omega) only [std, uid, S0] at *) <;> first | omega | rfl | (exfalso; simp_all only [Bool.true_eq_false, Bool.false_eq_true]; done))))
    · have e : k = a.length := by ((try subst hD hu); (try simp only [nc] at *); (try simp only [Int.ofNat_eq_natCast] at *); try simp (disch := omega) only [std, uid, S0] at *); omega
      subst e
      ((try subst hD hu); (try simp only [nc] at *); (try simp only [Int.ofNat_eq_natCast] at *); try simp (disch := omega) only [std, uid, S0] at *)
      omega
theorem x_toStringS (a : List (Str)) (hn : bdL bdET 1000000000 a) : PX Try.prog 74 (fun D u => [.r (.c (lT D u (u _ a)))]) (fun D u => [.c (lT D u (u _ a))]) (fun D u => []) := by
  refine px_of_awp (fn := Try.f74) (c := bodyOf Try.f74) envOk (by kernel_rfl) (by kernel_rfl) (by kernel_rfl) (by kernel_rfl) rfl (by kernel_rfl) (by kernel_rfl) ?_
  intro w0 mine D u C L hD hu hC hL
  obtain ⟨hn1, hn2⟩ := hn
  ((try conv => cbv); (repeat' (first | (with_reducible refine mK hD ?_; kernel_rfl) | (with_reducible first | refine mS hD ?_ | refine mJ hL ?_ | refine mT hD ?_ | refine mF hD ?_ | refine mB hD (fun _ => ?_) (fun _ => ?_) | exact True.intro | refine And.intro ?_ ?_) <;> try conv => cbv)); all_goals try (first | trivial | (subst hD; first | exact fun _ _ => ⟨_, rfl⟩ | exact fl1 | exact fl1') | (((try subst hD hu); (try simp only [nc] at *); (try simp only [Int.ofNat_eq_natCast] at *); try simp (disch := omega) only [std, uid, S0] at *) <;> first | omega | rfl | (exfalso; simp_all only [Bool.true_eq_false, Bool.false_eq_true]; done))))
  refine loop_st hL a.length (fun k s => s = a.take k ++ List.replicate (a.length - k) []) _ (fun k s => [(4, VI (u _ k)), (3, vO D 0 (u _ s))]) (fun k s => [(0, oT D u (u _ s))]) rfl ?_ ?_
  · ((try conv => cbv); (repeat' (first | (with_reducible refine mK hD ?_; kernel_rfl) | (with_reducible first | refine mS hD ?_ | refine mJ hL ?_ | refine mT hD ?_ | refine mF hD ?_ | refine mB hD (fun _ => ?_) (fun _ => ?_) | exact True.intro | refine And.intro ?_ ?_) <;> try conv => cbv)); all_goals try (first | trivial | (subst hD; first | exact fun _ _ => ⟨_, rfl⟩ | exact fl1 | exact fl1') | (((try subst hD hu); (try simp only [nc] at *); (try simp only [Int.ofNat_eq_natCast] at *); try simp (disch := omega) only [std, uid, S0] at *) <;> first | omega | rfl | (exfalso; simp_all only [Bool.true_eq_false, Bool.false_eq_true]; done))))
    all_goals ((subst hD hu; apply qT; (focus repeat' (first | exact LR.refl | exact LR_bytes | apply mClu | apply mCel | apply mKey | apply mSnp | apply mKRd | apply mLin | apply mHis | apply mBlk | apply mScr | apply mSes | exact zR | exact zB | exact zT | exact zN | exact zClu | exact zCel | exact zCelS | exact zSnp | exact zKey | exact zSes | exact zScr | apply LR.deq | exact LR.nil | apply LR.one | apply LR.rep | apply LR.cat | apply LR.cat' | apply LR.set | exact u8_0 | exact DEq.s _ | (apply str_deq; (repeat' apply sr_cat) <;> rfl) | apply aLe_1 | (apply LR.rfl'; simp only [uid, std, S0]; omega))); all_goals try simp only [uid, std, Int.toNat_natCast, Int.ofNat_eq_natCast]); exact fill_0 a [])
  · intro k s hk hs
    subst hs
    ((try conv => cbv); (repeat' (first | (with_reducible refine mK hD ?_; kernel_rfl) | (with_reducible first | refine mS hD ?_ | refine mJ hL ?_ | refine mT hD ?_ | refine mF hD ?_ | refine mB hD (fun _ => ?_) (fun _ => ?_) | exact True.intro | refine And.intro ?_ ?_) <;> try conv => cbv)); all_goals try (first | trivial | (subst hD; first | exact fun _ _ => ⟨_, rfl⟩ | exact fl1 | exact fl1') | (((try subst hD hu); (try simp only [nc] at *); (try simp only [Int.ofNat_eq_natCast] at *); try simp (disch := omega) only [std, uid, S0] at *) <;> first | omega | rfl | (exfalso; simp_all only [Bool.true_eq_false, Bool.false_eq_true]; done))))
    · have hkn : k < a.length := by ((try subst hD hu); (try simp only [nc] at *); (try simp only [Int.ofNat_eq_natCast] at *); try simp (disch := omega) only [std, uid, S0] at *); omega
      have hx := hn2 _ (getD_mem a [] k hkn)
      (have hkn : k + 1 ≤ a.length := (by ((try subst hD hu); (try simp only [nc] at *); (try simp only [Int.ofNat_eq_natCast] at *); try simp (disch := omega) only [std, uid, S0] at *); omega); refine ⟨k + 1, (a.take (k + 1) ++ List.replicate (a.length - (k + 1)) []), hkn, ?_, ssem_of ?_, by omega⟩)
      · rfl
      · ((try conv => cbv); (repeat' (first | (with_reducible refine mK hD ?_; kernel_rfl) | (with_reducible first | refine mS hD ?_ | refine mJ hL ?_ | refine mT hD ?_ | refine mF hD ?_ | refine mB hD (fun _ => ?_) (fun _ => ?_) | exact True.intro | refine And.intro ?_ ?_) <;> try conv => cbv)); all_goals try (first | trivial | (subst hD; first | exact fun _ _ => ⟨_, rfl⟩ | exact fl1 | exact fl1') | (((try subst hD hu); (try simp only [nc] at *); (try simp only [Int.ofNat_eq_natCast] at *); try simp (disch := omega) only [std, uid, S0] at *) <;> first | omega | rfl | (exfalso; simp_all only [Bool.true_eq_false, Bool.false_eq_true]; done))))
        (subst hD hu; apply qT; (focus repeat' (first | exact LR.refl | exact LR_bytes | apply mClu | apply mCel | apply mKey | apply mSnp | apply mKRd | apply mLin | apply mHis | apply mBlk | apply mScr | apply mSes | exact zR | exact zB | exact zT | exact zN | exact zClu | exact zCel | exact zCelS | exact zSnp | exact zKey | exact zSes | exact zScr | apply LR.deq | exact LR.nil | apply LR.one | apply LR.rep | apply LR.cat | apply LR.cat' | apply LR.set | exact u8_0 | exact DEq.s _ | (apply str_deq; (repeat' apply sr_cat) <;> rfl) | apply aLe_1 | (apply LR.rfl'; simp only [uid, std, S0]; omega))); all_goals try simp only [uid, std, Int.toNat_natCast, Int.ofNat_eq_natCast])
        exact set_fill a [] k hkn
    · have e : k = a.length := by ((try subst hD hu); (try simp only [nc] at *); (try simp only [Int.ofNat_eq_natCast] at *); try simp (disch := omega) only [std, uid, S0] at *); omega
      subst e
      (subst hD hu; apply qT; (focus repeat' (first | exact LR.refl | exact LR_bytes | apply mClu | apply mCel | apply mKey | apply mSnp | apply mKRd | apply mLin | apply mHis | apply mBlk | apply mScr | apply mSes | exact zR | exact zB | exact zT | exact zN | exact zClu | exact zCel | exact zCelS | exact zSnp | exact zKey | exact zSes | exact zScr | apply LR.deq | exact LR.nil | apply LR.one | apply LR.rep | apply LR.cat | apply LR.cat' | apply LR.set | exact u8_0 | exact DEq.s _ | (apply str_deq; (repeat' apply sr_cat) <;> rfl) | apply aLe_1 | (apply LR.rfl'; simp only [uid, std, S0]; omega))); all_goals try simp only [uid, std, Int.toNat_natCast, Int.ofNat_eq_natCast])
      exact fill_all a []
theorem x_eqStringS (a : List (Str)) (hn : bdL bdET 1000000000 a) : PX Try.prog 65 (fun D u => [.r (.c (lT D u (u _ a))), .r (.c (lT D u (u _ a)))]) (fun D u => [RB true]) (fun D u => []) := by
  refine px_of_awp (fn := Try.f65) (c := bodyOf Try.f65) envOk (by kernel_rfl) (by kernel_rfl) (by kernel_rfl) (by kernel_rfl) rfl (by kernel_rfl) (by kernel_rfl) ?_
  intro w0 mine D u C L hD hu hC hL
  obtain ⟨hn1, hn2⟩ := hn
  ((try conv => cbv); (repeat' (first | (with_reducible refine mK hD ?_; kernel_rfl) | (with_reducible first | refine mS hD ?_ | refine mJ hL ?_ | refine mT hD ?_ | refine mF hD ?_ | refine mB hD (fun _ => ?_) (fun _ => ?_) | exact True.intro | refine And.intro ?_ ?_) <;> try conv => cbv)); all_goals try (first | trivial | (subst hD; first | exact fun _ _ => ⟨_, rfl⟩ | exact fl1 | exact fl1') | (((try subst hD hu); (try simp only [nc] at *); (try simp only [Int.ofNat_eq_natCast] at *); try simp (disch := omega) only [std, uid, S0] at *) <;> first | omega | rfl | (exfalso; simp_all only [Bool.true_eq_false, Bool.false_eq_true]; done))))
  refine loop_st hL a.length (fun k (s : Unit) => True) () (fun k s => [(5, VI (u _ k))]) (fun k s => []) trivial ?_ ?_
  · ((try conv => cbv); (repeat' (first | (with_reducible refine mK hD ?_; kernel_rfl) | (with_reducible first | refine mS hD ?_ | refine mJ hL ?_ | refine mT hD ?_ | refine mF hD ?_ | refine mB hD (fun _ => ?_) (fun _ => ?_) | exact True.intro | refine And.intro ?_ ?_) <;> try conv => cbv)); all_goals try (first | trivial | (subst hD; first | exact fun _ _ => ⟨_, rfl⟩ | exact fl1 | exact fl1') | (((try subst hD hu); (try simp only [nc] at *); (try simp only [Int.ofNat_eq_natCast] at *); try simp (disch := omega) only [std, uid, S0] at *) <;> first | omega | rfl | (exfalso; simp_all only [Bool.true_eq_false, Bool.false_eq_true]; done))))
  · intro k s hk hs
    ((try conv => cbv); (repeat' (first | (with_reducible refine mK hD ?_; kernel_rfl) | (with_reducible first | refine mS hD ?_ | refine mJ hL ?_ | refine mT hD ?_ | refine mF hD ?_ | refine mB hD (fun _ => ?_) (fun _ => ?_) | exact True.intro | refine And.intro ?_ ?_) <;> try conv => cbv)); all_goals try (first | trivial | (subst hD; first | exact fun _ _ => ⟨_, rfl⟩ | exact fl1 | exact fl1') | (((try subst hD hu); (try simp only [nc] at *); (try simp only [Int.ofNat_eq_natCast] at *); try simp (disch := omega) only [std, uid, S0] at *) <;> first | omega | rfl | (exfalso; simp_all only [Bool.true_eq_false, Bool.false_eq_true]; done))))
    (have hkn : k + 1 ≤ a.length := (by ((try subst hD hu); (try simp only [nc] at *); (try simp only [Int.ofNat_eq_natCast] at *); try simp (disch := omega) only [std, uid, S0] at *); omega); refine ⟨k + 1, (), hkn, ?_, ssem_of ?_, by omega⟩)
    · trivial
    · ((try conv => cbv); (repeat' (first | (with_reducible refine mK hD ?_; kernel_rfl) | (with_reducible first | refine mS hD ?_ | refine mJ hL ?_ | refine mT hD ?_ | refine mF hD ?_ | refine mB hD (fun _ => ?_) (fun _ => ?_) | exact True.intro | refine And.intro ?_ ?_) <;> try conv => cbv)); all_goals try (first | trivial | (subst hD; first | exact fun _ _ => ⟨_, rfl⟩ | exact fl1 | exact fl1') | (((try subst hD hu); (try simp only [nc] at *); (try simp only [Int.ofNat_eq_natCast] at *); try simp (disch := omega) only [std, uid, S0] at *) <;> first | omega | rfl | (exfalso; simp_all only [Bool.true_eq_false, Bool.false_eq_true]; done))))
set_option maxHeartbeats 1000000 in
theorem x_markStringS (a : List (Str)) (m r : Int) (h : 0 ≤ m ∧ m + cntL cnET a ≤ 1000000000000000000) (hn : bdL bdET 1000000000 a) (hr : r = m + cntL cnET a) : PX Try.prog 66 (fun D u => [.o (.c (lT D u (u _ a))), AI (u _ m)]) (fun D u => [RI (u _ r)]) (fun D u => [.c (lT D u (u _ (markL mkET cnET a m)))]) := by
  refine px_of_awp (fn := Try.f66) (c := bodyOf Try.f66) envOk (by kernel_rfl) (by kernel_rfl) (by kernel_rfl) (by kernel_rfl) rfl (by kernel_rfl) (by kernel_rfl) ?_
  intro w0 mine D u C L hD hu hC hL
  obtain ⟨hn1, hn2⟩ := hn
  (have hset := hsA hD; have hset3 := hsB hD; have hset2 := hset; (conv at hset2 => enter [f, a, row, 1]; whnf); (conv at hset3 => enter [f, a, row, row', 1]; whnf; enter [1]; whnf); (conv at hset3 => enter [f, a, row, row', 2]; whnf))
  have hl := markL_len mkET cnET a m
  have h0 := cntL_0 cnET a
  have hca := cntL_all cnET a
  ((try conv => cbv); (repeat' (first | (with_reducible refine mK hD ?_; kernel_rfl) | (with_reducible first | refine mS hD ?_ | refine mJ hL ?_ | refine mT hD ?_ | refine mF hD ?_ | refine mB hD (fun _ => ?_) (fun _ => ?_) | exact True.intro | refine And.intro ?_ ?_) <;> try conv => cbv)); all_goals try (first | trivial | (subst hD; first | exact fun _ _ => ⟨_, rfl⟩ | exact fl1 | exact fl1') | (((try subst hD hu); (try simp only [nc] at *); (try simp only [Int.ofNat_eq_natCast] at *); try simp (disch := omega) only [std, uid, S0] at *) <;> first | omega | rfl | (exfalso; simp_all only [Bool.true_eq_false, Bool.false_eq_true]; done))))
  refine loop_st hL a.length (fun k s => s = (markL mkET cnET a m).take k ++ a.drop k) _ (fun k s => [(5, VI (u _ k)), (1, VI (u _ (m + cntL cnET (a.take k))))]) (fun k s => [(0, oT D u (u _ s))]) rfl ?_ ?_
  · ((try conv => cbv); (repeat' (first | (with_reducible refine mK hD ?_; kernel_rfl) | (with_reducible first | refine mS hD ?_ | refine mJ hL ?_ | refine mT hD ?_ | refine mF hD ?_ | refine mB hD (fun _ => ?_) (fun _ => ?_) | exact True.intro | refine And.intro ?_ ?_) <;> try conv => cbv)); all_goals try (first | trivial | (subst hD; first | exact fun _ _ => ⟨_, rfl⟩ | exact fl1 | exact fl1') | (((try subst hD hu); (try simp only [nc] at *); (try simp only [Int.ofNat_eq_natCast] at *); try simp (disch := omega) only [std, uid, S0] at *) <;> first | omega | rfl | (exfalso; simp_all only [Bool.true_eq_false, Bool.false_eq_true]; done))))
  · intro k s hk hs
    subst hs
    have hc := cntL_le cnET a k
    ((try conv => cbv); (repeat' (first | (with_reducible refine mK hD ?_; kernel_rfl) | (with_reducible first | refine mS hD ?_ | refine mJ hL ?_ | refine mT hD ?_ | refine mF hD ?_ | refine mB hD (fun _ => ?_) (fun _ => ?_) | exact True.intro | refine And.intro ?_ ?_) <;> try conv => cbv)); all_goals try (first | trivial | (subst hD; first | exact fun _ _ => ⟨_, rfl⟩ | exact fl1 | exact fl1') | (((try subst hD hu); (try simp only [nc] at *); (try simp only [Int.ofNat_eq_natCast] at *); try simp (disch := omega) only [std, uid, S0] at *) <;> first | omega | rfl | (exfalso; simp_all only [Bool.true_eq_false, Bool.false_eq_true]; done))))
    repeat' (simp only [hset2, hset3, hset, rowN]; ((try conv => cbv); (repeat' (first | (with_reducible refine mK hD ?_; kernel_rfl) | (with_reducible first | refine mS hD ?_ | refine mJ hL ?_ | refine mT hD ?_ | refine mF hD ?_ | refine mB hD (fun _ => ?_) (fun _ => ?_) | exact True.intro | refine And.intro ?_ ?_) <;> try conv => cbv)); all_goals try (first | trivial | (subst hD; first | exact fun _ _ => ⟨_, rfl⟩ | exact fl1 | exact fl1') | (((try subst hD hu); (try simp only [nc] at *); (try simp only [Int.ofNat_eq_natCast] at *); try simp (disch := omega) only [std, uid, S0] at *) <;> first | omega | rfl | (exfalso; simp_all only [Bool.true_eq_false, Bool.false_eq_true]; done)))))
    all_goals try (have e : k = a.length := (by ((try subst hD hu); (try simp only [nc] at *); (try simp only [Int.ofNat_eq_natCast] at *); try simp (disch := omega) only [std, uid, S0] at *); omega); subst e; first | (((try subst hD hu); (try simp only [nc] at *); (try simp only [Int.ofNat_eq_natCast] at *); try simp (disch := omega) only [std, uid, S0] at *); omega; done) | ((subst hD hu; apply qT; (focus repeat' (first | exact LR.refl | exact LR_bytes | apply mClu | apply mCel | apply mKey | apply mSnp | apply mKRd | apply mLin | apply mHis | apply mBlk | apply mScr | apply mSes | exact zR | exact zB | exact zT | exact zN | exact zClu | exact zCel | exact zCelS | exact zSnp | exact zKey | exact zSes | exact zScr | apply LR.deq | exact LR.nil | apply LR.one | apply LR.rep | apply LR.cat | apply LR.cat' | apply LR.set | exact u8_0 | exact DEq.s _ | (apply str_deq; (repeat' apply sr_cat) <;> rfl) | apply aLe_1 | (apply LR.rfl'; simp only [uid, std, S0]; omega))); all_goals try simp only [uid, std, Int.toNat_natCast, Int.ofNat_eq_natCast]); exact over_all _ a hl))
    · have hkn : k < a.length := by ((try subst hD hu); (try simp only [nc] at *); (try simp only [Int.ofNat_eq_natCast] at *); try simp (disch := omega) only [std, uid, S0] at *); omega
      have hg := over_get (markL mkET cnET a m) a [] k hkn hl
      have hq := markL_get mkET cnET [] a m k hkn
      have hcs := cntL_snoc cnET a [] k hkn
      have hc2 := cntL_le cnET a (k + 1)
      have hx := hn2 _ (getD_mem a [] k hkn)
      have hov := set_over (markL mkET cnET a m) a [] k hkn hl
      rw [hq] at hov
      generalize hx' : a.getD k [] = x at *
      simp only [cnET] at hcs
      generalize hK : m + (cntL cnET (a.take k) : Int) = K at *
      refine callx hD hu hC (x_markText (K) (by omega)) ?_
      ((try conv => cbv); (repeat' (first | (with_reducible refine mK hD ?_; kernel_rfl) | (with_reducible first | refine mS hD ?_ | refine mJ hL ?_ | refine mT hD ?_ | refine mF hD ?_ | refine mB hD (fun _ => ?_) (fun _ => ?_) | exact True.intro | refine And.intro ?_ ?_) <;> try conv => cbv)); all_goals try (first | trivial | (subst hD; first | exact fun _ _ => ⟨_, rfl⟩ | exact fl1 | exact fl1') | (((try subst hD hu); (try simp only [nc] at *); (try simp only [Int.ofNat_eq_natCast] at *); try simp (disch := omega) only [std, uid, S0] at *) <;> first | omega | rfl | (exfalso; simp_all only [Bool.true_eq_false, Bool.false_eq_true]; done))))
      all_goals try ((subst hD hu; (try simp only [std, uid, rR, rB, rT, rN, rClu, rCel, rSnp, rKey, rCluS, rCelS, lR, lB, lT, lN, lClu, lCel, eL, dClu, dCel, dSnp, dKey, Int.toNat_natCast, Int.ofNat_eq_natCast, hg]) <;> rfl))
      repeat' (simp only [hset2, hset3, hset, rowN]; ((try conv => cbv); (repeat' (first | (with_reducible refine mK hD ?_; kernel_rfl) | (with_reducible first | refine mS hD ?_ | refine mJ hL ?_ | refine mT hD ?_ | refine mF hD ?_ | refine mB hD (fun _ => ?_) (fun _ => ?_) | exact True.intro | refine And.intro ?_ ?_) <;> try conv => cbv)); all_goals try (first | trivial | (subst hD; first | exact fun _ _ => ⟨_, rfl⟩ | exact fl1 | exact fl1') | (((try subst hD hu); (try simp only [nc] at *); (try simp only [Int.ofNat_eq_natCast] at *); try simp (disch := omega) only [std, uid, S0] at *) <;> first | omega | rfl | (exfalso; simp_all only [Bool.true_eq_false, Bool.false_eq_true]; done)))))
      all_goals try ((subst hD hu; (try simp only [std, uid, rR, rB, rT, rN, rClu, rCel, rSnp, rKey, rCluS, rCelS, lR, lB, lT, lN, lClu, lCel, eL, dClu, dCel, dSnp, dKey, Int.toNat_natCast, Int.ofNat_eq_natCast, hg]) <;> rfl))
      (have hkn : k + 1 ≤ a.length := (by ((try subst hD hu); (try simp only [nc] at *); (try simp only [Int.ofNat_eq_natCast] at *); try simp (disch := omega) only [std, uid, S0] at *); omega); refine ⟨k + 1, ((markL mkET cnET a m).take (k + 1) ++ a.drop (k + 1)), hkn, ?_, ssem_of ?_, by omega⟩)
      · rfl
      · ((try conv => cbv); (repeat' (first | (with_reducible refine mK hD ?_; kernel_rfl) | (with_reducible first | refine mS hD ?_ | refine mJ hL ?_ | refine mT hD ?_ | refine mF hD ?_ | refine mB hD (fun _ => ?_) (fun _ => ?_) | exact True.intro | refine And.intro ?_ ?_) <;> try conv => cbv)); all_goals try (first | trivial | (subst hD; first | exact fun _ _ => ⟨_, rfl⟩ | exact fl1 | exact fl1') | (((try subst hD hu); (try simp only [nc] at *); (try simp only [Int.ofNat_eq_natCast] at *); try simp (disch := omega) only [std, uid, S0] at *) <;> first | omega | rfl | (exfalso; simp_all only [Bool.true_eq_false, Bool.false_eq_true]; done))))
        all_goals try (((try subst hD hu); (try simp only [nc] at *); (try simp only [Int.ofNat_eq_natCast] at *); try simp (disch := omega) only [std, uid, S0] at *); omega; done)
        (subst hD hu; apply qT; (focus repeat' (first | exact LR.refl | exact LR_bytes | apply mClu | apply mCel | apply mKey | apply mSnp | apply mKRd | apply mLin | apply mHis | apply mBlk | apply mScr | apply mSes | exact zR | exact zB | exact zT | exact zN | exact zClu | exact zCel | exact zCelS | exact zSnp | exact zKey | exact zSes | exact zScr | apply LR.deq | exact LR.nil | apply LR.one | apply LR.rep | apply LR.cat | apply LR.cat' | apply LR.set | exact u8_0 | exact DEq.s _ | (apply str_deq; (repeat' apply sr_cat) <;> rfl) | apply aLe_1 | (apply LR.rfl'; simp only [uid, std, S0]; omega))); all_goals try simp only [uid, std, Int.toNat_natCast, Int.ofNat_eq_natCast])
        try simp (disch := omega) only [wrap64, Int.tmod_eq_emod_of_nonneg]
        exact hov
set_option maxHeartbeats 1000000 in
theorem x_heldStringS (a : List (Str)) (m r : Int) (h : 0 ≤ m ∧ m + cntL cnET a ≤ 1000000000000000000) (hn : bdL bdET 1000000000 a) (hr : r = m + cntL cnET a) : PX Try.prog 67 (fun D u => [.r (.c (lT D u (u _ (markL mkET cnET a m)))), AI (u _ m)]) (fun D u => [RI (u _ r)]) (fun D u => []) := by
  refine px_of_awp (fn := Try.f67) (c := bodyOf Try.f67) envOk (by kernel_rfl) (by kernel_rfl) (by kernel_rfl) (by kernel_rfl) rfl (by kernel_rfl) (by kernel_rfl) ?_
  intro w0 mine D u C L hD hu hC hL
  obtain ⟨hn1, hn2⟩ := hn
  have hl := markL_len mkET cnET a m
  have h0 := cntL_0 cnET a
  have hca := cntL_all cnET a
  ((try conv => cbv); (repeat' (first | (with_reducible refine mK hD ?_; kernel_rfl) | (with_reducible first | refine mS hD ?_ | refine mJ hL ?_ | refine mT hD ?_ | refine mF hD ?_ | refine mB hD (fun _ => ?_) (fun _ => ?_) | exact True.intro | refine And.intro ?_ ?_) <;> try conv => cbv)); all_goals try (first | trivial | (subst hD; first | exact fun _ _ => ⟨_, rfl⟩ | exact fl1 | exact fl1') | (((try subst hD hu); (try simp only [nc] at *); (try simp only [Int.ofNat_eq_natCast] at *); try simp (disch := omega) only [std, uid, S0] at *) <;> first | omega | rfl | (exfalso; simp_all only [Bool.true_eq_false, Bool.false_eq_true]; done))))
  refine loop_st hL a.length (fun k (s : Unit) => True) () (fun k s => [(5, VI (u _ k)), (1, VI (u _ (m + cntL cnET (a.take k))))]) (fun k s => []) trivial ?_ ?_
  · ((try conv => cbv); (repeat' (first | (with_reducible refine mK hD ?_; kernel_rfl) | (with_reducible first | refine mS hD ?_ | refine mJ hL ?_ | refine mT hD ?_ | refine mF hD ?_ | refine mB hD (fun _ => ?_) (fun _ => ?_) | exact True.intro | refine And.intro ?_ ?_) <;> try conv => cbv)); all_goals try (first | trivial | (subst hD; first | exact fun _ _ => ⟨_, rfl⟩ | exact fl1 | exact fl1') | (((try subst hD hu); (try simp only [nc] at *); (try simp only [Int.ofNat_eq_natCast] at *); try simp (disch := omega) only [std, uid, S0] at *) <;> first | omega | rfl | (exfalso; simp_all only [Bool.true_eq_false, Bool.false_eq_true]; done))))
  · intro k s hk hs
    have hc := cntL_le cnET a k
    ((try conv => cbv); (repeat' (first | (with_reducible refine mK hD ?_; kernel_rfl) | (with_reducible first | refine mS hD ?_ | refine mJ hL ?_ | refine mT hD ?_ | refine mF hD ?_ | refine mB hD (fun _ => ?_) (fun _ => ?_) | exact True.intro | refine And.intro ?_ ?_) <;> try conv => cbv)); all_goals try (first | trivial | (subst hD; first | exact fun _ _ => ⟨_, rfl⟩ | exact fl1 | exact fl1') | (((try subst hD hu); (try simp only [nc] at *); (try simp only [Int.ofNat_eq_natCast] at *); try simp (disch := omega) only [std, uid, S0] at *) <;> first | omega | rfl | (exfalso; simp_all only [Bool.true_eq_false, Bool.false_eq_true]; done))))
    all_goals try (have e : k = a.length := (by ((try subst hD hu); (try simp only [nc] at *); (try simp only [Int.ofNat_eq_natCast] at *); try simp (disch := omega) only [std, uid, S0] at *); omega); subst e; ((try subst hD hu); (try simp only [nc] at *); (try simp only [Int.ofNat_eq_natCast] at *); try simp (disch := omega) only [std, uid, S0] at *); omega; done)
    all_goals (
      have hkn : k < a.length := by ((try subst hD hu); (try simp only [nc] at *); (try simp only [Int.ofNat_eq_natCast] at *); try simp (disch := omega) only [std, uid, S0] at *); omega
      have hq := markL_get mkET cnET [] a m k hkn
      have hcs := cntL_snoc cnET a [] k hkn
      have hc2 := cntL_le cnET a (k + 1)
      have hx := hn2 _ (getD_mem a [] k hkn)
      generalize hx' : a.getD k [] = x at *
      simp only [cnET] at hcs
      generalize hK : m + (cntL cnET (a.take k) : Int) = K at *)
    all_goals try (exfalso; ((try subst hD hu); (try simp only [nc] at *); (try simp only [Int.ofNat_eq_natCast] at *); try simp (disch := omega) only [std, uid, S0, hq, mkET] at *); first | done | omega | (simp_all; done))
    refine callx hD hu hC (x_markText (K) (by omega)) ?_
    ((try conv => cbv); (repeat' (first | (with_reducible refine mK hD ?_; kernel_rfl) | (with_reducible first | refine mS hD ?_ | refine mJ hL ?_ | refine mT hD ?_ | refine mF hD ?_ | refine mB hD (fun _ => ?_) (fun _ => ?_) | exact True.intro | refine And.intro ?_ ?_) <;> try conv => cbv)); all_goals try (first | trivial | (subst hD; first | exact fun _ _ => ⟨_, rfl⟩ | exact fl1 | exact fl1') | (((try subst hD hu); (try simp only [nc] at *); (try simp only [Int.ofNat_eq_natCast] at *); try simp (disch := omega) only [std, uid, S0] at *) <;> first | omega | rfl | (exfalso; simp_all only [Bool.true_eq_false, Bool.false_eq_true]; done))))
    all_goals try ((subst hD hu; (try simp only [std, uid, rR, rB, rT, rN, rClu, rCel, rSnp, rKey, rCluS, rCelS, lR, lB, lT, lN, lClu, lCel, eL, dClu, dCel, dSnp, dKey, Int.toNat_natCast, Int.ofNat_eq_natCast, hq, mkET]) <;> rfl))
    all_goals try (exfalso; ((try subst hD hu); (try simp only [nc] at *); (try simp only [Int.ofNat_eq_natCast] at *); try simp (disch := omega) only [std, uid, S0, hq, mkET] at *); first | done | omega | (simp_all; done))
    all_goals (
      (have hkn : k + 1 ≤ a.length := (by ((try subst hD hu); (try simp only [nc] at *); (try simp only [Int.ofNat_eq_natCast] at *); try simp (disch := omega) only [std, uid, S0] at *); omega); refine ⟨k + 1, (), hkn, ?_, ssem_of ?_, by omega⟩)
      · trivial
      · ((try conv => cbv); (repeat' (first | (with_reducible refine mK hD ?_; kernel_rfl) | (with_reducible first | refine mS hD ?_ | refine mJ hL ?_ | refine mT hD ?_ | refine mF hD ?_ | refine mB hD (fun _ => ?_) (fun _ => ?_) | exact True.intro | refine And.intro ?_ ?_) <;> try conv => cbv)); all_goals try (first | trivial | (subst hD; first | exact fun _ _ => ⟨_, rfl⟩ | exact fl1 | exact fl1') | (((try subst hD hu); (try simp only [nc] at *); (try simp only [Int.ofNat_eq_natCast] at *); try simp (disch := omega) only [std, uid, S0] at *) <;> first | omega | rfl | (exfalso; simp_all only [Bool.true_eq_false, Bool.false_eq_true]; done)))))
end Go.AW
/- Clusters: sizes, copies, alike, marked, held. -/
set_option linter.unusedVariables false
set_option linter.unusedSimpArgs false
namespace Go.AW
open Go.Proofs
set_option maxRecDepth 100000
end Go.AW
/- Runes appended; the text of clusters. -/
set_option linter.unusedVariables false
set_option linter.unusedSimpArgs false
namespace Go.AW
open Go.Proofs
set_option maxRecDepth 100000
set_option maxHeartbeats 4000000
theorem LR_lit8 {xs : List Int} {n : Nat} {ys : Str} (h : ys.map (fun b => (b.toNat : Int)) = xs) (hn : n = xs.length) : LR (rB std uid) 0 (fun i => [.s (.int .u8 (std.nthI xs i))]) n ys := by
  subst h hn
  refine ⟨by simp, fun i hi => ?_⟩
  have hi' : i < ys.length := by simpa using hi
  refine aLe_1 ?_
  have : std.nthI (ys.map fun b => (b.toNat : Int)) i = std.u8I (ys.getD i 0) := by
    simp [std, List.getD_eq_getElem?_getD, hi']
  rw [this]
theorem LR_lit8' {xs : List Int} {n : Nat} {ys : Str} (h : ys.map (fun b => (b.toNat : Int)) = xs) (hn : n = xs.length) : LR (rB std uid) 0 (fun j => List.map (fun c => c j) [fun i => DV.s (.int .u8 (std.nthI xs i))]) n ys := LR_lit8 h hn
theorem lit2 (r : Int) (h : 128 ≤ r ∧ r < 2048) : [b8 (192 + r / 64), b8 (128 + r % 64)].map (fun b => (b.toNat : Int)) = [std.bitI .or .u8 192 (std.wrapI .u8 (std.shrI .i32 r 6)), std.bitI .or .u8 128 (std.bitI .and .u8 (std.wrapI .u8 r) 63)] := by
  simp only [List.map]
  rw [shr6 _ bits32, ← lead2 _ (by omega), ← tail8]
theorem lit3 (r : Int) (h : 2048 ≤ r ∧ r < 65536) : [b8 (224 + r / 4096), b8 (128 + r / 64 % 64), b8 (128 + r % 64)].map (fun b => (b.toNat : Int)) = [std.bitI .or .u8 224 (std.wrapI .u8 (std.shrI .i32 r 12)), std.bitI .or .u8 128 (std.bitI .and .u8 (std.wrapI .u8 (std.shrI .i32 r 6)) 63), std.bitI .or .u8 128 (std.bitI .and .u8 (std.wrapI .u8 r) 63)] := by
  simp only [List.map]
  rw [shr6 _ bits32, shr12 _ bits32, ← lead3 _ (by omega), ← tail8, ← tail8]
theorem lit4 (r : Int) (h : 65536 ≤ r ∧ r ≤ 1114111) : [b8 (240 + r / 262144), b8 (128 + r / 4096 % 64), b8 (128 + r / 64 % 64), b8 (128 + r % 64)].map (fun b => (b.toNat : Int)) = [std.bitI .or .u8 240 (std.wrapI .u8 (std.shrI .i32 r 18)), std.bitI .or .u8 128 (std.bitI .and .u8 (std.wrapI .u8 (std.shrI .i32 r 12)) 63), std.bitI .or .u8 128 (std.bitI .and .u8 (std.wrapI .u8 (std.shrI .i32 r 6)) 63), std.bitI .or .u8 128 (std.bitI .and .u8 (std.wrapI .u8 r) 63)] := by
  simp only [List.map]
  rw [shr6 _ bits32, shr12 _ bits32, shr18 _ bits32, ← lead4 _ (by omega), ← tail8, ← tail8, ← tail8]
theorem x_appendRuneNonASCII (l : Str) (r : Int) (hr : -2147483648 ≤ r ∧ r ≤ 2147483647) (hr2 : r < 0 ∨ 127 < r) (hn : l.length ≤ 1099511627776) :
    PX Try.prog 157 (fun D u => [.g (.c (lB D u (u _ l))), AK .i32 (u _ r)]) (fun D u => [.c (lB D u (u _ (l ++ enc r)))]) (fun D u => []) := by
  refine px_of_awp (fn := Try.f157) (c := bodyOf Try.f157) envOk (by kernel_rfl) (by kernel_rfl) (by kernel_rfl) (by kernel_rfl) rfl (by kernel_rfl) (by kernel_rfl) ?_
  intro w0 mine D u C L hD hu hC hL
  have h4 := (enc_len r).1
  ((try conv => cbv); (repeat' (first | (with_reducible refine mK hD ?_; kernel_rfl) | (with_reducible first | refine mS hD ?_ | refine mJ hL ?_ | refine mT hD ?_ | refine mF hD ?_ | refine mB hD (fun _ => ?_) (fun _ => ?_) | exact True.intro | refine And.intro ?_ ?_) <;> try conv => cbv)); all_goals try (first | trivial | (subst hD; first | exact fun _ _ => ⟨_, rfl⟩ | exact fl1 | exact fl1') | (((try subst hD hu); (try simp only [nc] at *); (try simp only [Int.ofNat_eq_natCast] at *); try simp (disch := omega) only [std, uid, S0] at *) <;> first | omega | rfl | (exfalso; simp_all only [Bool.true_eq_false, Bool.false_eq_true]; done))))
  all_goals first
    | ( have he : enc r = [b8 (192 + r / 64), b8 (128 + r % 64)] ∧ 128 ≤ r ∧ r < 2048 := by ((try subst hD hu); (try simp only [nc] at *); (try simp only [Int.ofNat_eq_natCast] at *); try simp (disch := omega) only [std, uid, S0, wU32] at *); exact ⟨enc_2 (by omega), by omega, by omega⟩
        subst hD hu
        first
        | (simp only [uid, std, List.length_append, he.1]; rfl)
        | (apply qB
           · first | apply LR.cat | apply LR.cat'
             · exact LR.refl
             · apply LR_lit8' (ys := enc r)
               · rw [he.1]
                 exact lit2 r he.2
               · rfl
           · rfl))
    | ( have he : enc r = [b8 (224 + r / 4096), b8 (128 + r / 64 % 64), b8 (128 + r % 64)] ∧ 2048 ≤ r ∧ r < 65536 := by ((try subst hD hu); (try simp only [nc] at *); (try simp only [Int.ofNat_eq_natCast] at *); try simp (disch := omega) only [std, uid, S0, wU32] at *); exact ⟨enc_3 (validR_of (by omega)) (by omega), by omega, by omega⟩
        subst hD hu
        first
        | (simp only [uid, std, List.length_append, he.1]; rfl)
        | (apply qB
           · first | apply LR.cat | apply LR.cat'
             · exact LR.refl
             · apply LR_lit8' (ys := enc r)
               · rw [he.1]
                 exact lit3 r he.2
               · rfl
           · rfl))
    | ( have he : enc r = [b8 (240 + r / 262144), b8 (128 + r / 4096 % 64), b8 (128 + r / 64 % 64), b8 (128 + r % 64)] ∧ 65536 ≤ r ∧ r ≤ 1114111 := by ((try subst hD hu); (try simp only [nc] at *); (try simp only [Int.ofNat_eq_natCast] at *); try simp (disch := omega) only [std, uid, S0, wU32] at *); exact ⟨enc_4 (validR_of (by omega)) (by omega), by omega, by omega⟩
        subst hD hu
        first
        | (simp only [uid, std, List.length_append, he.1]; rfl)
        | (apply qB
           · first | apply LR.cat | apply LR.cat'
             · exact LR.refl
             · apply LR_lit8' (ys := enc r)
               · rw [he.1]
                 exact lit4 r he.2
               · rfl
           · rfl))
    | ( have he : enc r = [239, 191, 189] := by ((try subst hD hu); (try simp only [nc] at *); (try simp only [Int.ofNat_eq_natCast] at *); try simp (disch := omega) only [std, uid, S0, wU32] at *); exact enc_invalid (validR_not (by omega))
        subst hD hu
        first
        | (simp only [uid, std, List.length_append, he]; rfl)
        | (apply qB
           · first | apply LR.cat | apply LR.cat'
             · exact LR.refl
             · apply LR_lit8' (ys := enc r)
               · rw [he]
                 rfl
               · rfl
           · rfl))
theorem u8_b8 (r : Int) (h : 0 ≤ r ∧ r < 128) : DEq (.s (.int .u8 (std.wrapI .u8 r))) (.s (.int .u8 (std.u8I (b8 r)))) := by
  have : std.u8I (b8 r) = std.wrapI .u8 r := by
    simp only [std]
    rw [b8_toNat _ (by omega), wrapU8 _ (by omega)]
  rw [this]
theorem x_AppendRune (l : Str) (r : Int) (hr : -2147483648 ≤ r ∧ r ≤ 2147483647) (hn : l.length ≤ 1099511627776) :
    PX Try.prog 122 (fun D u => [.g (.c (lB D u (u _ l))), AK .i32 (u _ r)]) (fun D u => [.c (lB D u (u _ (l ++ enc r)))]) (fun D u => []) := by
  refine px_of_awp (fn := Try.f122) (c := bodyOf Try.f122) envOk (by kernel_rfl) (by kernel_rfl) (by kernel_rfl) (by kernel_rfl) rfl (by kernel_rfl) (by kernel_rfl) ?_
  intro w0 mine D u C L hD hu hC hL
  have h4 := (enc_len r).1
  ((try conv => cbv); (repeat' (first | (with_reducible refine mK hD ?_; kernel_rfl) | (with_reducible first | refine mS hD ?_ | refine mJ hL ?_ | refine mT hD ?_ | refine mF hD ?_ | refine mB hD (fun _ => ?_) (fun _ => ?_) | exact True.intro | refine And.intro ?_ ?_) <;> try conv => cbv)); all_goals try (first | trivial | (subst hD; first | exact fun _ _ => ⟨_, rfl⟩ | exact fl1 | exact fl1') | (((try subst hD hu); (try simp only [nc] at *); (try simp only [Int.ofNat_eq_natCast] at *); try simp (disch := omega) only [std, uid, S0] at *) <;> first | omega | rfl | (exfalso; simp_all only [Bool.true_eq_false, Bool.false_eq_true]; done))))
  iterate 2
    have he : enc r = [b8 r] ∧ 0 ≤ r ∧ r < 128 := by ((try subst hD hu); (try simp only [nc] at *); (try simp only [Int.ofNat_eq_natCast] at *); try simp (disch := omega) only [std, uid, S0, wU32] at *); exact ⟨enc_1 (by omega), by omega, by omega⟩
    subst hD hu
    first
    | (simp only [uid, std, List.length_append, he.1]; rfl)
    | (apply qB
       · first | apply LR.cat | apply LR.cat'
         · exact LR.refl
         · exact LR.one (x := b8 r) ⟨u8_b8 r he.2, trivial⟩
       · rw [he.1]; rfl)
  refine callx hD hu hC (x_appendRuneNonASCII l r hr (by ((try subst hD hu); (try simp only [nc] at *); (try simp only [Int.ofNat_eq_natCast] at *); try simp (disch := omega) only [std, uid, S0, wU32] at *); omega) hn) ?_
  ((try conv => cbv); (repeat' (first | (with_reducible refine mK hD ?_; kernel_rfl) | (with_reducible first | refine mS hD ?_ | refine mJ hL ?_ | refine mT hD ?_ | refine mF hD ?_ | refine mB hD (fun _ => ?_) (fun _ => ?_) | exact True.intro | refine And.intro ?_ ?_) <;> try conv => cbv)); all_goals try (first | trivial | (subst hD; first | exact fun _ _ => ⟨_, rfl⟩ | exact fl1 | exact fl1') | (((try subst hD hu); (try simp only [nc] at *); (try simp only [Int.ofNat_eq_natCast] at *); try simp (disch := omega) only [std, uid, S0] at *) <;> first | omega | rfl | (exfalso; simp_all only [Bool.true_eq_false, Bool.false_eq_true]; done))))
def textOf (cs : List Clu) : Str := cs.flatMap fun c => c.runes.flatMap enc
theorem encs_len (l : List Int) : (l.flatMap enc).length ≤ 4 * l.length := by
  induction l with
  | nil => simp
  | cons r l ih =>
    have := (enc_len r).1
    simp only [List.flatMap_cons, List.length_append, List.length_cons]
    omega
theorem textOf_len (cs : List Clu) : (textOf cs).length ≤ 4 * cntL toEClu cs := by
  induction cs with
  | nil => simp [textOf]
  | cons c l ih =>
    have := encs_len c.runes
    simp only [textOf, List.flatMap_cons, List.length_append, cntL, List.map_cons, List.sum_cons, toEClu] at *
    omega
theorem textOf_snoc (cs : List Clu) (k : Nat) (h : k < cs.length) : textOf (cs.take (k + 1)) = textOf (cs.take k) ++ (cs.getD k dClu).runes.flatMap enc := by
  rw [take_snoc cs dClu k h]
  simp [textOf]
theorem encs_snoc (l : List Int) (k : Nat) (h : k < l.length) : (l.take (k + 1)).flatMap enc = (l.take k).flatMap enc ++ enc (l.getD k 0) := by
  rw [take_snoc l 0 k h]
  simp
theorem x_implTextOf (cs : List Clu) (hn : totL toEClu cs ≤ 1000000000) (hc : ∀ c, c ∈ cs → okClu c) : PX Try.prog 64 (fun D u => [.r (.c (lClu D u (u _ cs)))]) (fun D u => [.c (.s (.string (D.strB (u _ (textOf cs)))))]) (fun D u => []) := by
  refine px_of_awp (fn := Try.f64) (c := bodyOf Try.f64) envOk (by kernel_rfl) (by kernel_rfl) (by kernel_rfl) (by kernel_rfl) rfl (by kernel_rfl) (by kernel_rfl) ?_
  intro w0 mine D u C L hD hu hC hL
  simp only [totL] at hn
  ((try conv => cbv); (repeat' (first | (with_reducible refine mK hD ?_; kernel_rfl) | (with_reducible first | refine mS hD ?_ | refine mJ hL ?_ | refine mT hD ?_ | refine mF hD ?_ | refine mB hD (fun _ => ?_) (fun _ => ?_) | exact True.intro | refine And.intro ?_ ?_) <;> try conv => cbv)); all_goals try (first | trivial | (subst hD; first | exact fun _ _ => ⟨_, rfl⟩ | exact fl1 | exact fl1') | (((try subst hD hu); (try simp only [nc] at *); (try simp only [Int.ofNat_eq_natCast] at *); try simp (disch := omega) only [std, uid, S0] at *) <;> first | omega | rfl | (exfalso; simp_all only [Bool.true_eq_false, Bool.false_eq_true]; done))))
  refine loop_st hL cs.length (fun k s => s = textOf (cs.take k)) [] (fun k s => [(3, vO D 0 (u _ s)), (8, .bad), (11, VI (u _ k))]) (fun k s => [(0, oB D u (u _ s))]) rfl ?_ ?_
  · ((try conv => cbv); (repeat' (first | (with_reducible refine mK hD ?_; kernel_rfl) | (with_reducible first | refine mS hD ?_ | refine mJ hL ?_ | refine mT hD ?_ | refine mF hD ?_ | refine mB hD (fun _ => ?_) (fun _ => ?_) | exact True.intro | refine And.intro ?_ ?_) <;> try conv => cbv)); all_goals try (first | trivial | (subst hD; first | exact fun _ _ => ⟨_, rfl⟩ | exact fl1 | exact fl1') | (((try subst hD hu); (try simp only [nc] at *); (try simp only [Int.ofNat_eq_natCast] at *); try simp (disch := omega) only [std, uid, S0] at *) <;> first | omega | rfl | (exfalso; simp_all only [Bool.true_eq_false, Bool.false_eq_true]; done))))
    (subst hD hu; apply qB; (focus repeat' (first | exact LR.refl | exact LR_bytes | apply mClu | apply mCel | apply mKey | apply mSnp | apply mKRd | apply mLin | apply mHis | apply mBlk | apply mScr | apply mSes | exact zR | exact zB | exact zT | exact zN | exact zClu | exact zCel | exact zCelS | exact zSnp | exact zKey | exact zSes | exact zScr | apply LR.deq | exact LR.nil | apply LR.one | apply LR.rep | apply LR.cat | apply LR.cat' | apply LR.set | exact u8_0 | exact DEq.s _ | (apply str_deq; (repeat' apply sr_cat) <;> rfl) | apply aLe_1 | (apply LR.rfl'; simp only [uid, std, S0]; omega))); all_goals try simp only [uid, std, Int.toNat_natCast, Int.ofNat_eq_natCast])
  · intro k s hk hs
    subst hs
    have hb1 := textOf_len (cs.take k)
    have hb2 := cntL_le toEClu cs k
    ((try conv => cbv); (repeat' (first | (with_reducible refine mK hD ?_; kernel_rfl) | (with_reducible first | refine mS hD ?_ | refine mJ hL ?_ | refine mT hD ?_ | refine mF hD ?_ | refine mB hD (fun _ => ?_) (fun _ => ?_) | exact True.intro | refine And.intro ?_ ?_) <;> try conv => cbv)); all_goals try (first | trivial | (subst hD; first | exact fun _ _ => ⟨_, rfl⟩ | exact fl1 | exact fl1') | (((try subst hD hu); (try simp only [nc] at *); (try simp only [Int.ofNat_eq_natCast] at *); try simp (disch := omega) only [std, uid, S0] at *) <;> first | omega | rfl | (exfalso; simp_all only [Bool.true_eq_false, Bool.false_eq_true]; done))))
    · have hkn : k < cs.length := by ((try subst hD hu); (try simp only [nc] at *); (try simp only [Int.ofNat_eq_natCast] at *); try simp (disch := omega) only [std, uid, S0] at *); omega
      have hsn := textOf_snoc cs k hkn
      have hb3 := cntL_snoc toEClu cs dClu k hkn
      have hb4 := cntL_le toEClu cs (k + 1)
      have hx := (hc _ (getD_mem cs dClu k hkn)).1
      generalize hx' : cs.getD k dClu = x at *
      simp only [toEClu] at hb3
      refine loop_st hL x.runes.length (fun j s => s = textOf (cs.take k) ++ (x.runes.take j).flatMap enc) _ (fun j s => [(3, vO D 0 (u _ s)), (18, VI (u _ j))]) (fun j s => [(0, oB D u (u _ s))]) rfl ?_ ?_
      · ((try conv => cbv); (repeat' (first | (with_reducible refine mK hD ?_; kernel_rfl) | (with_reducible first | refine mS hD ?_ | refine mJ hL ?_ | refine mT hD ?_ | refine mF hD ?_ | refine mB hD (fun _ => ?_) (fun _ => ?_) | exact True.intro | refine And.intro ?_ ?_) <;> try conv => cbv)); all_goals try (first | trivial | (subst hD; first | exact fun _ _ => ⟨_, rfl⟩ | exact fl1 | exact fl1') | (((try subst hD hu); (try simp only [nc] at *); (try simp only [Int.ofNat_eq_natCast] at *); try simp (disch := omega) only [std, uid, S0] at *) <;> first | omega | rfl | (exfalso; simp_all only [Bool.true_eq_false, Bool.false_eq_true]; done))))
        all_goals ((subst hD hu; apply qB; (focus repeat' (first | exact LR.refl | exact LR_bytes | apply mClu | apply mCel | apply mKey | apply mSnp | apply mKRd | apply mLin | apply mHis | apply mBlk | apply mScr | apply mSes | exact zR | exact zB | exact zT | exact zN | exact zClu | exact zCel | exact zCelS | exact zSnp | exact zKey | exact zSes | exact zScr | apply LR.deq | exact LR.nil | apply LR.one | apply LR.rep | apply LR.cat | apply LR.cat' | apply LR.set | exact u8_0 | exact DEq.s _ | (apply str_deq; (repeat' apply sr_cat) <;> rfl) | apply aLe_1 | (apply LR.rfl'; simp only [uid, std, S0]; omega))); all_goals try simp only [uid, std, Int.toNat_natCast, Int.ofNat_eq_natCast]); simp)
      · intro j s hj hs
        subst hs
        have hb5 := encs_len (x.runes.take j)
        ((try conv => cbv); (repeat' (first | (with_reducible refine mK hD ?_; kernel_rfl) | (with_reducible first | refine mS hD ?_ | refine mJ hL ?_ | refine mT hD ?_ | refine mF hD ?_ | refine mB hD (fun _ => ?_) (fun _ => ?_) | exact True.intro | refine And.intro ?_ ?_) <;> try conv => cbv)); all_goals try (first | trivial | (subst hD; first | exact fun _ _ => ⟨_, rfl⟩ | exact fl1 | exact fl1') | (((try subst hD hu); (try simp only [nc] at *); (try simp only [Int.ofNat_eq_natCast] at *); try simp (disch := omega) only [std, uid, S0] at *) <;> first | omega | rfl | (exfalso; simp_all only [Bool.true_eq_false, Bool.false_eq_true]; done))))
        · have hjn : j < x.runes.length := by ((try subst hD hu); (try simp only [nc] at *); (try simp only [Int.ofNat_eq_natCast] at *); try simp (disch := omega) only [std, uid, S0, hx'] at *); omega
          have hsj := encs_snoc x.runes j hjn
          refine callx hD hu hC (x_AppendRune (textOf (cs.take k) ++ (x.runes.take j).flatMap enc) (x.runes.getD j 0) (hx _ (getD_mem _ _ _ hjn)) (by simp only [List.length_append, List.length_take] at *; omega)) ?_
          ((try conv => cbv); (repeat' (first | (with_reducible refine mK hD ?_; kernel_rfl) | (with_reducible first | refine mS hD ?_ | refine mJ hL ?_ | refine mT hD ?_ | refine mF hD ?_ | refine mB hD (fun _ => ?_) (fun _ => ?_) | exact True.intro | refine And.intro ?_ ?_) <;> try conv => cbv)); all_goals try (first | trivial | (subst hD; first | exact fun _ _ => ⟨_, rfl⟩ | exact fl1 | exact fl1') | (((try subst hD hu); (try simp only [nc] at *); (try simp only [Int.ofNat_eq_natCast] at *); try simp (disch := omega) only [std, uid, S0] at *) <;> first | omega | rfl | (exfalso; simp_all only [Bool.true_eq_false, Bool.false_eq_true]; done))))
          all_goals try ((subst hD hu; (try simp only [std, uid, rR, rB, rT, rN, rClu, rCel, rSnp, rKey, rCluS, rCelS, lR, lB, lT, lN, lClu, lCel, eL, dClu, dCel, dSnp, dKey, Int.toNat_natCast, Int.ofNat_eq_natCast, hx']) <;> rfl))
          refine ⟨j + 1, textOf (cs.take k) ++ (x.runes.take j).flatMap enc ++ enc (x.runes.getD j 0), hjn, by rw [hsj, List.append_assoc], ssem_of ?_, by omega⟩
          ((try conv => cbv); (repeat' (first | (with_reducible refine mK hD ?_; kernel_rfl) | (with_reducible first | refine mS hD ?_ | refine mJ hL ?_ | refine mT hD ?_ | refine mF hD ?_ | refine mB hD (fun _ => ?_) (fun _ => ?_) | exact True.intro | refine And.intro ?_ ?_) <;> try conv => cbv)); all_goals try (first | trivial | (subst hD; first | exact fun _ _ => ⟨_, rfl⟩ | exact fl1 | exact fl1') | (((try subst hD hu); (try simp only [nc] at *); (try simp only [Int.ofNat_eq_natCast] at *); try simp (disch := omega) only [std, uid, S0] at *) <;> first | omega | rfl | (exfalso; simp_all only [Bool.true_eq_false, Bool.false_eq_true]; done))))
        · have e : j = x.runes.length := by ((try subst hD hu); (try simp only [nc] at *); (try simp only [Int.ofNat_eq_natCast] at *); try simp (disch := omega) only [std, uid, S0, hx'] at *); omega
          subst e
          refine ⟨k + 1, textOf (cs.take k) ++ (x.runes.take x.runes.length).flatMap enc, hkn, by rw [hsn, List.take_length], ssem_of ?_, by omega⟩
          ((try conv => cbv); (repeat' (first | (with_reducible refine mK hD ?_; kernel_rfl) | (with_reducible first | refine mS hD ?_ | refine mJ hL ?_ | refine mT hD ?_ | refine mF hD ?_ | refine mB hD (fun _ => ?_) (fun _ => ?_) | exact True.intro | refine And.intro ?_ ?_) <;> try conv => cbv)); all_goals try (first | trivial | (subst hD; first | exact fun _ _ => ⟨_, rfl⟩ | exact fl1 | exact fl1') | (((try subst hD hu); (try simp only [nc] at *); (try simp only [Int.ofNat_eq_natCast] at *); try simp (disch := omega) only [std, uid, S0] at *) <;> first | omega | rfl | (exfalso; simp_all only [Bool.true_eq_false, Bool.false_eq_true]; done))))
    · have e : k = cs.length := by ((try subst hD hu); (try simp only [nc] at *); (try simp only [Int.ofNat_eq_natCast] at *); try simp (disch := omega) only [std, uid, S0] at *); omega
      subst e
      subst hD hu
      refine str_eq' ((sr_strF LR.refl).trans ?_)
      rw [show uid (List UInt8) (textOf (cs.take cs.length)) = textOf cs by rw [List.take_length]; rfl]
      rfl
theorem strB_enc (r : Int) : std.strB (enc r) = Utf8.encode r := rfl
theorem x_l1Valid (r : Int) : PX Try.prog 117 (fun D u => [AI (u _ r)]) (fun D u => [RB (u _ (validR r))]) (fun D u => []) := px_of (con_l1Valid r _ rfl)
theorem x_l1Utf8 (r : Int) (hv : validR r = true) : PX Try.prog 118 (fun D u => [AI (u _ r)]) (fun D u => [.c (.s (.string (D.strB (u _ (enc r)))))]) (fun D u => []) := px_of (con_l1Utf8 r _ hv (strB_enc r))
theorem enc_bad {r : Int} (h : validR r = false) : enc r = enc 65533 := by rw [enc_invalid h]; decide
theorem x_specTextOf (cs : List Clu) (hn : totL toEClu cs ≤ 1000000000) (hc : ∀ c, c ∈ cs → okClu c) : PX Try.prog 59 (fun D u => [.r (.c (lClu D u (u _ cs)))]) (fun D u => [.c (.s (.string (D.strB (u _ (textOf cs)))))]) (fun D u => []) := by
  refine px_of_awp (fn := Try.f59) (c := bodyOf Try.f59) envOk (by kernel_rfl) (by kernel_rfl) (by kernel_rfl) (by kernel_rfl) rfl (by kernel_rfl) (by kernel_rfl) ?_
  intro w0 mine D u C L hD hu hC hL
  simp only [totL] at hn
  ((try conv => cbv); (repeat' (first | (with_reducible refine mK hD ?_; kernel_rfl) | (with_reducible first | refine mS hD ?_ | refine mJ hL ?_ | refine mT hD ?_ | refine mF hD ?_ | refine mB hD (fun _ => ?_) (fun _ => ?_) | exact True.intro | refine And.intro ?_ ?_) <;> try conv => cbv)); all_goals try (first | trivial | (subst hD; first | exact fun _ _ => ⟨_, rfl⟩ | exact fl1 | exact fl1') | (((try subst hD hu); (try simp only [nc] at *); (try simp only [Int.ofNat_eq_natCast] at *); try simp (disch := omega) only [std, uid, S0] at *) <;> first | omega | rfl | (exfalso; simp_all only [Bool.true_eq_false, Bool.false_eq_true]; done))))
  refine loop_st hL cs.length (fun k s => s = textOf (cs.take k)) [] (fun k s => [(3, vO D 0 (u _ s)), (7, .bad), (4, VI (u _ k))]) (fun k s => [(0, oB D u (u _ s))]) rfl ?_ ?_
  · ((try conv => cbv); (repeat' (first | (with_reducible refine mK hD ?_; kernel_rfl) | (with_reducible first | refine mS hD ?_ | refine mJ hL ?_ | refine mT hD ?_ | refine mF hD ?_ | refine mB hD (fun _ => ?_) (fun _ => ?_) | exact True.intro | refine And.intro ?_ ?_) <;> try conv => cbv)); all_goals try (first | trivial | (subst hD; first | exact fun _ _ => ⟨_, rfl⟩ | exact fl1 | exact fl1') | (((try subst hD hu); (try simp only [nc] at *); (try simp only [Int.ofNat_eq_natCast] at *); try simp (disch := omega) only [std, uid, S0] at *) <;> first | omega | rfl | (exfalso; simp_all only [Bool.true_eq_false, Bool.false_eq_true]; done))))
    (subst hD hu; apply qB; (focus repeat' (first | exact LR.refl | exact LR_bytes | apply mClu | apply mCel | apply mKey | apply mSnp | apply mKRd | apply mLin | apply mHis | apply mBlk | apply mScr | apply mSes | exact zR | exact zB | exact zT | exact zN | exact zClu | exact zCel | exact zCelS | exact zSnp | exact zKey | exact zSes | exact zScr | apply LR.deq | exact LR.nil | apply LR.one | apply LR.rep | apply LR.cat | apply LR.cat' | apply LR.set | exact u8_0 | exact DEq.s _ | (apply str_deq; (repeat' apply sr_cat) <;> rfl) | apply aLe_1 | (apply LR.rfl'; simp only [uid, std, S0]; omega))); all_goals try simp only [uid, std, Int.toNat_natCast, Int.ofNat_eq_natCast])
  · intro k s hk hs
    subst hs
    have hb1 := textOf_len (cs.take k)
    have hb2 := cntL_le toEClu cs k
    ((try conv => cbv); (repeat' (first | (with_reducible refine mK hD ?_; kernel_rfl) | (with_reducible first | refine mS hD ?_ | refine mJ hL ?_ | refine mT hD ?_ | refine mF hD ?_ | refine mB hD (fun _ => ?_) (fun _ => ?_) | exact True.intro | refine And.intro ?_ ?_) <;> try conv => cbv)); all_goals try (first | trivial | (subst hD; first | exact fun _ _ => ⟨_, rfl⟩ | exact fl1 | exact fl1') | (((try subst hD hu); (try simp only [nc] at *); (try simp only [Int.ofNat_eq_natCast] at *); try simp (disch := omega) only [std, uid, S0] at *) <;> first | omega | rfl | (exfalso; simp_all only [Bool.true_eq_false, Bool.false_eq_true]; done))))
    · have hkn : k < cs.length := by ((try subst hD hu); (try simp only [nc] at *); (try simp only [Int.ofNat_eq_natCast] at *); try simp (disch := omega) only [std, uid, S0] at *); omega
      have hsn := textOf_snoc cs k hkn
      have hb3 := cntL_snoc toEClu cs dClu k hkn
      have hb4 := cntL_le toEClu cs (k + 1)
      have hx := (hc _ (getD_mem cs dClu k hkn)).1
      generalize hx' : cs.getD k dClu = x at *
      simp only [toEClu] at hb3
      refine loop_st hL x.runes.length (fun j s => s = textOf (cs.take k) ++ (x.runes.take j).flatMap enc) _ (fun j s => [(3, vO D 0 (u _ s)), (7, .bad), (5, VI (u _ j))]) (fun j s => [(0, oB D u (u _ s))]) rfl ?_ ?_
      · ((try conv => cbv); (repeat' (first | (with_reducible refine mK hD ?_; kernel_rfl) | (with_reducible first | refine mS hD ?_ | refine mJ hL ?_ | refine mT hD ?_ | refine mF hD ?_ | refine mB hD (fun _ => ?_) (fun _ => ?_) | exact True.intro | refine And.intro ?_ ?_) <;> try conv => cbv)); all_goals try (first | trivial | (subst hD; first | exact fun _ _ => ⟨_, rfl⟩ | exact fl1 | exact fl1') | (((try subst hD hu); (try simp only [nc] at *); (try simp only [Int.ofNat_eq_natCast] at *); try simp (disch := omega) only [std, uid, S0] at *) <;> first | omega | rfl | (exfalso; simp_all only [Bool.true_eq_false, Bool.false_eq_true]; done))))
        all_goals ((subst hD hu; apply qB; (focus repeat' (first | exact LR.refl | exact LR_bytes | apply mClu | apply mCel | apply mKey | apply mSnp | apply mKRd | apply mLin | apply mHis | apply mBlk | apply mScr | apply mSes | exact zR | exact zB | exact zT | exact zN | exact zClu | exact zCel | exact zCelS | exact zSnp | exact zKey | exact zSes | exact zScr | apply LR.deq | exact LR.nil | apply LR.one | apply LR.rep | apply LR.cat | apply LR.cat' | apply LR.set | exact u8_0 | exact DEq.s _ | (apply str_deq; (repeat' apply sr_cat) <;> rfl) | apply aLe_1 | (apply LR.rfl'; simp only [uid, std, S0]; omega))); all_goals try simp only [uid, std, Int.toNat_natCast, Int.ofNat_eq_natCast]); simp)
      · intro j s hj hs
        subst hs
        have hb5 := encs_len (x.runes.take j)
        ((try conv => cbv); (repeat' (first | (with_reducible refine mK hD ?_; kernel_rfl) | (with_reducible first | refine mS hD ?_ | refine mJ hL ?_ | refine mT hD ?_ | refine mF hD ?_ | refine mB hD (fun _ => ?_) (fun _ => ?_) | exact True.intro | refine And.intro ?_ ?_) <;> try conv => cbv)); all_goals try (first | trivial | (subst hD; first | exact fun _ _ => ⟨_, rfl⟩ | exact fl1 | exact fl1') | (((try subst hD hu); (try simp only [nc] at *); (try simp only [Int.ofNat_eq_natCast] at *); try simp (disch := omega) only [std, uid, S0] at *) <;> first | omega | rfl | (exfalso; simp_all only [Bool.true_eq_false, Bool.false_eq_true]; done))))
        · have hjn : j < x.runes.length := by ((try subst hD hu); (try simp only [nc] at *); (try simp only [Int.ofNat_eq_natCast] at *); try simp (disch := omega) only [std, uid, S0, hx'] at *); omega
          have hsj := encs_snoc x.runes j hjn
          have hr := hx _ (getD_mem x.runes 0 j hjn)
          have hel := (enc_len (x.runes.getD j 0)).1
          generalize hr' : x.runes.getD j 0 = r at *
          obtain ⟨hr1, hr2⟩ := hr
          refine callx hD hu hC (x_l1Valid r) ?_
          ((try conv => cbv); (repeat' (first | (with_reducible refine mK hD ?_; kernel_rfl) | (with_reducible first | refine mS hD ?_ | refine mJ hL ?_ | refine mT hD ?_ | refine mF hD ?_ | refine mB hD (fun _ => ?_) (fun _ => ?_) | exact True.intro | refine And.intro ?_ ?_) <;> try conv => cbv)); all_goals try (first | trivial | (subst hD; first | exact fun _ _ => ⟨_, rfl⟩ | exact fl1 | exact fl1') | (((try subst hD hu); (try simp only [nc] at *); (try simp only [Int.ofNat_eq_natCast] at *); try simp (disch := omega) only [std, uid, S0] at *) <;> first | omega | rfl | (exfalso; simp_all only [Bool.true_eq_false, Bool.false_eq_true]; done))))
          all_goals try (((try subst hD hu); (try simp only [nc] at *); (try simp only [Int.ofNat_eq_natCast] at *); try simp (disch := omega) only [std, uid, S0, hx', hr'] at *); done)
          · have hv : validR r = true := by ((try subst hD hu); (try simp only [nc] at *); (try simp only [Int.ofNat_eq_natCast] at *); try simp (disch := omega) only [std, uid, S0] at *); assumption
            refine callx hD hu hC (x_l1Utf8 r hv) ?_
            ((try conv => cbv); (repeat' (first | (with_reducible refine mK hD ?_; kernel_rfl) | (with_reducible first | refine mS hD ?_ | refine mJ hL ?_ | refine mT hD ?_ | refine mF hD ?_ | refine mB hD (fun _ => ?_) (fun _ => ?_) | exact True.intro | refine And.intro ?_ ?_) <;> try conv => cbv)); all_goals try (first | trivial | (subst hD; first | exact fun _ _ => ⟨_, rfl⟩ | exact fl1 | exact fl1') | (((try subst hD hu); (try simp only [nc] at *); (try simp only [Int.ofNat_eq_natCast] at *); try simp (disch := omega) only [std, uid, S0] at *) <;> first | omega | rfl | (exfalso; simp_all only [Bool.true_eq_false, Bool.false_eq_true]; done))))
            all_goals try (((try subst hD hu); (try simp only [nc] at *); (try simp only [Int.ofNat_eq_natCast] at *); try simp (disch := omega) only [std, uid, S0, hx', hr'] at *); done)
            all_goals try (((try subst hD hu); (try simp only [nc] at *); (try simp only [Int.ofNat_eq_natCast] at *); try simp (disch := omega) only [std, uid, S0] at *); simp only [List.length_append, List.length_take] at *; omega; done)
            refine ⟨j + 1, textOf (cs.take k) ++ (x.runes.take j).flatMap enc ++ enc r, hjn, by rw [hsj, List.append_assoc], ssem_of ?_, by omega⟩
            ((try conv => cbv); (repeat' (first | (with_reducible refine mK hD ?_; kernel_rfl) | (with_reducible first | refine mS hD ?_ | refine mJ hL ?_ | refine mT hD ?_ | refine mF hD ?_ | refine mB hD (fun _ => ?_) (fun _ => ?_) | exact True.intro | refine And.intro ?_ ?_) <;> try conv => cbv)); all_goals try (first | trivial | (subst hD; first | exact fun _ _ => ⟨_, rfl⟩ | exact fl1 | exact fl1') | (((try subst hD hu); (try simp only [nc] at *); (try simp only [Int.ofNat_eq_natCast] at *); try simp (disch := omega) only [std, uid, S0] at *) <;> first | omega | rfl | (exfalso; simp_all only [Bool.true_eq_false, Bool.false_eq_true]; done))))
            (subst hD hu; apply qB; (focus repeat' (first | exact LR.refl | exact LR_bytes | apply mClu | apply mCel | apply mKey | apply mSnp | apply mKRd | apply mLin | apply mHis | apply mBlk | apply mScr | apply mSes | exact zR | exact zB | exact zT | exact zN | exact zClu | exact zCel | exact zCelS | exact zSnp | exact zKey | exact zSes | exact zScr | apply LR.deq | exact LR.nil | apply LR.one | apply LR.rep | apply LR.cat | apply LR.cat' | apply LR.set | exact u8_0 | exact DEq.s _ | (apply str_deq; (repeat' apply sr_cat) <;> rfl) | apply aLe_1 | (apply LR.rfl'; simp only [uid, std, S0]; omega))); all_goals try simp only [uid, std, Int.toNat_natCast, Int.ofNat_eq_natCast])
          · have hv : validR r = false := by ((try subst hD hu); (try simp only [nc] at *); (try simp only [Int.ofNat_eq_natCast] at *); try simp (disch := omega) only [std, uid, S0] at *); assumption
            refine callx hD hu hC (x_l1Utf8 65533 (by decide)) ?_
            rw [enc_bad hv] at hsj hel
            ((try conv => cbv); (repeat' (first | (with_reducible refine mK hD ?_; kernel_rfl) | (with_reducible first | refine mS hD ?_ | refine mJ hL ?_ | refine mT hD ?_ | refine mF hD ?_ | refine mB hD (fun _ => ?_) (fun _ => ?_) | exact True.intro | refine And.intro ?_ ?_) <;> try conv => cbv)); all_goals try (first | trivial | (subst hD; first | exact fun _ _ => ⟨_, rfl⟩ | exact fl1 | exact fl1') | (((try subst hD hu); (try simp only [nc] at *); (try simp only [Int.ofNat_eq_natCast] at *); try simp (disch := omega) only [std, uid, S0] at *) <;> first | omega | rfl | (exfalso; simp_all only [Bool.true_eq_false, Bool.false_eq_true]; done))))
            all_goals try (((try subst hD hu); (try simp only [nc] at *); (try simp only [Int.ofNat_eq_natCast] at *); try simp (disch := omega) only [std, uid, S0] at *); simp only [List.length_append, List.length_take] at *; omega; done)
            refine ⟨j + 1, textOf (cs.take k) ++ (x.runes.take j).flatMap enc ++ enc 65533, hjn, by rw [hsj, List.append_assoc], ssem_of ?_, by omega⟩
            ((try conv => cbv); (repeat' (first | (with_reducible refine mK hD ?_; kernel_rfl) | (with_reducible first | refine mS hD ?_ | refine mJ hL ?_ | refine mT hD ?_ | refine mF hD ?_ | refine mB hD (fun _ => ?_) (fun _ => ?_) | exact True.intro | refine And.intro ?_ ?_) <;> try conv => cbv)); all_goals try (first | trivial | (subst hD; first | exact fun _ _ => ⟨_, rfl⟩ | exact fl1 | exact fl1') | (((try subst hD hu); (try simp only [nc] at *); (try simp only [Int.ofNat_eq_natCast] at *); try simp (disch := omega) only [std, uid, S0] at *) <;> first | omega | rfl | (exfalso; simp_all only [Bool.true_eq_false, Bool.false_eq_true]; done))))
            (subst hD hu; apply qB; (focus repeat' (first | exact LR.refl | exact LR_bytes | apply mClu | apply mCel | apply mKey | apply mSnp | apply mKRd | apply mLin | apply mHis | apply mBlk | apply mScr | apply mSes | exact zR | exact zB | exact zT | exact zN | exact zClu | exact zCel | exact zCelS | exact zSnp | exact zKey | exact zSes | exact zScr | apply LR.deq | exact LR.nil | apply LR.one | apply LR.rep | apply LR.cat | apply LR.cat' | apply LR.set | exact u8_0 | exact DEq.s _ | (apply str_deq; (repeat' apply sr_cat) <;> rfl) | apply aLe_1 | (apply LR.rfl'; simp only [uid, std, S0]; omega))); all_goals try simp only [uid, std, Int.toNat_natCast, Int.ofNat_eq_natCast])
        · have e : j = x.runes.length := by ((try subst hD hu); (try simp only [nc] at *); (try simp only [Int.ofNat_eq_natCast] at *); try simp (disch := omega) only [std, uid, S0, hx'] at *); omega
          subst e
          refine ⟨k + 1, textOf (cs.take k) ++ (x.runes.take x.runes.length).flatMap enc, hkn, by rw [hsn, List.take_length], ssem_of ?_, by omega⟩
          ((try conv => cbv); (repeat' (first | (with_reducible refine mK hD ?_; kernel_rfl) | (with_reducible first | refine mS hD ?_ | refine mJ hL ?_ | refine mT hD ?_ | refine mF hD ?_ | refine mB hD (fun _ => ?_) (fun _ => ?_) | exact True.intro | refine And.intro ?_ ?_) <;> try conv => cbv)); all_goals try (first | trivial | (subst hD; first | exact fun _ _ => ⟨_, rfl⟩ | exact fl1 | exact fl1') | (((try subst hD hu); (try simp only [nc] at *); (try simp only [Int.ofNat_eq_natCast] at *); try simp (disch := omega) only [std, uid, S0] at *) <;> first | omega | rfl | (exfalso; simp_all only [Bool.true_eq_false, Bool.false_eq_true]; done))))
    · have e : k = cs.length := by ((try subst hD hu); (try simp only [nc] at *); (try simp only [Int.ofNat_eq_natCast] at *); try simp (disch := omega) only [std, uid, S0] at *); omega
      subst e
      subst hD hu
      refine str_eq' ((sr_strF LR.refl).trans ?_)
      rw [show uid (List UInt8) (textOf (cs.take cs.length)) = textOf cs by rw [List.take_length]; rfl]
      rfl
end Go.AW
/- Bytes as runes, in lists. -/
set_option linter.unusedVariables false
set_option linter.unusedSimpArgs false
namespace Go.AW
def bI (s : Str) : Nat → Int := fun j => ((s.getD j 0).toNat : Int)
theorem isB_bI (s : Str) : IsB s s.length (bI s) := ⟨rfl, fun _ _ => rfl⟩
/-- The first rune of bytes, and how many bytes it takes. -/
def dec (s : Str) : Int × Nat := ((Utf8.decode (std.strB s) 0).1, (Utf8.decode (std.strB s) 0).2)
theorem dec_rune {s : Str} (h : 0 < s.length) : RuneB (bI s) s.length 0 (dec s).1 (dec s).2 := decode_B (isB_bI s) h
theorem bI_drop (s : Str) (i j : Nat) : bI (s.drop i) j = bI s (i + j) := by
  simp [bI, List.getD_eq_getElem?_getD, List.getElem?_drop]
theorem rune_drop {s : Str} {i : Nat} {r : Int} {d : Nat} (hi : i < s.length) (h : RuneB (bI (s.drop i)) (s.drop i).length 0 r d) : RuneB (bI s) s.length i r d := by
  have e : ∀ j, bI (s.drop i) j = bI s (i + j) := bI_drop s i
  have hl : (s.drop i).length = s.length - i := List.length_drop
  rw [hl] at h
  have e0 := e 0
  have e1 := e 1
  have e2 := e 2
  have e3 := e 3
  have c1 : CB (bI (s.drop i)) (0 + 1) ↔ CB (bI s) (i + 1) := by unfold CB; rw [Nat.zero_add, e1]
  have c2 : CB (bI (s.drop i)) (0 + 2) ↔ CB (bI s) (i + 2) := by unfold CB; rw [Nat.zero_add, e2]
  have c3 : CB (bI (s.drop i)) (0 + 3) ↔ CB (bI s) (i + 3) := by unfold CB; rw [Nat.zero_add, e3]
  rw [Nat.add_zero] at e0
  have w2 : v2 (bI (s.drop i)) 0 = v2 (bI s) i := by simp only [v2, Nat.zero_add, e0, e1]
  have w3 : v3 (bI (s.drop i)) 0 = v3 (bI s) i := by simp only [v3, Nat.zero_add, e0, e1, e2]
  have w4 : v4 (bI (s.drop i)) 0 = v4 (bI s) i := by simp only [v4, Nat.zero_add, e0, e1, e2, e3]
  cases h with
  | r1 h => rw [e0] at *; exact .r1 h
  | r2 h hn h1 hm => rw [e0] at *; rw [w2] at *; exact .r2 h (by omega) (c1.mp h1) hm
  | r3 h hn h1 h2 hm hv => rw [e0] at *; rw [w3] at *; exact .r3 h (by omega) (c1.mp h1) (c2.mp h2) hm hv
  | r4 h hn h1 h2 h3 hm hv => rw [e0] at *; rw [w4] at *; exact .r4 h (by omega) (c1.mp h1) (c2.mp h2) (c3.mp h3) hm hv
  | no h1 h2 h3 h4 =>
    rw [e0, w2] at h2
    rw [e0, w3] at h3
    rw [e0, w4] at h4
    rw [e0] at h1
    exact .no h1 (fun a b c d => h2 a b (by omega) (c1.mpr d)) (fun a b c d e => h3 a b (by omega) (c1.mpr d) (c2.mpr e)) (fun a b c d e f => h4 a b (by omega) (c1.mpr d) (c2.mpr e) (c3.mpr f))
theorem dec_drop {s : Str} {i : Nat} (hi : i < s.length) : RuneB (bI s) s.length i (dec (s.drop i)).1 (dec (s.drop i)).2 :=
  rune_drop hi (dec_rune (by rw [List.length_drop]; omega))
/-- The decoder at a place. -/
theorem dec_at {s : Str} {i : Nat} (hi : i < s.length) : ((Utf8.decode (std.strB s) i).1 : Int) = (dec (s.drop i)).1 ∧ (Utf8.decode (std.strB s) i).2 = (dec (s.drop i)).2 :=
  RuneB.uniq (decode_B (isB_bI s) hi) (dec_drop hi)
theorem dec_width {s : Str} (h : 0 < s.length) : 1 ≤ (dec s).2 ∧ (dec s).2 ≤ 4 ∧ (dec s).2 ≤ s.length := by
  have := (dec_rune h).width h
  omega
theorem dec_range {s : Str} (h : 0 < s.length) : 0 ≤ (dec s).1 ∧ (dec s).1 ≤ 1114111 :=
  (dec_rune h).range ((isB_bI s).range 0 h)
/-- Bytes as runes. -/
def runesOf (s : Str) : List Int :=
  if h : 0 < s.length then (dec s).1 :: runesOf (s.drop (dec s).2) else []
termination_by s.length
decreasing_by rw [List.length_drop]; have := dec_width h; omega
theorem runesOf_nil : runesOf [] = [] := by rw [runesOf]; rfl
theorem runesOf_cons {s : Str} (h : 0 < s.length) : runesOf s = (dec s).1 :: runesOf (s.drop (dec s).2) := by rw [runesOf, dif_pos h]
theorem runesOf_len (s : Str) : (runesOf s).length ≤ s.length := by
  rcases Nat.eq_zero_or_pos s.length with h | h
  · rw [List.length_eq_zero_iff.mp h, runesOf_nil]; simp
  · rw [runesOf_cons h]
    have := dec_width h
    have := runesOf_len (s.drop (dec s).2)
    rw [List.length_drop] at this
    simp only [List.length_cons]
    omega
termination_by s.length
decreasing_by rw [List.length_drop]; have := dec_width h; omega
def tabR (r : Int) : Int := if r = 9 then 32 else r
def clean (s : Str) : List Int := (runesOf s).map fun r => shownR (tabR r)
theorem clean_nil : clean [] = [] := by rw [clean, runesOf_nil]; rfl
theorem clean_cons {s : Str} (h : 0 < s.length) : clean s = shownR (tabR (dec s).1) :: clean (s.drop (dec s).2) := by rw [clean, runesOf_cons h]; rfl
theorem clean_len (s : Str) : (clean s).length ≤ s.length := by simpa [clean] using runesOf_len s
theorem shown_range (r : Int) : 0 ≤ shownR r ∧ shownR r ≤ 1114111 := by
  unfold shownR
  split
  · rename_i h; have := (valid_iff r).mp h.1; omega
  · omega
end Go.AW
/- Clean on both sides. -/
set_option linter.unusedVariables false
set_option linter.unusedSimpArgs false
namespace Go.AW
open Go.Proofs
set_option maxRecDepth 100000
set_option maxHeartbeats 4000000
theorem x_l1Rune (b : Str) (i : Nat) (hi : i < b.length) (hn : b.length ≤ 1099511627776) : PX Try.prog 154 (fun D u => [.r (.c (lB D u (u _ b))), AI (u _ i)]) (fun D u => [RI (u _ ((dec (b.drop i)).1)), RI (u _ ((dec (b.drop i)).2))]) (fun D u => []) :=
  px_of (con_l1Rune b.length (bI b) i _ _ (fun j hj => (isB_bI b).range j hj) hi hn (dec_drop hi))
theorem x_l1Shown (r : Int) : PX Try.prog 152 (fun D u => [AI (u _ r)]) (fun D u => [RI (u _ (shownR r))]) (fun D u => []) := px_of (con_l1Shown r _ rfl)
theorem x_shown (r : Int) : PX Try.prog 155 (fun D u => [AK .i32 (u _ r)]) (fun D u => [RK .i32 (u _ (shownR r))]) (fun D u => []) := px_of (con_shown r _ rfl)
structure ClI (b : Str) (s : Nat × List Int) : Prop where
  h1 : s.1 ≤ b.length
  h2 : s.2 ++ clean (b.drop s.1) = clean b
  h3 : s.2.length ≤ s.1
theorem ClI.step {b : Str} {s : Nat × List Int} (h : ClI b s) (hi : s.1 < b.length) : ClI b (s.1 + (dec (b.drop s.1)).2, s.2 ++ [shownR (tabR (dec (b.drop s.1)).1)]) := by
  have hp : 0 < (b.drop s.1).length := by rw [List.length_drop]; omega
  have hw := dec_width hp
  rw [List.length_drop] at hw
  refine ⟨by simp only; omega, ?_, by simp only [List.length_append, List.length_cons, List.length_nil]; have := h.h3; omega⟩
  rw [← h.h2, clean_cons hp, List.drop_drop]
  simp
theorem ClI.fin {b : Str} {s : Nat × List Int} (h : ClI b s) (hi : ¬ s.1 < b.length) : s.2 = clean b := by
  have := h.h2
  rw [List.drop_eq_nil_of_le (by omega), clean_nil, List.append_nil] at this
  exact this
theorem x_specClean (b : Str) (hn : b.length ≤ 1000000000) : PX Try.prog 115 (fun D u => [.r (.c (lB D u (u _ b)))]) (fun D u => [.c (lR D u (u _ (clean b)))]) (fun D u => []) := by
  refine px_of_awp (fn := Try.f115) (c := bodyOf Try.f115) envOk (by kernel_rfl) (by kernel_rfl) (by kernel_rfl) (by kernel_rfl) rfl (by kernel_rfl) (by kernel_rfl) ?_
  intro w0 mine D u C L hD hu hC hL
  ((try conv => cbv); (repeat' (first | (with_reducible refine mK hD ?_; kernel_rfl) | (with_reducible first | refine mS hD ?_ | refine mJ hL ?_ | refine mT hD ?_ | refine mF hD ?_ | refine mB hD (fun _ => ?_) (fun _ => ?_) | exact True.intro | refine And.intro ?_ ?_) <;> try conv => cbv)); all_goals try (first | trivial | (subst hD; first | exact fun _ _ => ⟨_, rfl⟩ | exact fl1 | exact fl1') | (((try subst hD hu); (try simp only [nc] at *); (try simp only [Int.ofNat_eq_natCast] at *); try simp (disch := omega) only [std, uid, S0] at *) <;> first | omega | rfl | (exfalso; simp_all only [Bool.true_eq_false, Bool.false_eq_true]; done))))
  refine loop_mu hL (ClI b) (fun s => b.length - s.1) (0, []) (fun s => [(3, vO D 0 (u _ (s.2))), (7, .bad), (4, VI (u _ (s.1)))]) (fun s => [(0, oR D u (u _ (s.2)))]) ⟨by simp, by simp, by simp⟩ ?_ ?_
  · ((try conv => cbv); (repeat' (first | (with_reducible refine mK hD ?_; kernel_rfl) | (with_reducible first | refine mS hD ?_ | refine mJ hL ?_ | refine mT hD ?_ | refine mF hD ?_ | refine mB hD (fun _ => ?_) (fun _ => ?_) | exact True.intro | refine And.intro ?_ ?_) <;> try conv => cbv)); all_goals try (first | trivial | (subst hD; first | exact fun _ _ => ⟨_, rfl⟩ | exact fl1 | exact fl1') | (((try subst hD hu); (try simp only [nc] at *); (try simp only [Int.ofNat_eq_natCast] at *); try simp (disch := omega) only [std, uid, S0] at *) <;> first | omega | rfl | (exfalso; simp_all only [Bool.true_eq_false, Bool.false_eq_true]; done))))
    (subst hD hu; apply qR; (focus repeat' (first | exact LR.refl | exact LR_bytes | apply mClu | apply mCel | apply mKey | apply mSnp | apply mKRd | apply mLin | apply mHis | apply mBlk | apply mScr | apply mSes | exact zR | exact zB | exact zT | exact zN | exact zClu | exact zCel | exact zCelS | exact zSnp | exact zKey | exact zSes | exact zScr | apply LR.deq | exact LR.nil | apply LR.one | apply LR.rep | apply LR.cat | apply LR.cat' | apply LR.set | exact u8_0 | exact DEq.s _ | (apply str_deq; (repeat' apply sr_cat) <;> rfl) | apply aLe_1 | (apply LR.rfl'; simp only [uid, std, S0]; omega))); all_goals try simp only [uid, std, Int.toNat_natCast, Int.ofNat_eq_natCast])
  · intro s hs
    have h1 := hs.h1
    have h3 := hs.h3
    ((try conv => cbv); (repeat' (first | (with_reducible refine mK hD ?_; kernel_rfl) | (with_reducible first | refine mS hD ?_ | refine mJ hL ?_ | refine mT hD ?_ | refine mF hD ?_ | refine mB hD (fun _ => ?_) (fun _ => ?_) | exact True.intro | refine And.intro ?_ ?_) <;> try conv => cbv)); all_goals try (first | trivial | (subst hD; first | exact fun _ _ => ⟨_, rfl⟩ | exact fl1 | exact fl1') | (((try subst hD hu); (try simp only [nc] at *); (try simp only [Int.ofNat_eq_natCast] at *); try simp (disch := omega) only [std, uid, S0] at *) <;> first | omega | rfl | (exfalso; simp_all only [Bool.true_eq_false, Bool.false_eq_true]; done))))
    · have hi : s.1 < b.length := by ((try subst hD hu); (try simp only [nc] at *); (try simp only [Int.ofNat_eq_natCast] at *); try simp (disch := omega) only [std, uid, S0] at *); omega
      have hp : 0 < (b.drop s.1).length := by rw [List.length_drop]; omega
      have hw := dec_width hp
      have hr := dec_range hp
      rw [List.length_drop] at hw
      have hst := hs.step hi
      generalize hd : dec (b.drop s.1) = d at *
      refine callx hD hu hC (x_l1Rune b s.1 hi (by omega)) ?_
      rw [hd]
      ((try conv => cbv); (repeat' (first | (with_reducible refine mK hD ?_; kernel_rfl) | (with_reducible first | refine mS hD ?_ | refine mJ hL ?_ | refine mT hD ?_ | refine mF hD ?_ | refine mB hD (fun _ => ?_) (fun _ => ?_) | exact True.intro | refine And.intro ?_ ?_) <;> try conv => cbv)); all_goals try (first | trivial | (subst hD; first | exact fun _ _ => ⟨_, rfl⟩ | exact fl1 | exact fl1') | (((try subst hD hu); (try simp only [nc] at *); (try simp only [Int.ofNat_eq_natCast] at *); try simp (disch := omega) only [std, uid, S0] at *) <;> first | omega | rfl | (exfalso; simp_all only [Bool.true_eq_false, Bool.false_eq_true]; done))))
      · have he : d.1 = 9 := by ((try subst hD hu); (try simp only [nc] at *); (try simp only [Int.ofNat_eq_natCast] at *); try simp (disch := omega) only [std, uid, S0] at *); omega
        have hsr := shown_range 32
        refine callx hD hu hC (x_l1Shown 32) ?_
        ((try conv => cbv); (repeat' (first | (with_reducible refine mK hD ?_; kernel_rfl) | (with_reducible first | refine mS hD ?_ | refine mJ hL ?_ | refine mT hD ?_ | refine mF hD ?_ | refine mB hD (fun _ => ?_) (fun _ => ?_) | exact True.intro | refine And.intro ?_ ?_) <;> try conv => cbv)); all_goals try (first | trivial | (subst hD; first | exact fun _ _ => ⟨_, rfl⟩ | exact fl1 | exact fl1') | (((try subst hD hu); (try simp only [nc] at *); (try simp only [Int.ofNat_eq_natCast] at *); try simp (disch := omega) only [std, uid, S0] at *) <;> first | omega | rfl | (exfalso; simp_all only [Bool.true_eq_false, Bool.false_eq_true]; done))))
        refine ⟨(s.1 + d.2, s.2 ++ [shownR (tabR d.1)]), hst, ssem_of ?_, by simp only; omega⟩
        ((try conv => cbv); (repeat' (first | (with_reducible refine mK hD ?_; kernel_rfl) | (with_reducible first | refine mS hD ?_ | refine mJ hL ?_ | refine mT hD ?_ | refine mF hD ?_ | refine mB hD (fun _ => ?_) (fun _ => ?_) | exact True.intro | refine And.intro ?_ ?_) <;> try conv => cbv)); all_goals try (first | trivial | (subst hD; first | exact fun _ _ => ⟨_, rfl⟩ | exact fl1 | exact fl1') | (((try subst hD hu); (try simp only [nc] at *); (try simp only [Int.ofNat_eq_natCast] at *); try simp (disch := omega) only [std, uid, S0] at *) <;> first | omega | rfl | (exfalso; simp_all only [Bool.true_eq_false, Bool.false_eq_true]; done))))
        (subst hD hu; apply qR; (focus repeat' (first | exact LR.refl | exact LR_bytes | apply mClu | apply mCel | apply mKey | apply mSnp | apply mKRd | apply mLin | apply mHis | apply mBlk | apply mScr | apply mSes | exact zR | exact zB | exact zT | exact zN | exact zClu | exact zCel | exact zCelS | exact zSnp | exact zKey | exact zSes | exact zScr | apply LR.deq | exact LR.nil | apply LR.one | apply LR.rep | apply LR.cat | apply LR.cat' | apply LR.set | exact u8_0 | exact DEq.s _ | (apply str_deq; (repeat' apply sr_cat) <;> rfl) | apply aLe_1 | (apply LR.rfl'; simp only [uid, std, S0]; omega))); all_goals try simp only [uid, std, Int.toNat_natCast, Int.ofNat_eq_natCast])
        rw [wrapI32 _ (by omega), tabR, if_pos he]
      · have he : d.1 ≠ 9 := by ((try subst hD hu); (try simp only [nc] at *); (try simp only [Int.ofNat_eq_natCast] at *); try simp (disch := omega) only [std, uid, S0] at *); omega
        have hsr := shown_range d.1
        refine callx hD hu hC (x_l1Shown d.1) ?_
        ((try conv => cbv); (repeat' (first | (with_reducible refine mK hD ?_; kernel_rfl) | (with_reducible first | refine mS hD ?_ | refine mJ hL ?_ | refine mT hD ?_ | refine mF hD ?_ | refine mB hD (fun _ => ?_) (fun _ => ?_) | exact True.intro | refine And.intro ?_ ?_) <;> try conv => cbv)); all_goals try (first | trivial | (subst hD; first | exact fun _ _ => ⟨_, rfl⟩ | exact fl1 | exact fl1') | (((try subst hD hu); (try simp only [nc] at *); (try simp only [Int.ofNat_eq_natCast] at *); try simp (disch := omega) only [std, uid, S0] at *) <;> first | omega | rfl | (exfalso; simp_all only [Bool.true_eq_false, Bool.false_eq_true]; done))))
        refine ⟨(s.1 + d.2, s.2 ++ [shownR (tabR d.1)]), hst, ssem_of ?_, by simp only; omega⟩
        ((try conv => cbv); (repeat' (first | (with_reducible refine mK hD ?_; kernel_rfl) | (with_reducible first | refine mS hD ?_ | refine mJ hL ?_ | refine mT hD ?_ | refine mF hD ?_ | refine mB hD (fun _ => ?_) (fun _ => ?_) | exact True.intro | refine And.intro ?_ ?_) <;> try conv => cbv)); all_goals try (first | trivial | (subst hD; first | exact fun _ _ => ⟨_, rfl⟩ | exact fl1 | exact fl1') | (((try subst hD hu); (try simp only [nc] at *); (try simp only [Int.ofNat_eq_natCast] at *); try simp (disch := omega) only [std, uid, S0] at *) <;> first | omega | rfl | (exfalso; simp_all only [Bool.true_eq_false, Bool.false_eq_true]; done))))
        (subst hD hu; apply qR; (focus repeat' (first | exact LR.refl | exact LR_bytes | apply mClu | apply mCel | apply mKey | apply mSnp | apply mKRd | apply mLin | apply mHis | apply mBlk | apply mScr | apply mSes | exact zR | exact zB | exact zT | exact zN | exact zClu | exact zCel | exact zCelS | exact zSnp | exact zKey | exact zSes | exact zScr | apply LR.deq | exact LR.nil | apply LR.one | apply LR.rep | apply LR.cat | apply LR.cat' | apply LR.set | exact u8_0 | exact DEq.s _ | (apply str_deq; (repeat' apply sr_cat) <;> rfl) | apply aLe_1 | (apply LR.rfl'; simp only [uid, std, S0]; omega))); all_goals try simp only [uid, std, Int.toNat_natCast, Int.ofNat_eq_natCast])
        rw [wrapI32 _ (by omega), tabR, if_neg he]
    · have he := hs.fin (by ((try subst hD hu); (try simp only [nc] at *); (try simp only [Int.ofNat_eq_natCast] at *); try simp (disch := omega) only [std, uid, S0] at *); omega)
      ((try subst hD hu); (try simp only [nc] at *); (try simp only [Int.ofNat_eq_natCast] at *); try simp (disch := omega) only [std, uid, S0, he] at *)
    · have he := hs.fin (by ((try subst hD hu); (try simp only [nc] at *); (try simp only [Int.ofNat_eq_natCast] at *); try simp (disch := omega) only [std, uid, S0] at *); omega)
      (subst hD hu; apply qR; (focus repeat' (first | exact LR.refl | exact LR_bytes | apply mClu | apply mCel | apply mKey | apply mSnp | apply mKRd | apply mLin | apply mHis | apply mBlk | apply mScr | apply mSes | exact zR | exact zB | exact zT | exact zN | exact zClu | exact zCel | exact zCelS | exact zSnp | exact zKey | exact zSes | exact zScr | apply LR.deq | exact LR.nil | apply LR.one | apply LR.rep | apply LR.cat | apply LR.cat' | apply LR.set | exact u8_0 | exact DEq.s _ | (apply str_deq; (repeat' apply sr_cat) <;> rfl) | apply aLe_1 | (apply LR.rfl'; simp only [uid, std, S0]; omega))); all_goals try simp only [uid, std, Int.toNat_natCast, Int.ofNat_eq_natCast])
      exact he
theorem x_implClean (b : Str) (hn : b.length ≤ 1000000000) : PX Try.prog 120 (fun D u => [.r (.c (lB D u (u _ b)))]) (fun D u => [.c (lR D u (u _ (clean b)))]) (fun D u => []) := by
  refine px_of_awp (fn := Try.f120) (c := bodyOf Try.f120) envOk (by kernel_rfl) (by kernel_rfl) (by kernel_rfl) (by kernel_rfl) rfl (by kernel_rfl) (by kernel_rfl) ?_
  intro w0 mine D u C L hD hu hC hL
  ((try conv => cbv); (repeat' (first | (with_reducible refine mK hD ?_; kernel_rfl) | (with_reducible first | refine mS hD ?_ | refine mJ hL ?_ | refine mT hD ?_ | refine mF hD ?_ | refine mB hD (fun _ => ?_) (fun _ => ?_) | exact True.intro | refine And.intro ?_ ?_) <;> try conv => cbv)); all_goals try (first | trivial | (subst hD; first | exact fun _ _ => ⟨_, rfl⟩ | exact fl1 | exact fl1') | (((try subst hD hu); (try simp only [nc] at *); (try simp only [Int.ofNat_eq_natCast] at *); try simp (disch := omega) only [std, uid, S0] at *) <;> first | omega | rfl | (exfalso; simp_all only [Bool.true_eq_false, Bool.false_eq_true]; done))))
  refine loop_mu hL (ClI b) (fun s => b.length - s.1) (0, []) (fun s => [(3, vO D 0 (u _ (s.2))), (8, .bad), (10, .bad)]) (fun s => [(1, .it (D.strB (u _ b)) (u _ (s.1))), (0, oR D u (u _ (s.2)))]) ⟨by simp, by simp, by simp⟩ ?_ ?_
  · ((try conv => cbv); (repeat' (first | (with_reducible refine mK hD ?_; kernel_rfl) | (with_reducible first | refine mS hD ?_ | refine mJ hL ?_ | refine mT hD ?_ | refine mF hD ?_ | refine mB hD (fun _ => ?_) (fun _ => ?_) | exact True.intro | refine And.intro ?_ ?_) <;> try conv => cbv)); all_goals try (first | trivial | (subst hD; first | exact fun _ _ => ⟨_, rfl⟩ | exact fl1 | exact fl1') | (((try subst hD hu); (try simp only [nc] at *); (try simp only [Int.ofNat_eq_natCast] at *); try simp (disch := omega) only [std, uid, S0] at *) <;> first | omega | rfl | (exfalso; simp_all only [Bool.true_eq_false, Bool.false_eq_true]; done))))
    subst hD hu
    exact sr_strF LR.refl
  · intro s hs
    have h1 := hs.h1
    have h3 := hs.h3
    ((try conv => cbv); (repeat' (first | (with_reducible refine mK hD ?_; kernel_rfl) | (with_reducible first | refine mS hD ?_ | refine mJ hL ?_ | refine mT hD ?_ | refine mF hD ?_ | refine mB hD (fun _ => ?_) (fun _ => ?_) | exact True.intro | refine And.intro ?_ ?_) <;> try conv => cbv)); all_goals try (first | trivial | (subst hD; first | exact fun _ _ => ⟨_, rfl⟩ | exact fl1 | exact fl1') | (((try subst hD hu); (try simp only [nc] at *); (try simp only [Int.ofNat_eq_natCast] at *); try simp (disch := omega) only [std, uid, S0] at *) <;> first | omega | rfl | (exfalso; simp_all only [Bool.true_eq_false, Bool.false_eq_true]; done))))
    · have hi : s.1 < b.length := by ((try subst hD hu); (try simp only [nc] at *); (try simp only [Int.ofNat_eq_natCast] at *); try simp (disch := omega) only [std, uid, S0] at *); omega
      have hp : 0 < (b.drop s.1).length := by rw [List.length_drop]; omega
      have hw := dec_width hp
      have hr := dec_range hp
      rw [List.length_drop] at hw
      have hst := hs.step hi
      obtain ⟨hda1, hda2⟩ := dec_at hi
      generalize hd : dec (b.drop s.1) = d at *
      have he : d.1 = 9 := by ((try subst hD hu); (try simp only [nc] at *); (try simp only [Int.ofNat_eq_natCast] at *); try simp (disch := omega) only [std, uid, S0] at *); omega
      refine callx hD hu hC (x_shown (32)) ?_
      ((try conv => cbv); (repeat' (first | (with_reducible refine mK hD ?_; kernel_rfl) | (with_reducible first | refine mS hD ?_ | refine mJ hL ?_ | refine mT hD ?_ | refine mF hD ?_ | refine mB hD (fun _ => ?_) (fun _ => ?_) | exact True.intro | refine And.intro ?_ ?_) <;> try conv => cbv)); all_goals try (first | trivial | (subst hD; first | exact fun _ _ => ⟨_, rfl⟩ | exact fl1 | exact fl1') | (((try subst hD hu); (try simp only [nc] at *); (try simp only [Int.ofNat_eq_natCast] at *); try simp (disch := omega) only [std, uid, S0] at *) <;> first | omega | rfl | (exfalso; simp_all only [Bool.true_eq_false, Bool.false_eq_true]; done))))
      refine ⟨(s.1 + d.2, s.2 ++ [shownR (tabR d.1)]), hst, ssem_of ?_, by simp only; omega⟩
      ((try conv => cbv); (repeat' (first | (with_reducible refine mK hD ?_; kernel_rfl) | (with_reducible first | refine mS hD ?_ | refine mJ hL ?_ | refine mT hD ?_ | refine mF hD ?_ | refine mB hD (fun _ => ?_) (fun _ => ?_) | exact True.intro | refine And.intro ?_ ?_) <;> try conv => cbv)); all_goals try (first | trivial | (subst hD; first | exact fun _ _ => ⟨_, rfl⟩ | exact fl1 | exact fl1') | (((try subst hD hu); (try simp only [nc] at *); (try simp only [Int.ofNat_eq_natCast] at *); try simp (disch := omega) only [std, uid, S0] at *) <;> first | omega | rfl | (exfalso; simp_all only [Bool.true_eq_false, Bool.false_eq_true]; done))))
      (subst hD hu; apply qR; (focus repeat' (first | exact LR.refl | exact LR_bytes | apply mClu | apply mCel | apply mKey | apply mSnp | apply mKRd | apply mLin | apply mHis | apply mBlk | apply mScr | apply mSes | exact zR | exact zB | exact zT | exact zN | exact zClu | exact zCel | exact zCelS | exact zSnp | exact zKey | exact zSes | exact zScr | apply LR.deq | exact LR.nil | apply LR.one | apply LR.rep | apply LR.cat | apply LR.cat' | apply LR.set | exact u8_0 | exact DEq.s _ | (apply str_deq; (repeat' apply sr_cat) <;> rfl) | apply aLe_1 | (apply LR.rfl'; simp only [uid, std, S0]; omega))); all_goals try simp only [uid, std, Int.toNat_natCast, Int.ofNat_eq_natCast])
      rw [tabR, if_pos he]
    · have hi : s.1 < b.length := by ((try subst hD hu); (try simp only [nc] at *); (try simp only [Int.ofNat_eq_natCast] at *); try simp (disch := omega) only [std, uid, S0] at *); omega
      have hp : 0 < (b.drop s.1).length := by rw [List.length_drop]; omega
      have hw := dec_width hp
      have hr := dec_range hp
      rw [List.length_drop] at hw
      have hst := hs.step hi
      obtain ⟨hda1, hda2⟩ := dec_at hi
      generalize hd : dec (b.drop s.1) = d at *
      have he : d.1 ≠ 9 := by ((try subst hD hu); (try simp only [nc] at *); (try simp only [Int.ofNat_eq_natCast] at *); try simp (disch := omega) only [std, uid, S0] at *); omega
      refine callx hD hu hC (x_shown (d.1)) ?_
      ((try conv => cbv); (repeat' (first | (with_reducible refine mK hD ?_; kernel_rfl) | (with_reducible first | refine mS hD ?_ | refine mJ hL ?_ | refine mT hD ?_ | refine mF hD ?_ | refine mB hD (fun _ => ?_) (fun _ => ?_) | exact True.intro | refine And.intro ?_ ?_) <;> try conv => cbv)); all_goals try (first | trivial | (subst hD; first | exact fun _ _ => ⟨_, rfl⟩ | exact fl1 | exact fl1') | (((try subst hD hu); (try simp only [nc] at *); (try simp only [Int.ofNat_eq_natCast] at *); try simp (disch := omega) only [std, uid, S0] at *) <;> first | omega | rfl | (exfalso; simp_all only [Bool.true_eq_false, Bool.false_eq_true]; done))))
      refine ⟨(s.1 + d.2, s.2 ++ [shownR (tabR d.1)]), hst, ssem_of ?_, by simp only; omega⟩
      ((try conv => cbv); (repeat' (first | (with_reducible refine mK hD ?_; kernel_rfl) | (with_reducible first | refine mS hD ?_ | refine mJ hL ?_ | refine mT hD ?_ | refine mF hD ?_ | refine mB hD (fun _ => ?_) (fun _ => ?_) | exact True.intro | refine And.intro ?_ ?_) <;> try conv => cbv)); all_goals try (first | trivial | (subst hD; first | exact fun _ _ => ⟨_, rfl⟩ | exact fl1 | exact fl1') | (((try subst hD hu); (try simp only [nc] at *); (try simp only [Int.ofNat_eq_natCast] at *); try simp (disch := omega) only [std, uid, S0] at *) <;> first | omega | rfl | (exfalso; simp_all only [Bool.true_eq_false, Bool.false_eq_true]; done))))
      (subst hD hu; apply qR; (focus repeat' (first | exact LR.refl | exact LR_bytes | apply mClu | apply mCel | apply mKey | apply mSnp | apply mKRd | apply mLin | apply mHis | apply mBlk | apply mScr | apply mSes | exact zR | exact zB | exact zT | exact zN | exact zClu | exact zCel | exact zCelS | exact zSnp | exact zKey | exact zSes | exact zScr | apply LR.deq | exact LR.nil | apply LR.one | apply LR.rep | apply LR.cat | apply LR.cat' | apply LR.set | exact u8_0 | exact DEq.s _ | (apply str_deq; (repeat' apply sr_cat) <;> rfl) | apply aLe_1 | (apply LR.rfl'; simp only [uid, std, S0]; omega))); all_goals try simp only [uid, std, Int.toNat_natCast, Int.ofNat_eq_natCast])
      rw [tabR, if_neg he]
    · have he := hs.fin (by ((try subst hD hu); (try simp only [nc] at *); (try simp only [Int.ofNat_eq_natCast] at *); try simp (disch := omega) only [std, uid, S0] at *); omega)
      ((try subst hD hu); (try simp only [nc] at *); (try simp only [Int.ofNat_eq_natCast] at *); try simp (disch := omega) only [std, uid, S0, he] at *)
    · have he := hs.fin (by ((try subst hD hu); (try simp only [nc] at *); (try simp only [Int.ofNat_eq_natCast] at *); try simp (disch := omega) only [std, uid, S0] at *); omega)
      (subst hD hu; apply qR; (focus repeat' (first | exact LR.refl | exact LR_bytes | apply mClu | apply mCel | apply mKey | apply mSnp | apply mKRd | apply mLin | apply mHis | apply mBlk | apply mScr | apply mSes | exact zR | exact zB | exact zT | exact zN | exact zClu | exact zCel | exact zCelS | exact zSnp | exact zKey | exact zSes | exact zScr | apply LR.deq | exact LR.nil | apply LR.one | apply LR.rep | apply LR.cat | apply LR.cat' | apply LR.set | exact u8_0 | exact DEq.s _ | (apply str_deq; (repeat' apply sr_cat) <;> rfl) | apply aLe_1 | (apply LR.rfl'; simp only [uid, std, S0]; omega))); all_goals try simp only [uid, std, Int.toNat_natCast, Int.ofNat_eq_natCast])
      exact he
end Go.AW
/- Clusters in lists. -/
set_option linter.unusedVariables false
set_option linter.unusedSimpArgs false
namespace Go.AW
open Go.Proofs
set_option maxRecDepth 100000
set_option maxHeartbeats 4000000
theorem x_implRuneWidth (r : Int) : PX Try.prog 156 (fun D u => [AK .i32 (u _ r)]) (fun D u => [RI (u _ (runeWidth r))]) (fun D u => []) := px_of (con_implRuneWidth r _ rfl)
theorem x_specRuneWidth (r : Int) (hr : okR r) : PX Try.prog 153 (fun D u => [AK .i32 (u _ r)]) (fun D u => [RI (u _ (runeWidth r))]) (fun D u => []) := px_of (con_specRuneWidth r _ hr rfl)
theorem runeWidth_range (r : Int) : 0 ≤ runeWidth r ∧ runeWidth r ≤ 2 := by
  unfold runeWidth
  split
  · omega
  · split <;> omega
/-- A rune behind clusters. -/
def addRune (out : List Clu) (v : Int) : List Clu :=
  if 0 < runeWidth (shownR v) then out ++ [⟨[shownR v], runeWidth (shownR v)⟩]
  else if out = [] then [⟨[9676, shownR v], 1⟩]
  else out.set (out.length - 1) { out.getD (out.length - 1) dClu with runes := (out.getD (out.length - 1) dClu).runes ++ [shownR v] }
def clusters (rs : List Int) : List Clu := rs.foldl addRune []
theorem clusters_snoc (rs : List Int) (k : Nat) (h : k < rs.length) : clusters (rs.take (k + 1)) = addRune (clusters (rs.take k)) (rs.getD k 0) := by
  rw [take_snoc rs 0 k h]
  simp [clusters]
theorem addRune_len (out : List Clu) (v : Int) : (addRune out v).length ≤ out.length + 1 := by
  unfold addRune
  split
  · simp
  · split
    · simp
    · simp
theorem foldl_take_len (rs : List Int) (k : Nat) : (clusters (rs.take k)).length ≤ k := by
  induction k with
  | zero => simp [clusters]
  | succ k ih =>
    rcases Nat.lt_or_ge k rs.length with h | h
    · rw [clusters_snoc rs k h]
      have := addRune_len (clusters (rs.take k)) (rs.getD k 0)
      omega
    · rw [List.take_of_length_le (by omega)]
      rw [List.take_of_length_le (by omega)] at ih
      omega
theorem cntL_append {α : Type} (c : α → Nat) (a b : List α) : cntL c (a ++ b) = cntL c a + cntL c b := by simp [cntL]
theorem cntL_set {α : Type} (c : α → Nat) (d : α) : ∀ (l : List α) (k : Nat) (x : α), k < l.length → cntL c (l.set k x) + c (l.getD k d) = cntL c l + c x
  | [], k, x, h => by simp at h
  | y :: l, 0, x, h => by simp [cntL]; omega
  | y :: l, k + 1, x, h => by
    have := cntL_set c d l k x (by simpa using h)
    simp only [cntL, List.set_cons_succ, List.map_cons, List.sum_cons, List.getD_cons_succ] at *
    omega
theorem addRune_cnt (out : List Clu) (v : Int) : cntL toEClu (addRune out v) ≤ cntL toEClu out + 1 ∨ (out = [] ∧ cntL toEClu (addRune out v) ≤ 2) := by
  unfold addRune
  split
  · left; rw [cntL_append]; simp [cntL, toEClu]
  · split
    · right; rename_i h; exact ⟨h, by simp [cntL, toEClu]⟩
    · left
      rename_i h
      have hp : 0 < out.length := List.length_pos_iff.mpr h
      have := cntL_set toEClu dClu out (out.length - 1) { out.getD (out.length - 1) dClu with runes := (out.getD (out.length - 1) dClu).runes ++ [shownR v] } (by omega)
      simp only [toEClu, List.length_append, List.length_cons, List.length_nil] at this ⊢
      omega
theorem addRune_ne (out : List Clu) (v : Int) : addRune out v ≠ [] := by
  unfold addRune
  split
  · simp
  · split
    · simp
    · rename_i h
      intro h2
      have := congrArg List.length h2
      rw [List.length_set] at this
      exact h (List.length_eq_zero_iff.mp this)
theorem clusters_cnt (rs : List Int) : ∀ (out : List Clu), cntL toEClu (rs.foldl addRune out) ≤ cntL toEClu out + rs.length + (if out = [] then 1 else 0) := by
  induction rs with
  | nil => intro out; simp only [List.foldl_nil, List.length_nil]; omega
  | cons v rs ih =>
    intro out
    have h1 := ih (addRune out v)
    rw [if_neg (addRune_ne out v)] at h1
    simp only [List.foldl_cons, List.length_cons]
    rcases addRune_cnt out v with h2 | ⟨rfl, h2⟩
    · split <;> omega
    · have : cntL toEClu ([] : List Clu) = 0 := rfl
      rw [if_pos rfl]; omega
theorem clusters_tot (rs : List Int) : totL toEClu (clusters rs) ≤ 2 * rs.length + 1 := by
  have h1 := clusters_cnt rs []
  have h2 := foldl_take_len rs rs.length
  rw [List.take_length] at h2
  have : cntL toEClu ([] : List Clu) = 0 := rfl
  rw [if_pos rfl] at h1
  simp only [totL]
  unfold clusters at *
  omega
theorem okI_small {n : Int} (h : 0 ≤ n ∧ n ≤ 1000000) : okI n := by unfold okI; omega
theorem okR_shown (v : Int) : okR (shownR v) := by have := shown_range v; unfold okR; omega
theorem addRune_ok {out : List Clu} (v : Int) (h : ∀ c, c ∈ out → okClu c) : ∀ c, c ∈ addRune out v → okClu c := by
  unfold addRune
  have hw := runeWidth_range (shownR v)
  split
  · intro c hc
    rcases List.mem_append.mp hc with hc | hc
    · exact h c hc
    · rw [List.mem_singleton.mp hc]
      exact ⟨fun r hr => by rw [List.mem_singleton.mp hr]; exact okR_shown v, okI_small (by simp only; omega)⟩
  · split
    · intro c hc
      rw [List.mem_singleton.mp hc]
      refine ⟨fun r hr => ?_, okI_small (by simp only; omega)⟩
      rcases List.mem_cons.mp hr with rfl | hr
      · unfold okR; omega
      · rw [List.mem_singleton.mp hr]; exact okR_shown v
    · rename_i hne
      intro c hc
      have hp : 0 < out.length := List.length_pos_iff.mpr hne
      have hm := h _ (getD_mem out dClu (out.length - 1) (by omega))
      rcases List.mem_or_eq_of_mem_set hc with hc | rfl
      · exact h c hc
      · refine ⟨fun r hr => ?_, hm.2⟩
        rcases List.mem_append.mp hr with hr | hr
        · exact hm.1 r hr
        · rw [List.mem_singleton.mp hr]; exact okR_shown v
theorem clusters_ok (rs : List Int) : ∀ c, c ∈ clusters rs → okClu c := by
  have : ∀ (rs : List Int) (out : List Clu), (∀ c, c ∈ out → okClu c) → ∀ c, c ∈ rs.foldl addRune out → okClu c := by
    intro rs
    induction rs with
    | nil => intro out h; exact h
    | cons v rs ih => intro out h; exact ih _ (addRune_ok v h)
  exact this rs [] (fun c hc => by simp at hc)
end Go.AW
/- Clusters on both sides. -/
set_option linter.unusedVariables false
set_option linter.unusedSimpArgs false
namespace Go.AW
open Go.Proofs
set_option maxRecDepth 100000
set_option maxHeartbeats 4000000
theorem clusters_last (rs : List Int) (k : Nat) (hk : k ≤ rs.length) : (clusters (rs.take k)).length ≤ k ∧ ∀ i, ((clusters (rs.take k)).getD i dClu).runes.length ≤ k + 1 := by
  refine ⟨foldl_take_len rs k, fun i => ?_⟩
  have h1 := clusters_cnt (rs.take k) []
  have : cntL toEClu ([] : List Clu) = 0 := rfl
  rw [if_pos rfl, this, List.length_take] at h1
  rcases Nat.lt_or_ge i (clusters (rs.take k)).length with h | h
  · have h2 := le_cntL toEClu (clusters (rs.take k)) _ (getD_mem _ dClu i h)
    simp only [toEClu] at h2
    unfold clusters at *
    omega
  · rw [List.getD_eq_getElem?_getD, List.getElem?_eq_none (by omega)]
    simp [dClu]
theorem x_specClusters (rs : List Int) (hn : rs.length ≤ 1000000000) (hr : ∀ r, r ∈ rs → okR r) : PX Try.prog 114 (fun D u => [.r (.c (lR D u (u _ rs)))]) (fun D u => [.c (lClu D u (u _ (clusters rs)))]) (fun D u => []) := by
  refine px_of_awp (fn := Try.f114) (c := bodyOf Try.f114) envOk (by kernel_rfl) (by kernel_rfl) (by kernel_rfl) (by kernel_rfl) rfl (by kernel_rfl) (by kernel_rfl) ?_
  intro w0 mine D u C L hD hu hC hL
  (have hset := hsA hD; have hset3 := hsB hD; have hset2 := hset; (conv at hset2 => enter [f, a, row, 1]; whnf); (conv at hset3 => enter [f, a, row, row', 1]; whnf; enter [1]; whnf); (conv at hset3 => enter [f, a, row, row', 2]; whnf))
  ((try conv => cbv); (repeat' (first | (with_reducible refine mK hD ?_; kernel_rfl) | (with_reducible first | refine mS hD ?_ | refine mJ hL ?_ | refine mT hD ?_ | refine mF hD ?_ | refine mB hD (fun _ => ?_) (fun _ => ?_) | exact True.intro | refine And.intro ?_ ?_) <;> try conv => cbv)); all_goals try (first | trivial | (subst hD; first | exact fun _ _ => ⟨_, rfl⟩ | exact fl1 | exact fl1') | (((try subst hD hu); (try simp only [nc] at *); (try simp only [Int.ofNat_eq_natCast] at *); try simp (disch := omega) only [std, uid, S0] at *) <;> first | omega | rfl | (exfalso; simp_all only [Bool.true_eq_false, Bool.false_eq_true]; done))))
  refine loop_st hL rs.length (fun k s => s = clusters (rs.take k)) [] (fun k s => [(3, vO D 0 (u _ s)), (8, .bad), (4, VI (u _ k))]) (fun k s => [(0, oClu D u (u _ s))]) rfl ?_ ?_
  · ((try conv => cbv); (repeat' (first | (with_reducible refine mK hD ?_; kernel_rfl) | (with_reducible first | refine mS hD ?_ | refine mJ hL ?_ | refine mT hD ?_ | refine mF hD ?_ | refine mB hD (fun _ => ?_) (fun _ => ?_) | exact True.intro | refine And.intro ?_ ?_) <;> try conv => cbv)); all_goals try (first | trivial | (subst hD; first | exact fun _ _ => ⟨_, rfl⟩ | exact fl1 | exact fl1') | (((try subst hD hu); (try simp only [nc] at *); (try simp only [Int.ofNat_eq_natCast] at *); try simp (disch := omega) only [std, uid, S0] at *) <;> first | omega | rfl | (exfalso; simp_all only [Bool.true_eq_false, Bool.false_eq_true]; done))))
    (subst hD hu; apply qClu; (focus repeat' (first | exact LR.refl | exact LR_bytes | apply mClu | apply mCel | apply mKey | apply mSnp | apply mKRd | apply mLin | apply mHis | apply mBlk | apply mScr | apply mSes | exact zR | exact zB | exact zT | exact zN | exact zClu | exact zCel | exact zCelS | exact zSnp | exact zKey | exact zSes | exact zScr | apply LR.deq | exact LR.nil | apply LR.one | apply LR.rep | apply LR.cat | apply LR.cat' | apply LR.set | exact u8_0 | exact DEq.s _ | (apply str_deq; (repeat' apply sr_cat) <;> rfl) | apply aLe_1 | (apply LR.rfl'; simp only [uid, std, S0]; omega))); all_goals try simp only [uid, std, Int.toNat_natCast, Int.ofNat_eq_natCast])
  · intro k s hk hs
    have hb := clusters_last rs k hk
    rw [← hs] at hb
    have hb1 := hb.1
    have hb2 := hb.2
    ((try conv => cbv); (repeat' (first | (with_reducible refine mK hD ?_; kernel_rfl) | (with_reducible first | refine mS hD ?_ | refine mJ hL ?_ | refine mT hD ?_ | refine mF hD ?_ | refine mB hD (fun _ => ?_) (fun _ => ?_) | exact True.intro | refine And.intro ?_ ?_) <;> try conv => cbv)); all_goals try (first | trivial | (subst hD; first | exact fun _ _ => ⟨_, rfl⟩ | exact fl1 | exact fl1') | (((try subst hD hu); (try simp only [nc] at *); (try simp only [Int.ofNat_eq_natCast] at *); try simp (disch := omega) only [std, uid, S0] at *) <;> first | omega | rfl | (exfalso; simp_all only [Bool.true_eq_false, Bool.false_eq_true]; done))))
    · have hkn : k < rs.length := by ((try subst hD hu); (try simp only [nc] at *); (try simp only [Int.ofNat_eq_natCast] at *); try simp (disch := omega) only [std, uid, S0] at *); omega
      have hsn := clusters_snoc rs k hkn
      rw [← hs] at hsn
      have hok := hr _ (getD_mem rs 0 k hkn)
      unfold okR at hok
      generalize hv : rs.getD k 0 = v at *
      have hsr := shown_range v
      have hw := runeWidth_range (shownR v)
      refine callx hD hu hC (x_l1Shown v) ?_
      ((try conv => cbv); (repeat' (first | (with_reducible refine mK hD ?_; kernel_rfl) | (with_reducible first | refine mS hD ?_ | refine mJ hL ?_ | refine mT hD ?_ | refine mF hD ?_ | refine mB hD (fun _ => ?_) (fun _ => ?_) | exact True.intro | refine And.intro ?_ ?_) <;> try conv => cbv)); all_goals try (first | trivial | (subst hD; first | exact fun _ _ => ⟨_, rfl⟩ | exact fl1 | exact fl1') | (((try subst hD hu); (try simp only [nc] at *); (try simp only [Int.ofNat_eq_natCast] at *); try simp (disch := omega) only [std, uid, S0] at *) <;> first | omega | rfl | (exfalso; simp_all only [Bool.true_eq_false, Bool.false_eq_true]; done))))
      all_goals try (((try subst hD hu); (try simp only [nc] at *); (try simp only [Int.ofNat_eq_natCast] at *); try simp (disch := omega) only [std, uid, S0, hv] at *); done)
      refine callx hD hu hC (x_specRuneWidth (shownR v) (okR_shown v)) ?_
      ((try conv => cbv); (repeat' (first | (with_reducible refine mK hD ?_; kernel_rfl) | (with_reducible first | refine mS hD ?_ | refine mJ hL ?_ | refine mT hD ?_ | refine mF hD ?_ | refine mB hD (fun _ => ?_) (fun _ => ?_) | exact True.intro | refine And.intro ?_ ?_) <;> try conv => cbv)); all_goals try (first | trivial | (subst hD; first | exact fun _ _ => ⟨_, rfl⟩ | exact fl1 | exact fl1') | (((try subst hD hu); (try simp only [nc] at *); (try simp only [Int.ofNat_eq_natCast] at *); try simp (disch := omega) only [std, uid, S0] at *) <;> first | omega | rfl | (exfalso; simp_all only [Bool.true_eq_false, Bool.false_eq_true]; done))))
      all_goals try (((try subst hD hu); (try simp only [nc] at *); (try simp only [Int.ofNat_eq_natCast] at *); try simp (disch := omega) only [std, uid, S0] at *); rw [wrapI32 _ (by omega)]; done)
      · have hp : 0 < runeWidth (shownR v) := by ((try subst hD hu); (try simp only [nc] at *); (try simp only [Int.ofNat_eq_natCast] at *); try simp (disch := omega) only [std, uid, S0] at *); omega
        refine ⟨k + 1, s ++ [⟨[shownR v], runeWidth (shownR v)⟩], hkn, by rw [hsn, addRune, if_pos hp], ssem_of ?_, by omega⟩
        ((try conv => cbv); (repeat' (first | (with_reducible refine mK hD ?_; kernel_rfl) | (with_reducible first | refine mS hD ?_ | refine mJ hL ?_ | refine mT hD ?_ | refine mF hD ?_ | refine mB hD (fun _ => ?_) (fun _ => ?_) | exact True.intro | refine And.intro ?_ ?_) <;> try conv => cbv)); all_goals try (first | trivial | (subst hD; first | exact fun _ _ => ⟨_, rfl⟩ | exact fl1 | exact fl1') | (((try subst hD hu); (try simp only [nc] at *); (try simp only [Int.ofNat_eq_natCast] at *); try simp (disch := omega) only [std, uid, S0] at *) <;> first | omega | rfl | (exfalso; simp_all only [Bool.true_eq_false, Bool.false_eq_true]; done))))
        (subst hD hu; apply qClu; (focus repeat' (first | exact LR.refl | exact LR_bytes | apply mClu | apply mCel | apply mKey | apply mSnp | apply mKRd | apply mLin | apply mHis | apply mBlk | apply mScr | apply mSes | exact zR | exact zB | exact zT | exact zN | exact zClu | exact zCel | exact zCelS | exact zSnp | exact zKey | exact zSes | exact zScr | apply LR.deq | exact LR.nil | apply LR.one | apply LR.rep | apply LR.cat | apply LR.cat' | apply LR.set | exact u8_0 | exact DEq.s _ | (apply str_deq; (repeat' apply sr_cat) <;> rfl) | apply aLe_1 | (apply LR.rfl'; simp only [uid, std, S0]; omega))); all_goals try simp only [uid, std, Int.toNat_natCast, Int.ofNat_eq_natCast])
        rw [wrapI32 _ (by omega)]
      all_goals (
        have hcA : ∀ (f g : Nat → List DV), D.catF (D.lenL Clu (u _ s)) f 1 g (rowN D 0 (D.subI .i64 (D.ofN (D.addN (D.lenL Clu (u _ s)) 1)) 1)) = g 0 := fun f g => by
          subst hD hu
          simp only [uid, std, catR, rowN, Int.natCast_add, Int.natCast_one]
          rw [wrap64 _ (by omega), if_pos (by omega)]
          congr 1
          omega
        have hcB := hcA
        conv at hcB => enter [f, g, 1]; cbv)
      repeat' ((first | simp only [hcB] | simp only [hset2, hset3, hset, rowN]); ((try conv => cbv); (repeat' (first | (with_reducible refine mK hD ?_; kernel_rfl) | (with_reducible first | refine mS hD ?_ | refine mJ hL ?_ | refine mT hD ?_ | refine mF hD ?_ | refine mB hD (fun _ => ?_) (fun _ => ?_) | exact True.intro | refine And.intro ?_ ?_) <;> try conv => cbv)); all_goals try (first | trivial | (subst hD; first | exact fun _ _ => ⟨_, rfl⟩ | exact fl1 | exact fl1') | (((try subst hD hu); (try simp only [nc] at *); (try simp only [Int.ofNat_eq_natCast] at *); try simp (disch := omega) only [std, uid, S0] at *) <;> first | omega | rfl | (exfalso; simp_all only [Bool.true_eq_false, Bool.false_eq_true]; done)))))
      · have h0 : s = [] := by ((try subst hD hu); (try simp only [nc] at *); (try simp only [Int.ofNat_eq_natCast] at *); try simp (disch := omega) only [std, uid, S0] at *); exact List.length_eq_zero_iff.mp (by omega)
        subst h0
        have hp : ¬ 0 < runeWidth (shownR v) := by ((try subst hD hu); (try simp only [nc] at *); (try simp only [Int.ofNat_eq_natCast] at *); try simp (disch := omega) only [std, uid, S0] at *); omega
        refine ⟨k + 1, [⟨[9676, shownR v], 1⟩], hkn, by rw [hsn, addRune, if_neg hp, if_pos rfl], ssem_of ?_, by omega⟩
        ((try conv => cbv); (repeat' (first | (with_reducible refine mK hD ?_; kernel_rfl) | (with_reducible first | refine mS hD ?_ | refine mJ hL ?_ | refine mT hD ?_ | refine mF hD ?_ | refine mB hD (fun _ => ?_) (fun _ => ?_) | exact True.intro | refine And.intro ?_ ?_) <;> try conv => cbv)); all_goals try (first | trivial | (subst hD; first | exact fun _ _ => ⟨_, rfl⟩ | exact fl1 | exact fl1') | (((try subst hD hu); (try simp only [nc] at *); (try simp only [Int.ofNat_eq_natCast] at *); try simp (disch := omega) only [std, uid, S0] at *) <;> first | omega | rfl | (exfalso; simp_all only [Bool.true_eq_false, Bool.false_eq_true]; done))))
        (subst hD hu; apply qClu; (focus repeat' (first | exact LR.refl | exact LR_bytes | apply mClu | apply mCel | apply mKey | apply mSnp | apply mKRd | apply mLin | apply mHis | apply mBlk | apply mScr | apply mSes | exact zR | exact zB | exact zT | exact zN | exact zClu | exact zCel | exact zCelS | exact zSnp | exact zKey | exact zSes | exact zScr | apply LR.deq | exact LR.nil | apply LR.one | apply LR.rep | apply LR.cat | apply LR.cat' | apply LR.set | exact u8_0 | exact DEq.s _ | (apply str_deq; (repeat' apply sr_cat) <;> rfl) | apply aLe_1 | (apply LR.rfl'; simp only [uid, std, S0]; omega))); all_goals try simp only [uid, std, Int.toNat_natCast, Int.ofNat_eq_natCast])
        rw [wrapI32 _ (by omega)]
        rfl
      · have := hb2 ((s.length : Int) - 1).toNat
        have h0 : s.length ≠ 0 := by ((try subst hD hu); (try simp only [nc] at *); (try simp only [Int.ofNat_eq_natCast] at *); try simp (disch := omega) only [std, uid, S0] at *); omega
        ((try subst hD hu); (try simp only [nc] at *); (try simp only [Int.ofNat_eq_natCast] at *); try simp (disch := omega) only [std, uid, S0] at *)
        omega
      · have h0 : s ≠ [] := by
          intro h; subst h; ((try subst hD hu); (try simp only [nc] at *); (try simp only [Int.ofNat_eq_natCast] at *); try simp (disch := omega) only [std, uid, S0] at *); omega
        have hp : ¬ 0 < runeWidth (shownR v) := by ((try subst hD hu); (try simp only [nc] at *); (try simp only [Int.ofNat_eq_natCast] at *); try simp (disch := omega) only [std, uid, S0] at *); omega
        refine ⟨k + 1, s.set (s.length - 1) { s.getD (s.length - 1) dClu with runes := (s.getD (s.length - 1) dClu).runes ++ [shownR v] }, hkn, by rw [hsn, addRune, if_neg hp, if_neg h0], ssem_of ?_, by omega⟩
        have h0' : s.length ≠ 0 := fun h => h0 (List.length_eq_zero_iff.mp h)
        ((try conv => cbv); (repeat' (first | (with_reducible refine mK hD ?_; kernel_rfl) | (with_reducible first | refine mS hD ?_ | refine mJ hL ?_ | refine mT hD ?_ | refine mF hD ?_ | refine mB hD (fun _ => ?_) (fun _ => ?_) | exact True.intro | refine And.intro ?_ ?_) <;> try conv => cbv)); all_goals try (first | trivial | (subst hD; first | exact fun _ _ => ⟨_, rfl⟩ | exact fl1 | exact fl1') | (((try subst hD hu); (try simp only [nc] at *); (try simp only [Int.ofNat_eq_natCast] at *); try simp (disch := omega) only [std, uid, S0] at *) <;> first | omega | rfl | (exfalso; simp_all only [Bool.true_eq_false, Bool.false_eq_true]; done))))
        (subst hD hu; apply qClu; (focus repeat' (first | exact LR.refl | exact LR_bytes | apply mClu | apply mCel | apply mKey | apply mSnp | apply mKRd | apply mLin | apply mHis | apply mBlk | apply mScr | apply mSes | exact zR | exact zB | exact zT | exact zN | exact zClu | exact zCel | exact zCelS | exact zSnp | exact zKey | exact zSes | exact zScr | apply LR.deq | exact LR.nil | apply LR.one | apply LR.rep | apply LR.cat | apply LR.cat' | apply LR.set | exact u8_0 | exact DEq.s _ | (apply str_deq; (repeat' apply sr_cat) <;> rfl) | apply aLe_1 | (apply LR.rfl'; simp only [uid, std, S0]; omega))); all_goals try simp only [uid, std, Int.toNat_natCast, Int.ofNat_eq_natCast])
        rw [wrapI32 _ (by omega), wrap64 _ (by omega), show ((s.length : Int) - 1).toNat = s.length - 1 by omega]
    · have e : k = rs.length := by ((try subst hD hu); (try simp only [nc] at *); (try simp only [Int.ofNat_eq_natCast] at *); try simp (disch := omega) only [std, uid, S0] at *); omega
      subst e
      rw [List.take_length] at hs
      rw [hs]
    · have e : k = rs.length := by ((try subst hD hu); (try simp only [nc] at *); (try simp only [Int.ofNat_eq_natCast] at *); try simp (disch := omega) only [std, uid, S0] at *); omega
      subst e
      rw [List.take_length] at hs
      (subst hD hu; apply qClu; (focus repeat' (first | exact LR.refl | exact LR_bytes | apply mClu | apply mCel | apply mKey | apply mSnp | apply mKRd | apply mLin | apply mHis | apply mBlk | apply mScr | apply mSes | exact zR | exact zB | exact zT | exact zN | exact zClu | exact zCel | exact zCelS | exact zSnp | exact zKey | exact zSes | exact zScr | apply LR.deq | exact LR.nil | apply LR.one | apply LR.rep | apply LR.cat | apply LR.cat' | apply LR.set | exact u8_0 | exact DEq.s _ | (apply str_deq; (repeat' apply sr_cat) <;> rfl) | apply aLe_1 | (apply LR.rfl'; simp only [uid, std, S0]; omega))); all_goals try simp only [uid, std, Int.toNat_natCast, Int.ofNat_eq_natCast])
      exact hs
theorem x_implClusters (rs : List Int) (hn : rs.length ≤ 1000000000) (hr : ∀ r, r ∈ rs → okR r) : PX Try.prog 119 (fun D u => [.r (.c (lR D u (u _ rs)))]) (fun D u => [.c (lClu D u (u _ (clusters rs)))]) (fun D u => []) := by
  refine px_of_awp (fn := Try.f119) (c := bodyOf Try.f119) envOk (by kernel_rfl) (by kernel_rfl) (by kernel_rfl) (by kernel_rfl) rfl (by kernel_rfl) (by kernel_rfl) ?_
  intro w0 mine D u C L hD hu hC hL
  (have hset := hsA hD; have hset3 := hsB hD; have hset2 := hset; (conv at hset2 => enter [f, a, row, 1]; whnf); (conv at hset3 => enter [f, a, row, row', 1]; whnf; enter [1]; whnf); (conv at hset3 => enter [f, a, row, row', 2]; whnf))
  ((try conv => cbv); (repeat' (first | (with_reducible refine mK hD ?_; kernel_rfl) | (with_reducible first | refine mS hD ?_ | refine mJ hL ?_ | refine mT hD ?_ | refine mF hD ?_ | refine mB hD (fun _ => ?_) (fun _ => ?_) | exact True.intro | refine And.intro ?_ ?_) <;> try conv => cbv)); all_goals try (first | trivial | (subst hD; first | exact fun _ _ => ⟨_, rfl⟩ | exact fl1 | exact fl1') | (((try subst hD hu); (try simp only [nc] at *); (try simp only [Int.ofNat_eq_natCast] at *); try simp (disch := omega) only [std, uid, S0] at *) <;> first | omega | rfl | (exfalso; simp_all only [Bool.true_eq_false, Bool.false_eq_true]; done))))
  refine loop_st hL rs.length (fun k s => s = clusters (rs.take k)) [] (fun k s => [(3, vO D 0 (u _ s)), (9, .bad), (12, VI (u _ k))]) (fun k s => [(0, oClu D u (u _ s))]) rfl ?_ ?_
  · ((try conv => cbv); (repeat' (first | (with_reducible refine mK hD ?_; kernel_rfl) | (with_reducible first | refine mS hD ?_ | refine mJ hL ?_ | refine mT hD ?_ | refine mF hD ?_ | refine mB hD (fun _ => ?_) (fun _ => ?_) | exact True.intro | refine And.intro ?_ ?_) <;> try conv => cbv)); all_goals try (first | trivial | (subst hD; first | exact fun _ _ => ⟨_, rfl⟩ | exact fl1 | exact fl1') | (((try subst hD hu); (try simp only [nc] at *); (try simp only [Int.ofNat_eq_natCast] at *); try simp (disch := omega) only [std, uid, S0] at *) <;> first | omega | rfl | (exfalso; simp_all only [Bool.true_eq_false, Bool.false_eq_true]; done))))
    (subst hD hu; apply qClu; (focus repeat' (first | exact LR.refl | exact LR_bytes | apply mClu | apply mCel | apply mKey | apply mSnp | apply mKRd | apply mLin | apply mHis | apply mBlk | apply mScr | apply mSes | exact zR | exact zB | exact zT | exact zN | exact zClu | exact zCel | exact zCelS | exact zSnp | exact zKey | exact zSes | exact zScr | apply LR.deq | exact LR.nil | apply LR.one | apply LR.rep | apply LR.cat | apply LR.cat' | apply LR.set | exact u8_0 | exact DEq.s _ | (apply str_deq; (repeat' apply sr_cat) <;> rfl) | apply aLe_1 | (apply LR.rfl'; simp only [uid, std, S0]; omega))); all_goals try simp only [uid, std, Int.toNat_natCast, Int.ofNat_eq_natCast])
  · intro k s hk hs
    have hb := clusters_last rs k hk
    rw [← hs] at hb
    have hb1 := hb.1
    have hb2 := hb.2
    ((try conv => cbv); (repeat' (first | (with_reducible refine mK hD ?_; kernel_rfl) | (with_reducible first | refine mS hD ?_ | refine mJ hL ?_ | refine mT hD ?_ | refine mF hD ?_ | refine mB hD (fun _ => ?_) (fun _ => ?_) | exact True.intro | refine And.intro ?_ ?_) <;> try conv => cbv)); all_goals try (first | trivial | (subst hD; first | exact fun _ _ => ⟨_, rfl⟩ | exact fl1 | exact fl1') | (((try subst hD hu); (try simp only [nc] at *); (try simp only [Int.ofNat_eq_natCast] at *); try simp (disch := omega) only [std, uid, S0] at *) <;> first | omega | rfl | (exfalso; simp_all only [Bool.true_eq_false, Bool.false_eq_true]; done))))
    · have hkn : k < rs.length := by ((try subst hD hu); (try simp only [nc] at *); (try simp only [Int.ofNat_eq_natCast] at *); try simp (disch := omega) only [std, uid, S0] at *); omega
      have hsn := clusters_snoc rs k hkn
      rw [← hs] at hsn
      have hok := hr _ (getD_mem rs 0 k hkn)
      unfold okR at hok
      generalize hv : rs.getD k 0 = v at *
      have hsr := shown_range v
      have hw := runeWidth_range (shownR v)
      refine callx hD hu hC (x_shown v) ?_
      ((try conv => cbv); (repeat' (first | (with_reducible refine mK hD ?_; kernel_rfl) | (with_reducible first | refine mS hD ?_ | refine mJ hL ?_ | refine mT hD ?_ | refine mF hD ?_ | refine mB hD (fun _ => ?_) (fun _ => ?_) | exact True.intro | refine And.intro ?_ ?_) <;> try conv => cbv)); all_goals try (first | trivial | (subst hD; first | exact fun _ _ => ⟨_, rfl⟩ | exact fl1 | exact fl1') | (((try subst hD hu); (try simp only [nc] at *); (try simp only [Int.ofNat_eq_natCast] at *); try simp (disch := omega) only [std, uid, S0] at *) <;> first | omega | rfl | (exfalso; simp_all only [Bool.true_eq_false, Bool.false_eq_true]; done))))
      all_goals try (((try subst hD hu); (try simp only [nc] at *); (try simp only [Int.ofNat_eq_natCast] at *); try simp (disch := omega) only [std, uid, S0, hv] at *); done)
      refine callx hD hu hC (x_implRuneWidth (shownR v)) ?_
      ((try conv => cbv); (repeat' (first | (with_reducible refine mK hD ?_; kernel_rfl) | (with_reducible first | refine mS hD ?_ | refine mJ hL ?_ | refine mT hD ?_ | refine mF hD ?_ | refine mB hD (fun _ => ?_) (fun _ => ?_) | exact True.intro | refine And.intro ?_ ?_) <;> try conv => cbv)); all_goals try (first | trivial | (subst hD; first | exact fun _ _ => ⟨_, rfl⟩ | exact fl1 | exact fl1') | (((try subst hD hu); (try simp only [nc] at *); (try simp only [Int.ofNat_eq_natCast] at *); try simp (disch := omega) only [std, uid, S0] at *) <;> first | omega | rfl | (exfalso; simp_all only [Bool.true_eq_false, Bool.false_eq_true]; done))))
      · have hp : 0 < runeWidth (shownR v) := by ((try subst hD hu); (try simp only [nc] at *); (try simp only [Int.ofNat_eq_natCast] at *); try simp (disch := omega) only [std, uid, S0] at *); omega
        refine ⟨k + 1, s ++ [⟨[shownR v], runeWidth (shownR v)⟩], hkn, by rw [hsn, addRune, if_pos hp], ssem_of ?_, by omega⟩
        ((try conv => cbv); (repeat' (first | (with_reducible refine mK hD ?_; kernel_rfl) | (with_reducible first | refine mS hD ?_ | refine mJ hL ?_ | refine mT hD ?_ | refine mF hD ?_ | refine mB hD (fun _ => ?_) (fun _ => ?_) | exact True.intro | refine And.intro ?_ ?_) <;> try conv => cbv)); all_goals try (first | trivial | (subst hD; first | exact fun _ _ => ⟨_, rfl⟩ | exact fl1 | exact fl1') | (((try subst hD hu); (try simp only [nc] at *); (try simp only [Int.ofNat_eq_natCast] at *); try simp (disch := omega) only [std, uid, S0] at *) <;> first | omega | rfl | (exfalso; simp_all only [Bool.true_eq_false, Bool.false_eq_true]; done))))
        (subst hD hu; apply qClu; (focus repeat' (first | exact LR.refl | exact LR_bytes | apply mClu | apply mCel | apply mKey | apply mSnp | apply mKRd | apply mLin | apply mHis | apply mBlk | apply mScr | apply mSes | exact zR | exact zB | exact zT | exact zN | exact zClu | exact zCel | exact zCelS | exact zSnp | exact zKey | exact zSes | exact zScr | apply LR.deq | exact LR.nil | apply LR.one | apply LR.rep | apply LR.cat | apply LR.cat' | apply LR.set | exact u8_0 | exact DEq.s _ | (apply str_deq; (repeat' apply sr_cat) <;> rfl) | apply aLe_1 | (apply LR.rfl'; simp only [uid, std, S0]; omega))); all_goals try simp only [uid, std, Int.toNat_natCast, Int.ofNat_eq_natCast])
      all_goals (
        have hcA : ∀ (f g : Nat → List DV), D.catF (D.lenL Clu (u _ s)) f 1 g (rowN D 0 (D.subI .i64 (D.ofN (D.addN (D.lenL Clu (u _ s)) 1)) 1)) = g 0 := fun f g => by
          subst hD hu
          simp only [uid, std, catR, rowN, Int.natCast_add, Int.natCast_one]
          rw [wrap64 _ (by omega), if_pos (by omega)]
          congr 1
          omega
        have hcB := hcA
        conv at hcB => enter [f, g, 1]; cbv)
      repeat' ((first | simp only [hcB] | simp only [hset2, hset3, hset, rowN]); ((try conv => cbv); (repeat' (first | (with_reducible refine mK hD ?_; kernel_rfl) | (with_reducible first | refine mS hD ?_ | refine mJ hL ?_ | refine mT hD ?_ | refine mF hD ?_ | refine mB hD (fun _ => ?_) (fun _ => ?_) | exact True.intro | refine And.intro ?_ ?_) <;> try conv => cbv)); all_goals try (first | trivial | (subst hD; first | exact fun _ _ => ⟨_, rfl⟩ | exact fl1 | exact fl1') | (((try subst hD hu); (try simp only [nc] at *); (try simp only [Int.ofNat_eq_natCast] at *); try simp (disch := omega) only [std, uid, S0] at *) <;> first | omega | rfl | (exfalso; simp_all only [Bool.true_eq_false, Bool.false_eq_true]; done)))))
      · have h0 : s = [] := by ((try subst hD hu); (try simp only [nc] at *); (try simp only [Int.ofNat_eq_natCast] at *); try simp (disch := omega) only [std, uid, S0] at *); exact List.length_eq_zero_iff.mp (by omega)
        subst h0
        have hp : ¬ 0 < runeWidth (shownR v) := by ((try subst hD hu); (try simp only [nc] at *); (try simp only [Int.ofNat_eq_natCast] at *); try simp (disch := omega) only [std, uid, S0] at *); omega
        refine ⟨k + 1, [⟨[9676, shownR v], 1⟩], hkn, by rw [hsn, addRune, if_neg hp, if_pos rfl], ssem_of ?_, by omega⟩
        ((try conv => cbv); (repeat' (first | (with_reducible refine mK hD ?_; kernel_rfl) | (with_reducible first | refine mS hD ?_ | refine mJ hL ?_ | refine mT hD ?_ | refine mF hD ?_ | refine mB hD (fun _ => ?_) (fun _ => ?_) | exact True.intro | refine And.intro ?_ ?_) <;> try conv => cbv)); all_goals try (first | trivial | (subst hD; first | exact fun _ _ => ⟨_, rfl⟩ | exact fl1 | exact fl1') | (((try subst hD hu); (try simp only [nc] at *); (try simp only [Int.ofNat_eq_natCast] at *); try simp (disch := omega) only [std, uid, S0] at *) <;> first | omega | rfl | (exfalso; simp_all only [Bool.true_eq_false, Bool.false_eq_true]; done))))
        (subst hD hu; apply qClu; (focus repeat' (first | exact LR.refl | exact LR_bytes | apply mClu | apply mCel | apply mKey | apply mSnp | apply mKRd | apply mLin | apply mHis | apply mBlk | apply mScr | apply mSes | exact zR | exact zB | exact zT | exact zN | exact zClu | exact zCel | exact zCelS | exact zSnp | exact zKey | exact zSes | exact zScr | apply LR.deq | exact LR.nil | apply LR.one | apply LR.rep | apply LR.cat | apply LR.cat' | apply LR.set | exact u8_0 | exact DEq.s _ | (apply str_deq; (repeat' apply sr_cat) <;> rfl) | apply aLe_1 | (apply LR.rfl'; simp only [uid, std, S0]; omega))); all_goals try simp only [uid, std, Int.toNat_natCast, Int.ofNat_eq_natCast])
        rfl
      · have := hb2 ((s.length : Int) - 1).toNat
        have h0 : s.length ≠ 0 := by ((try subst hD hu); (try simp only [nc] at *); (try simp only [Int.ofNat_eq_natCast] at *); try simp (disch := omega) only [std, uid, S0] at *); omega
        ((try subst hD hu); (try simp only [nc] at *); (try simp only [Int.ofNat_eq_natCast] at *); try simp (disch := omega) only [std, uid, S0] at *)
        omega
      · have h0 : s ≠ [] := by
          intro h; subst h; ((try subst hD hu); (try simp only [nc] at *); (try simp only [Int.ofNat_eq_natCast] at *); try simp (disch := omega) only [std, uid, S0] at *); omega
        have hp : ¬ 0 < runeWidth (shownR v) := by ((try subst hD hu); (try simp only [nc] at *); (try simp only [Int.ofNat_eq_natCast] at *); try simp (disch := omega) only [std, uid, S0] at *); omega
        refine ⟨k + 1, s.set (s.length - 1) { s.getD (s.length - 1) dClu with runes := (s.getD (s.length - 1) dClu).runes ++ [shownR v] }, hkn, by rw [hsn, addRune, if_neg hp, if_neg h0], ssem_of ?_, by omega⟩
        have h0' : s.length ≠ 0 := fun h => h0 (List.length_eq_zero_iff.mp h)
        ((try conv => cbv); (repeat' (first | (with_reducible refine mK hD ?_; kernel_rfl) | (with_reducible first | refine mS hD ?_ | refine mJ hL ?_ | refine mT hD ?_ | refine mF hD ?_ | refine mB hD (fun _ => ?_) (fun _ => ?_) | exact True.intro | refine And.intro ?_ ?_) <;> try conv => cbv)); all_goals try (first | trivial | (subst hD; first | exact fun _ _ => ⟨_, rfl⟩ | exact fl1 | exact fl1') | (((try subst hD hu); (try simp only [nc] at *); (try simp only [Int.ofNat_eq_natCast] at *); try simp (disch := omega) only [std, uid, S0] at *) <;> first | omega | rfl | (exfalso; simp_all only [Bool.true_eq_false, Bool.false_eq_true]; done))))
        (subst hD hu; apply qClu; (focus repeat' (first | exact LR.refl | exact LR_bytes | apply mClu | apply mCel | apply mKey | apply mSnp | apply mKRd | apply mLin | apply mHis | apply mBlk | apply mScr | apply mSes | exact zR | exact zB | exact zT | exact zN | exact zClu | exact zCel | exact zCelS | exact zSnp | exact zKey | exact zSes | exact zScr | apply LR.deq | exact LR.nil | apply LR.one | apply LR.rep | apply LR.cat | apply LR.cat' | apply LR.set | exact u8_0 | exact DEq.s _ | (apply str_deq; (repeat' apply sr_cat) <;> rfl) | apply aLe_1 | (apply LR.rfl'; simp only [uid, std, S0]; omega))); all_goals try simp only [uid, std, Int.toNat_natCast, Int.ofNat_eq_natCast])
        rw [wrap64 _ (by omega), show ((s.length : Int) - 1).toNat = s.length - 1 by omega]
    · have e : k = rs.length := by ((try subst hD hu); (try simp only [nc] at *); (try simp only [Int.ofNat_eq_natCast] at *); try simp (disch := omega) only [std, uid, S0] at *); omega
      subst e
      rw [List.take_length] at hs
      rw [hs]
    · have e : k = rs.length := by ((try subst hD hu); (try simp only [nc] at *); (try simp only [Int.ofNat_eq_natCast] at *); try simp (disch := omega) only [std, uid, S0] at *); omega
      subst e
      rw [List.take_length] at hs
      (subst hD hu; apply qClu; (focus repeat' (first | exact LR.refl | exact LR_bytes | apply mClu | apply mCel | apply mKey | apply mSnp | apply mKRd | apply mLin | apply mHis | apply mBlk | apply mScr | apply mSes | exact zR | exact zB | exact zT | exact zN | exact zClu | exact zCel | exact zCelS | exact zSnp | exact zKey | exact zSes | exact zScr | apply LR.deq | exact LR.nil | apply LR.one | apply LR.rep | apply LR.cat | apply LR.cat' | apply LR.set | exact u8_0 | exact DEq.s _ | (apply str_deq; (repeat' apply sr_cat) <;> rfl) | apply aLe_1 | (apply LR.rfl'; simp only [uid, std, S0]; omega))); all_goals try simp only [uid, std, Int.toNat_natCast, Int.ofNat_eq_natCast])
      exact hs
end Go.AW
/- Settle on both sides. -/
set_option linter.unusedVariables false
set_option linter.unusedSimpArgs false
namespace Go.AW
open Go.Proofs
set_option maxRecDepth 100000
set_option maxHeartbeats 4000000
def cutT (s : Str) : List Clu := clusters (clean s)
def settleT (s : Str) : Str := textOf (cutT s)
theorem clean_ok (s : Str) : ∀ r, r ∈ clean s → okR r := by
  intro r hr
  obtain ⟨x, _, rfl⟩ := List.mem_map.mp hr
  exact okR_shown _
theorem cut_ok (s : Str) : ∀ c, c ∈ cutT s → okClu c := clusters_ok _
theorem cut_tot (s : Str) : totL toEClu (cutT s) ≤ 2 * s.length + 1 := by
  have h1 := clusters_tot (clean s)
  have h2 := clean_len s
  unfold cutT
  omega
theorem settle_len (s : Str) : (settleT s).length ≤ 8 * s.length + 4 := by
  have h1 := cut_tot s
  have h2 := textOf_len (cutT s)
  simp only [totL] at h1
  unfold settleT
  omega
theorem x_clustersOf (s : Str) (hn : s.length ≤ 100000000) : PX Try.prog 61 (fun D u => [.r (.c (.s (.string (D.strB (u _ s)))))]) (fun D u => [.c (lClu D u (u _ (cutT s)))]) (fun D u => []) := by
  refine px_of_awp (fn := Try.f61) (c := bodyOf Try.f61) envOk (by kernel_rfl) (by kernel_rfl) (by kernel_rfl) (by kernel_rfl) rfl (by kernel_rfl) (by kernel_rfl) ?_
  intro w0 mine D u C L hD hu hC hL
  have h1 := clean_len s
  ((try conv => cbv); (repeat' (first | (with_reducible refine mK hD ?_; kernel_rfl) | (with_reducible first | refine mS hD ?_ | refine mJ hL ?_ | refine mT hD ?_ | refine mF hD ?_ | refine mB hD (fun _ => ?_) (fun _ => ?_) | exact True.intro | refine And.intro ?_ ?_) <;> try conv => cbv)); all_goals try (first | trivial | (subst hD; first | exact fun _ _ => ⟨_, rfl⟩ | exact fl1 | exact fl1') | (((try subst hD hu); (try simp only [nc] at *); (try simp only [Int.ofNat_eq_natCast] at *); try simp (disch := omega) only [std, uid, S0] at *) <;> first | omega | rfl | (exfalso; simp_all only [Bool.true_eq_false, Bool.false_eq_true]; done))))
  refine callx hD hu hC (x_implClean s (by omega)) ?_
  ((try conv => cbv); (repeat' (first | (with_reducible refine mK hD ?_; kernel_rfl) | (with_reducible first | refine mS hD ?_ | refine mJ hL ?_ | refine mT hD ?_ | refine mF hD ?_ | refine mB hD (fun _ => ?_) (fun _ => ?_) | exact True.intro | refine And.intro ?_ ?_) <;> try conv => cbv)); all_goals try (first | trivial | (subst hD; first | exact fun _ _ => ⟨_, rfl⟩ | exact fl1 | exact fl1') | (((try subst hD hu); (try simp only [nc] at *); (try simp only [Int.ofNat_eq_natCast] at *); try simp (disch := omega) only [std, uid, S0] at *) <;> first | omega | rfl | (exfalso; simp_all only [Bool.true_eq_false, Bool.false_eq_true]; done))))
  refine callx hD hu hC (x_implClusters (clean s) (by omega) (clean_ok s)) ?_
  ((try conv => cbv); (repeat' (first | (with_reducible refine mK hD ?_; kernel_rfl) | (with_reducible first | refine mS hD ?_ | refine mJ hL ?_ | refine mT hD ?_ | refine mF hD ?_ | refine mB hD (fun _ => ?_) (fun _ => ?_) | exact True.intro | refine And.intro ?_ ?_) <;> try conv => cbv)); all_goals try (first | trivial | (subst hD; first | exact fun _ _ => ⟨_, rfl⟩ | exact fl1 | exact fl1') | (((try subst hD hu); (try simp only [nc] at *); (try simp only [Int.ofNat_eq_natCast] at *); try simp (disch := omega) only [std, uid, S0] at *) <;> first | omega | rfl | (exfalso; simp_all only [Bool.true_eq_false, Bool.false_eq_true]; done))))
theorem x_implSettle (s : Str) (hn : s.length ≤ 100000000) : PX Try.prog 111 (fun D u => [.r (.c (.s (.string (D.strB (u _ s)))))]) (fun D u => [.c (.s (.string (D.strB (u _ (settleT s)))))]) (fun D u => []) := by
  refine px_of_awp (fn := Try.f111) (c := bodyOf Try.f111) envOk (by kernel_rfl) (by kernel_rfl) (by kernel_rfl) (by kernel_rfl) rfl (by kernel_rfl) (by kernel_rfl) ?_
  intro w0 mine D u C L hD hu hC hL
  have h1 := cut_tot s
  ((try conv => cbv); (repeat' (first | (with_reducible refine mK hD ?_; kernel_rfl) | (with_reducible first | refine mS hD ?_ | refine mJ hL ?_ | refine mT hD ?_ | refine mF hD ?_ | refine mB hD (fun _ => ?_) (fun _ => ?_) | exact True.intro | refine And.intro ?_ ?_) <;> try conv => cbv)); all_goals try (first | trivial | (subst hD; first | exact fun _ _ => ⟨_, rfl⟩ | exact fl1 | exact fl1') | (((try subst hD hu); (try simp only [nc] at *); (try simp only [Int.ofNat_eq_natCast] at *); try simp (disch := omega) only [std, uid, S0] at *) <;> first | omega | rfl | (exfalso; simp_all only [Bool.true_eq_false, Bool.false_eq_true]; done))))
  refine callx hD hu hC (x_clustersOf s hn) ?_
  ((try conv => cbv); (repeat' (first | (with_reducible refine mK hD ?_; kernel_rfl) | (with_reducible first | refine mS hD ?_ | refine mJ hL ?_ | refine mT hD ?_ | refine mF hD ?_ | refine mB hD (fun _ => ?_) (fun _ => ?_) | exact True.intro | refine And.intro ?_ ?_) <;> try conv => cbv)); all_goals try (first | trivial | (subst hD; first | exact fun _ _ => ⟨_, rfl⟩ | exact fl1 | exact fl1') | (((try subst hD hu); (try simp only [nc] at *); (try simp only [Int.ofNat_eq_natCast] at *); try simp (disch := omega) only [std, uid, S0] at *) <;> first | omega | rfl | (exfalso; simp_all only [Bool.true_eq_false, Bool.false_eq_true]; done))))
  refine callx hD hu hC (x_implTextOf (cutT s) (by omega) (cut_ok s)) ?_
  ((try conv => cbv); (repeat' (first | (with_reducible refine mK hD ?_; kernel_rfl) | (with_reducible first | refine mS hD ?_ | refine mJ hL ?_ | refine mT hD ?_ | refine mF hD ?_ | refine mB hD (fun _ => ?_) (fun _ => ?_) | exact True.intro | refine And.intro ?_ ?_) <;> try conv => cbv)); all_goals try (first | trivial | (subst hD; first | exact fun _ _ => ⟨_, rfl⟩ | exact fl1 | exact fl1') | (((try subst hD hu); (try simp only [nc] at *); (try simp only [Int.ofNat_eq_natCast] at *); try simp (disch := omega) only [std, uid, S0] at *) <;> first | omega | rfl | (exfalso; simp_all only [Bool.true_eq_false, Bool.false_eq_true]; done))))
theorem x_specSettle (s : Str) (hn : s.length ≤ 100000000) : PX Try.prog 71 (fun D u => [.r (.c (.s (.string (D.strB (u _ s)))))]) (fun D u => [.c (.s (.string (D.strB (u _ (settleT s)))))]) (fun D u => []) := by
  refine px_of_awp (fn := Try.f71) (c := bodyOf Try.f71) envOk (by kernel_rfl) (by kernel_rfl) (by kernel_rfl) (by kernel_rfl) rfl (by kernel_rfl) (by kernel_rfl) ?_
  intro w0 mine D u C L hD hu hC hL
  have h1 := cut_tot s
  have h2 := clean_len s
  ((try conv => cbv); (repeat' (first | (with_reducible refine mK hD ?_; kernel_rfl) | (with_reducible first | refine mS hD ?_ | refine mJ hL ?_ | refine mT hD ?_ | refine mF hD ?_ | refine mB hD (fun _ => ?_) (fun _ => ?_) | exact True.intro | refine And.intro ?_ ?_) <;> try conv => cbv)); all_goals try (first | trivial | (subst hD; first | exact fun _ _ => ⟨_, rfl⟩ | exact fl1 | exact fl1') | (((try subst hD hu); (try simp only [nc] at *); (try simp only [Int.ofNat_eq_natCast] at *); try simp (disch := omega) only [std, uid, S0] at *) <;> first | omega | rfl | (exfalso; simp_all only [Bool.true_eq_false, Bool.false_eq_true]; done))))
  refine callx hD hu hC (x_specClean s (by omega)) ?_
  ((try conv => cbv); (repeat' (first | (with_reducible refine mK hD ?_; kernel_rfl) | (with_reducible first | refine mS hD ?_ | refine mJ hL ?_ | refine mT hD ?_ | refine mF hD ?_ | refine mB hD (fun _ => ?_) (fun _ => ?_) | exact True.intro | refine And.intro ?_ ?_) <;> try conv => cbv)); all_goals try (first | trivial | (subst hD; first | exact fun _ _ => ⟨_, rfl⟩ | exact fl1 | exact fl1') | (((try subst hD hu); (try simp only [nc] at *); (try simp only [Int.ofNat_eq_natCast] at *); try simp (disch := omega) only [std, uid, S0] at *) <;> first | omega | rfl | (exfalso; simp_all only [Bool.true_eq_false, Bool.false_eq_true]; done))))
  refine callx hD hu hC (x_specClusters (clean s) (by omega) (clean_ok s)) ?_
  ((try conv => cbv); (repeat' (first | (with_reducible refine mK hD ?_; kernel_rfl) | (with_reducible first | refine mS hD ?_ | refine mJ hL ?_ | refine mT hD ?_ | refine mF hD ?_ | refine mB hD (fun _ => ?_) (fun _ => ?_) | exact True.intro | refine And.intro ?_ ?_) <;> try conv => cbv)); all_goals try (first | trivial | (subst hD; first | exact fun _ _ => ⟨_, rfl⟩ | exact fl1 | exact fl1') | (((try subst hD hu); (try simp only [nc] at *); (try simp only [Int.ofNat_eq_natCast] at *); try simp (disch := omega) only [std, uid, S0] at *) <;> first | omega | rfl | (exfalso; simp_all only [Bool.true_eq_false, Bool.false_eq_true]; done))))
  refine callx hD hu hC (x_specTextOf (cutT s) (by omega) (cut_ok s)) ?_
  ((try conv => cbv); (repeat' (first | (with_reducible refine mK hD ?_; kernel_rfl) | (with_reducible first | refine mS hD ?_ | refine mJ hL ?_ | refine mT hD ?_ | refine mF hD ?_ | refine mB hD (fun _ => ?_) (fun _ => ?_) | exact True.intro | refine And.intro ?_ ?_) <;> try conv => cbv)); all_goals try (first | trivial | (subst hD; first | exact fun _ _ => ⟨_, rfl⟩ | exact fl1 | exact fl1') | (((try subst hD hu); (try simp only [nc] at *); (try simp only [Int.ofNat_eq_natCast] at *); try simp (disch := omega) only [std, uid, S0] at *) <;> first | omega | rfl | (exfalso; simp_all only [Bool.true_eq_false, Bool.false_eq_true]; done))))
end Go.AW
/- Wrap: the plain part. -/
set_option linter.unusedVariables false
set_option linter.unusedSimpArgs false
namespace Go.AW
open Go.Proofs
set_option maxRecDepth 100000
set_option maxHeartbeats 4000000
/-- The width of a cluster, brought into 0 .. 1000. -/
def wideC (c : Clu) : Int := if c.width < 0 then 0 else if 1000 < c.width then 1000 else c.width
theorem wideC_range (c : Clu) : 0 ≤ wideC c ∧ wideC c ≤ 1000 := by
  unfold wideC
  split
  · omega
  · split <;> omega
def lastI (l : List Int) : Int := l.getD (l.length - 1) 0
def stStep (cols : Int) (cs : List Clu) (s : List Int × Int) (i : Nat) : List Int × Int :=
  if lastI s.1 < i ∧ cols < s.2 + wideC (cs.getD i dClu) then (s.1 ++ [(i : Int)], wideC (cs.getD i dClu)) else (s.1, s.2 + wideC (cs.getD i dClu))
/-- The places where rows begin, and the width of the last one, behind k clusters. -/
def stF (cols : Int) (cs : List Clu) : Nat → List Int × Int
  | 0 => ([0], 0)
  | k + 1 => stStep cols cs (stF cols cs k) k
def starts (cs : List Clu) (cols : Int) : List Int := (stF cols cs cs.length).1
structure StI (k : Nat) (s : List Int × Int) : Prop where
  pos : 0 < s.1.length
  len : s.1.length ≤ k + 1
  rng : ∀ i, i < s.1.length → 0 ≤ s.1.getD i 0 ∧ s.1.getD i 0 ≤ k
  inc : ∀ i, i + 1 < s.1.length → s.1.getD i 0 < s.1.getD (i + 1) 0
  used : 0 ≤ s.2 ∧ s.2 ≤ 1000 * k
theorem getD_app_l {α : Type} (a b : List α) (d : α) (i : Nat) (h : i < a.length) : (a ++ b).getD i d = a.getD i d := by
  simp [List.getD_eq_getElem?_getD, List.getElem?_append_left h]
theorem getD_app_r {α : Type} (a b : List α) (d : α) (i : Nat) (h : a.length ≤ i) : (a ++ b).getD i d = b.getD (i - a.length) d := by
  simp [List.getD_eq_getElem?_getD, List.getElem?_append_right h]
theorem StI.last {k : Nat} {s : List Int × Int} (h : StI k s) : 0 ≤ lastI s.1 ∧ lastI s.1 ≤ k := h.rng _ (by have := h.pos; omega)
theorem stF_inv (cols : Int) (cs : List Clu) : ∀ k, StI k (stF cols cs k)
  | 0 => ⟨by simp [stF], by simp [stF], fun i hi => by
      have : i = 0 := by simp [stF] at hi; exact hi
      subst this; simp [stF], fun i hi => by simp [stF] at hi, by simp [stF]⟩
  | k + 1 => by
    have h := stF_inv cols cs k
    have hw := wideC_range (cs.getD k dClu)
    have hl := h.last
    have hu := h.used
    simp only [stF, stStep]
    generalize stF cols cs k = s at *
    obtain ⟨st, used⟩ := s
    simp only at *
    have hp := h.pos
    have hlen := h.len
    simp only at hp hlen
    split
    · rename_i hc
      refine ⟨by simp, by simp only [List.length_append, List.length_singleton]; omega, fun i hi => ?_, fun i hi => ?_, by simp only; omega⟩
      · rcases Nat.lt_or_ge i st.length with q | q
        · simp only [getD_app_l _ _ _ _ q]; have := h.rng i q; simp only at this; omega
        · simp only [getD_app_r _ _ _ _ q, List.length_append, List.length_singleton] at hi ⊢
          rw [show i - st.length = 0 by omega]; simp; omega
      · simp only [List.length_append, List.length_singleton] at hi
        rcases Nat.lt_or_ge (i + 1) st.length with q | q
        · simp only []
          rw [getD_app_l _ _ _ _ q, getD_app_l st [(k : Int)] _ i (by omega)]; exact h.inc i q
        · simp only []
          rw [getD_app_r _ _ _ _ q, getD_app_l st [(k : Int)] _ i (by omega)]
          rw [show i + 1 - st.length = 0 by omega]
          have : i = st.length - 1 := by omega
          subst this
          simpa [lastI] using hc.1
    · refine ⟨hp, by simp only; omega, fun i hi => by have := h.rng i hi; simp only at this ⊢; omega, h.inc, by simp only; omega⟩
/-- Clusters a .. b. -/
def seg (cs : List Clu) (a b : Int) : List Clu := (cs.drop a.toNat).take (b.toNat - a.toNat)
def rowsOf (cs : List Clu) (st : List Int) (n : Nat) : List (List Clu) := (List.range st.length).map fun i => seg cs (st.getD i 0) ((st ++ [(n : Int)]).getD (i + 1) 0)
def wrap (cs : List Clu) (cols : Int) : List (List Clu) := if cols < 2 then [] else rowsOf cs (starts cs cols) cs.length
theorem rowsOf_len (cs : List Clu) (st : List Int) (n : Nat) : (rowsOf cs st n).length = st.length := by simp [rowsOf]
theorem rowsOf_get (cs : List Clu) (st : List Int) (n : Nat) (i : Nat) (h : i < st.length) : (rowsOf cs st n).getD i [] = seg cs (st.getD i 0) ((st ++ [(n : Int)]).getD (i + 1) 0) := by
  simp [rowsOf, List.getD_eq_getElem?_getD, h]
theorem getD_end {α : Type} (l : List α) (x d : α) : (l ++ [x]).getD l.length d = x := by rw [getD_app_r _ _ _ _ (Nat.le_refl _)]; simp
theorem rowsOf_last (cs : List Clu) (st : List Int) (n : Nat) (h : 0 < st.length) : (rowsOf cs st n).getD (st.length - 1) [] = seg cs (lastI st) n := by
  rw [rowsOf_get _ _ _ _ (by omega), show st.length - 1 + 1 = st.length by omega, getD_end]
  rfl
theorem seg_len (cs : List Clu) (a b : Int) (h : b.toNat ≤ cs.length) : (seg cs a b).length = b.toNat - a.toNat := by
  simp only [seg, List.length_take, List.length_drop]; omega
theorem seg_snoc (cs : List Clu) (a : Int) (k : Nat) (h0 : 0 ≤ a ∧ a ≤ k) (h : k < cs.length) : seg cs a ((k + 1 : Nat) : Int) = seg cs a k ++ [cs.getD k dClu] := by
  unfold seg
  rw [show ((k + 1 : Nat) : Int).toNat - a.toNat = ((k : Int).toNat - a.toNat) + 1 by omega, take_snoc _ dClu _ (by simp; omega)]
  congr 2
  simp only [List.getD_eq_getElem?_getD, List.getElem?_drop]
  congr 2
  omega
theorem ext_getD {α : Type} (d : α) {a b : List α} (hl : a.length = b.length) (h : ∀ i, i < a.length → a.getD i d = b.getD i d) : a = b := by
  refine List.ext_getElem hl fun i h1 h2 => ?_
  have := h i h1
  simpa [List.getD_eq_getElem?_getD, h1, h2] using this
theorem rowsOf_new (cs : List Clu) (st : List Int) (k : Nat) (h : k < cs.length) : rowsOf cs (st ++ [(k : Int)]) (k + 1) = rowsOf cs st k ++ [[cs.getD k dClu]] := by
  refine ext_getD [] (by simp [rowsOf_len]) fun i hi => ?_
  rw [rowsOf_len, List.length_append, List.length_singleton] at hi
  rw [rowsOf_get _ _ _ _ (by simp; omega)]
  rcases Nat.lt_or_ge i st.length with q | q
  · rw [getD_app_l _ _ _ _ q, getD_app_l _ _ _ (i + 1) (by simp; omega), getD_app_l _ _ _ i (by rw [rowsOf_len]; exact q), rowsOf_get _ _ _ _ q]
  · have e : i = st.length := by omega
    subst e
    rw [getD_end, show st.length + 1 = (st ++ [(k : Int)]).length by simp, getD_end, seg_snoc cs k k (by omega) h]
    have : (rowsOf cs st k).length = st.length := rowsOf_len _ _ _
    rw [← this, getD_end]
    simp [seg]
theorem rowsOf_ext (cs : List Clu) (st : List Int) (k : Nat) (hp : 0 < st.length) (hl : 0 ≤ lastI st ∧ lastI st ≤ k) (h : k < cs.length) :
    rowsOf cs st (k + 1) = (rowsOf cs st k).set (st.length - 1) ((rowsOf cs st k).getD (st.length - 1) [] ++ [cs.getD k dClu]) := by
  refine ext_getD [] (by simp [rowsOf_len]) fun i hi => ?_
  rw [rowsOf_len] at hi
  rcases Nat.lt_or_ge i (st.length - 1) with q | q
  · rw [rowsOf_get _ _ _ _ hi, getD_app_l _ _ _ (i + 1) (by omega)]
    rw [List.getD_eq_getElem?_getD (l := List.set _ _ _), List.getElem?_set_ne (by omega), ← List.getD_eq_getElem?_getD, rowsOf_get _ _ _ _ hi, getD_app_l _ _ _ (i + 1) (by omega)]
  · have e : i = st.length - 1 := by omega
    subst e
    rw [rowsOf_last _ _ _ hp, seg_snoc _ _ _ hl h, rowsOf_last _ _ _ hp]
    rw [List.getD_eq_getElem?_getD (l := List.set _ _ _), List.getElem?_set_self (by rw [rowsOf_len]; exact hi)]
    rfl
theorem rowsOf_0 (cs : List Clu) : rowsOf cs [0] 0 = [[]] := by simp [rowsOf, seg]
theorem flatten_last {α : Type} (x : α) : ∀ (l : List (List α)), l ≠ [] → (l.set (l.length - 1) (l.getD (l.length - 1) [] ++ [x])).flatten = l.flatten ++ [x]
  | [], h => absurd rfl h
  | [a], _ => by simp
  | a :: b :: t, _ => by
    have ih := flatten_last x (b :: t) (by simp)
    simp only [List.length_cons, Nat.add_sub_cancel, List.set_cons_succ, List.getD_cons_succ, List.flatten_cons, List.append_assoc] at *
    rw [ih]
theorem rowsOf_flat (cols : Int) (cs : List Clu) : ∀ k, k ≤ cs.length → (rowsOf cs (stF cols cs k).1 k).flatten = cs.take k
  | 0, _ => by rw [stF, rowsOf_0]; simp
  | k + 1, h => by
    have ih := rowsOf_flat cols cs k (by omega)
    have hi := stF_inv cols cs k
    rw [stF, stStep, take_snoc cs dClu k h, ← ih]
    split
    · rw [rowsOf_new _ _ _ h]; simp
    · have hl := rowsOf_len cs (stF cols cs k).1 k
      have hne : rowsOf cs (stF cols cs k).1 k ≠ [] := fun e => by have := hi.pos; rw [e] at hl; simp at hl; omega
      have := flatten_last (cs.getD k dClu) _ hne
      rw [hl] at this
      rw [rowsOf_ext _ _ _ hi.pos hi.last h, this]
theorem wrap_flat {cs : List Clu} {cols : Int} (h : ¬ cols < 2) : (wrap cs cols).flatten = cs := by
  have := rowsOf_flat cols cs cs.length (Nat.le_refl _)
  rw [List.take_length] at this
  rw [wrap, if_neg h, starts, this]
theorem tot_flat (l : List (List Clu)) : totL toECluS l = l.length + totL toEClu l.flatten := by
  induction l with
  | nil => rfl
  | cons a l ih =>
    simp only [totL, toECluS, cntL, List.map_cons, List.sum_cons, List.length_cons, List.flatten_cons, List.length_append, List.map_append, List.sum_append] at *
    omega
theorem wrap_len (cs : List Clu) (cols : Int) : (wrap cs cols).length ≤ cs.length + 1 := by
  unfold wrap
  split
  · simp
  · rw [rowsOf_len]; exact (stF_inv cols cs cs.length).len
theorem wrap_tot (cs : List Clu) (cols : Int) : totL toECluS (wrap cs cols) ≤ 2 * totL toEClu cs + 1 := by
  rw [tot_flat]
  have h1 := wrap_len cs cols
  have h3 : cs.length ≤ totL toEClu cs := by simp only [totL]; omega
  by_cases h : cols < 2
  · have : wrap cs cols = [] := by rw [wrap, if_pos h]
    rw [this]
    simp [totL, cntL]
  · rw [wrap_flat h]; omega
end Go.AW
/- Wrap on both sides. -/
set_option linter.unusedVariables false
set_option linter.unusedSimpArgs false
namespace Go.AW
open Go.Proofs
set_option maxRecDepth 100000
set_option maxHeartbeats 4000000
theorem x_l1Wide (c : Clu) (r : Int) (hr : r = wideC c) : PX Try.prog 116 (fun D u => [.r (.a (rClu D u (u _ c)))]) (fun D u => [RI (u _ r)]) (fun D u => []) := by
  refine px_of_awp (fn := Try.f116) (c := bodyOf Try.f116) envOk (by kernel_rfl) (by kernel_rfl) (by kernel_rfl) (by kernel_rfl) rfl (by kernel_rfl) (by kernel_rfl) ?_
  intro w0 mine D u C L hD hu hC hL
  ((try conv => cbv); (repeat' (first | (with_reducible refine mK hD ?_; kernel_rfl) | (with_reducible first | refine mS hD ?_ | refine mJ hL ?_ | refine mT hD ?_ | refine mF hD ?_ | refine mB hD (fun _ => ?_) (fun _ => ?_) | exact True.intro | refine And.intro ?_ ?_) <;> try conv => cbv)); all_goals try (first | trivial | (subst hD; first | exact fun _ _ => ⟨_, rfl⟩ | exact fl1 | exact fl1') | (((try subst hD hu); (try simp only [nc] at *); (try simp only [Int.ofNat_eq_natCast] at *); try simp (disch := omega) only [std, uid, S0] at *) <;> first | omega | rfl | (exfalso; simp_all only [Bool.true_eq_false, Bool.false_eq_true]; done))))
  all_goals (subst hr; ((try subst hD hu); (try simp only [nc] at *); (try simp only [Int.ofNat_eq_natCast] at *); try simp (disch := omega) only [std, uid, S0, wideC] at *); first | (rw [if_pos (by omega)]; done) | (rw [if_neg (by omega), if_pos (by omega)]; done) | (rw [if_neg (by omega), if_neg (by omega)]; done))
theorem x_specStarts (cs : List Clu) (cols : Int) (hn : cs.length ≤ 1000000000) (hc : okI cols) : PX Try.prog 56 (fun D u => [.r (.c (lClu D u (u _ cs))), AI (u _ cols)]) (fun D u => [.c (lN D u (u _ (starts cs cols)))]) (fun D u => []) := by
  obtain ⟨W, hW⟩ : ∃ W : Nat → Int, ∀ k, W k = wideC (cs.getD k dClu) := ⟨_, fun _ => rfl⟩
  refine px_of_awp (fn := Try.f56) (c := bodyOf Try.f56) envOk (by kernel_rfl) (by kernel_rfl) (by kernel_rfl) (by kernel_rfl) rfl (by kernel_rfl) (by kernel_rfl) ?_
  intro w0 mine D u C L hD hu hC hL
  ((try conv => cbv); (repeat' (first | (with_reducible refine mK hD ?_; kernel_rfl) | (with_reducible first | refine mS hD ?_ | refine mJ hL ?_ | refine mT hD ?_ | refine mF hD ?_ | refine mB hD (fun _ => ?_) (fun _ => ?_) | exact True.intro | refine And.intro ?_ ?_) <;> try conv => cbv)); all_goals try (first | trivial | (subst hD; first | exact fun _ _ => ⟨_, rfl⟩ | exact fl1 | exact fl1') | (((try subst hD hu); (try simp only [nc] at *); (try simp only [Int.ofNat_eq_natCast] at *); try simp (disch := omega) only [std, uid, S0] at *) <;> first | omega | rfl | (exfalso; simp_all only [Bool.true_eq_false, Bool.false_eq_true]; done))))
  refine loop_st hL cs.length (fun k s => s = stF cols cs k) ([0], 0) (fun k s => [(5, vO D 0 (u _ (s.1))), (8, .bad), (6, VI (u _ (s.2))), (7, VI (u _ k))]) (fun k s => [(0, oN D u (u _ (s.1)))]) rfl ?_ ?_
  · ((try conv => cbv); (repeat' (first | (with_reducible refine mK hD ?_; kernel_rfl) | (with_reducible first | refine mS hD ?_ | refine mJ hL ?_ | refine mT hD ?_ | refine mF hD ?_ | refine mB hD (fun _ => ?_) (fun _ => ?_) | exact True.intro | refine And.intro ?_ ?_) <;> try conv => cbv)); all_goals try (first | trivial | (subst hD; first | exact fun _ _ => ⟨_, rfl⟩ | exact fl1 | exact fl1') | (((try subst hD hu); (try simp only [nc] at *); (try simp only [Int.ofNat_eq_natCast] at *); try simp (disch := omega) only [std, uid, S0] at *) <;> first | omega | rfl | (exfalso; simp_all only [Bool.true_eq_false, Bool.false_eq_true]; done))))
    (subst hD hu; apply qN; (focus repeat' (first | exact LR.refl | exact LR_bytes | apply mClu | apply mCel | apply mKey | apply mSnp | apply mKRd | apply mLin | apply mHis | apply mBlk | apply mScr | apply mSes | exact zR | exact zB | exact zT | exact zN | exact zClu | exact zCel | exact zCelS | exact zSnp | exact zKey | exact zSes | exact zScr | apply LR.deq | exact LR.nil | apply LR.one | apply LR.rep | apply LR.cat | apply LR.cat' | apply LR.set | exact u8_0 | exact DEq.s _ | (apply str_deq; (repeat' apply sr_cat) <;> rfl) | apply aLe_1 | (apply LR.rfl'; simp only [uid, std, S0]; omega))); all_goals try simp only [uid, std, Int.toNat_natCast, Int.ofNat_eq_natCast])
  · intro k s hk hs
    have hi := stF_inv cols cs k
    rw [← hs] at hi
    have hp := hi.pos
    have hlen := hi.len
    have hu2 := hi.used
    have hl := hi.last
    have hw := wideC_range (cs.getD k dClu)
    have hwx := hW k
    rw [← hwx] at hw
    have e1 : ((s.1.length : Int) - 1).toNat = s.1.length - 1 := by omega
    ((try conv => cbv); (repeat' (first | (with_reducible refine mK hD ?_; kernel_rfl) | (with_reducible first | refine mS hD ?_ | refine mJ hL ?_ | refine mT hD ?_ | refine mF hD ?_ | refine mB hD (fun _ => ?_) (fun _ => ?_) | exact True.intro | refine And.intro ?_ ?_) <;> try conv => cbv)); all_goals try (first | trivial | (subst hD; first | exact fun _ _ => ⟨_, rfl⟩ | exact fl1 | exact fl1') | (((try subst hD hu); (try simp only [nc] at *); (try simp only [Int.ofNat_eq_natCast] at *); try simp (disch := omega) only [std, uid, S0] at *) <;> first | omega | rfl | (exfalso; simp_all only [Bool.true_eq_false, Bool.false_eq_true]; done))))
    · have hkn : k < cs.length := by ((try subst hD hu); (try simp only [nc] at *); (try simp only [Int.ofNat_eq_natCast] at *); try simp (disch := omega) only [std, uid, S0] at *); omega
      refine callx hD hu hC (x_l1Wide (cs.getD k dClu) (W k) hwx) ?_
      ((try conv => cbv); (repeat' (first | (with_reducible refine mK hD ?_; kernel_rfl) | (with_reducible first | refine mS hD ?_ | refine mJ hL ?_ | refine mT hD ?_ | refine mF hD ?_ | refine mB hD (fun _ => ?_) (fun _ => ?_) | exact True.intro | refine And.intro ?_ ?_) <;> try conv => cbv)); all_goals try (first | trivial | (subst hD; first | exact fun _ _ => ⟨_, rfl⟩ | exact fl1 | exact fl1') | (((try subst hD hu); (try simp only [nc] at *); (try simp only [Int.ofNat_eq_natCast] at *); try simp (disch := omega) only [std, uid, S0] at *) <;> first | omega | rfl | (exfalso; simp_all only [Bool.true_eq_false, Bool.false_eq_true]; done))))
      · have h1 : lastI s.1 < k ∧ cols < s.2 + W k := by ((try subst hD hu); (try simp only [nc] at *); (try simp only [Int.ofNat_eq_natCast] at *); try simp (disch := omega) only [std, uid, S0, e1] at *); unfold lastI; exact ⟨by assumption, by omega⟩
        refine callx hD hu hC (x_l1Wide (cs.getD k dClu) (W k) hwx) ?_
        ((try conv => cbv); (repeat' (first | (with_reducible refine mK hD ?_; kernel_rfl) | (with_reducible first | refine mS hD ?_ | refine mJ hL ?_ | refine mT hD ?_ | refine mF hD ?_ | refine mB hD (fun _ => ?_) (fun _ => ?_) | exact True.intro | refine And.intro ?_ ?_) <;> try conv => cbv)); all_goals try (first | trivial | (subst hD; first | exact fun _ _ => ⟨_, rfl⟩ | exact fl1 | exact fl1') | (((try subst hD hu); (try simp only [nc] at *); (try simp only [Int.ofNat_eq_natCast] at *); try simp (disch := omega) only [std, uid, S0] at *) <;> first | omega | rfl | (exfalso; simp_all only [Bool.true_eq_false, Bool.false_eq_true]; done))))
        refine ⟨k + 1, (s.1 ++ [(k : Int)], W k), hkn, by rw [stF, ← hs, stStep, ← hwx, if_pos h1], ssem_of ?_, by omega⟩
        ((try conv => cbv); (repeat' (first | (with_reducible refine mK hD ?_; kernel_rfl) | (with_reducible first | refine mS hD ?_ | refine mJ hL ?_ | refine mT hD ?_ | refine mF hD ?_ | refine mB hD (fun _ => ?_) (fun _ => ?_) | exact True.intro | refine And.intro ?_ ?_) <;> try conv => cbv)); all_goals try (first | trivial | (subst hD; first | exact fun _ _ => ⟨_, rfl⟩ | exact fl1 | exact fl1') | (((try subst hD hu); (try simp only [nc] at *); (try simp only [Int.ofNat_eq_natCast] at *); try simp (disch := omega) only [std, uid, S0] at *) <;> first | omega | rfl | (exfalso; simp_all only [Bool.true_eq_false, Bool.false_eq_true]; done))))
        (subst hD hu; apply qN; (focus repeat' (first | exact LR.refl | exact LR_bytes | apply mClu | apply mCel | apply mKey | apply mSnp | apply mKRd | apply mLin | apply mHis | apply mBlk | apply mScr | apply mSes | exact zR | exact zB | exact zT | exact zN | exact zClu | exact zCel | exact zCelS | exact zSnp | exact zKey | exact zSes | exact zScr | apply LR.deq | exact LR.nil | apply LR.one | apply LR.rep | apply LR.cat | apply LR.cat' | apply LR.set | exact u8_0 | exact DEq.s _ | (apply str_deq; (repeat' apply sr_cat) <;> rfl) | apply aLe_1 | (apply LR.rfl'; simp only [uid, std, S0]; omega))); all_goals try simp only [uid, std, Int.toNat_natCast, Int.ofNat_eq_natCast])
      · have h1 : ¬ (lastI s.1 < k ∧ cols < s.2 + W k) := by ((try subst hD hu); (try simp only [nc] at *); (try simp only [Int.ofNat_eq_natCast] at *); try simp (disch := omega) only [std, uid, S0, e1] at *); omega
        refine callx hD hu hC (x_l1Wide (cs.getD k dClu) (W k) hwx) ?_
        ((try conv => cbv); (repeat' (first | (with_reducible refine mK hD ?_; kernel_rfl) | (with_reducible first | refine mS hD ?_ | refine mJ hL ?_ | refine mT hD ?_ | refine mF hD ?_ | refine mB hD (fun _ => ?_) (fun _ => ?_) | exact True.intro | refine And.intro ?_ ?_) <;> try conv => cbv)); all_goals try (first | trivial | (subst hD; first | exact fun _ _ => ⟨_, rfl⟩ | exact fl1 | exact fl1') | (((try subst hD hu); (try simp only [nc] at *); (try simp only [Int.ofNat_eq_natCast] at *); try simp (disch := omega) only [std, uid, S0] at *) <;> first | omega | rfl | (exfalso; simp_all only [Bool.true_eq_false, Bool.false_eq_true]; done))))
        refine ⟨k + 1, (s.1, s.2 + W k), hkn, by rw [stF, ← hs, stStep, ← hwx, if_neg h1], ssem_of ?_, by omega⟩
        ((try conv => cbv); (repeat' (first | (with_reducible refine mK hD ?_; kernel_rfl) | (with_reducible first | refine mS hD ?_ | refine mJ hL ?_ | refine mT hD ?_ | refine mF hD ?_ | refine mB hD (fun _ => ?_) (fun _ => ?_) | exact True.intro | refine And.intro ?_ ?_) <;> try conv => cbv)); all_goals try (first | trivial | (subst hD; first | exact fun _ _ => ⟨_, rfl⟩ | exact fl1 | exact fl1') | (((try subst hD hu); (try simp only [nc] at *); (try simp only [Int.ofNat_eq_natCast] at *); try simp (disch := omega) only [std, uid, S0] at *) <;> first | omega | rfl | (exfalso; simp_all only [Bool.true_eq_false, Bool.false_eq_true]; done))))
    · have hkn : k < cs.length := by ((try subst hD hu); (try simp only [nc] at *); (try simp only [Int.ofNat_eq_natCast] at *); try simp (disch := omega) only [std, uid, S0] at *); omega
      have h1 : ¬ (lastI s.1 < k ∧ cols < s.2 + W k) := by ((try subst hD hu); (try simp only [nc] at *); (try simp only [Int.ofNat_eq_natCast] at *); try simp (disch := omega) only [std, uid, S0, e1] at *); unfold lastI; omega
      refine callx hD hu hC (x_l1Wide (cs.getD k dClu) (W k) hwx) ?_
      ((try conv => cbv); (repeat' (first | (with_reducible refine mK hD ?_; kernel_rfl) | (with_reducible first | refine mS hD ?_ | refine mJ hL ?_ | refine mT hD ?_ | refine mF hD ?_ | refine mB hD (fun _ => ?_) (fun _ => ?_) | exact True.intro | refine And.intro ?_ ?_) <;> try conv => cbv)); all_goals try (first | trivial | (subst hD; first | exact fun _ _ => ⟨_, rfl⟩ | exact fl1 | exact fl1') | (((try subst hD hu); (try simp only [nc] at *); (try simp only [Int.ofNat_eq_natCast] at *); try simp (disch := omega) only [std, uid, S0] at *) <;> first | omega | rfl | (exfalso; simp_all only [Bool.true_eq_false, Bool.false_eq_true]; done))))
      refine ⟨k + 1, (s.1, s.2 + W k), hkn, by rw [stF, ← hs, stStep, ← hwx, if_neg h1], ssem_of ?_, by omega⟩
      ((try conv => cbv); (repeat' (first | (with_reducible refine mK hD ?_; kernel_rfl) | (with_reducible first | refine mS hD ?_ | refine mJ hL ?_ | refine mT hD ?_ | refine mF hD ?_ | refine mB hD (fun _ => ?_) (fun _ => ?_) | exact True.intro | refine And.intro ?_ ?_) <;> try conv => cbv)); all_goals try (first | trivial | (subst hD; first | exact fun _ _ => ⟨_, rfl⟩ | exact fl1 | exact fl1') | (((try subst hD hu); (try simp only [nc] at *); (try simp only [Int.ofNat_eq_natCast] at *); try simp (disch := omega) only [std, uid, S0] at *) <;> first | omega | rfl | (exfalso; simp_all only [Bool.true_eq_false, Bool.false_eq_true]; done))))
    · have ek : k = cs.length := by ((try subst hD hu); (try simp only [nc] at *); (try simp only [Int.ofNat_eq_natCast] at *); try simp (disch := omega) only [std, uid, S0] at *); omega
      subst ek
      subst hD hu
      simp only [uid, std, hs, starts]
    · have ek : k = cs.length := by ((try subst hD hu); (try simp only [nc] at *); (try simp only [Int.ofNat_eq_natCast] at *); try simp (disch := omega) only [std, uid, S0] at *); omega
      subst ek
      (subst hD hu; apply qN; (focus repeat' (first | exact LR.refl | exact LR_bytes | apply mClu | apply mCel | apply mKey | apply mSnp | apply mKRd | apply mLin | apply mHis | apply mBlk | apply mScr | apply mSes | exact zR | exact zB | exact zT | exact zN | exact zClu | exact zCel | exact zCelS | exact zSnp | exact zKey | exact zSes | exact zScr | apply LR.deq | exact LR.nil | apply LR.one | apply LR.rep | apply LR.cat | apply LR.cat' | apply LR.set | exact u8_0 | exact DEq.s _ | (apply str_deq; (repeat' apply sr_cat) <;> rfl) | apply aLe_1 | (apply LR.rfl'; simp only [uid, std, S0]; omega))); all_goals try simp only [uid, std, Int.toNat_natCast, Int.ofNat_eq_natCast])
      rw [hs]; rfl
theorem LR_sub {α : Type} {row : α → List DV} {d : α} {l : List α} {a b : Nat} (h : b ≤ l.length) : LR row d (fun i => row (l.getD (a + i) d)) (b - a) ((l.drop a).take (b - a)) := by
  refine ⟨by simp only [List.length_take, List.length_drop]; omega, fun i hi => ?_⟩
  have : ((l.drop a).take (b - a)).getD i d = l.getD (a + i) d := by
    simp only [List.getD_eq_getElem?_getD, List.getElem?_take, hi, if_true, List.getElem?_drop]
  rw [this]
  exact aLe_rfl _
theorem rowsOf_tot (cs : List Clu) (st : List Int) (n : Nat) (k : Nat) : ((rowsOf cs st n).take k).length ≤ st.length := by
  rw [List.length_take, rowsOf_len]; omega
theorem seg_bd {cs : List Clu} {N : Nat} (h : bdL bdEClu N cs) (a b : Int) : bdL bdEClu N (seg cs a b) := by
  refine ⟨?_, fun x hx => h.2 x (List.mem_of_mem_drop (List.mem_of_mem_take hx))⟩
  have := h.1
  simp only [seg, List.length_take, List.length_drop]
  omega
theorem x_implWrap (cs : List Clu) (cols : Int) (hb : bdL bdEClu 100000000 cs) (hc : okI cols) : PX Try.prog 62 (fun D u => [.r (.c (lClu D u (u _ cs))), AI (u _ cols)]) (fun D u => [.c (lCluS D u (u _ (wrap cs cols)))]) (fun D u => []) := by
  obtain ⟨W, hW⟩ : ∃ W : Nat → Int, ∀ k, W k = wideC (cs.getD k dClu) := ⟨_, fun _ => rfl⟩
  refine px_of_awp (fn := Try.f62) (c := bodyOf Try.f62) envOk (by kernel_rfl) (by kernel_rfl) (by kernel_rfl) (by kernel_rfl) rfl (by kernel_rfl) (by kernel_rfl) ?_
  intro w0 mine D u C L hD hu hC hL
  (have hset := hsA hD; have hset3 := hsB hD; have hset2 := hset; (conv at hset2 => enter [f, a, row, 1]; whnf); (conv at hset3 => enter [f, a, row, row', 1]; whnf; enter [1]; whnf); (conv at hset3 => enter [f, a, row, row', 2]; whnf))
  have hn := hb.1
  ((try conv => cbv); (repeat' (first | (with_reducible refine mK hD ?_; kernel_rfl) | (with_reducible first | refine mS hD ?_ | refine mJ hL ?_ | refine mT hD ?_ | refine mF hD ?_ | refine mB hD (fun _ => ?_) (fun _ => ?_) | exact True.intro | refine And.intro ?_ ?_) <;> try conv => cbv)); all_goals try (first | trivial | (subst hD; first | exact fun _ _ => ⟨_, rfl⟩ | exact fl1 | exact fl1') | (((try subst hD hu); (try simp only [nc] at *); (try simp only [Int.ofNat_eq_natCast] at *); try simp (disch := omega) only [std, uid, S0] at *) <;> first | omega | rfl | (exfalso; simp_all only [Bool.true_eq_false, Bool.false_eq_true]; done))))
  · have e : wrap cs cols = [] := by unfold wrap; rw [if_pos (by ((try subst hD hu); (try simp only [nc] at *); (try simp only [Int.ofNat_eq_natCast] at *); try simp (disch := omega) only [std, uid, S0] at *); omega)]
    subst hD hu
    simp only [uid, std, e]
    rfl
  · have e : wrap cs cols = [] := by unfold wrap; rw [if_pos (by ((try subst hD hu); (try simp only [nc] at *); (try simp only [Int.ofNat_eq_natCast] at *); try simp (disch := omega) only [std, uid, S0] at *); omega)]
    exact DEq.z _ _ _
  · refine loop_st hL cs.length (fun k s => s = (rowsOf cs (stF cols cs k).1 k, (stF cols cs k).2)) ([[]], 0) (fun k s => [(5, vO D 1 (u _ (s.1))), (14, .bad), (6, VI (u _ (s.2))), (17, VI (u _ k))]) (fun k s => [(1, oCluS D u (u _ (s.1)))]) (by rw [stF, rowsOf_0]) ?_ ?_
    · ((try conv => cbv); (repeat' (first | (with_reducible refine mK hD ?_; kernel_rfl) | (with_reducible first | refine mS hD ?_ | refine mJ hL ?_ | refine mT hD ?_ | refine mF hD ?_ | refine mB hD (fun _ => ?_) (fun _ => ?_) | exact True.intro | refine And.intro ?_ ?_) <;> try conv => cbv)); all_goals try (first | trivial | (subst hD; first | exact fun _ _ => ⟨_, rfl⟩ | exact fl1 | exact fl1') | (((try subst hD hu); (try simp only [nc] at *); (try simp only [Int.ofNat_eq_natCast] at *); try simp (disch := omega) only [std, uid, S0] at *) <;> first | omega | rfl | (exfalso; simp_all only [Bool.true_eq_false, Bool.false_eq_true]; done))))
      (subst hD hu; apply qCluS; (focus repeat' (first | exact LR.refl | exact LR_bytes | apply mClu | apply mCel | apply mKey | apply mSnp | apply mKRd | apply mLin | apply mHis | apply mBlk | apply mScr | apply mSes | exact zR | exact zB | exact zT | exact zN | exact zClu | exact zCel | exact zCelS | exact zSnp | exact zKey | exact zSes | exact zScr | apply LR.deq | exact LR.nil | apply LR.one | apply LR.rep | apply LR.cat | apply LR.cat' | apply LR.set | exact u8_0 | exact DEq.s _ | (apply str_deq; (repeat' apply sr_cat) <;> rfl) | apply aLe_1 | (apply LR.rfl'; simp only [uid, std, S0]; omega))); all_goals try simp only [uid, std, Int.toNat_natCast, Int.ofNat_eq_natCast])
    · intro k s hk hs
      have hi := stF_inv cols cs k
      have hs1 : s.1 = rowsOf cs (stF cols cs k).1 k := by rw [hs]
      have hs2 : s.2 = (stF cols cs k).2 := by rw [hs]
      have hrl : s.1.length = (stF cols cs k).1.length := by rw [hs1]; exact rowsOf_len _ _ _
      have hp : 0 < s.1.length := by rw [hrl]; exact hi.pos
      have hlen : s.1.length ≤ k + 1 := by rw [hrl]; exact hi.len
      have hu2 : 0 ≤ s.2 ∧ s.2 ≤ 1000 * k := by rw [hs2]; exact hi.used
      have hl := hi.last
      have hll : ((s.1.getD (s.1.length - 1) []).length : Int) = k - lastI (stF cols cs k).1 := by
        rw [hrl, hs1, rowsOf_last _ _ _ hi.pos, seg_len _ _ _ (by omega)]
        omega
      have hwd := hW k
      unfold wideC at hwd
      have hwr := wideC_range (cs.getD k dClu)
      rw [← hW k] at hwr
      have e1 : ((s.1.length : Int) - 1).toNat = s.1.length - 1 := by omega
      have e2 : ((s.1.length : Int) - 1 + 1).toNat = s.1.length := by omega
      ((try conv => cbv); (repeat' (first | (with_reducible refine mK hD ?_; kernel_rfl) | (with_reducible first | refine mS hD ?_ | refine mJ hL ?_ | refine mT hD ?_ | refine mF hD ?_ | refine mB hD (fun _ => ?_) (fun _ => ?_) | exact True.intro | refine And.intro ?_ ?_) <;> try conv => cbv)); all_goals try (first | trivial | (subst hD; first | exact fun _ _ => ⟨_, rfl⟩ | exact fl1 | exact fl1') | (((try subst hD hu); (try simp only [nc] at *); (try simp only [Int.ofNat_eq_natCast] at *); try simp (disch := omega) only [std, uid, S0] at *) <;> first | omega | rfl | (exfalso; simp_all only [Bool.true_eq_false, Bool.false_eq_true]; done))))
      all_goals try (have hkn : k < cs.length := by ((try subst hD hu); (try simp only [nc] at *); (try simp only [Int.ofNat_eq_natCast] at *); try simp (disch := omega) only [std, uid, S0] at *); omega)
      all_goals try (have hx := hb.2 _ (getD_mem cs dClu k hkn); unfold bdEClu at hx)
      all_goals (
        have hcA : ∀ (f g : Nat → List DV), D.catF (D.lenL (List Clu) (u _ s.1)) f 1 g (rowN D 0 (D.addI .i64 (D.subI .i64 (D.ofN (D.lenL (List Clu) (u _ s.1))) 1) 1)) = g 0 := fun f g => by
          subst hD hu
          simp only [uid, std, catR, rowN]
          rw [wrap64 ((s.1.length : Int) - 1) (by omega), wrap64 _ (by omega), if_pos (by omega)]
          congr 1
          omega
        have hcB := hcA
        conv at hcB => enter [f, g, 1]; cbv)
      repeat' ((first | simp only [hcB] | simp only [hset2, hset3, hset, rowN]); ((try conv => cbv); (repeat' (first | (with_reducible refine mK hD ?_; kernel_rfl) | (with_reducible first | refine mS hD ?_ | refine mJ hL ?_ | refine mT hD ?_ | refine mF hD ?_ | refine mB hD (fun _ => ?_) (fun _ => ?_) | exact True.intro | refine And.intro ?_ ?_) <;> try conv => cbv)); all_goals try (first | trivial | (subst hD; first | exact fun _ _ => ⟨_, rfl⟩ | exact fl1 | exact fl1') | (((try subst hD hu); (try simp only [nc] at *); (try simp only [Int.ofNat_eq_natCast] at *); try simp (disch := omega) only [std, uid, S0] at *) <;> first | omega | rfl | (exfalso; simp_all only [Bool.true_eq_false, Bool.false_eq_true]; done)))))
      all_goals try (((try subst hD hu); (try simp only [nc] at *); (try simp only [Int.ofNat_eq_natCast] at *); try simp (disch := omega) only [std, uid, S0, e1, e2] at *); omega; done)
      · have h1 : lastI (stF cols cs k).1 < k ∧ cols < (stF cols cs k).2 + wideC (cs.getD k dClu) := by
          rw [← hW k, ← hs2]; ((try subst hD hu); (try simp only [nc] at *); (try simp only [Int.ofNat_eq_natCast] at *); try simp (disch := omega) only [std, uid, S0, e1] at *); omega
        refine ⟨k + 1, (s.1 ++ [[cs.getD k dClu]], W k), hkn, by rw [stF, stStep, if_pos h1, rowsOf_new _ _ _ hkn, hs1, hW k], ssem_of ?_, by omega⟩
        ((try conv => cbv); (repeat' (first | (with_reducible refine mK hD ?_; kernel_rfl) | (with_reducible first | refine mS hD ?_ | refine mJ hL ?_ | refine mT hD ?_ | refine mF hD ?_ | refine mB hD (fun _ => ?_) (fun _ => ?_) | exact True.intro | refine And.intro ?_ ?_) <;> try conv => cbv)); all_goals try (first | trivial | (subst hD; first | exact fun _ _ => ⟨_, rfl⟩ | exact fl1 | exact fl1') | (((try subst hD hu); (try simp only [nc] at *); (try simp only [Int.ofNat_eq_natCast] at *); try simp (disch := omega) only [std, uid, S0] at *) <;> first | omega | rfl | (exfalso; simp_all only [Bool.true_eq_false, Bool.false_eq_true]; done))))
        (subst hD hu; apply qCluS; (focus repeat' (first | exact LR.refl | exact LR_bytes | apply mClu | apply mCel | apply mKey | apply mSnp | apply mKRd | apply mLin | apply mHis | apply mBlk | apply mScr | apply mSes | exact zR | exact zB | exact zT | exact zN | exact zClu | exact zCel | exact zCelS | exact zSnp | exact zKey | exact zSes | exact zScr | apply LR.deq | exact LR.nil | apply LR.one | apply LR.rep | apply LR.cat | apply LR.cat' | apply LR.set | exact u8_0 | exact DEq.s _ | (apply str_deq; (repeat' apply sr_cat) <;> rfl) | apply aLe_1 | (apply LR.rfl'; simp only [uid, std, S0]; omega))); all_goals try simp only [uid, std, Int.toNat_natCast, Int.ofNat_eq_natCast])
        rw [wrap64 ((s.1.length : Int) - 1) (by omega), wrap64 _ (by omega), e2, List.set_append_right _ _ (by omega)]
        simp
      · have h1 : ¬ (lastI (stF cols cs k).1 < k ∧ cols < (stF cols cs k).2 + wideC (cs.getD k dClu)) := by
          rw [← hW k, ← hs2]; ((try subst hD hu); (try simp only [nc] at *); (try simp only [Int.ofNat_eq_natCast] at *); try simp (disch := omega) only [std, uid, S0, e1] at *); omega
        refine ⟨k + 1, (s.1.set (s.1.length - 1) (s.1.getD (s.1.length - 1) [] ++ [cs.getD k dClu]), s.2 + W k), hkn, by rw [stF, stStep, if_neg h1, rowsOf_ext _ _ _ hi.pos hl hkn, hrl, hs1, hs2, hW k], ssem_of ?_, by omega⟩
        ((try conv => cbv); (repeat' (first | (with_reducible refine mK hD ?_; kernel_rfl) | (with_reducible first | refine mS hD ?_ | refine mJ hL ?_ | refine mT hD ?_ | refine mF hD ?_ | refine mB hD (fun _ => ?_) (fun _ => ?_) | exact True.intro | refine And.intro ?_ ?_) <;> try conv => cbv)); all_goals try (first | trivial | (subst hD; first | exact fun _ _ => ⟨_, rfl⟩ | exact fl1 | exact fl1') | (((try subst hD hu); (try simp only [nc] at *); (try simp only [Int.ofNat_eq_natCast] at *); try simp (disch := omega) only [std, uid, S0] at *) <;> first | omega | rfl | (exfalso; simp_all only [Bool.true_eq_false, Bool.false_eq_true]; done))))
        (subst hD hu; apply qCluS; (focus repeat' (first | exact LR.refl | exact LR_bytes | apply mClu | apply mCel | apply mKey | apply mSnp | apply mKRd | apply mLin | apply mHis | apply mBlk | apply mScr | apply mSes | exact zR | exact zB | exact zT | exact zN | exact zClu | exact zCel | exact zCelS | exact zSnp | exact zKey | exact zSes | exact zScr | apply LR.deq | exact LR.nil | apply LR.one | apply LR.rep | apply LR.cat | apply LR.cat' | apply LR.set | exact u8_0 | exact DEq.s _ | (apply str_deq; (repeat' apply sr_cat) <;> rfl) | apply aLe_1 | (apply LR.rfl'; simp only [uid, std, S0]; omega))); all_goals try simp only [uid, std, Int.toNat_natCast, Int.ofNat_eq_natCast])
        rw [wrap64 _ (by omega), e1]
        simp
      · have h1 : ¬ (lastI (stF cols cs k).1 < k ∧ cols < (stF cols cs k).2 + wideC (cs.getD k dClu)) := by
          rw [← hW k, ← hs2]; ((try subst hD hu); (try simp only [nc] at *); (try simp only [Int.ofNat_eq_natCast] at *); try simp (disch := omega) only [std, uid, S0, e1] at *); omega
        refine ⟨k + 1, (s.1.set (s.1.length - 1) (s.1.getD (s.1.length - 1) [] ++ [cs.getD k dClu]), s.2 + W k), hkn, by rw [stF, stStep, if_neg h1, rowsOf_ext _ _ _ hi.pos hl hkn, hrl, hs1, hs2, hW k], ssem_of ?_, by omega⟩
        ((try conv => cbv); (repeat' (first | (with_reducible refine mK hD ?_; kernel_rfl) | (with_reducible first | refine mS hD ?_ | refine mJ hL ?_ | refine mT hD ?_ | refine mF hD ?_ | refine mB hD (fun _ => ?_) (fun _ => ?_) | exact True.intro | refine And.intro ?_ ?_) <;> try conv => cbv)); all_goals try (first | trivial | (subst hD; first | exact fun _ _ => ⟨_, rfl⟩ | exact fl1 | exact fl1') | (((try subst hD hu); (try simp only [nc] at *); (try simp only [Int.ofNat_eq_natCast] at *); try simp (disch := omega) only [std, uid, S0] at *) <;> first | omega | rfl | (exfalso; simp_all only [Bool.true_eq_false, Bool.false_eq_true]; done))))
        (subst hD hu; apply qCluS; (focus repeat' (first | exact LR.refl | exact LR_bytes | apply mClu | apply mCel | apply mKey | apply mSnp | apply mKRd | apply mLin | apply mHis | apply mBlk | apply mScr | apply mSes | exact zR | exact zB | exact zT | exact zN | exact zClu | exact zCel | exact zCelS | exact zSnp | exact zKey | exact zSes | exact zScr | apply LR.deq | exact LR.nil | apply LR.one | apply LR.rep | apply LR.cat | apply LR.cat' | apply LR.set | exact u8_0 | exact DEq.s _ | (apply str_deq; (repeat' apply sr_cat) <;> rfl) | apply aLe_1 | (apply LR.rfl'; simp only [uid, std, S0]; omega))); all_goals try simp only [uid, std, Int.toNat_natCast, Int.ofNat_eq_natCast])
        rw [wrap64 _ (by omega), e1]
        simp
      all_goals (
        have ek : k = cs.length := by ((try subst hD hu); (try simp only [nc] at *); (try simp only [Int.ofNat_eq_natCast] at *); try simp (disch := omega) only [std, uid, S0] at *); omega
        have e : s.1 = wrap cs cols := by
          have : ¬ cols < 2 := by ((try subst hD hu); (try simp only [nc] at *); (try simp only [Int.ofNat_eq_natCast] at *); try simp (disch := omega) only [std, uid, S0] at *); omega
          rw [hs1, ek, wrap, if_neg this, starts])
      · rw [e]
      · (subst hD hu; apply qCluS; (focus repeat' (first | exact LR.refl | exact LR_bytes | apply mClu | apply mCel | apply mKey | apply mSnp | apply mKRd | apply mLin | apply mHis | apply mBlk | apply mScr | apply mSes | exact zR | exact zB | exact zT | exact zN | exact zClu | exact zCel | exact zCelS | exact zSnp | exact zKey | exact zSes | exact zScr | apply LR.deq | exact LR.nil | apply LR.one | apply LR.rep | apply LR.cat | apply LR.cat' | apply LR.set | exact u8_0 | exact DEq.s _ | (apply str_deq; (repeat' apply sr_cat) <;> rfl) | apply aLe_1 | (apply LR.rfl'; simp only [uid, std, S0]; omega))); all_goals try simp only [uid, std, Int.toNat_natCast, Int.ofNat_eq_natCast])
        exact e
end Go.AW
/- Widths of clusters and places of rows: plain. -/
set_option linter.unusedVariables false
set_option linter.unusedSimpArgs false
namespace Go.AW
open Go.Proofs
set_option maxRecDepth 100000
set_option maxHeartbeats 8000000
def wOk (c : Clu) : Prop := 1 ≤ c.width ∧ c.width ≤ 2
theorem addRune_w {out : List Clu} (v : Int) (h : ∀ c, c ∈ out → wOk c) : ∀ c, c ∈ addRune out v → wOk c := by
  unfold addRune
  have hw := runeWidth_range (shownR v)
  split
  · intro c hc
    rcases List.mem_append.mp hc with hc | hc
    · exact h c hc
    · rw [List.mem_singleton.mp hc]; exact ⟨by simp only; omega, by simp only; omega⟩
  · split
    · intro c hc
      rw [List.mem_singleton.mp hc]; exact ⟨by simp, by simp⟩
    · rename_i hne
      intro c hc
      have hp : 0 < out.length := List.length_pos_iff.mpr hne
      rcases List.mem_or_eq_of_mem_set hc with hc | rfl
      · exact h c hc
      · have hm := h _ (getD_mem out dClu (out.length - 1) (by omega))
        exact ⟨hm.1, hm.2⟩
theorem clusters_w (rs : List Int) : ∀ c, c ∈ clusters rs → wOk c := by
  have : ∀ (rs : List Int) (out : List Clu), (∀ c, c ∈ out → wOk c) → ∀ c, c ∈ rs.foldl addRune out → wOk c := by
    intro rs
    induction rs with
    | nil => intro out h; exact h
    | cons v rs ih => intro out h; exact ih _ (addRune_w v h)
  exact this rs [] (fun c hc => by simp at hc)
theorem cut_w (s : Str) : ∀ c, c ∈ cutT s → wOk c := clusters_w _
theorem cut_len (s : Str) : (cutT s).length ≤ s.length := by
  have h1 := foldl_take_len (clean s) (clean s).length
  rw [List.take_length] at h1
  have h2 := clean_len s
  unfold cutT
  omega
def widthsOf (cs : List Clu) : Int := (cs.map (·.width)).sum
theorem widths_snoc (cs : List Clu) (k : Nat) (h : k < cs.length) : widthsOf (cs.take (k + 1)) = widthsOf (cs.take k) + (cs.getD k dClu).width := by
  rw [take_snoc cs dClu k h]
  simp [widthsOf]
theorem widths_bd (cs : List Clu) (h : ∀ c, c ∈ cs → wOk c) : ∀ k, k ≤ cs.length → 0 ≤ widthsOf (cs.take k) ∧ widthsOf (cs.take k) ≤ 2 * k
  | 0, _ => by simp [widthsOf]
  | k + 1, hk => by
    have ih := widths_bd cs h k (by omega)
    have hw := h _ (getD_mem cs dClu k hk)
    rw [widths_snoc cs k hk]
    unfold wOk at hw
    omega
/-- The row of place p. -/
def rowK (st : List Int) (p : Int) : Nat → Nat
  | 0 => 0
  | k + 1 => if st.getD k 0 ≤ p then k else rowK st p k
def rowOf (st : List Int) (p : Int) : Nat := rowK st p st.length
theorem rowK_le (st : List Int) (p : Int) : ∀ k, rowK st p k ≤ k - 1 ∨ rowK st p k = 0
  | 0 => .inr rfl
  | k + 1 => by
    simp only [rowK]
    split
    · left; omega
    · rcases rowK_le st p k with h | h
      · left; omega
      · right; exact h
theorem rowK_hold (st : List Int) (p : Int) (h0 : st.getD 0 0 ≤ p) : ∀ k, 0 < k → st.getD (rowK st p k) 0 ≤ p ∧ (∀ i, rowK st p k < i → i < k → p < st.getD i 0) ∧ rowK st p k < k
  | 0, h => absurd h (Nat.lt_irrefl 0)
  | k + 1, _ => by
    simp only [rowK]
    split
    · rename_i h
      exact ⟨h, fun i h1 h2 => by omega, by omega⟩
    · rename_i h
      rcases Nat.eq_zero_or_pos k with hk | hk
      · subst hk; exact absurd h0 h
      · obtain ⟨a, b, c⟩ := rowK_hold st p h0 k hk
        refine ⟨a, fun i h1 h2 => ?_, by omega⟩
        rcases Nat.lt_or_ge i k with q | q
        · exact b i h1 q
        · rw [show i = k by omega]; omega
theorem stF_0 (cols : Int) (cs : List Clu) : ∀ k, (stF cols cs k).1.getD 0 0 = 0
  | 0 => by simp [stF]
  | k + 1 => by
    have ih := stF_0 cols cs k
    have hp := (stF_inv cols cs k).pos
    rw [stF, stStep]
    split
    · rw [getD_app_l _ _ _ _ hp]; exact ih
    · exact ih
theorem row_at (cs : List Clu) (cols : Int) (p : Int) (h0 : 0 ≤ p) : rowOf (starts cs cols) p < (starts cs cols).length ∧ 0 ≤ (starts cs cols).getD (rowOf (starts cs cols) p) 0 ∧ (starts cs cols).getD (rowOf (starts cs cols) p) 0 ≤ p ∧ ∀ i, rowOf (starts cs cols) p < i → i < (starts cs cols).length → p < (starts cs cols).getD i 0 := by
  have hI := stF_inv cols cs cs.length
  have h1 := rowK_hold (starts cs cols) p (by unfold starts; rw [stF_0]; exact h0) (starts cs cols).length hI.pos
  exact ⟨h1.2.2, (hI.rng _ h1.2.2).1, h1.1, h1.2.1⟩
theorem seg_mem {cs : List Clu} {a b : Int} {c : Clu} (h : c ∈ seg cs a b) : c ∈ cs := List.mem_of_mem_drop (List.mem_of_mem_take h)
theorem shF_eq (a : Nat) (f : Nat → List DV) : shF std a f = fun i => f (a + i) := by
  cases a with
  | zero => simp [shF]
  | succ a => rfl
theorem LR.shF {α : Type} {row : α → List DV} {d : α} {f : Nat → List DV} {n a m : Nat} {l : List α} (h : LR row d f n l) (ha : a + m ≤ n) : LR row d (Go.AW.shF std a f) m ((l.drop a).take m) := by
  rw [shF_eq]
  exact h.sh ha
end Go.AW
/- Sizes. -/
set_option linter.unusedVariables false
set_option linter.unusedSimpArgs false
namespace Go.AW
open Go.Proofs
set_option maxRecDepth 100000
set_option maxHeartbeats 4000000
def sizeOk (c r : Int) : Bool := decide (2 ≤ c) && decide (c ≤ 200) && decide (1 ≤ r) && decide (r ≤ 100)
theorem sizeOk_iff (c r : Int) : sizeOk c r = true ↔ 2 ≤ c ∧ c ≤ 200 ∧ 1 ≤ r ∧ r ≤ 100 := by
  simp only [sizeOk, Bool.and_eq_true, decide_eq_true_eq]
  omega
theorem sizeOk_of {c r : Int} (h : 2 ≤ c ∧ c ≤ 200 ∧ 1 ≤ r ∧ r ≤ 100) : sizeOk c r = true := (sizeOk_iff c r).mpr h
theorem sizeOk_not {c r : Int} (h : c < 2 ∨ 200 < c ∨ r < 1 ∨ 100 < r) : sizeOk c r = false := by
  cases e : sizeOk c r with
  | false => rfl
  | true => have := (sizeOk_iff c r).mp e; omega
theorem x_l2SizeOk (c r : Int) : PX Try.prog 54 (fun D u => [AI (u _ c), AI (u _ r)]) (fun D u => [RB (u _ (sizeOk c r))]) (fun D u => []) := by
  refine px_of_awp (fn := Try.f54) (c := bodyOf Try.f54) envOk (by kernel_rfl) (by kernel_rfl) (by kernel_rfl) (by kernel_rfl) rfl (by kernel_rfl) (by kernel_rfl) ?_
  intro w0 mine D u C L hD hu hC hL
  ((try conv => cbv); (repeat' (first | (with_reducible refine mK hD ?_; kernel_rfl) | (with_reducible first | refine mS hD ?_ | refine mJ hL ?_ | refine mT hD ?_ | refine mF hD ?_ | refine mB hD (fun _ => ?_) (fun _ => ?_) | exact True.intro | refine And.intro ?_ ?_) <;> try conv => cbv)); all_goals try (first | trivial | (subst hD; first | exact fun _ _ => ⟨_, rfl⟩ | exact fl1 | exact fl1') | (((try subst hD hu); (try simp only [nc] at *); (try simp only [Int.ofNat_eq_natCast] at *); try simp (disch := omega) only [std, uid, S0] at *) <;> first | omega | rfl | (exfalso; simp_all only [Bool.true_eq_false, Bool.false_eq_true]; done))))
  all_goals (((try subst hD hu); (try simp only [nc] at *); (try simp only [Int.ofNat_eq_natCast] at *); try simp (disch := omega) only [std, uid, S0] at *); first | exact (sizeOk_not (by omega)).symm | (simp only [sizeOk]; simp [*]))
theorem x_sizeOk (c r : Int) : PX Try.prog 60 (fun D u => [AI (u _ c), AI (u _ r)]) (fun D u => [RB (u _ (sizeOk c r))]) (fun D u => []) := by
  refine px_of_awp (fn := Try.f60) (c := bodyOf Try.f60) envOk (by kernel_rfl) (by kernel_rfl) (by kernel_rfl) (by kernel_rfl) rfl (by kernel_rfl) (by kernel_rfl) ?_
  intro w0 mine D u C L hD hu hC hL
  ((try conv => cbv); (repeat' (first | (with_reducible refine mK hD ?_; kernel_rfl) | (with_reducible first | refine mS hD ?_ | refine mJ hL ?_ | refine mT hD ?_ | refine mF hD ?_ | refine mB hD (fun _ => ?_) (fun _ => ?_) | exact True.intro | refine And.intro ?_ ?_) <;> try conv => cbv)); all_goals try (first | trivial | (subst hD; first | exact fun _ _ => ⟨_, rfl⟩ | exact fl1 | exact fl1') | (((try subst hD hu); (try simp only [nc] at *); (try simp only [Int.ofNat_eq_natCast] at *); try simp (disch := omega) only [std, uid, S0] at *) <;> first | omega | rfl | (exfalso; simp_all only [Bool.true_eq_false, Bool.false_eq_true]; done))))
  all_goals (((try subst hD hu); (try simp only [nc] at *); (try simp only [Int.ofNat_eq_natCast] at *); try simp (disch := omega) only [std, uid, S0] at *); first | exact (sizeOk_not (by omega)).symm | (simp only [sizeOk]; simp [*]))
end Go.AW
/- Layout: its parts. -/
set_option linter.unusedVariables false
set_option linter.unusedSimpArgs false
namespace Go.AW
open Go.Proofs
set_option maxRecDepth 100000
set_option maxHeartbeats 8000000
theorem x_l6Width (cs : List Clu) (hn : cs.length ≤ 1000000000) (hw : ∀ c, c ∈ cs → wOk c) : PX Try.prog 58 (fun D u => [.r (.c (lClu D u (u _ cs)))]) (fun D u => [RI (u _ (widthsOf cs))]) (fun D u => []) := by
  refine px_of_awp (fn := Try.f58) (c := bodyOf Try.f58) envOk (by kernel_rfl) (by kernel_rfl) (by kernel_rfl) (by kernel_rfl) rfl (by kernel_rfl) (by kernel_rfl) ?_
  intro w0 mine D u C L hD hu hC hL
  ((try conv => cbv); (repeat' (first | (with_reducible refine mK hD ?_; kernel_rfl) | (with_reducible first | refine mS hD ?_ | refine mJ hL ?_ | refine mT hD ?_ | refine mF hD ?_ | refine mB hD (fun _ => ?_) (fun _ => ?_) | exact True.intro | refine And.intro ?_ ?_) <;> try conv => cbv)); all_goals try (first | trivial | (subst hD; first | exact fun _ _ => ⟨_, rfl⟩ | exact fl1 | exact fl1') | (((try subst hD hu); (try simp only [nc] at *); (try simp only [Int.ofNat_eq_natCast] at *); try simp (disch := omega) only [std, uid, S0] at *) <;> first | omega | rfl | (exfalso; simp_all only [Bool.true_eq_false, Bool.false_eq_true]; done))))
  refine loop_st hL cs.length (fun k n => n = widthsOf (cs.take k)) 0 (fun k n => [(3, VI (u _ n)), (4, VI (u _ k))]) (fun k n => []) rfl ?_ ?_
  · ((try conv => cbv); (repeat' (first | (with_reducible refine mK hD ?_; kernel_rfl) | (with_reducible first | refine mS hD ?_ | refine mJ hL ?_ | refine mT hD ?_ | refine mF hD ?_ | refine mB hD (fun _ => ?_) (fun _ => ?_) | exact True.intro | refine And.intro ?_ ?_) <;> try conv => cbv)); all_goals try (first | trivial | (subst hD; first | exact fun _ _ => ⟨_, rfl⟩ | exact fl1 | exact fl1') | (((try subst hD hu); (try simp only [nc] at *); (try simp only [Int.ofNat_eq_natCast] at *); try simp (disch := omega) only [std, uid, S0] at *) <;> first | omega | rfl | (exfalso; simp_all only [Bool.true_eq_false, Bool.false_eq_true]; done))))
  · intro k n hk hs
    have hb := widths_bd cs hw k hk
    rw [← hs] at hb
    ((try conv => cbv); (repeat' (first | (with_reducible refine mK hD ?_; kernel_rfl) | (with_reducible first | refine mS hD ?_ | refine mJ hL ?_ | refine mT hD ?_ | refine mF hD ?_ | refine mB hD (fun _ => ?_) (fun _ => ?_) | exact True.intro | refine And.intro ?_ ?_) <;> try conv => cbv)); all_goals try (first | trivial | (subst hD; first | exact fun _ _ => ⟨_, rfl⟩ | exact fl1 | exact fl1') | (((try subst hD hu); (try simp only [nc] at *); (try simp only [Int.ofNat_eq_natCast] at *); try simp (disch := omega) only [std, uid, S0] at *) <;> first | omega | rfl | (exfalso; simp_all only [Bool.true_eq_false, Bool.false_eq_true]; done))))
    · have hkn : k < cs.length := by ((try subst hD hu); (try simp only [nc] at *); (try simp only [Int.ofNat_eq_natCast] at *); try simp (disch := omega) only [std, uid, S0] at *); omega
      have hx := hw _ (getD_mem cs dClu k hkn)
      unfold wOk at hx
      refine ⟨k + 1, n + (cs.getD k dClu).width, hkn, by rw [widths_snoc cs k hkn, hs], ssem_of ?_, by omega⟩
      generalize hgx : cs.getD k dClu = x at *
      ((try conv => cbv); (repeat' (first | (with_reducible refine mK hD ?_; kernel_rfl) | (with_reducible first | refine mS hD ?_ | refine mJ hL ?_ | refine mT hD ?_ | refine mF hD ?_ | refine mB hD (fun _ => ?_) (fun _ => ?_) | exact True.intro | refine And.intro ?_ ?_) <;> try conv => cbv)); all_goals try (first | trivial | (subst hD; first | exact fun _ _ => ⟨_, rfl⟩ | exact fl1 | exact fl1') | (((try subst hD hu); (try simp only [nc] at *); (try simp only [Int.ofNat_eq_natCast] at *); try simp (disch := omega) only [std, uid, S0] at *) <;> first | omega | rfl | (exfalso; simp_all only [Bool.true_eq_false, Bool.false_eq_true]; done))))
      ((try subst hD hu); (try simp only [nc] at *); (try simp only [Int.ofNat_eq_natCast] at *); try simp (disch := omega) only [std, uid, S0, hgx] at *)
      all_goals omega
    · have ek : k = cs.length := by ((try subst hD hu); (try simp only [nc] at *); (try simp only [Int.ofNat_eq_natCast] at *); try simp (disch := omega) only [std, uid, S0] at *); omega
      subst ek
      rw [List.take_length] at hs
      ((try subst hD hu); (try simp only [nc] at *); (try simp only [Int.ofNat_eq_natCast] at *); try simp (disch := omega) only [std, uid, S0, hs] at *)
theorem x_l6Row (st : List Int) (p : Int) (hn : st.length ≤ 1000000000) (hp : okI p) (hst : ∀ x, x ∈ st → okI x) : PX Try.prog 57 (fun D u => [.r (.c (lN D u (u _ st))), AI (u _ p)]) (fun D u => [RI (u _ (rowOf st p))]) (fun D u => []) := by
  refine px_of_awp (fn := Try.f57) (c := bodyOf Try.f57) envOk (by kernel_rfl) (by kernel_rfl) (by kernel_rfl) (by kernel_rfl) rfl (by kernel_rfl) (by kernel_rfl) ?_
  intro w0 mine D u C L hD hu hC hL
  ((try conv => cbv); (repeat' (first | (with_reducible refine mK hD ?_; kernel_rfl) | (with_reducible first | refine mS hD ?_ | refine mJ hL ?_ | refine mT hD ?_ | refine mF hD ?_ | refine mB hD (fun _ => ?_) (fun _ => ?_) | exact True.intro | refine And.intro ?_ ?_) <;> try conv => cbv)); all_goals try (first | trivial | (subst hD; first | exact fun _ _ => ⟨_, rfl⟩ | exact fl1 | exact fl1') | (((try subst hD hu); (try simp only [nc] at *); (try simp only [Int.ofNat_eq_natCast] at *); try simp (disch := omega) only [std, uid, S0] at *) <;> first | omega | rfl | (exfalso; simp_all only [Bool.true_eq_false, Bool.false_eq_true]; done))))
  refine loop_st hL st.length (fun k n => n = rowK st p k) 0 (fun k n => [(5, VI (u _ n)), (6, VI (u _ k))]) (fun k n => []) rfl ?_ ?_
  · ((try conv => cbv); (repeat' (first | (with_reducible refine mK hD ?_; kernel_rfl) | (with_reducible first | refine mS hD ?_ | refine mJ hL ?_ | refine mT hD ?_ | refine mF hD ?_ | refine mB hD (fun _ => ?_) (fun _ => ?_) | exact True.intro | refine And.intro ?_ ?_) <;> try conv => cbv)); all_goals try (first | trivial | (subst hD; first | exact fun _ _ => ⟨_, rfl⟩ | exact fl1 | exact fl1') | (((try subst hD hu); (try simp only [nc] at *); (try simp only [Int.ofNat_eq_natCast] at *); try simp (disch := omega) only [std, uid, S0] at *) <;> first | omega | rfl | (exfalso; simp_all only [Bool.true_eq_false, Bool.false_eq_true]; done))))
  · intro k n hk hs
    ((try conv => cbv); (repeat' (first | (with_reducible refine mK hD ?_; kernel_rfl) | (with_reducible first | refine mS hD ?_ | refine mJ hL ?_ | refine mT hD ?_ | refine mF hD ?_ | refine mB hD (fun _ => ?_) (fun _ => ?_) | exact True.intro | refine And.intro ?_ ?_) <;> try conv => cbv)); all_goals try (first | trivial | (subst hD; first | exact fun _ _ => ⟨_, rfl⟩ | exact fl1 | exact fl1') | (((try subst hD hu); (try simp only [nc] at *); (try simp only [Int.ofNat_eq_natCast] at *); try simp (disch := omega) only [std, uid, S0] at *) <;> first | omega | rfl | (exfalso; simp_all only [Bool.true_eq_false, Bool.false_eq_true]; done))))
    · have hkn : k < st.length := by ((try subst hD hu); (try simp only [nc] at *); (try simp only [Int.ofNat_eq_natCast] at *); try simp (disch := omega) only [std, uid, S0] at *); omega
      have hc : st.getD k 0 ≤ p := by ((try subst hD hu); (try simp only [nc] at *); (try simp only [Int.ofNat_eq_natCast] at *); try simp (disch := omega) only [std, uid, S0] at *); assumption
      refine ⟨k + 1, k, hkn, by rw [rowK, if_pos hc], ssem_of ?_, by omega⟩
      ((try conv => cbv); (repeat' (first | (with_reducible refine mK hD ?_; kernel_rfl) | (with_reducible first | refine mS hD ?_ | refine mJ hL ?_ | refine mT hD ?_ | refine mF hD ?_ | refine mB hD (fun _ => ?_) (fun _ => ?_) | exact True.intro | refine And.intro ?_ ?_) <;> try conv => cbv)); all_goals try (first | trivial | (subst hD; first | exact fun _ _ => ⟨_, rfl⟩ | exact fl1 | exact fl1') | (((try subst hD hu); (try simp only [nc] at *); (try simp only [Int.ofNat_eq_natCast] at *); try simp (disch := omega) only [std, uid, S0] at *) <;> first | omega | rfl | (exfalso; simp_all only [Bool.true_eq_false, Bool.false_eq_true]; done))))
    · have hkn : k < st.length := by ((try subst hD hu); (try simp only [nc] at *); (try simp only [Int.ofNat_eq_natCast] at *); try simp (disch := omega) only [std, uid, S0] at *); omega
      have hc : ¬ st.getD k 0 ≤ p := by ((try subst hD hu); (try simp only [nc] at *); (try simp only [Int.ofNat_eq_natCast] at *); try simp (disch := omega) only [std, uid, S0] at *); omega
      refine ⟨k + 1, n, hkn, by rw [rowK, if_neg hc, hs], ssem_of ?_, by omega⟩
      ((try conv => cbv); (repeat' (first | (with_reducible refine mK hD ?_; kernel_rfl) | (with_reducible first | refine mS hD ?_ | refine mJ hL ?_ | refine mT hD ?_ | refine mF hD ?_ | refine mB hD (fun _ => ?_) (fun _ => ?_) | exact True.intro | refine And.intro ?_ ?_) <;> try conv => cbv)); all_goals try (first | trivial | (subst hD; first | exact fun _ _ => ⟨_, rfl⟩ | exact fl1 | exact fl1') | (((try subst hD hu); (try simp only [nc] at *); (try simp only [Int.ofNat_eq_natCast] at *); try simp (disch := omega) only [std, uid, S0] at *) <;> first | omega | rfl | (exfalso; simp_all only [Bool.true_eq_false, Bool.false_eq_true]; done))))
    · have ek : k = st.length := by ((try subst hD hu); (try simp only [nc] at *); (try simp only [Int.ofNat_eq_natCast] at *); try simp (disch := omega) only [std, uid, S0] at *); omega
      subst ek
      ((try subst hD hu); (try simp only [nc] at *); (try simp only [Int.ofNat_eq_natCast] at *); try simp (disch := omega) only [std, uid, S0, hs, rowOf] at *)
theorem x_l6Width' (cs : List Clu) (c : Int) (h : c = widthsOf cs) (hn : cs.length ≤ 1000000000) (hw : ∀ c, c ∈ cs → wOk c) : PX Try.prog 58 (fun D u => [.r (.c (lClu D u (u _ cs)))]) (fun D u => [RI (u _ c)]) (fun D u => []) := h ▸ x_l6Width cs hn hw
theorem x_l6Row' (st : List Int) (p : Int) (r : Nat) (h : r = rowOf st p) (hn : st.length ≤ 1000000000) (hp : okI p) (hst : ∀ x, x ∈ st → okI x) : PX Try.prog 57 (fun D u => [.r (.c (lN D u (u _ st))), AI (u _ p)]) (fun D u => [RI (u _ r)]) (fun D u => []) := h ▸ x_l6Row st p hn hp hst
end Go.AW
/- Lines: sizes, copies, alike, marked, held. -/
set_option linter.unusedVariables false
set_option linter.unusedSimpArgs false
namespace Go.AW
open Go.Proofs
set_option maxRecDepth 100000
theorem x_eqSnap (a : Snp) (hn : bdESnp 1000000000 a) : PX Try.prog 112 (fun D u => [.r (.a (rSnp D u (u _ a))), .r (.a (rSnp D u (u _ a)))]) (fun D u => [RB true]) (fun D u => []) := by
  refine px_of_awp (fn := Try.f112) (c := bodyOf Try.f112) envOk (by kernel_rfl) (by kernel_rfl) (by kernel_rfl) (by kernel_rfl) rfl (by kernel_rfl) (by kernel_rfl) ?_
  intro w0 mine D u C L hD hu hC hL
  ((try conv => cbv); (repeat' (first | (with_reducible refine mK hD ?_; kernel_rfl) | (with_reducible first | refine mS hD ?_ | refine mJ hL ?_ | refine mT hD ?_ | refine mF hD ?_ | refine mB hD (fun _ => ?_) (fun _ => ?_) | exact True.intro | refine And.intro ?_ ?_) <;> try conv => cbv)); all_goals try (first | trivial | (subst hD; first | exact fun _ _ => ⟨_, rfl⟩ | exact fl1 | exact fl1') | (((try subst hD hu); (try simp only [nc] at *); (try simp only [Int.ofNat_eq_natCast] at *); try simp (disch := omega) only [std, uid, S0] at *) <;> first | omega | rfl | (exfalso; simp_all only [Bool.true_eq_false, Bool.false_eq_true]; done))))
theorem x_szSnap (a : Snp) (left r : Int) (h : -1 ≤ left ∧ left ≤ 1048576) (hn : bdESnp 140737488355328 a) (hr : r = if left - toESnp a < 0 then -1 else left - toESnp a) : PX Try.prog 106 (fun D u => [.r (.a (rSnp D u (u _ a))), AI (u _ left)]) (fun D u => [RI (u _ r)]) (fun D u => []) := by
  refine px_of_awp (fn := Try.f106) (c := bodyOf Try.f106) envOk (by kernel_rfl) (by kernel_rfl) (by kernel_rfl) (by kernel_rfl) rfl (by kernel_rfl) (by kernel_rfl) ?_
  intro w0 mine D u C L hD hu hC hL
  simp only [toESnp] at hr
  simp only [bdESnp] at hn
  have hb0 := hn.1
  have hb1 := hn.2
  ((try conv => cbv); (repeat' (first | (with_reducible refine mK hD ?_; kernel_rfl) | (with_reducible first | refine mS hD ?_ | refine mJ hL ?_ | refine mT hD ?_ | refine mF hD ?_ | refine mB hD (fun _ => ?_) (fun _ => ?_) | exact True.intro | refine And.intro ?_ ?_) <;> try conv => cbv)); all_goals try (first | trivial | (subst hD; first | exact fun _ _ => ⟨_, rfl⟩ | exact fl1 | exact fl1') | (((try subst hD hu); (try simp only [nc] at *); (try simp only [Int.ofNat_eq_natCast] at *); try simp (disch := omega) only [std, uid, S0] at *) <;> first | omega | rfl | (exfalso; simp_all only [Bool.true_eq_false, Bool.false_eq_true]; done))))
theorem x_toSnap (a : Snp) (hn : bdESnp 1000000000 a) : PX Try.prog 107 (fun D u => [.r (.a (rSnp D u (u _ a)))]) (fun D u => [.a (rSnp D u (u _ a))]) (fun D u => []) := by
  refine px_of_awp (fn := Try.f107) (c := bodyOf Try.f107) envOk (by kernel_rfl) (by kernel_rfl) (by kernel_rfl) (by kernel_rfl) rfl (by kernel_rfl) (by kernel_rfl) ?_
  intro w0 mine D u C L hD hu hC hL
  ((try conv => cbv); (repeat' (first | (with_reducible refine mK hD ?_; kernel_rfl) | (with_reducible first | refine mS hD ?_ | refine mJ hL ?_ | refine mT hD ?_ | refine mF hD ?_ | refine mB hD (fun _ => ?_) (fun _ => ?_) | exact True.intro | refine And.intro ?_ ?_) <;> try conv => cbv)); all_goals try (first | trivial | (subst hD; first | exact fun _ _ => ⟨_, rfl⟩ | exact fl1 | exact fl1') | (((try subst hD hu); (try simp only [nc] at *); (try simp only [Int.ofNat_eq_natCast] at *); try simp (disch := omega) only [std, uid, S0] at *) <;> first | omega | rfl | (exfalso; simp_all only [Bool.true_eq_false, Bool.false_eq_true]; done))))
theorem x_szSnapS (a : List (Snp)) (left r : Int) (h : -1 ≤ left ∧ left ≤ 1048576) (hn : bdL bdESnp 140737488355328 a) (hr : r = if left - totL toESnp a < 0 then -1 else left - totL toESnp a) : PX Try.prog 41 (fun D u => [.r (.c (lSnp D u (u _ a))), AI (u _ left)]) (fun D u => [RI (u _ r)]) (fun D u => []) := by
  refine px_of_awp (fn := Try.f41) (c := bodyOf Try.f41) envOk (by kernel_rfl) (by kernel_rfl) (by kernel_rfl) (by kernel_rfl) rfl (by kernel_rfl) (by kernel_rfl) ?_
  intro w0 mine D u C L hD hu hC hL
  obtain ⟨hn1, hn2⟩ := hn
  have ht : totL toESnp a = a.length + cntL toESnp a := rfl
  have h0 := cntL_0 toESnp a
  ((try conv => cbv); (repeat' (first | (with_reducible refine mK hD ?_; kernel_rfl) | (with_reducible first | refine mS hD ?_ | refine mJ hL ?_ | refine mT hD ?_ | refine mF hD ?_ | refine mB hD (fun _ => ?_) (fun _ => ?_) | exact True.intro | refine And.intro ?_ ?_) <;> try conv => cbv)); all_goals try (first | trivial | (subst hD; first | exact fun _ _ => ⟨_, rfl⟩ | exact fl1 | exact fl1') | (((try subst hD hu); (try simp only [nc] at *); (try simp only [Int.ofNat_eq_natCast] at *); try simp (disch := omega) only [std, uid, S0] at *) <;> first | omega | rfl | (exfalso; simp_all only [Bool.true_eq_false, Bool.false_eq_true]; done))))
  refine loop_st hL a.length (fun k (_ : Unit) => 0 ≤ left - a.length - cntL toESnp (a.take k)) () (fun k s => [(5, VI (u _ k)), (1, VI (u _ (left - a.length - cntL toESnp (a.take k))))]) (fun k s => []) ?_ ?_ ?_
  · ((try subst hD hu); (try simp only [nc] at *); (try simp only [Int.ofNat_eq_natCast] at *); try simp (disch := omega) only [std, uid, S0] at *); omega
  · ((try conv => cbv); (repeat' (first | (with_reducible refine mK hD ?_; kernel_rfl) | (with_reducible first | refine mS hD ?_ | refine mJ hL ?_ | refine mT hD ?_ | refine mF hD ?_ | refine mB hD (fun _ => ?_) (fun _ => ?_) | exact True.intro | refine And.intro ?_ ?_) <;> try conv => cbv)); all_goals try (first | trivial | (subst hD; first | exact fun _ _ => ⟨_, rfl⟩ | exact fl1 | exact fl1') | (((try subst hD hu); (try simp only [nc] at *); (try simp only [Int.ofNat_eq_natCast] at *); try simp (disch := omega) only [std, uid, S0] at *) <;> first | omega | rfl | (exfalso; simp_all only [Bool.true_eq_false, Bool.false_eq_true]; done))))
  · intro k s hk hi
    have hc := cntL_le toESnp a k
    have hcs : k < a.length → cntL toESnp (a.take (k + 1)) = cntL toESnp (a.take k) + toESnp (a.getD k dSnp) := cntL_snoc toESnp a dSnp k
    have hca := cntL_all toESnp a
    have hc1 := cntL_le toESnp a (k + 1)
    have hxs : k < a.length → bdESnp 140737488355328 (a.getD k dSnp) := fun h => hn2 _ (getD_mem a dSnp k h)
    ((try conv => cbv); (repeat' (first | (with_reducible refine mK hD ?_; kernel_rfl) | (with_reducible first | refine mS hD ?_ | refine mJ hL ?_ | refine mT hD ?_ | refine mF hD ?_ | refine mB hD (fun _ => ?_) (fun _ => ?_) | exact True.intro | refine And.intro ?_ ?_) <;> try conv => cbv)); all_goals try (first | trivial | (subst hD; first | exact fun _ _ => ⟨_, rfl⟩ | exact fl1 | exact fl1') | (((try subst hD hu); (try simp only [nc] at *); (try simp only [Int.ofNat_eq_natCast] at *); try simp (disch := omega) only [std, uid, S0] at *) <;> first | omega | rfl | (exfalso; simp_all only [Bool.true_eq_false, Bool.false_eq_true]; done))))
    · have hkn : k < a.length := by ((try subst hD hu); (try simp only [nc] at *); (try simp only [Int.ofNat_eq_natCast] at *); try simp (disch := omega) only [std, uid, S0] at *); omega
      have hcs := hcs hkn
      have hxs := hxs hkn
      obtain ⟨r1, hr1⟩ := opq (if left - a.length - cntL toESnp (a.take k) - toESnp (a.getD k dSnp) < 0 then -1 else left - a.length - cntL toESnp (a.take k) - (toESnp (a.getD k dSnp) : Int))
      refine callx hD hu hC (x_szSnap (a.getD k dSnp) (left - a.length - cntL toESnp (a.take k)) r1 (by omega) hxs hr1) ?_
      ((try conv => cbv); (repeat' (first | (with_reducible refine mK hD ?_; kernel_rfl) | (with_reducible first | refine mS hD ?_ | refine mJ hL ?_ | refine mT hD ?_ | refine mF hD ?_ | refine mB hD (fun _ => ?_) (fun _ => ?_) | exact True.intro | refine And.intro ?_ ?_) <;> try conv => cbv)); all_goals try (first | trivial | (subst hD; first | exact fun _ _ => ⟨_, rfl⟩ | exact fl1 | exact fl1') | (((try subst hD hu); (try simp only [nc] at *); (try simp only [Int.ofNat_eq_natCast] at *); try simp (disch := omega) only [std, uid, S0] at *) <;> first | omega | rfl | (exfalso; simp_all only [Bool.true_eq_false, Bool.false_eq_true]; done))))
      all_goals try ((subst hD hu; (try simp only [std, uid, rR, rB, rT, rN, rClu, rCel, rSnp, rKey, rCluS, rCelS, lR, lB, lT, lN, lClu, lCel, eL, dClu, dCel, dSnp, dKey, Int.toNat_natCast, Int.ofNat_eq_natCast]) <;> rfl))
      all_goals try (((try subst hD hu); (try simp only [nc] at *); (try simp only [Int.ofNat_eq_natCast] at *); try simp (disch := omega) only [std, uid, S0] at *); omega; done)
      (have hkn : k + 1 ≤ a.length := (by ((try subst hD hu); (try simp only [nc] at *); (try simp only [Int.ofNat_eq_natCast] at *); try simp (disch := omega) only [std, uid, S0] at *); omega); refine ⟨k + 1, (), hkn, ?_, ssem_of ?_, by omega⟩)
      · ((try subst hD hu); (try simp only [nc] at *); (try simp only [Int.ofNat_eq_natCast] at *); try simp (disch := omega) only [std, uid, S0] at *)
        omega
      · ((try conv => cbv); (repeat' (first | (with_reducible refine mK hD ?_; kernel_rfl) | (with_reducible first | refine mS hD ?_ | refine mJ hL ?_ | refine mT hD ?_ | refine mF hD ?_ | refine mB hD (fun _ => ?_) (fun _ => ?_) | exact True.intro | refine And.intro ?_ ?_) <;> try conv => cbv)); all_goals try (first | trivial | (subst hD; first | exact fun _ _ => ⟨_, rfl⟩ | exact fl1 | exact fl1') | (((try subst hD hu); (try simp only [nc] at *); (try simp only [Int.ofNat_eq_natCast] at *); try simp (disch := omega) only [std, uid, S0] at *) <;> first | omega | rfl | (exfalso; simp_all only [Bool.true_eq_false, Bool.false_eq_true]; done))))
    · have e : k = a.length := by ((try subst hD hu); (try simp only [nc] at *); (try simp only [Int.ofNat_eq_natCast] at *); try simp (disch := omega) only [std, uid, S0] at *); omega
      subst e
      ((try subst hD hu); (try simp only [nc] at *); (try simp only [Int.ofNat_eq_natCast] at *); try simp (disch := omega) only [std, uid, S0] at *)
      omega
theorem x_toSnapS (a : List (Snp)) (hn : bdL bdESnp 1000000000 a) : PX Try.prog 46 (fun D u => [.r (.c (lSnp D u (u _ a)))]) (fun D u => [.c (lSnp D u (u _ a))]) (fun D u => []) := by
  refine px_of_awp (fn := Try.f46) (c := bodyOf Try.f46) envOk (by kernel_rfl) (by kernel_rfl) (by kernel_rfl) (by kernel_rfl) rfl (by kernel_rfl) (by kernel_rfl) ?_
  intro w0 mine D u C L hD hu hC hL
  obtain ⟨hn1, hn2⟩ := hn
  ((try conv => cbv); (repeat' (first | (with_reducible refine mK hD ?_; kernel_rfl) | (with_reducible first | refine mS hD ?_ | refine mJ hL ?_ | refine mT hD ?_ | refine mF hD ?_ | refine mB hD (fun _ => ?_) (fun _ => ?_) | exact True.intro | refine And.intro ?_ ?_) <;> try conv => cbv)); all_goals try (first | trivial | (subst hD; first | exact fun _ _ => ⟨_, rfl⟩ | exact fl1 | exact fl1') | (((try subst hD hu); (try simp only [nc] at *); (try simp only [Int.ofNat_eq_natCast] at *); try simp (disch := omega) only [std, uid, S0] at *) <;> first | omega | rfl | (exfalso; simp_all only [Bool.true_eq_false, Bool.false_eq_true]; done))))
  refine loop_st hL a.length (fun k s => s = a.take k ++ List.replicate (a.length - k) dSnp) _ (fun k s => [(4, VI (u _ k)), (3, vO D 0 (u _ s))]) (fun k s => [(0, oSnp D u (u _ s))]) rfl ?_ ?_
  · ((try conv => cbv); (repeat' (first | (with_reducible refine mK hD ?_; kernel_rfl) | (with_reducible first | refine mS hD ?_ | refine mJ hL ?_ | refine mT hD ?_ | refine mF hD ?_ | refine mB hD (fun _ => ?_) (fun _ => ?_) | exact True.intro | refine And.intro ?_ ?_) <;> try conv => cbv)); all_goals try (first | trivial | (subst hD; first | exact fun _ _ => ⟨_, rfl⟩ | exact fl1 | exact fl1') | (((try subst hD hu); (try simp only [nc] at *); (try simp only [Int.ofNat_eq_natCast] at *); try simp (disch := omega) only [std, uid, S0] at *) <;> first | omega | rfl | (exfalso; simp_all only [Bool.true_eq_false, Bool.false_eq_true]; done))))
    all_goals ((subst hD hu; apply qSnp; (focus repeat' (first | exact LR.refl | exact LR_bytes | apply mClu | apply mCel | apply mKey | apply mSnp | apply mKRd | apply mLin | apply mHis | apply mBlk | apply mScr | apply mSes | exact zR | exact zB | exact zT | exact zN | exact zClu | exact zCel | exact zCelS | exact zSnp | exact zKey | exact zSes | exact zScr | apply LR.deq | exact LR.nil | apply LR.one | apply LR.rep | apply LR.cat | apply LR.cat' | apply LR.set | exact u8_0 | exact DEq.s _ | (apply str_deq; (repeat' apply sr_cat) <;> rfl) | apply aLe_1 | (apply LR.rfl'; simp only [uid, std, S0]; omega))); all_goals try simp only [uid, std, Int.toNat_natCast, Int.ofNat_eq_natCast]); exact fill_0 a dSnp)
  · intro k s hk hs
    subst hs
    ((try conv => cbv); (repeat' (first | (with_reducible refine mK hD ?_; kernel_rfl) | (with_reducible first | refine mS hD ?_ | refine mJ hL ?_ | refine mT hD ?_ | refine mF hD ?_ | refine mB hD (fun _ => ?_) (fun _ => ?_) | exact True.intro | refine And.intro ?_ ?_) <;> try conv => cbv)); all_goals try (first | trivial | (subst hD; first | exact fun _ _ => ⟨_, rfl⟩ | exact fl1 | exact fl1') | (((try subst hD hu); (try simp only [nc] at *); (try simp only [Int.ofNat_eq_natCast] at *); try simp (disch := omega) only [std, uid, S0] at *) <;> first | omega | rfl | (exfalso; simp_all only [Bool.true_eq_false, Bool.false_eq_true]; done))))
    · have hkn : k < a.length := by ((try subst hD hu); (try simp only [nc] at *); (try simp only [Int.ofNat_eq_natCast] at *); try simp (disch := omega) only [std, uid, S0] at *); omega
      have hx := hn2 _ (getD_mem a dSnp k hkn)
      refine callx hD hu hC (x_toSnap (a.getD k dSnp) hx) ?_
      ((try conv => cbv); (repeat' (first | (with_reducible refine mK hD ?_; kernel_rfl) | (with_reducible first | refine mS hD ?_ | refine mJ hL ?_ | refine mT hD ?_ | refine mF hD ?_ | refine mB hD (fun _ => ?_) (fun _ => ?_) | exact True.intro | refine And.intro ?_ ?_) <;> try conv => cbv)); all_goals try (first | trivial | (subst hD; first | exact fun _ _ => ⟨_, rfl⟩ | exact fl1 | exact fl1') | (((try subst hD hu); (try simp only [nc] at *); (try simp only [Int.ofNat_eq_natCast] at *); try simp (disch := omega) only [std, uid, S0] at *) <;> first | omega | rfl | (exfalso; simp_all only [Bool.true_eq_false, Bool.false_eq_true]; done))))
      all_goals try ((subst hD hu; (try simp only [std, uid, rR, rB, rT, rN, rClu, rCel, rSnp, rKey, rCluS, rCelS, lR, lB, lT, lN, lClu, lCel, eL, dClu, dCel, dSnp, dKey, Int.toNat_natCast, Int.ofNat_eq_natCast]) <;> rfl))
      (have hkn : k + 1 ≤ a.length := (by ((try subst hD hu); (try simp only [nc] at *); (try simp only [Int.ofNat_eq_natCast] at *); try simp (disch := omega) only [std, uid, S0] at *); omega); refine ⟨k + 1, (a.take (k + 1) ++ List.replicate (a.length - (k + 1)) dSnp), hkn, ?_, ssem_of ?_, by omega⟩)
      · rfl
      · ((try conv => cbv); (repeat' (first | (with_reducible refine mK hD ?_; kernel_rfl) | (with_reducible first | refine mS hD ?_ | refine mJ hL ?_ | refine mT hD ?_ | refine mF hD ?_ | refine mB hD (fun _ => ?_) (fun _ => ?_) | exact True.intro | refine And.intro ?_ ?_) <;> try conv => cbv)); all_goals try (first | trivial | (subst hD; first | exact fun _ _ => ⟨_, rfl⟩ | exact fl1 | exact fl1') | (((try subst hD hu); (try simp only [nc] at *); (try simp only [Int.ofNat_eq_natCast] at *); try simp (disch := omega) only [std, uid, S0] at *) <;> first | omega | rfl | (exfalso; simp_all only [Bool.true_eq_false, Bool.false_eq_true]; done))))
        (subst hD hu; apply qSnp; (focus repeat' (first | exact LR.refl | exact LR_bytes | apply mClu | apply mCel | apply mKey | apply mSnp | apply mKRd | apply mLin | apply mHis | apply mBlk | apply mScr | apply mSes | exact zR | exact zB | exact zT | exact zN | exact zClu | exact zCel | exact zCelS | exact zSnp | exact zKey | exact zSes | exact zScr | apply LR.deq | exact LR.nil | apply LR.one | apply LR.rep | apply LR.cat | apply LR.cat' | apply LR.set | exact u8_0 | exact DEq.s _ | (apply str_deq; (repeat' apply sr_cat) <;> rfl) | apply aLe_1 | (apply LR.rfl'; simp only [uid, std, S0]; omega))); all_goals try simp only [uid, std, Int.toNat_natCast, Int.ofNat_eq_natCast])
        exact set_fill a dSnp k hkn
    · have e : k = a.length := by ((try subst hD hu); (try simp only [nc] at *); (try simp only [Int.ofNat_eq_natCast] at *); try simp (disch := omega) only [std, uid, S0] at *); omega
      subst e
      (subst hD hu; apply qSnp; (focus repeat' (first | exact LR.refl | exact LR_bytes | apply mClu | apply mCel | apply mKey | apply mSnp | apply mKRd | apply mLin | apply mHis | apply mBlk | apply mScr | apply mSes | exact zR | exact zB | exact zT | exact zN | exact zClu | exact zCel | exact zCelS | exact zSnp | exact zKey | exact zSes | exact zScr | apply LR.deq | exact LR.nil | apply LR.one | apply LR.rep | apply LR.cat | apply LR.cat' | apply LR.set | exact u8_0 | exact DEq.s _ | (apply str_deq; (repeat' apply sr_cat) <;> rfl) | apply aLe_1 | (apply LR.rfl'; simp only [uid, std, S0]; omega))); all_goals try simp only [uid, std, Int.toNat_natCast, Int.ofNat_eq_natCast])
      exact fill_all a dSnp
theorem x_eqSnapS (a : List (Snp)) (hn : bdL bdESnp 1000000000 a) : PX Try.prog 51 (fun D u => [.r (.c (lSnp D u (u _ a))), .r (.c (lSnp D u (u _ a)))]) (fun D u => [RB true]) (fun D u => []) := by
  refine px_of_awp (fn := Try.f51) (c := bodyOf Try.f51) envOk (by kernel_rfl) (by kernel_rfl) (by kernel_rfl) (by kernel_rfl) rfl (by kernel_rfl) (by kernel_rfl) ?_
  intro w0 mine D u C L hD hu hC hL
  obtain ⟨hn1, hn2⟩ := hn
  ((try conv => cbv); (repeat' (first | (with_reducible refine mK hD ?_; kernel_rfl) | (with_reducible first | refine mS hD ?_ | refine mJ hL ?_ | refine mT hD ?_ | refine mF hD ?_ | refine mB hD (fun _ => ?_) (fun _ => ?_) | exact True.intro | refine And.intro ?_ ?_) <;> try conv => cbv)); all_goals try (first | trivial | (subst hD; first | exact fun _ _ => ⟨_, rfl⟩ | exact fl1 | exact fl1') | (((try subst hD hu); (try simp only [nc] at *); (try simp only [Int.ofNat_eq_natCast] at *); try simp (disch := omega) only [std, uid, S0] at *) <;> first | omega | rfl | (exfalso; simp_all only [Bool.true_eq_false, Bool.false_eq_true]; done))))
  refine loop_st hL a.length (fun k (s : Unit) => True) () (fun k s => [(5, VI (u _ k))]) (fun k s => []) trivial ?_ ?_
  · ((try conv => cbv); (repeat' (first | (with_reducible refine mK hD ?_; kernel_rfl) | (with_reducible first | refine mS hD ?_ | refine mJ hL ?_ | refine mT hD ?_ | refine mF hD ?_ | refine mB hD (fun _ => ?_) (fun _ => ?_) | exact True.intro | refine And.intro ?_ ?_) <;> try conv => cbv)); all_goals try (first | trivial | (subst hD; first | exact fun _ _ => ⟨_, rfl⟩ | exact fl1 | exact fl1') | (((try subst hD hu); (try simp only [nc] at *); (try simp only [Int.ofNat_eq_natCast] at *); try simp (disch := omega) only [std, uid, S0] at *) <;> first | omega | rfl | (exfalso; simp_all only [Bool.true_eq_false, Bool.false_eq_true]; done))))
  · intro k s hk hs
    ((try conv => cbv); (repeat' (first | (with_reducible refine mK hD ?_; kernel_rfl) | (with_reducible first | refine mS hD ?_ | refine mJ hL ?_ | refine mT hD ?_ | refine mF hD ?_ | refine mB hD (fun _ => ?_) (fun _ => ?_) | exact True.intro | refine And.intro ?_ ?_) <;> try conv => cbv)); all_goals try (first | trivial | (subst hD; first | exact fun _ _ => ⟨_, rfl⟩ | exact fl1 | exact fl1') | (((try subst hD hu); (try simp only [nc] at *); (try simp only [Int.ofNat_eq_natCast] at *); try simp (disch := omega) only [std, uid, S0] at *) <;> first | omega | rfl | (exfalso; simp_all only [Bool.true_eq_false, Bool.false_eq_true]; done))))
    have hkn : k < a.length := by ((try subst hD hu); (try simp only [nc] at *); (try simp only [Int.ofNat_eq_natCast] at *); try simp (disch := omega) only [std, uid, S0] at *); omega
    have hx := hn2 _ (getD_mem a dSnp k hkn)
    refine callx hD hu hC (x_eqSnap (a.getD k dSnp) hx) ?_
    ((try conv => cbv); (repeat' (first | (with_reducible refine mK hD ?_; kernel_rfl) | (with_reducible first | refine mS hD ?_ | refine mJ hL ?_ | refine mT hD ?_ | refine mF hD ?_ | refine mB hD (fun _ => ?_) (fun _ => ?_) | exact True.intro | refine And.intro ?_ ?_) <;> try conv => cbv)); all_goals try (first | trivial | (subst hD; first | exact fun _ _ => ⟨_, rfl⟩ | exact fl1 | exact fl1') | (((try subst hD hu); (try simp only [nc] at *); (try simp only [Int.ofNat_eq_natCast] at *); try simp (disch := omega) only [std, uid, S0] at *) <;> first | omega | rfl | (exfalso; simp_all only [Bool.true_eq_false, Bool.false_eq_true]; done))))
    all_goals try ((subst hD hu; (try simp only [std, uid, rR, rB, rT, rN, rClu, rCel, rSnp, rKey, rCluS, rCelS, lR, lB, lT, lN, lClu, lCel, eL, dClu, dCel, dSnp, dKey, Int.toNat_natCast, Int.ofNat_eq_natCast]) <;> rfl))
    (have hkn : k + 1 ≤ a.length := (by ((try subst hD hu); (try simp only [nc] at *); (try simp only [Int.ofNat_eq_natCast] at *); try simp (disch := omega) only [std, uid, S0] at *); omega); refine ⟨k + 1, (), hkn, ?_, ssem_of ?_, by omega⟩)
    · trivial
    · ((try conv => cbv); (repeat' (first | (with_reducible refine mK hD ?_; kernel_rfl) | (with_reducible first | refine mS hD ?_ | refine mJ hL ?_ | refine mT hD ?_ | refine mF hD ?_ | refine mB hD (fun _ => ?_) (fun _ => ?_) | exact True.intro | refine And.intro ?_ ?_) <;> try conv => cbv)); all_goals try (first | trivial | (subst hD; first | exact fun _ _ => ⟨_, rfl⟩ | exact fl1 | exact fl1') | (((try subst hD hu); (try simp only [nc] at *); (try simp only [Int.ofNat_eq_natCast] at *); try simp (disch := omega) only [std, uid, S0] at *) <;> first | omega | rfl | (exfalso; simp_all only [Bool.true_eq_false, Bool.false_eq_true]; done))))
set_option maxHeartbeats 1000000 in
theorem x_markSnapS (a : List (Snp)) (m r : Int) (h : 0 ≤ m ∧ m + cntL cnESnp a ≤ 1000000000000000000) (hn : bdL bdESnp 1000000000 a) (hr : r = m + cntL cnESnp a) : PX Try.prog 52 (fun D u => [.o (.c (lSnp D u (u _ a))), AI (u _ m)]) (fun D u => [RI (u _ r)]) (fun D u => [.c (lSnp D u (u _ (markL mkESnp cnESnp a m)))]) := by
  refine px_of_awp (fn := Try.f52) (c := bodyOf Try.f52) envOk (by kernel_rfl) (by kernel_rfl) (by kernel_rfl) (by kernel_rfl) rfl (by kernel_rfl) (by kernel_rfl) ?_
  intro w0 mine D u C L hD hu hC hL
  obtain ⟨hn1, hn2⟩ := hn
  (have hset := hsA hD; have hset3 := hsB hD; have hset2 := hset; (conv at hset2 => enter [f, a, row, 1]; whnf); (conv at hset3 => enter [f, a, row, row', 1]; whnf; enter [1]; whnf); (conv at hset3 => enter [f, a, row, row', 2]; whnf))
  have hl := markL_len mkESnp cnESnp a m
  have h0 := cntL_0 cnESnp a
  have hca := cntL_all cnESnp a
  ((try conv => cbv); (repeat' (first | (with_reducible refine mK hD ?_; kernel_rfl) | (with_reducible first | refine mS hD ?_ | refine mJ hL ?_ | refine mT hD ?_ | refine mF hD ?_ | refine mB hD (fun _ => ?_) (fun _ => ?_) | exact True.intro | refine And.intro ?_ ?_) <;> try conv => cbv)); all_goals try (first | trivial | (subst hD; first | exact fun _ _ => ⟨_, rfl⟩ | exact fl1 | exact fl1') | (((try subst hD hu); (try simp only [nc] at *); (try simp only [Int.ofNat_eq_natCast] at *); try simp (disch := omega) only [std, uid, S0] at *) <;> first | omega | rfl | (exfalso; simp_all only [Bool.true_eq_false, Bool.false_eq_true]; done))))
  refine loop_st hL a.length (fun k s => s = (markL mkESnp cnESnp a m).take k ++ a.drop k) _ (fun k s => [(5, VI (u _ k)), (1, VI (u _ (m + cntL cnESnp (a.take k))))]) (fun k s => [(0, oSnp D u (u _ s))]) rfl ?_ ?_
  · ((try conv => cbv); (repeat' (first | (with_reducible refine mK hD ?_; kernel_rfl) | (with_reducible first | refine mS hD ?_ | refine mJ hL ?_ | refine mT hD ?_ | refine mF hD ?_ | refine mB hD (fun _ => ?_) (fun _ => ?_) | exact True.intro | refine And.intro ?_ ?_) <;> try conv => cbv)); all_goals try (first | trivial | (subst hD; first | exact fun _ _ => ⟨_, rfl⟩ | exact fl1 | exact fl1') | (((try subst hD hu); (try simp only [nc] at *); (try simp only [Int.ofNat_eq_natCast] at *); try simp (disch := omega) only [std, uid, S0] at *) <;> first | omega | rfl | (exfalso; simp_all only [Bool.true_eq_false, Bool.false_eq_true]; done))))
  · intro k s hk hs
    subst hs
    have hc := cntL_le cnESnp a k
    ((try conv => cbv); (repeat' (first | (with_reducible refine mK hD ?_; kernel_rfl) | (with_reducible first | refine mS hD ?_ | refine mJ hL ?_ | refine mT hD ?_ | refine mF hD ?_ | refine mB hD (fun _ => ?_) (fun _ => ?_) | exact True.intro | refine And.intro ?_ ?_) <;> try conv => cbv)); all_goals try (first | trivial | (subst hD; first | exact fun _ _ => ⟨_, rfl⟩ | exact fl1 | exact fl1') | (((try subst hD hu); (try simp only [nc] at *); (try simp only [Int.ofNat_eq_natCast] at *); try simp (disch := omega) only [std, uid, S0] at *) <;> first | omega | rfl | (exfalso; simp_all only [Bool.true_eq_false, Bool.false_eq_true]; done))))
    repeat' (simp only [hset2, hset3, hset, rowN]; ((try conv => cbv); (repeat' (first | (with_reducible refine mK hD ?_; kernel_rfl) | (with_reducible first | refine mS hD ?_ | refine mJ hL ?_ | refine mT hD ?_ | refine mF hD ?_ | refine mB hD (fun _ => ?_) (fun _ => ?_) | exact True.intro | refine And.intro ?_ ?_) <;> try conv => cbv)); all_goals try (first | trivial | (subst hD; first | exact fun _ _ => ⟨_, rfl⟩ | exact fl1 | exact fl1') | (((try subst hD hu); (try simp only [nc] at *); (try simp only [Int.ofNat_eq_natCast] at *); try simp (disch := omega) only [std, uid, S0] at *) <;> first | omega | rfl | (exfalso; simp_all only [Bool.true_eq_false, Bool.false_eq_true]; done)))))
    all_goals try (have e : k = a.length := (by ((try subst hD hu); (try simp only [nc] at *); (try simp only [Int.ofNat_eq_natCast] at *); try simp (disch := omega) only [std, uid, S0] at *); omega); subst e; first | (((try subst hD hu); (try simp only [nc] at *); (try simp only [Int.ofNat_eq_natCast] at *); try simp (disch := omega) only [std, uid, S0] at *); omega; done) | ((subst hD hu; apply qSnp; (focus repeat' (first | exact LR.refl | exact LR_bytes | apply mClu | apply mCel | apply mKey | apply mSnp | apply mKRd | apply mLin | apply mHis | apply mBlk | apply mScr | apply mSes | exact zR | exact zB | exact zT | exact zN | exact zClu | exact zCel | exact zCelS | exact zSnp | exact zKey | exact zSes | exact zScr | apply LR.deq | exact LR.nil | apply LR.one | apply LR.rep | apply LR.cat | apply LR.cat' | apply LR.set | exact u8_0 | exact DEq.s _ | (apply str_deq; (repeat' apply sr_cat) <;> rfl) | apply aLe_1 | (apply LR.rfl'; simp only [uid, std, S0]; omega))); all_goals try simp only [uid, std, Int.toNat_natCast, Int.ofNat_eq_natCast]); exact over_all _ a hl))
    · have hkn : k < a.length := by ((try subst hD hu); (try simp only [nc] at *); (try simp only [Int.ofNat_eq_natCast] at *); try simp (disch := omega) only [std, uid, S0] at *); omega
      have hg := over_get (markL mkESnp cnESnp a m) a dSnp k hkn hl
      have hq := markL_get mkESnp cnESnp dSnp a m k hkn
      have hcs := cntL_snoc cnESnp a dSnp k hkn
      have hc2 := cntL_le cnESnp a (k + 1)
      have hx := hn2 _ (getD_mem a dSnp k hkn)
      have hov := set_over (markL mkESnp cnESnp a m) a dSnp k hkn hl
      rw [hq] at hov
      generalize hx' : a.getD k dSnp = x at *
      simp only [cnESnp] at hcs
      generalize hK : m + (cntL cnESnp (a.take k) : Int) = K at *
      refine callx hD hu hC (x_markText (K) (by omega)) ?_
      ((try conv => cbv); (repeat' (first | (with_reducible refine mK hD ?_; kernel_rfl) | (with_reducible first | refine mS hD ?_ | refine mJ hL ?_ | refine mT hD ?_ | refine mF hD ?_ | refine mB hD (fun _ => ?_) (fun _ => ?_) | exact True.intro | refine And.intro ?_ ?_) <;> try conv => cbv)); all_goals try (first | trivial | (subst hD; first | exact fun _ _ => ⟨_, rfl⟩ | exact fl1 | exact fl1') | (((try subst hD hu); (try simp only [nc] at *); (try simp only [Int.ofNat_eq_natCast] at *); try simp (disch := omega) only [std, uid, S0] at *) <;> first | omega | rfl | (exfalso; simp_all only [Bool.true_eq_false, Bool.false_eq_true]; done))))
      all_goals try ((subst hD hu; (try simp only [std, uid, rR, rB, rT, rN, rClu, rCel, rSnp, rKey, rCluS, rCelS, lR, lB, lT, lN, lClu, lCel, eL, dClu, dCel, dSnp, dKey, Int.toNat_natCast, Int.ofNat_eq_natCast, hg]) <;> rfl))
      repeat' (simp only [hset2, hset3, hset, rowN]; ((try conv => cbv); (repeat' (first | (with_reducible refine mK hD ?_; kernel_rfl) | (with_reducible first | refine mS hD ?_ | refine mJ hL ?_ | refine mT hD ?_ | refine mF hD ?_ | refine mB hD (fun _ => ?_) (fun _ => ?_) | exact True.intro | refine And.intro ?_ ?_) <;> try conv => cbv)); all_goals try (first | trivial | (subst hD; first | exact fun _ _ => ⟨_, rfl⟩ | exact fl1 | exact fl1') | (((try subst hD hu); (try simp only [nc] at *); (try simp only [Int.ofNat_eq_natCast] at *); try simp (disch := omega) only [std, uid, S0] at *) <;> first | omega | rfl | (exfalso; simp_all only [Bool.true_eq_false, Bool.false_eq_true]; done)))))
      all_goals try ((subst hD hu; (try simp only [std, uid, rR, rB, rT, rN, rClu, rCel, rSnp, rKey, rCluS, rCelS, lR, lB, lT, lN, lClu, lCel, eL, dClu, dCel, dSnp, dKey, Int.toNat_natCast, Int.ofNat_eq_natCast, hg]) <;> rfl))
      refine callx hD hu hC (x_markText (K + 1) (by omega)) ?_
      ((try conv => cbv); (repeat' (first | (with_reducible refine mK hD ?_; kernel_rfl) | (with_reducible first | refine mS hD ?_ | refine mJ hL ?_ | refine mT hD ?_ | refine mF hD ?_ | refine mB hD (fun _ => ?_) (fun _ => ?_) | exact True.intro | refine And.intro ?_ ?_) <;> try conv => cbv)); all_goals try (first | trivial | (subst hD; first | exact fun _ _ => ⟨_, rfl⟩ | exact fl1 | exact fl1') | (((try subst hD hu); (try simp only [nc] at *); (try simp only [Int.ofNat_eq_natCast] at *); try simp (disch := omega) only [std, uid, S0] at *) <;> first | omega | rfl | (exfalso; simp_all only [Bool.true_eq_false, Bool.false_eq_true]; done))))
      all_goals try ((subst hD hu; (try simp only [std, uid, rR, rB, rT, rN, rClu, rCel, rSnp, rKey, rCluS, rCelS, lR, lB, lT, lN, lClu, lCel, eL, dClu, dCel, dSnp, dKey, Int.toNat_natCast, Int.ofNat_eq_natCast, hg]) <;> rfl))
      repeat' (simp only [hset2, hset3, hset, rowN]; ((try conv => cbv); (repeat' (first | (with_reducible refine mK hD ?_; kernel_rfl) | (with_reducible first | refine mS hD ?_ | refine mJ hL ?_ | refine mT hD ?_ | refine mF hD ?_ | refine mB hD (fun _ => ?_) (fun _ => ?_) | exact True.intro | refine And.intro ?_ ?_) <;> try conv => cbv)); all_goals try (first | trivial | (subst hD; first | exact fun _ _ => ⟨_, rfl⟩ | exact fl1 | exact fl1') | (((try subst hD hu); (try simp only [nc] at *); (try simp only [Int.ofNat_eq_natCast] at *); try simp (disch := omega) only [std, uid, S0] at *) <;> first | omega | rfl | (exfalso; simp_all only [Bool.true_eq_false, Bool.false_eq_true]; done)))))
      all_goals try ((subst hD hu; (try simp only [std, uid, rR, rB, rT, rN, rClu, rCel, rSnp, rKey, rCluS, rCelS, lR, lB, lT, lN, lClu, lCel, eL, dClu, dCel, dSnp, dKey, Int.toNat_natCast, Int.ofNat_eq_natCast, hg]) <;> rfl))
      (have hkn : k + 1 ≤ a.length := (by ((try subst hD hu); (try simp only [nc] at *); (try simp only [Int.ofNat_eq_natCast] at *); try simp (disch := omega) only [std, uid, S0] at *); omega); refine ⟨k + 1, ((markL mkESnp cnESnp a m).take (k + 1) ++ a.drop (k + 1)), hkn, ?_, ssem_of ?_, by omega⟩)
      · rfl
      · ((try conv => cbv); (repeat' (first | (with_reducible refine mK hD ?_; kernel_rfl) | (with_reducible first | refine mS hD ?_ | refine mJ hL ?_ | refine mT hD ?_ | refine mF hD ?_ | refine mB hD (fun _ => ?_) (fun _ => ?_) | exact True.intro | refine And.intro ?_ ?_) <;> try conv => cbv)); all_goals try (first | trivial | (subst hD; first | exact fun _ _ => ⟨_, rfl⟩ | exact fl1 | exact fl1') | (((try subst hD hu); (try simp only [nc] at *); (try simp only [Int.ofNat_eq_natCast] at *); try simp (disch := omega) only [std, uid, S0] at *) <;> first | omega | rfl | (exfalso; simp_all only [Bool.true_eq_false, Bool.false_eq_true]; done))))
        all_goals try (((try subst hD hu); (try simp only [nc] at *); (try simp only [Int.ofNat_eq_natCast] at *); try simp (disch := omega) only [std, uid, S0] at *); omega; done)
        (subst hD hu; apply qSnp; (focus repeat' (first | exact LR.refl | exact LR_bytes | apply mClu | apply mCel | apply mKey | apply mSnp | apply mKRd | apply mLin | apply mHis | apply mBlk | apply mScr | apply mSes | exact zR | exact zB | exact zT | exact zN | exact zClu | exact zCel | exact zCelS | exact zSnp | exact zKey | exact zSes | exact zScr | apply LR.deq | exact LR.nil | apply LR.one | apply LR.rep | apply LR.cat | apply LR.cat' | apply LR.set | exact u8_0 | exact DEq.s _ | (apply str_deq; (repeat' apply sr_cat) <;> rfl) | apply aLe_1 | (apply LR.rfl'; simp only [uid, std, S0]; omega))); all_goals try simp only [uid, std, Int.toNat_natCast, Int.ofNat_eq_natCast])
        try simp (disch := omega) only [wrap64, Int.tmod_eq_emod_of_nonneg]
        exact hov
set_option maxHeartbeats 1000000 in
theorem x_heldSnapS (a : List (Snp)) (m r : Int) (h : 0 ≤ m ∧ m + cntL cnESnp a ≤ 1000000000000000000) (hn : bdL bdESnp 1000000000 a) (hr : r = m + cntL cnESnp a) : PX Try.prog 53 (fun D u => [.r (.c (lSnp D u (u _ (markL mkESnp cnESnp a m)))), AI (u _ m)]) (fun D u => [RI (u _ r)]) (fun D u => []) := by
  refine px_of_awp (fn := Try.f53) (c := bodyOf Try.f53) envOk (by kernel_rfl) (by kernel_rfl) (by kernel_rfl) (by kernel_rfl) rfl (by kernel_rfl) (by kernel_rfl) ?_
  intro w0 mine D u C L hD hu hC hL
  obtain ⟨hn1, hn2⟩ := hn
  have hl := markL_len mkESnp cnESnp a m
  have h0 := cntL_0 cnESnp a
  have hca := cntL_all cnESnp a
  ((try conv => cbv); (repeat' (first | (with_reducible refine mK hD ?_; kernel_rfl) | (with_reducible first | refine mS hD ?_ | refine mJ hL ?_ | refine mT hD ?_ | refine mF hD ?_ | refine mB hD (fun _ => ?_) (fun _ => ?_) | exact True.intro | refine And.intro ?_ ?_) <;> try conv => cbv)); all_goals try (first | trivial | (subst hD; first | exact fun _ _ => ⟨_, rfl⟩ | exact fl1 | exact fl1') | (((try subst hD hu); (try simp only [nc] at *); (try simp only [Int.ofNat_eq_natCast] at *); try simp (disch := omega) only [std, uid, S0] at *) <;> first | omega | rfl | (exfalso; simp_all only [Bool.true_eq_false, Bool.false_eq_true]; done))))
  refine loop_st hL a.length (fun k (s : Unit) => True) () (fun k s => [(5, VI (u _ k)), (1, VI (u _ (m + cntL cnESnp (a.take k))))]) (fun k s => []) trivial ?_ ?_
  · ((try conv => cbv); (repeat' (first | (with_reducible refine mK hD ?_; kernel_rfl) | (with_reducible first | refine mS hD ?_ | refine mJ hL ?_ | refine mT hD ?_ | refine mF hD ?_ | refine mB hD (fun _ => ?_) (fun _ => ?_) | exact True.intro | refine And.intro ?_ ?_) <;> try conv => cbv)); all_goals try (first | trivial | (subst hD; first | exact fun _ _ => ⟨_, rfl⟩ | exact fl1 | exact fl1') | (((try subst hD hu); (try simp only [nc] at *); (try simp only [Int.ofNat_eq_natCast] at *); try simp (disch := omega) only [std, uid, S0] at *) <;> first | omega | rfl | (exfalso; simp_all only [Bool.true_eq_false, Bool.false_eq_true]; done))))
  · intro k s hk hs
    have hc := cntL_le cnESnp a k
    ((try conv => cbv); (repeat' (first | (with_reducible refine mK hD ?_; kernel_rfl) | (with_reducible first | refine mS hD ?_ | refine mJ hL ?_ | refine mT hD ?_ | refine mF hD ?_ | refine mB hD (fun _ => ?_) (fun _ => ?_) | exact True.intro | refine And.intro ?_ ?_) <;> try conv => cbv)); all_goals try (first | trivial | (subst hD; first | exact fun _ _ => ⟨_, rfl⟩ | exact fl1 | exact fl1') | (((try subst hD hu); (try simp only [nc] at *); (try simp only [Int.ofNat_eq_natCast] at *); try simp (disch := omega) only [std, uid, S0] at *) <;> first | omega | rfl | (exfalso; simp_all only [Bool.true_eq_false, Bool.false_eq_true]; done))))
    all_goals try (have e : k = a.length := (by ((try subst hD hu); (try simp only [nc] at *); (try simp only [Int.ofNat_eq_natCast] at *); try simp (disch := omega) only [std, uid, S0] at *); omega); subst e; ((try subst hD hu); (try simp only [nc] at *); (try simp only [Int.ofNat_eq_natCast] at *); try simp (disch := omega) only [std, uid, S0] at *); omega; done)
    all_goals (
      have hkn : k < a.length := by ((try subst hD hu); (try simp only [nc] at *); (try simp only [Int.ofNat_eq_natCast] at *); try simp (disch := omega) only [std, uid, S0] at *); omega
      have hq := markL_get mkESnp cnESnp dSnp a m k hkn
      have hcs := cntL_snoc cnESnp a dSnp k hkn
      have hc2 := cntL_le cnESnp a (k + 1)
      have hx := hn2 _ (getD_mem a dSnp k hkn)
      generalize hx' : a.getD k dSnp = x at *
      simp only [cnESnp] at hcs
      generalize hK : m + (cntL cnESnp (a.take k) : Int) = K at *)
    all_goals try (exfalso; ((try subst hD hu); (try simp only [nc] at *); (try simp only [Int.ofNat_eq_natCast] at *); try simp (disch := omega) only [std, uid, S0, hq, mkESnp] at *); first | done | omega | (simp_all; done))
    refine callx hD hu hC (x_markText (K) (by omega)) ?_
    ((try conv => cbv); (repeat' (first | (with_reducible refine mK hD ?_; kernel_rfl) | (with_reducible first | refine mS hD ?_ | refine mJ hL ?_ | refine mT hD ?_ | refine mF hD ?_ | refine mB hD (fun _ => ?_) (fun _ => ?_) | exact True.intro | refine And.intro ?_ ?_) <;> try conv => cbv)); all_goals try (first | trivial | (subst hD; first | exact fun _ _ => ⟨_, rfl⟩ | exact fl1 | exact fl1') | (((try subst hD hu); (try simp only [nc] at *); (try simp only [Int.ofNat_eq_natCast] at *); try simp (disch := omega) only [std, uid, S0] at *) <;> first | omega | rfl | (exfalso; simp_all only [Bool.true_eq_false, Bool.false_eq_true]; done))))
    all_goals try ((subst hD hu; (try simp only [std, uid, rR, rB, rT, rN, rClu, rCel, rSnp, rKey, rCluS, rCelS, lR, lB, lT, lN, lClu, lCel, eL, dClu, dCel, dSnp, dKey, Int.toNat_natCast, Int.ofNat_eq_natCast, hq, mkESnp]) <;> rfl))
    all_goals try (exfalso; ((try subst hD hu); (try simp only [nc] at *); (try simp only [Int.ofNat_eq_natCast] at *); try simp (disch := omega) only [std, uid, S0, hq, mkESnp] at *); first | done | omega | (simp_all; done))
    refine callx hD hu hC (x_markText (K + 1) (by omega)) ?_
    ((try conv => cbv); (repeat' (first | (with_reducible refine mK hD ?_; kernel_rfl) | (with_reducible first | refine mS hD ?_ | refine mJ hL ?_ | refine mT hD ?_ | refine mF hD ?_ | refine mB hD (fun _ => ?_) (fun _ => ?_) | exact True.intro | refine And.intro ?_ ?_) <;> try conv => cbv)); all_goals try (first | trivial | (subst hD; first | exact fun _ _ => ⟨_, rfl⟩ | exact fl1 | exact fl1') | (((try subst hD hu); (try simp only [nc] at *); (try simp only [Int.ofNat_eq_natCast] at *); try simp (disch := omega) only [std, uid, S0] at *) <;> first | omega | rfl | (exfalso; simp_all only [Bool.true_eq_false, Bool.false_eq_true]; done))))
    all_goals try ((subst hD hu; (try simp only [std, uid, rR, rB, rT, rN, rClu, rCel, rSnp, rKey, rCluS, rCelS, lR, lB, lT, lN, lClu, lCel, eL, dClu, dCel, dSnp, dKey, Int.toNat_natCast, Int.ofNat_eq_natCast, hq, mkESnp]) <;> rfl))
    all_goals try (exfalso; ((try subst hD hu); (try simp only [nc] at *); (try simp only [Int.ofNat_eq_natCast] at *); try simp (disch := omega) only [std, uid, S0, hq, mkESnp] at *); first | done | omega | (simp_all; done))
    all_goals (
      (have hkn : k + 1 ≤ a.length := (by ((try subst hD hu); (try simp only [nc] at *); (try simp only [Int.ofNat_eq_natCast] at *); try simp (disch := omega) only [std, uid, S0] at *); omega); refine ⟨k + 1, (), hkn, ?_, ssem_of ?_, by omega⟩)
      · trivial
      · ((try conv => cbv); (repeat' (first | (with_reducible refine mK hD ?_; kernel_rfl) | (with_reducible first | refine mS hD ?_ | refine mJ hL ?_ | refine mT hD ?_ | refine mF hD ?_ | refine mB hD (fun _ => ?_) (fun _ => ?_) | exact True.intro | refine And.intro ?_ ?_) <;> try conv => cbv)); all_goals try (first | trivial | (subst hD; first | exact fun _ _ => ⟨_, rfl⟩ | exact fl1 | exact fl1') | (((try subst hD hu); (try simp only [nc] at *); (try simp only [Int.ofNat_eq_natCast] at *); try simp (disch := omega) only [std, uid, S0] at *) <;> first | omega | rfl | (exfalso; simp_all only [Bool.true_eq_false, Bool.false_eq_true]; done)))))
theorem x_eqLine (a : Lin) (hn : bdELin 1000000000 a) : PX Try.prog 13 (fun D u => [.r (.a (rLin D u (u _ a))), .r (.a (rLin D u (u _ a)))]) (fun D u => [RB true]) (fun D u => []) := by
  refine px_of_awp (fn := Try.f13) (c := bodyOf Try.f13) envOk (by kernel_rfl) (by kernel_rfl) (by kernel_rfl) (by kernel_rfl) rfl (by kernel_rfl) (by kernel_rfl) ?_
  intro w0 mine D u C L hD hu hC hL
  ((try conv => cbv); (repeat' (first | (with_reducible refine mK hD ?_; kernel_rfl) | (with_reducible first | refine mS hD ?_ | refine mJ hL ?_ | refine mT hD ?_ | refine mF hD ?_ | refine mB hD (fun _ => ?_) (fun _ => ?_) | exact True.intro | refine And.intro ?_ ?_) <;> try conv => cbv)); all_goals try (first | trivial | (subst hD; first | exact fun _ _ => ⟨_, rfl⟩ | exact fl1 | exact fl1') | (((try subst hD hu); (try simp only [nc] at *); (try simp only [Int.ofNat_eq_natCast] at *); try simp (disch := omega) only [std, uid, S0] at *) <;> first | omega | rfl | (exfalso; simp_all only [Bool.true_eq_false, Bool.false_eq_true]; done))))
  all_goals (
    refine callx hD hu hC (x_eqSnapS a.undo (hn.2.2.2)) ?_
    ((try conv => cbv); (repeat' (first | (with_reducible refine mK hD ?_; kernel_rfl) | (with_reducible first | refine mS hD ?_ | refine mJ hL ?_ | refine mT hD ?_ | refine mF hD ?_ | refine mB hD (fun _ => ?_) (fun _ => ?_) | exact True.intro | refine And.intro ?_ ?_) <;> try conv => cbv)); all_goals try (first | trivial | (subst hD; first | exact fun _ _ => ⟨_, rfl⟩ | exact fl1 | exact fl1') | (((try subst hD hu); (try simp only [nc] at *); (try simp only [Int.ofNat_eq_natCast] at *); try simp (disch := omega) only [std, uid, S0] at *) <;> first | omega | rfl | (exfalso; simp_all only [Bool.true_eq_false, Bool.false_eq_true]; done))))
    all_goals try ((subst hD hu; (try simp only [std, uid, rR, rB, rT, rN, rClu, rCel, rSnp, rKey, rCluS, rCelS, lR, lB, lT, lN, lClu, lCel, eL, dClu, dCel, dSnp, dKey, Int.toNat_natCast, Int.ofNat_eq_natCast]) <;> rfl)))
theorem x_markLine (a : Lin) (m r : Int) (h : 0 ≤ m ∧ m + cvLin a ≤ 1000000000000000000) (hn : bdELin 1000000000 a) (hr : r = m + cvLin a) : PX Try.prog 14 (fun D u => [.o (.a (rLin D u (u _ a))), AI (u _ m)]) (fun D u => [RI (u _ r)]) (fun D u => [.a (rLin D u (u _ (mvLin a m)))]) := by
  refine px_of_awp (fn := Try.f14) (c := bodyOf Try.f14) envOk (by kernel_rfl) (by kernel_rfl) (by kernel_rfl) (by kernel_rfl) rfl (by kernel_rfl) (by kernel_rfl) ?_
  intro w0 mine D u C L hD hu hC hL
  simp only [cvLin] at hr h
  ((try conv => cbv); (repeat' (first | (with_reducible refine mK hD ?_; kernel_rfl) | (with_reducible first | refine mS hD ?_ | refine mJ hL ?_ | refine mT hD ?_ | refine mF hD ?_ | refine mB hD (fun _ => ?_) (fun _ => ?_) | exact True.intro | refine And.intro ?_ ?_) <;> try conv => cbv)); all_goals try (first | trivial | (subst hD; first | exact fun _ _ => ⟨_, rfl⟩ | exact fl1 | exact fl1') | (((try subst hD hu); (try simp only [nc] at *); (try simp only [Int.ofNat_eq_natCast] at *); try simp (disch := omega) only [std, uid, S0] at *) <;> first | omega | rfl | (exfalso; simp_all only [Bool.true_eq_false, Bool.false_eq_true]; done))))
  refine callx hD hu hC (x_markSnapS a.undo (m) (m + (cntL cnESnp a.undo : Nat)) (by omega) (hn.2.2.2) rfl) ?_
  ((try conv => cbv); (repeat' (first | (with_reducible refine mK hD ?_; kernel_rfl) | (with_reducible first | refine mS hD ?_ | refine mJ hL ?_ | refine mT hD ?_ | refine mF hD ?_ | refine mB hD (fun _ => ?_) (fun _ => ?_) | exact True.intro | refine And.intro ?_ ?_) <;> try conv => cbv)); all_goals try (first | trivial | (subst hD; first | exact fun _ _ => ⟨_, rfl⟩ | exact fl1 | exact fl1') | (((try subst hD hu); (try simp only [nc] at *); (try simp only [Int.ofNat_eq_natCast] at *); try simp (disch := omega) only [std, uid, S0] at *) <;> first | omega | rfl | (exfalso; simp_all only [Bool.true_eq_false, Bool.false_eq_true]; done))))
  all_goals try ((subst hD hu; (try simp only [std, uid, rR, rB, rT, rN, rClu, rCel, rSnp, rKey, rCluS, rCelS, lR, lB, lT, lN, lClu, lCel, eL, dClu, dCel, dSnp, dKey, Int.toNat_natCast, Int.ofNat_eq_natCast, mvLin, mkB_len, mkR_len, mkN_len, markL_len]) <;> rfl))
theorem x_heldLine (a : Lin) (m r : Int) (h : 0 ≤ m ∧ m + cvLin a ≤ 1000000000000000000) (hn : bdELin 1000000000 a) (hr : r = m + cvLin a) : PX Try.prog 15 (fun D u => [.r (.a (rLin D u (u _ (mvLin a m)))), AI (u _ m)]) (fun D u => [RI (u _ r)]) (fun D u => []) := by
  refine px_of_awp (fn := Try.f15) (c := bodyOf Try.f15) envOk (by kernel_rfl) (by kernel_rfl) (by kernel_rfl) (by kernel_rfl) rfl (by kernel_rfl) (by kernel_rfl) ?_
  intro w0 mine D u C L hD hu hC hL
  simp only [cvLin] at hr h
  ((try conv => cbv); (repeat' (first | (with_reducible refine mK hD ?_; kernel_rfl) | (with_reducible first | refine mS hD ?_ | refine mJ hL ?_ | refine mT hD ?_ | refine mF hD ?_ | refine mB hD (fun _ => ?_) (fun _ => ?_) | exact True.intro | refine And.intro ?_ ?_) <;> try conv => cbv)); all_goals try (first | trivial | (subst hD; first | exact fun _ _ => ⟨_, rfl⟩ | exact fl1 | exact fl1') | (((try subst hD hu); (try simp only [nc] at *); (try simp only [Int.ofNat_eq_natCast] at *); try simp (disch := omega) only [std, uid, S0] at *) <;> first | omega | rfl | (exfalso; simp_all only [Bool.true_eq_false, Bool.false_eq_true]; done))))
  refine callx hD hu hC (x_heldSnapS a.undo (m) (m + (cntL cnESnp a.undo : Nat)) (by omega) (hn.2.2.2) rfl) ?_
  ((try conv => cbv); (repeat' (first | (with_reducible refine mK hD ?_; kernel_rfl) | (with_reducible first | refine mS hD ?_ | refine mJ hL ?_ | refine mT hD ?_ | refine mF hD ?_ | refine mB hD (fun _ => ?_) (fun _ => ?_) | exact True.intro | refine And.intro ?_ ?_) <;> try conv => cbv)); all_goals try (first | trivial | (subst hD; first | exact fun _ _ => ⟨_, rfl⟩ | exact fl1 | exact fl1') | (((try subst hD hu); (try simp only [nc] at *); (try simp only [Int.ofNat_eq_natCast] at *); try simp (disch := omega) only [std, uid, S0] at *) <;> first | omega | rfl | (exfalso; simp_all only [Bool.true_eq_false, Bool.false_eq_true]; done))))
  all_goals try ((subst hD hu; (try simp only [std, uid, rR, rB, rT, rN, rClu, rCel, rSnp, rKey, rCluS, rCelS, lR, lB, lT, lN, lClu, lCel, eL, dClu, dCel, dSnp, dKey, Int.toNat_natCast, Int.ofNat_eq_natCast, mvLin, mkB_len, mkR_len, mkN_len, markL_len]) <;> rfl))
theorem x_szLine (a : Lin) (left r : Int) (h : -1 ≤ left ∧ left ≤ 1048576) (hn : bdELin 140737488355328 a) (hr : r = if left - toELin a < 0 then -1 else left - toELin a) : PX Try.prog 9 (fun D u => [.r (.a (rLin D u (u _ a))), AI (u _ left)]) (fun D u => [RI (u _ r)]) (fun D u => []) := by
  refine px_of_awp (fn := Try.f9) (c := bodyOf Try.f9) envOk (by kernel_rfl) (by kernel_rfl) (by kernel_rfl) (by kernel_rfl) rfl (by kernel_rfl) (by kernel_rfl) ?_
  intro w0 mine D u C L hD hu hC hL
  simp only [toELin] at hr
  simp only [bdELin] at hn
  have hb0 := hn.1
  have hb1 := hn.2.1
  have hb2 := hn.2.2.1
  ((try conv => cbv); (repeat' (first | (with_reducible refine mK hD ?_; kernel_rfl) | (with_reducible first | refine mS hD ?_ | refine mJ hL ?_ | refine mT hD ?_ | refine mF hD ?_ | refine mB hD (fun _ => ?_) (fun _ => ?_) | exact True.intro | refine And.intro ?_ ?_) <;> try conv => cbv)); all_goals try (first | trivial | (subst hD; first | exact fun _ _ => ⟨_, rfl⟩ | exact fl1 | exact fl1') | (((try subst hD hu); (try simp only [nc] at *); (try simp only [Int.ofNat_eq_natCast] at *); try simp (disch := omega) only [std, uid, S0] at *) <;> first | omega | rfl | (exfalso; simp_all only [Bool.true_eq_false, Bool.false_eq_true]; done))))
  obtain ⟨r1, hr1⟩ := opq (if left - a.left.length - a.right.length - a.kill.length - (totL toESnp a.undo : Nat) < 0 then -1 else left - a.left.length - a.right.length - a.kill.length - ((totL toESnp a.undo : Nat) : Int))
  refine callx hD hu hC (x_szSnapS a.undo (left - a.left.length - a.right.length - a.kill.length) r1 (by ((try subst hD hu); (try simp only [nc] at *); (try simp only [Int.ofNat_eq_natCast] at *); try simp (disch := omega) only [std, uid, S0] at *); omega) (hn.2.2.2) hr1) ?_
  ((try conv => cbv); (repeat' (first | (with_reducible refine mK hD ?_; kernel_rfl) | (with_reducible first | refine mS hD ?_ | refine mJ hL ?_ | refine mT hD ?_ | refine mF hD ?_ | refine mB hD (fun _ => ?_) (fun _ => ?_) | exact True.intro | refine And.intro ?_ ?_) <;> try conv => cbv)); all_goals try (first | trivial | (subst hD; first | exact fun _ _ => ⟨_, rfl⟩ | exact fl1 | exact fl1') | (((try subst hD hu); (try simp only [nc] at *); (try simp only [Int.ofNat_eq_natCast] at *); try simp (disch := omega) only [std, uid, S0] at *) <;> first | omega | rfl | (exfalso; simp_all only [Bool.true_eq_false, Bool.false_eq_true]; done))))
  all_goals try ((subst hD hu; (try simp only [std, uid, rR, rB, rT, rN, rClu, rCel, rSnp, rKey, rCluS, rCelS, lR, lB, lT, lN, lClu, lCel, eL, dClu, dCel, dSnp, dKey, Int.toNat_natCast, Int.ofNat_eq_natCast]) <;> rfl))
  all_goals try (((try subst hD hu); (try simp only [nc] at *); (try simp only [Int.ofNat_eq_natCast] at *); try simp (disch := omega) only [std, uid, S0] at *); omega; done)
theorem x_toLine (a : Lin) (hn : bdELin 1000000000 a) : PX Try.prog 11 (fun D u => [.r (.a (rLin D u (u _ a)))]) (fun D u => [.a (rLin D u (u _ a))]) (fun D u => []) := by
  refine px_of_awp (fn := Try.f11) (c := bodyOf Try.f11) envOk (by kernel_rfl) (by kernel_rfl) (by kernel_rfl) (by kernel_rfl) rfl (by kernel_rfl) (by kernel_rfl) ?_
  intro w0 mine D u C L hD hu hC hL
  ((try conv => cbv); (repeat' (first | (with_reducible refine mK hD ?_; kernel_rfl) | (with_reducible first | refine mS hD ?_ | refine mJ hL ?_ | refine mT hD ?_ | refine mF hD ?_ | refine mB hD (fun _ => ?_) (fun _ => ?_) | exact True.intro | refine And.intro ?_ ?_) <;> try conv => cbv)); all_goals try (first | trivial | (subst hD; first | exact fun _ _ => ⟨_, rfl⟩ | exact fl1 | exact fl1') | (((try subst hD hu); (try simp only [nc] at *); (try simp only [Int.ofNat_eq_natCast] at *); try simp (disch := omega) only [std, uid, S0] at *) <;> first | omega | rfl | (exfalso; simp_all only [Bool.true_eq_false, Bool.false_eq_true]; done))))
  refine callx hD hu hC (x_toSnapS a.undo (hn.2.2.2)) ?_
  ((try conv => cbv); (repeat' (first | (with_reducible refine mK hD ?_; kernel_rfl) | (with_reducible first | refine mS hD ?_ | refine mJ hL ?_ | refine mT hD ?_ | refine mF hD ?_ | refine mB hD (fun _ => ?_) (fun _ => ?_) | exact True.intro | refine And.intro ?_ ?_) <;> try conv => cbv)); all_goals try (first | trivial | (subst hD; first | exact fun _ _ => ⟨_, rfl⟩ | exact fl1 | exact fl1') | (((try subst hD hu); (try simp only [nc] at *); (try simp only [Int.ofNat_eq_natCast] at *); try simp (disch := omega) only [std, uid, S0] at *) <;> first | omega | rfl | (exfalso; simp_all only [Bool.true_eq_false, Bool.false_eq_true]; done))))
  all_goals try ((subst hD hu; (try simp only [std, uid, rR, rB, rT, rN, rClu, rCel, rSnp, rKey, rCluS, rCelS, lR, lB, lT, lN, lClu, lCel, eL, dClu, dCel, dSnp, dKey, Int.toNat_natCast, Int.ofNat_eq_natCast]) <;> rfl))
end Go.AW
/- Histories and blocks: sizes, copies, alike, marked, held. -/
set_option linter.unusedVariables false
set_option linter.unusedSimpArgs false
namespace Go.AW
open Go.Proofs
set_option maxRecDepth 100000
theorem x_eqHistory (a : His) (hn : bdEHis 1000000000 a) : PX Try.prog 30 (fun D u => [.r (.a (rHis D u (u _ a))), .r (.a (rHis D u (u _ a)))]) (fun D u => [RB true]) (fun D u => []) := by
  refine px_of_awp (fn := Try.f30) (c := bodyOf Try.f30) envOk (by kernel_rfl) (by kernel_rfl) (by kernel_rfl) (by kernel_rfl) rfl (by kernel_rfl) (by kernel_rfl) ?_
  intro w0 mine D u C L hD hu hC hL
  ((try conv => cbv); (repeat' (first | (with_reducible refine mK hD ?_; kernel_rfl) | (with_reducible first | refine mS hD ?_ | refine mJ hL ?_ | refine mT hD ?_ | refine mF hD ?_ | refine mB hD (fun _ => ?_) (fun _ => ?_) | exact True.intro | refine And.intro ?_ ?_) <;> try conv => cbv)); all_goals try (first | trivial | (subst hD; first | exact fun _ _ => ⟨_, rfl⟩ | exact fl1 | exact fl1') | (((try subst hD hu); (try simp only [nc] at *); (try simp only [Int.ofNat_eq_natCast] at *); try simp (disch := omega) only [std, uid, S0] at *) <;> first | omega | rfl | (exfalso; simp_all only [Bool.true_eq_false, Bool.false_eq_true]; done))))
  all_goals (
    refine callx hD hu hC (x_eqStringS a.items (hn)) ?_
    ((try conv => cbv); (repeat' (first | (with_reducible refine mK hD ?_; kernel_rfl) | (with_reducible first | refine mS hD ?_ | refine mJ hL ?_ | refine mT hD ?_ | refine mF hD ?_ | refine mB hD (fun _ => ?_) (fun _ => ?_) | exact True.intro | refine And.intro ?_ ?_) <;> try conv => cbv)); all_goals try (first | trivial | (subst hD; first | exact fun _ _ => ⟨_, rfl⟩ | exact fl1 | exact fl1') | (((try subst hD hu); (try simp only [nc] at *); (try simp only [Int.ofNat_eq_natCast] at *); try simp (disch := omega) only [std, uid, S0] at *) <;> first | omega | rfl | (exfalso; simp_all only [Bool.true_eq_false, Bool.false_eq_true]; done))))
    all_goals try ((subst hD hu; (try simp only [std, uid, rR, rB, rT, rN, rClu, rCel, rSnp, rKey, rCluS, rCelS, lR, lB, lT, lN, lClu, lCel, eL, dClu, dCel, dSnp, dKey, Int.toNat_natCast, Int.ofNat_eq_natCast]) <;> rfl)))
theorem x_markHistory (a : His) (m r : Int) (h : 0 ≤ m ∧ m + cvHis a ≤ 1000000000000000000) (hn : bdEHis 1000000000 a) (hr : r = m + cvHis a) : PX Try.prog 33 (fun D u => [.o (.a (rHis D u (u _ a))), AI (u _ m)]) (fun D u => [RI (u _ r)]) (fun D u => [.a (rHis D u (u _ (mvHis a m)))]) := by
  refine px_of_awp (fn := Try.f33) (c := bodyOf Try.f33) envOk (by kernel_rfl) (by kernel_rfl) (by kernel_rfl) (by kernel_rfl) rfl (by kernel_rfl) (by kernel_rfl) ?_
  intro w0 mine D u C L hD hu hC hL
  simp only [cvHis] at hr h
  ((try conv => cbv); (repeat' (first | (with_reducible refine mK hD ?_; kernel_rfl) | (with_reducible first | refine mS hD ?_ | refine mJ hL ?_ | refine mT hD ?_ | refine mF hD ?_ | refine mB hD (fun _ => ?_) (fun _ => ?_) | exact True.intro | refine And.intro ?_ ?_) <;> try conv => cbv)); all_goals try (first | trivial | (subst hD; first | exact fun _ _ => ⟨_, rfl⟩ | exact fl1 | exact fl1') | (((try subst hD hu); (try simp only [nc] at *); (try simp only [Int.ofNat_eq_natCast] at *); try simp (disch := omega) only [std, uid, S0] at *) <;> first | omega | rfl | (exfalso; simp_all only [Bool.true_eq_false, Bool.false_eq_true]; done))))
  refine callx hD hu hC (x_markStringS a.items (m) (m + (cntL cnET a.items : Nat)) (by omega) (hn) rfl) ?_
  ((try conv => cbv); (repeat' (first | (with_reducible refine mK hD ?_; kernel_rfl) | (with_reducible first | refine mS hD ?_ | refine mJ hL ?_ | refine mT hD ?_ | refine mF hD ?_ | refine mB hD (fun _ => ?_) (fun _ => ?_) | exact True.intro | refine And.intro ?_ ?_) <;> try conv => cbv)); all_goals try (first | trivial | (subst hD; first | exact fun _ _ => ⟨_, rfl⟩ | exact fl1 | exact fl1') | (((try subst hD hu); (try simp only [nc] at *); (try simp only [Int.ofNat_eq_natCast] at *); try simp (disch := omega) only [std, uid, S0] at *) <;> first | omega | rfl | (exfalso; simp_all only [Bool.true_eq_false, Bool.false_eq_true]; done))))
  all_goals try ((subst hD hu; (try simp only [std, uid, rR, rB, rT, rN, rClu, rCel, rSnp, rKey, rCluS, rCelS, lR, lB, lT, lN, lClu, lCel, eL, dClu, dCel, dSnp, dKey, Int.toNat_natCast, Int.ofNat_eq_natCast, mvHis, mkB_len, mkR_len, mkN_len, markL_len]) <;> rfl))
theorem x_heldHistory (a : His) (m r : Int) (h : 0 ≤ m ∧ m + cvHis a ≤ 1000000000000000000) (hn : bdEHis 1000000000 a) (hr : r = m + cvHis a) : PX Try.prog 34 (fun D u => [.r (.a (rHis D u (u _ (mvHis a m)))), AI (u _ m)]) (fun D u => [RI (u _ r)]) (fun D u => []) := by
  refine px_of_awp (fn := Try.f34) (c := bodyOf Try.f34) envOk (by kernel_rfl) (by kernel_rfl) (by kernel_rfl) (by kernel_rfl) rfl (by kernel_rfl) (by kernel_rfl) ?_
  intro w0 mine D u C L hD hu hC hL
  simp only [cvHis] at hr h
  ((try conv => cbv); (repeat' (first | (with_reducible refine mK hD ?_; kernel_rfl) | (with_reducible first | refine mS hD ?_ | refine mJ hL ?_ | refine mT hD ?_ | refine mF hD ?_ | refine mB hD (fun _ => ?_) (fun _ => ?_) | exact True.intro | refine And.intro ?_ ?_) <;> try conv => cbv)); all_goals try (first | trivial | (subst hD; first | exact fun _ _ => ⟨_, rfl⟩ | exact fl1 | exact fl1') | (((try subst hD hu); (try simp only [nc] at *); (try simp only [Int.ofNat_eq_natCast] at *); try simp (disch := omega) only [std, uid, S0] at *) <;> first | omega | rfl | (exfalso; simp_all only [Bool.true_eq_false, Bool.false_eq_true]; done))))
  refine callx hD hu hC (x_heldStringS a.items (m) (m + (cntL cnET a.items : Nat)) (by omega) (hn) rfl) ?_
  ((try conv => cbv); (repeat' (first | (with_reducible refine mK hD ?_; kernel_rfl) | (with_reducible first | refine mS hD ?_ | refine mJ hL ?_ | refine mT hD ?_ | refine mF hD ?_ | refine mB hD (fun _ => ?_) (fun _ => ?_) | exact True.intro | refine And.intro ?_ ?_) <;> try conv => cbv)); all_goals try (first | trivial | (subst hD; first | exact fun _ _ => ⟨_, rfl⟩ | exact fl1 | exact fl1') | (((try subst hD hu); (try simp only [nc] at *); (try simp only [Int.ofNat_eq_natCast] at *); try simp (disch := omega) only [std, uid, S0] at *) <;> first | omega | rfl | (exfalso; simp_all only [Bool.true_eq_false, Bool.false_eq_true]; done))))
  all_goals try ((subst hD hu; (try simp only [std, uid, rR, rB, rT, rN, rClu, rCel, rSnp, rKey, rCluS, rCelS, lR, lB, lT, lN, lClu, lCel, eL, dClu, dCel, dSnp, dKey, Int.toNat_natCast, Int.ofNat_eq_natCast, mvHis, mkB_len, mkR_len, mkN_len, markL_len]) <;> rfl))
theorem x_szHistory (a : His) (left r : Int) (h : -1 ≤ left ∧ left ≤ 1048576) (hn : bdEHis 140737488355328 a) (hr : r = if left - toEHis a < 0 then -1 else left - toEHis a) : PX Try.prog 26 (fun D u => [.r (.a (rHis D u (u _ a))), AI (u _ left)]) (fun D u => [RI (u _ r)]) (fun D u => []) := by
  refine px_of_awp (fn := Try.f26) (c := bodyOf Try.f26) envOk (by kernel_rfl) (by kernel_rfl) (by kernel_rfl) (by kernel_rfl) rfl (by kernel_rfl) (by kernel_rfl) ?_
  intro w0 mine D u C L hD hu hC hL
  simp only [toEHis] at hr
  simp only [bdEHis] at hn
  ((try conv => cbv); (repeat' (first | (with_reducible refine mK hD ?_; kernel_rfl) | (with_reducible first | refine mS hD ?_ | refine mJ hL ?_ | refine mT hD ?_ | refine mF hD ?_ | refine mB hD (fun _ => ?_) (fun _ => ?_) | exact True.intro | refine And.intro ?_ ?_) <;> try conv => cbv)); all_goals try (first | trivial | (subst hD; first | exact fun _ _ => ⟨_, rfl⟩ | exact fl1 | exact fl1') | (((try subst hD hu); (try simp only [nc] at *); (try simp only [Int.ofNat_eq_natCast] at *); try simp (disch := omega) only [std, uid, S0] at *) <;> first | omega | rfl | (exfalso; simp_all only [Bool.true_eq_false, Bool.false_eq_true]; done))))
  obtain ⟨r1, hr1⟩ := opq (if left - (totL toET a.items : Nat) < 0 then -1 else left - ((totL toET a.items : Nat) : Int))
  refine callx hD hu hC (x_szStringS a.items (left) r1 (by ((try subst hD hu); (try simp only [nc] at *); (try simp only [Int.ofNat_eq_natCast] at *); try simp (disch := omega) only [std, uid, S0] at *); omega) (hn) hr1) ?_
  ((try conv => cbv); (repeat' (first | (with_reducible refine mK hD ?_; kernel_rfl) | (with_reducible first | refine mS hD ?_ | refine mJ hL ?_ | refine mT hD ?_ | refine mF hD ?_ | refine mB hD (fun _ => ?_) (fun _ => ?_) | exact True.intro | refine And.intro ?_ ?_) <;> try conv => cbv)); all_goals try (first | trivial | (subst hD; first | exact fun _ _ => ⟨_, rfl⟩ | exact fl1 | exact fl1') | (((try subst hD hu); (try simp only [nc] at *); (try simp only [Int.ofNat_eq_natCast] at *); try simp (disch := omega) only [std, uid, S0] at *) <;> first | omega | rfl | (exfalso; simp_all only [Bool.true_eq_false, Bool.false_eq_true]; done))))
  all_goals try ((subst hD hu; (try simp only [std, uid, rR, rB, rT, rN, rClu, rCel, rSnp, rKey, rCluS, rCelS, lR, lB, lT, lN, lClu, lCel, eL, dClu, dCel, dSnp, dKey, Int.toNat_natCast, Int.ofNat_eq_natCast]) <;> rfl))
  all_goals try (((try subst hD hu); (try simp only [nc] at *); (try simp only [Int.ofNat_eq_natCast] at *); try simp (disch := omega) only [std, uid, S0] at *); omega; done)
theorem x_toHistory (a : His) (hn : bdEHis 1000000000 a) : PX Try.prog 28 (fun D u => [.r (.a (rHis D u (u _ a)))]) (fun D u => [.a (rHis D u (u _ a))]) (fun D u => []) := by
  refine px_of_awp (fn := Try.f28) (c := bodyOf Try.f28) envOk (by kernel_rfl) (by kernel_rfl) (by kernel_rfl) (by kernel_rfl) rfl (by kernel_rfl) (by kernel_rfl) ?_
  intro w0 mine D u C L hD hu hC hL
  ((try conv => cbv); (repeat' (first | (with_reducible refine mK hD ?_; kernel_rfl) | (with_reducible first | refine mS hD ?_ | refine mJ hL ?_ | refine mT hD ?_ | refine mF hD ?_ | refine mB hD (fun _ => ?_) (fun _ => ?_) | exact True.intro | refine And.intro ?_ ?_) <;> try conv => cbv)); all_goals try (first | trivial | (subst hD; first | exact fun _ _ => ⟨_, rfl⟩ | exact fl1 | exact fl1') | (((try subst hD hu); (try simp only [nc] at *); (try simp only [Int.ofNat_eq_natCast] at *); try simp (disch := omega) only [std, uid, S0] at *) <;> first | omega | rfl | (exfalso; simp_all only [Bool.true_eq_false, Bool.false_eq_true]; done))))
  refine callx hD hu hC (x_toStringS a.items (hn)) ?_
  ((try conv => cbv); (repeat' (first | (with_reducible refine mK hD ?_; kernel_rfl) | (with_reducible first | refine mS hD ?_ | refine mJ hL ?_ | refine mT hD ?_ | refine mF hD ?_ | refine mB hD (fun _ => ?_) (fun _ => ?_) | exact True.intro | refine And.intro ?_ ?_) <;> try conv => cbv)); all_goals try (first | trivial | (subst hD; first | exact fun _ _ => ⟨_, rfl⟩ | exact fl1 | exact fl1') | (((try subst hD hu); (try simp only [nc] at *); (try simp only [Int.ofNat_eq_natCast] at *); try simp (disch := omega) only [std, uid, S0] at *) <;> first | omega | rfl | (exfalso; simp_all only [Bool.true_eq_false, Bool.false_eq_true]; done))))
  all_goals try ((subst hD hu; (try simp only [std, uid, rR, rB, rT, rN, rClu, rCel, rSnp, rKey, rCluS, rCelS, lR, lB, lT, lN, lClu, lCel, eL, dClu, dCel, dSnp, dKey, Int.toNat_natCast, Int.ofNat_eq_natCast]) <;> rfl))
theorem x_eqBlock (a : Blk) (hn : bdEBlk 1000000000 a) : PX Try.prog 18 (fun D u => [.r (.a (rBlk D u (u _ a))), .r (.a (rBlk D u (u _ a)))]) (fun D u => [RB true]) (fun D u => []) := by
  refine px_of_awp (fn := Try.f18) (c := bodyOf Try.f18) envOk (by kernel_rfl) (by kernel_rfl) (by kernel_rfl) (by kernel_rfl) rfl (by kernel_rfl) (by kernel_rfl) ?_
  intro w0 mine D u C L hD hu hC hL
  ((try conv => cbv); (repeat' (first | (with_reducible refine mK hD ?_; kernel_rfl) | (with_reducible first | refine mS hD ?_ | refine mJ hL ?_ | refine mT hD ?_ | refine mF hD ?_ | refine mB hD (fun _ => ?_) (fun _ => ?_) | exact True.intro | refine And.intro ?_ ?_) <;> try conv => cbv)); all_goals try (first | trivial | (subst hD; first | exact fun _ _ => ⟨_, rfl⟩ | exact fl1 | exact fl1') | (((try subst hD hu); (try simp only [nc] at *); (try simp only [Int.ofNat_eq_natCast] at *); try simp (disch := omega) only [std, uid, S0] at *) <;> first | omega | rfl | (exfalso; simp_all only [Bool.true_eq_false, Bool.false_eq_true]; done))))
  all_goals (
    refine callx hD hu hC (x_eqStringS a.rows (hn)) ?_
    ((try conv => cbv); (repeat' (first | (with_reducible refine mK hD ?_; kernel_rfl) | (with_reducible first | refine mS hD ?_ | refine mJ hL ?_ | refine mT hD ?_ | refine mF hD ?_ | refine mB hD (fun _ => ?_) (fun _ => ?_) | exact True.intro | refine And.intro ?_ ?_) <;> try conv => cbv)); all_goals try (first | trivial | (subst hD; first | exact fun _ _ => ⟨_, rfl⟩ | exact fl1 | exact fl1') | (((try subst hD hu); (try simp only [nc] at *); (try simp only [Int.ofNat_eq_natCast] at *); try simp (disch := omega) only [std, uid, S0] at *) <;> first | omega | rfl | (exfalso; simp_all only [Bool.true_eq_false, Bool.false_eq_true]; done))))
    all_goals try ((subst hD hu; (try simp only [std, uid, rR, rB, rT, rN, rClu, rCel, rSnp, rKey, rCluS, rCelS, lR, lB, lT, lN, lClu, lCel, eL, dClu, dCel, dSnp, dKey, Int.toNat_natCast, Int.ofNat_eq_natCast]) <;> rfl)))
theorem x_markBlock (a : Blk) (m r : Int) (h : 0 ≤ m ∧ m + cvBlk a ≤ 1000000000000000000) (hn : bdEBlk 1000000000 a) (hr : r = m + cvBlk a) : PX Try.prog 19 (fun D u => [.o (.a (rBlk D u (u _ a))), AI (u _ m)]) (fun D u => [RI (u _ r)]) (fun D u => [.a (rBlk D u (u _ (mvBlk a m)))]) := by
  refine px_of_awp (fn := Try.f19) (c := bodyOf Try.f19) envOk (by kernel_rfl) (by kernel_rfl) (by kernel_rfl) (by kernel_rfl) rfl (by kernel_rfl) (by kernel_rfl) ?_
  intro w0 mine D u C L hD hu hC hL
  simp only [cvBlk] at hr h
  ((try conv => cbv); (repeat' (first | (with_reducible refine mK hD ?_; kernel_rfl) | (with_reducible first | refine mS hD ?_ | refine mJ hL ?_ | refine mT hD ?_ | refine mF hD ?_ | refine mB hD (fun _ => ?_) (fun _ => ?_) | exact True.intro | refine And.intro ?_ ?_) <;> try conv => cbv)); all_goals try (first | trivial | (subst hD; first | exact fun _ _ => ⟨_, rfl⟩ | exact fl1 | exact fl1') | (((try subst hD hu); (try simp only [nc] at *); (try simp only [Int.ofNat_eq_natCast] at *); try simp (disch := omega) only [std, uid, S0] at *) <;> first | omega | rfl | (exfalso; simp_all only [Bool.true_eq_false, Bool.false_eq_true]; done))))
  refine callx hD hu hC (x_markStringS a.rows (m) (m + (cntL cnET a.rows : Nat)) (by omega) (hn) rfl) ?_
  ((try conv => cbv); (repeat' (first | (with_reducible refine mK hD ?_; kernel_rfl) | (with_reducible first | refine mS hD ?_ | refine mJ hL ?_ | refine mT hD ?_ | refine mF hD ?_ | refine mB hD (fun _ => ?_) (fun _ => ?_) | exact True.intro | refine And.intro ?_ ?_) <;> try conv => cbv)); all_goals try (first | trivial | (subst hD; first | exact fun _ _ => ⟨_, rfl⟩ | exact fl1 | exact fl1') | (((try subst hD hu); (try simp only [nc] at *); (try simp only [Int.ofNat_eq_natCast] at *); try simp (disch := omega) only [std, uid, S0] at *) <;> first | omega | rfl | (exfalso; simp_all only [Bool.true_eq_false, Bool.false_eq_true]; done))))
  all_goals try ((subst hD hu; (try simp only [std, uid, rR, rB, rT, rN, rClu, rCel, rSnp, rKey, rCluS, rCelS, lR, lB, lT, lN, lClu, lCel, eL, dClu, dCel, dSnp, dKey, Int.toNat_natCast, Int.ofNat_eq_natCast, mvBlk, mkB_len, mkR_len, mkN_len, markL_len]) <;> rfl))
theorem x_heldBlock (a : Blk) (m r : Int) (h : 0 ≤ m ∧ m + cvBlk a ≤ 1000000000000000000) (hn : bdEBlk 1000000000 a) (hr : r = m + cvBlk a) : PX Try.prog 20 (fun D u => [.r (.a (rBlk D u (u _ (mvBlk a m)))), AI (u _ m)]) (fun D u => [RI (u _ r)]) (fun D u => []) := by
  refine px_of_awp (fn := Try.f20) (c := bodyOf Try.f20) envOk (by kernel_rfl) (by kernel_rfl) (by kernel_rfl) (by kernel_rfl) rfl (by kernel_rfl) (by kernel_rfl) ?_
  intro w0 mine D u C L hD hu hC hL
  simp only [cvBlk] at hr h
  ((try conv => cbv); (repeat' (first | (with_reducible refine mK hD ?_; kernel_rfl) | (with_reducible first | refine mS hD ?_ | refine mJ hL ?_ | refine mT hD ?_ | refine mF hD ?_ | refine mB hD (fun _ => ?_) (fun _ => ?_) | exact True.intro | refine And.intro ?_ ?_) <;> try conv => cbv)); all_goals try (first | trivial | (subst hD; first | exact fun _ _ => ⟨_, rfl⟩ | exact fl1 | exact fl1') | (((try subst hD hu); (try simp only [nc] at *); (try simp only [Int.ofNat_eq_natCast] at *); try simp (disch := omega) only [std, uid, S0] at *) <;> first | omega | rfl | (exfalso; simp_all only [Bool.true_eq_false, Bool.false_eq_true]; done))))
  refine callx hD hu hC (x_heldStringS a.rows (m) (m + (cntL cnET a.rows : Nat)) (by omega) (hn) rfl) ?_
  ((try conv => cbv); (repeat' (first | (with_reducible refine mK hD ?_; kernel_rfl) | (with_reducible first | refine mS hD ?_ | refine mJ hL ?_ | refine mT hD ?_ | refine mF hD ?_ | refine mB hD (fun _ => ?_) (fun _ => ?_) | exact True.intro | refine And.intro ?_ ?_) <;> try conv => cbv)); all_goals try (first | trivial | (subst hD; first | exact fun _ _ => ⟨_, rfl⟩ | exact fl1 | exact fl1') | (((try subst hD hu); (try simp only [nc] at *); (try simp only [Int.ofNat_eq_natCast] at *); try simp (disch := omega) only [std, uid, S0] at *) <;> first | omega | rfl | (exfalso; simp_all only [Bool.true_eq_false, Bool.false_eq_true]; done))))
  all_goals try ((subst hD hu; (try simp only [std, uid, rR, rB, rT, rN, rClu, rCel, rSnp, rKey, rCluS, rCelS, lR, lB, lT, lN, lClu, lCel, eL, dClu, dCel, dSnp, dKey, Int.toNat_natCast, Int.ofNat_eq_natCast, mvBlk, mkB_len, mkR_len, mkN_len, markL_len]) <;> rfl))
end Go.AW
