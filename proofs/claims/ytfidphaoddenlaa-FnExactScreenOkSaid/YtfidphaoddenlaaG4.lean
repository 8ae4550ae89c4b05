/- NewScreen on both sides. -/
import Derived.Test.YtfidphaoddenlaaG3
set_option linter.unusedVariables false
set_option linter.unusedSimpArgs false
set_option linter.unusedVariables false
set_option linter.unusedSimpArgs false
namespace Go.AW
open Go.Proofs
set_option maxRecDepth 100000
set_option maxHeartbeats 4000000
def sizeOk (c r : Int) : Bool := decide (2 ≤ c) && decide (c ≤ 200) && decide (1 ≤ r) && decide (r ≤ 100)
theorem sizeOk_iff (c r : Int) : sizeOk c r = true ↔ 2 ≤ c ∧ c ≤ 200 ∧ 1 ≤ r ∧ r ≤ 100 := by
  simp only [sizeOk, Bool.and_eq_true, decide_eq_true_eq]
  omega
theorem sizeOk_of {c r : Int} (h : 2 ≤ c ∧ c ≤ 200 ∧ 1 ≤ r ∧ r ≤ 100) : sizeOk c r = true := (sizeOk_iff c r).mpr h
theorem sizeOk_not {c r : Int} (h : c < 2 ∨ 200 < c ∨ r < 1 ∨ 100 < r) : sizeOk c r = false := by
  cases e : sizeOk c r with
  | false => rfl
  | true => have := (sizeOk_iff c r).mp e; omega
theorem x_l2SizeOk (c r : Int) : PX Try.prog 84 (fun D u => [AI (u _ c), AI (u _ r)]) (fun D u => [RB (u _ (sizeOk c r))]) (fun D u => []) := by
  refine px_of_awp (fn := Try.f84) (c := bodyOf Try.f84) envOk (by kernel_rfl) (by kernel_rfl) (by kernel_rfl) (by kernel_rfl) rfl (by kernel_rfl) (by kernel_rfl) ?_
  intro w0 mine D u C L hD hu hC hL
  ((try conv => cbv); (repeat' ((with_reducible first | refine mS hD ?_ | refine mT hD ?_ | refine mF hD ?_ | refine mB hD (fun _ => ?_) (fun _ => ?_) | exact True.intro | refine And.intro ?_ ?_) <;> try conv => cbv)); all_goals try (first | trivial | (subst hD; first | exact fun _ _ => ⟨_, rfl⟩ | exact fl1 | exact fl1') | (((try subst hD hu); (try simp only [nc] at *); (try simp only [Int.ofNat_eq_natCast] at *); try simp (disch := omega) only [std, uid, S0] at *) <;> first | omega | rfl | (exfalso; simp_all only [Bool.true_eq_false, Bool.false_eq_true]; done))))
  all_goals (((try subst hD hu); (try simp only [nc] at *); (try simp only [Int.ofNat_eq_natCast] at *); try simp (disch := omega) only [std, uid, S0] at *); first | exact (sizeOk_not (by omega)).symm | (simp only [sizeOk]; simp [*]))
theorem x_sizeOk (c r : Int) : PX Try.prog 86 (fun D u => [AI (u _ c), AI (u _ r)]) (fun D u => [RB (u _ (sizeOk c r))]) (fun D u => []) := by
  refine px_of_awp (fn := Try.f86) (c := bodyOf Try.f86) envOk (by kernel_rfl) (by kernel_rfl) (by kernel_rfl) (by kernel_rfl) rfl (by kernel_rfl) (by kernel_rfl) ?_
  intro w0 mine D u C L hD hu hC hL
  ((try conv => cbv); (repeat' ((with_reducible first | refine mS hD ?_ | refine mT hD ?_ | refine mF hD ?_ | refine mB hD (fun _ => ?_) (fun _ => ?_) | exact True.intro | refine And.intro ?_ ?_) <;> try conv => cbv)); all_goals try (first | trivial | (subst hD; first | exact fun _ _ => ⟨_, rfl⟩ | exact fl1 | exact fl1') | (((try subst hD hu); (try simp only [nc] at *); (try simp only [Int.ofNat_eq_natCast] at *); try simp (disch := omega) only [std, uid, S0] at *) <;> first | omega | rfl | (exfalso; simp_all only [Bool.true_eq_false, Bool.false_eq_true]; done))))
  all_goals (((try subst hD hu); (try simp only [nc] at *); (try simp only [Int.ofNat_eq_natCast] at *); try simp (disch := omega) only [std, uid, S0] at *); first | exact (sizeOk_not (by omega)).symm | (simp only [sizeOk]; simp [*]))
def blankRow (c : Int) : List Cel := List.replicate c.toNat dCel
def newScreen (c r : Int) : Scr := if sizeOk c r then ⟨c, r, List.replicate r.toNat (blankRow c), 0, 0, false, [], []⟩ else dScr
theorem x_l2Blank (c : Int) (h : 0 ≤ c ∧ c ≤ 1000) : PX Try.prog 85 (fun D u => [AI (u _ c)]) (fun D u => [.c (lCel D u (u _ (blankRow c)))]) (fun D u => []) := by
  refine px_of_awp (fn := Try.f85) (c := bodyOf Try.f85) envOk (by kernel_rfl) (by kernel_rfl) (by kernel_rfl) (by kernel_rfl) rfl (by kernel_rfl) (by kernel_rfl) ?_
  intro w0 mine D u C L hD hu hC hL
  have e : (blankRow c).length = c.toNat := by simp [blankRow]
  ((try conv => cbv); (repeat' ((with_reducible first | refine mS hD ?_ | refine mT hD ?_ | refine mF hD ?_ | refine mB hD (fun _ => ?_) (fun _ => ?_) | exact True.intro | refine And.intro ?_ ?_) <;> try conv => cbv)); all_goals try (first | trivial | (subst hD; first | exact fun _ _ => ⟨_, rfl⟩ | exact fl1 | exact fl1') | (((try subst hD hu); (try simp only [nc] at *); (try simp only [Int.ofNat_eq_natCast] at *); try simp (disch := omega) only [std, uid, S0] at *) <;> first | omega | rfl | (exfalso; simp_all only [Bool.true_eq_false, Bool.false_eq_true]; done))))
  (subst hD hu; apply qCel; (focus repeat' (first | exact LR.refl | exact LR_bytes | apply mClu | apply mCel | apply mKey | apply mSnp | apply mKRd | apply mLin | apply mHis | apply mBlk | apply mScr | apply mSes | exact zR | exact zB | exact zT | exact zN | exact zClu | exact zCel | exact zCelS | exact zSnp | exact zKey | exact zSes | exact zScr | apply LR.deq | exact LR.nil | apply LR.one | apply LR.rep | apply LR.cat | apply LR.cat' | apply LR.set | exact u8_0 | exact DEq.s _ | (apply str_deq; (repeat' apply sr_cat) <;> rfl) | apply aLe_1 | (apply LR.rfl'; simp only [uid, std, S0]; omega))); all_goals try simp only [uid, std, Int.toNat_natCast, Int.ofNat_eq_natCast])
  rfl
theorem x_specNewScreen (c r : Int) : PX Try.prog 46 (fun D u => [AI (u _ c), AI (u _ r)]) (fun D u => [.a (rScr D u (u _ (newScreen c r))), RB (u _ (sizeOk c r))]) (fun D u => []) := by
  refine px_of_awp (fn := Try.f46) (c := bodyOf Try.f46) envOk (by kernel_rfl) (by kernel_rfl) (by kernel_rfl) (by kernel_rfl) rfl (by kernel_rfl) (by kernel_rfl) ?_
  intro w0 mine D u C L hD hu hC hL
  cases hs : sizeOk c r with
  | false =>
    have e : newScreen c r = dScr := by simp [newScreen, hs]
    rw [e]
    ((try conv => cbv); (repeat' ((with_reducible first | refine mS hD ?_ | refine mT hD ?_ | refine mF hD ?_ | refine mB hD (fun _ => ?_) (fun _ => ?_) | exact True.intro | refine And.intro ?_ ?_) <;> try conv => cbv)); all_goals try (first | trivial | (subst hD; first | exact fun _ _ => ⟨_, rfl⟩ | exact fl1 | exact fl1') | (((try subst hD hu); (try simp only [nc] at *); (try simp only [Int.ofNat_eq_natCast] at *); try simp (disch := omega) only [std, uid, S0] at *) <;> first | omega | rfl | (exfalso; simp_all only [Bool.true_eq_false, Bool.false_eq_true]; done))))
    refine callx hD hu hC (x_l2SizeOk c r) ?_
    rw [hs]
    ((try conv => cbv); (repeat' ((with_reducible first | refine mS hD ?_ | refine mT hD ?_ | refine mF hD ?_ | refine mB hD (fun _ => ?_) (fun _ => ?_) | exact True.intro | refine And.intro ?_ ?_) <;> try conv => cbv)); all_goals try (first | trivial | (subst hD; first | exact fun _ _ => ⟨_, rfl⟩ | exact fl1 | exact fl1') | (((try subst hD hu); (try simp only [nc] at *); (try simp only [Int.ofNat_eq_natCast] at *); try simp (disch := omega) only [std, uid, S0] at *) <;> first | omega | rfl | (exfalso; simp_all only [Bool.true_eq_false, Bool.false_eq_true]; done))))
    all_goals exact DEq.z _ _ _
  | true =>
    have hb := (sizeOk_iff c r).mp hs
    have e : newScreen c r = ⟨c, r, List.replicate r.toNat (blankRow c), 0, 0, false, [], []⟩ := by simp [newScreen, hs]
    rw [e]
    ((try conv => cbv); (repeat' ((with_reducible first | refine mS hD ?_ | refine mT hD ?_ | refine mF hD ?_ | refine mB hD (fun _ => ?_) (fun _ => ?_) | exact True.intro | refine And.intro ?_ ?_) <;> try conv => cbv)); all_goals try (first | trivial | (subst hD; first | exact fun _ _ => ⟨_, rfl⟩ | exact fl1 | exact fl1') | (((try subst hD hu); (try simp only [nc] at *); (try simp only [Int.ofNat_eq_natCast] at *); try simp (disch := omega) only [std, uid, S0] at *) <;> first | omega | rfl | (exfalso; simp_all only [Bool.true_eq_false, Bool.false_eq_true]; done))))
    refine callx hD hu hC (x_l2SizeOk c r) ?_
    rw [hs]
    ((try conv => cbv); (repeat' ((with_reducible first | refine mS hD ?_ | refine mT hD ?_ | refine mF hD ?_ | refine mB hD (fun _ => ?_) (fun _ => ?_) | exact True.intro | refine And.intro ?_ ?_) <;> try conv => cbv)); all_goals try (first | trivial | (subst hD; first | exact fun _ _ => ⟨_, rfl⟩ | exact fl1 | exact fl1') | (((try subst hD hu); (try simp only [nc] at *); (try simp only [Int.ofNat_eq_natCast] at *); try simp (disch := omega) only [std, uid, S0] at *) <;> first | omega | rfl | (exfalso; simp_all only [Bool.true_eq_false, Bool.false_eq_true]; done))))
    refine loop_st hL r.toNat (fun k g => g = List.replicate k (blankRow c)) [] (fun k g => [(7, VI (u _ k)), (15, .bad), (18, .bad)]) (fun k g => [(4, .vars [.s (.int .i64 (u _ c)), .s (.int .i64 (u _ r)), .o 1 0 (D.lenL _ (u _ g)), .s (.int .i64 0), .s (.int .i64 0), .s (.bool false), .o 2 0 0, .o 3 0 0]), (1, oCelS D u (u _ g))]) rfl ?_ ?_
    · ((try conv => cbv); (repeat' ((with_reducible first | refine mS hD ?_ | refine mT hD ?_ | refine mF hD ?_ | refine mB hD (fun _ => ?_) (fun _ => ?_) | exact True.intro | refine And.intro ?_ ?_) <;> try conv => cbv)); all_goals try (first | trivial | (subst hD; first | exact fun _ _ => ⟨_, rfl⟩ | exact fl1 | exact fl1') | (((try subst hD hu); (try simp only [nc] at *); (try simp only [Int.ofNat_eq_natCast] at *); try simp (disch := omega) only [std, uid, S0] at *) <;> first | omega | rfl | (exfalso; simp_all only [Bool.true_eq_false, Bool.false_eq_true]; done))))
      (subst hD hu; apply qCelS; (focus repeat' (first | exact LR.refl | exact LR_bytes | apply mClu | apply mCel | apply mKey | apply mSnp | apply mKRd | apply mLin | apply mHis | apply mBlk | apply mScr | apply mSes | exact zR | exact zB | exact zT | exact zN | exact zClu | exact zCel | exact zCelS | exact zSnp | exact zKey | exact zSes | exact zScr | apply LR.deq | exact LR.nil | apply LR.one | apply LR.rep | apply LR.cat | apply LR.cat' | apply LR.set | exact u8_0 | exact DEq.s _ | (apply str_deq; (repeat' apply sr_cat) <;> rfl) | apply aLe_1 | (apply LR.rfl'; simp only [uid, std, S0]; omega))); all_goals try simp only [uid, std, Int.toNat_natCast, Int.ofNat_eq_natCast])
    · intro k g hk hg
      have hgl : g.length = k := by rw [hg]; simp
      ((try conv => cbv); (repeat' ((with_reducible first | refine mS hD ?_ | refine mT hD ?_ | refine mF hD ?_ | refine mB hD (fun _ => ?_) (fun _ => ?_) | exact True.intro | refine And.intro ?_ ?_) <;> try conv => cbv)); all_goals try (first | trivial | (subst hD; first | exact fun _ _ => ⟨_, rfl⟩ | exact fl1 | exact fl1') | (((try subst hD hu); (try simp only [nc] at *); (try simp only [Int.ofNat_eq_natCast] at *); try simp (disch := omega) only [std, uid, S0] at *) <;> first | omega | rfl | (exfalso; simp_all only [Bool.true_eq_false, Bool.false_eq_true]; done))))
      · refine callx hD hu hC (x_l2Blank c (by omega)) ?_
        ((try conv => cbv); (repeat' ((with_reducible first | refine mS hD ?_ | refine mT hD ?_ | refine mF hD ?_ | refine mB hD (fun _ => ?_) (fun _ => ?_) | exact True.intro | refine And.intro ?_ ?_) <;> try conv => cbv)); all_goals try (first | trivial | (subst hD; first | exact fun _ _ => ⟨_, rfl⟩ | exact fl1 | exact fl1') | (((try subst hD hu); (try simp only [nc] at *); (try simp only [Int.ofNat_eq_natCast] at *); try simp (disch := omega) only [std, uid, S0] at *) <;> first | omega | rfl | (exfalso; simp_all only [Bool.true_eq_false, Bool.false_eq_true]; done))))
        refine ⟨k + 1, g ++ [blankRow c], by ((try subst hD hu); (try simp only [nc] at *); (try simp only [Int.ofNat_eq_natCast] at *); try simp (disch := omega) only [std, uid, S0] at *); omega, by rw [hg, List.replicate_succ'], ssem_of ?_, by ((try subst hD hu); (try simp only [nc] at *); (try simp only [Int.ofNat_eq_natCast] at *); try simp (disch := omega) only [std, uid, S0] at *); omega⟩
        ((try conv => cbv); (repeat' ((with_reducible first | refine mS hD ?_ | refine mT hD ?_ | refine mF hD ?_ | refine mB hD (fun _ => ?_) (fun _ => ?_) | exact True.intro | refine And.intro ?_ ?_) <;> try conv => cbv)); all_goals try (first | trivial | (subst hD; first | exact fun _ _ => ⟨_, rfl⟩ | exact fl1 | exact fl1') | (((try subst hD hu); (try simp only [nc] at *); (try simp only [Int.ofNat_eq_natCast] at *); try simp (disch := omega) only [std, uid, S0] at *) <;> first | omega | rfl | (exfalso; simp_all only [Bool.true_eq_false, Bool.false_eq_true]; done))))
        (subst hD hu; apply qCelS; (focus repeat' (first | exact LR.refl | exact LR_bytes | apply mClu | apply mCel | apply mKey | apply mSnp | apply mKRd | apply mLin | apply mHis | apply mBlk | apply mScr | apply mSes | exact zR | exact zB | exact zT | exact zN | exact zClu | exact zCel | exact zCelS | exact zSnp | exact zKey | exact zSes | exact zScr | apply LR.deq | exact LR.nil | apply LR.one | apply LR.rep | apply LR.cat | apply LR.cat' | apply LR.set | exact u8_0 | exact DEq.s _ | (apply str_deq; (repeat' apply sr_cat) <;> rfl) | apply aLe_1 | (apply LR.rfl'; simp only [uid, std, S0]; omega))); all_goals try simp only [uid, std, Int.toNat_natCast, Int.ofNat_eq_natCast])
      all_goals (have ek : k = r.toNat := by ((try subst hD hu); (try simp only [nc] at *); (try simp only [Int.ofNat_eq_natCast] at *); try simp (disch := omega) only [std, uid, S0] at *); omega)
      all_goals (first | ((subst hD hu; apply qCelS; (focus repeat' (first | exact LR.refl | exact LR_bytes | apply mClu | apply mCel | apply mKey | apply mSnp | apply mKRd | apply mLin | apply mHis | apply mBlk | apply mScr | apply mSes | exact zR | exact zB | exact zT | exact zN | exact zClu | exact zCel | exact zCelS | exact zSnp | exact zKey | exact zSes | exact zScr | apply LR.deq | exact LR.nil | apply LR.one | apply LR.rep | apply LR.cat | apply LR.cat' | apply LR.set | exact u8_0 | exact DEq.s _ | (apply str_deq; (repeat' apply sr_cat) <;> rfl) | apply aLe_1 | (apply LR.rfl'; simp only [uid, std, S0]; omega))); all_goals try simp only [uid, std, Int.toNat_natCast, Int.ofNat_eq_natCast]); rw [hg, ek]; done) | (subst hD hu; apply qB; (focus repeat' (first | exact LR.refl | exact LR_bytes | apply mClu | apply mCel | apply mKey | apply mSnp | apply mKRd | apply mLin | apply mHis | apply mBlk | apply mScr | apply mSes | exact zR | exact zB | exact zT | exact zN | exact zClu | exact zCel | exact zCelS | exact zSnp | exact zKey | exact zSes | exact zScr | apply LR.deq | exact LR.nil | apply LR.one | apply LR.rep | apply LR.cat | apply LR.cat' | apply LR.set | exact u8_0 | exact DEq.s _ | (apply str_deq; (repeat' apply sr_cat) <;> rfl) | apply aLe_1 | (apply LR.rfl'; simp only [uid, std, S0]; omega))); all_goals try simp only [uid, std, Int.toNat_natCast, Int.ofNat_eq_natCast]) | (subst hD hu; apply qT; (focus repeat' (first | exact LR.refl | exact LR_bytes | apply mClu | apply mCel | apply mKey | apply mSnp | apply mKRd | apply mLin | apply mHis | apply mBlk | apply mScr | apply mSes | exact zR | exact zB | exact zT | exact zN | exact zClu | exact zCel | exact zCelS | exact zSnp | exact zKey | exact zSes | exact zScr | apply LR.deq | exact LR.nil | apply LR.one | apply LR.rep | apply LR.cat | apply LR.cat' | apply LR.set | exact u8_0 | exact DEq.s _ | (apply str_deq; (repeat' apply sr_cat) <;> rfl) | apply aLe_1 | (apply LR.rfl'; simp only [uid, std, S0]; omega))); all_goals try simp only [uid, std, Int.toNat_natCast, Int.ofNat_eq_natCast]))
theorem x_implNewScreen (c r : Int) : PX Try.prog 47 (fun D u => [AI (u _ c), AI (u _ r)]) (fun D u => [.a (rScr D u (u _ (newScreen c r))), RB (u _ (sizeOk c r))]) (fun D u => []) := by
  refine px_of_awp (fn := Try.f47) (c := bodyOf Try.f47) envOk (by kernel_rfl) (by kernel_rfl) (by kernel_rfl) (by kernel_rfl) rfl (by kernel_rfl) (by kernel_rfl) ?_
  intro w0 mine D u C L hD hu hC hL
  cases hs : sizeOk c r with
  | false =>
    have e : newScreen c r = dScr := by simp [newScreen, hs]
    rw [e]
    ((try conv => cbv); (repeat' ((with_reducible first | refine mS hD ?_ | refine mT hD ?_ | refine mF hD ?_ | refine mB hD (fun _ => ?_) (fun _ => ?_) | exact True.intro | refine And.intro ?_ ?_) <;> try conv => cbv)); all_goals try (first | trivial | (subst hD; first | exact fun _ _ => ⟨_, rfl⟩ | exact fl1 | exact fl1') | (((try subst hD hu); (try simp only [nc] at *); (try simp only [Int.ofNat_eq_natCast] at *); try simp (disch := omega) only [std, uid, S0] at *) <;> first | omega | rfl | (exfalso; simp_all only [Bool.true_eq_false, Bool.false_eq_true]; done))))
    refine callx hD hu hC (x_sizeOk c r) ?_
    rw [hs]
    ((try conv => cbv); (repeat' ((with_reducible first | refine mS hD ?_ | refine mT hD ?_ | refine mF hD ?_ | refine mB hD (fun _ => ?_) (fun _ => ?_) | exact True.intro | refine And.intro ?_ ?_) <;> try conv => cbv)); all_goals try (first | trivial | (subst hD; first | exact fun _ _ => ⟨_, rfl⟩ | exact fl1 | exact fl1') | (((try subst hD hu); (try simp only [nc] at *); (try simp only [Int.ofNat_eq_natCast] at *); try simp (disch := omega) only [std, uid, S0] at *) <;> first | omega | rfl | (exfalso; simp_all only [Bool.true_eq_false, Bool.false_eq_true]; done))))
    all_goals exact DEq.z _ _ _
  | true =>
    have hb := (sizeOk_iff c r).mp hs
    have e : newScreen c r = ⟨c, r, List.replicate r.toNat (blankRow c), 0, 0, false, [], []⟩ := by simp [newScreen, hs]
    rw [e]
    ((try conv => cbv); (repeat' ((with_reducible first | refine mS hD ?_ | refine mT hD ?_ | refine mF hD ?_ | refine mB hD (fun _ => ?_) (fun _ => ?_) | exact True.intro | refine And.intro ?_ ?_) <;> try conv => cbv)); all_goals try (first | trivial | (subst hD; first | exact fun _ _ => ⟨_, rfl⟩ | exact fl1 | exact fl1') | (((try subst hD hu); (try simp only [nc] at *); (try simp only [Int.ofNat_eq_natCast] at *); try simp (disch := omega) only [std, uid, S0] at *) <;> first | omega | rfl | (exfalso; simp_all only [Bool.true_eq_false, Bool.false_eq_true]; done))))
    refine callx hD hu hC (x_sizeOk c r) ?_
    rw [hs]
    ((try conv => cbv); (repeat' ((with_reducible first | refine mS hD ?_ | refine mT hD ?_ | refine mF hD ?_ | refine mB hD (fun _ => ?_) (fun _ => ?_) | exact True.intro | refine And.intro ?_ ?_) <;> try conv => cbv)); all_goals try (first | trivial | (subst hD; first | exact fun _ _ => ⟨_, rfl⟩ | exact fl1 | exact fl1') | (((try subst hD hu); (try simp only [nc] at *); (try simp only [Int.ofNat_eq_natCast] at *); try simp (disch := omega) only [std, uid, S0] at *) <;> first | omega | rfl | (exfalso; simp_all only [Bool.true_eq_false, Bool.false_eq_true]; done))))
    refine loop_st hL r.toNat (fun k g => g = List.replicate k (blankRow c)) [] (fun k g => [(16, VI (u _ k))]) (fun k g => [(1, .vars [.s (.int .i64 (u _ c)), .s (.int .i64 (u _ r)), .o 2 0 (D.lenL _ (u _ g)), .s (.int .i64 0), .s (.int .i64 0), .s (.bool false), .nil, .nil]), (2, oCelS D u (u _ g))]) rfl ?_ ?_
    · ((try conv => cbv); (repeat' ((with_reducible first | refine mS hD ?_ | refine mT hD ?_ | refine mF hD ?_ | refine mB hD (fun _ => ?_) (fun _ => ?_) | exact True.intro | refine And.intro ?_ ?_) <;> try conv => cbv)); all_goals try (first | trivial | (subst hD; first | exact fun _ _ => ⟨_, rfl⟩ | exact fl1 | exact fl1') | (((try subst hD hu); (try simp only [nc] at *); (try simp only [Int.ofNat_eq_natCast] at *); try simp (disch := omega) only [std, uid, S0] at *) <;> first | omega | rfl | (exfalso; simp_all only [Bool.true_eq_false, Bool.false_eq_true]; done))))
    · intro k g hk hg
      have hgl : g.length = k := by rw [hg]; simp
      ((try conv => cbv); (repeat' ((with_reducible first | refine mS hD ?_ | refine mT hD ?_ | refine mF hD ?_ | refine mB hD (fun _ => ?_) (fun _ => ?_) | exact True.intro | refine And.intro ?_ ?_) <;> try conv => cbv)); all_goals try (first | trivial | (subst hD; first | exact fun _ _ => ⟨_, rfl⟩ | exact fl1 | exact fl1') | (((try subst hD hu); (try simp only [nc] at *); (try simp only [Int.ofNat_eq_natCast] at *); try simp (disch := omega) only [std, uid, S0] at *) <;> first | omega | rfl | (exfalso; simp_all only [Bool.true_eq_false, Bool.false_eq_true]; done))))
      · refine ⟨k + 1, g ++ [blankRow c], by ((try subst hD hu); (try simp only [nc] at *); (try simp only [Int.ofNat_eq_natCast] at *); try simp (disch := omega) only [std, uid, S0] at *); omega, by rw [hg, List.replicate_succ'], ssem_of ?_, by ((try subst hD hu); (try simp only [nc] at *); (try simp only [Int.ofNat_eq_natCast] at *); try simp (disch := omega) only [std, uid, S0] at *); omega⟩
        ((try conv => cbv); (repeat' ((with_reducible first | refine mS hD ?_ | refine mT hD ?_ | refine mF hD ?_ | refine mB hD (fun _ => ?_) (fun _ => ?_) | exact True.intro | refine And.intro ?_ ?_) <;> try conv => cbv)); all_goals try (first | trivial | (subst hD; first | exact fun _ _ => ⟨_, rfl⟩ | exact fl1 | exact fl1') | (((try subst hD hu); (try simp only [nc] at *); (try simp only [Int.ofNat_eq_natCast] at *); try simp (disch := omega) only [std, uid, S0] at *) <;> first | omega | rfl | (exfalso; simp_all only [Bool.true_eq_false, Bool.false_eq_true]; done))))
        (subst hD hu; apply qCelS; (focus repeat' (first | exact LR.refl | exact LR_bytes | apply mClu | apply mCel | apply mKey | apply mSnp | apply mKRd | apply mLin | apply mHis | apply mBlk | apply mScr | apply mSes | exact zR | exact zB | exact zT | exact zN | exact zClu | exact zCel | exact zCelS | exact zSnp | exact zKey | exact zSes | exact zScr | apply LR.deq | exact LR.nil | apply LR.one | apply LR.rep | apply LR.cat | apply LR.cat' | apply LR.set | exact u8_0 | exact DEq.s _ | (apply str_deq; (repeat' apply sr_cat) <;> rfl) | apply aLe_1 | (apply LR.rfl'; simp only [uid, std, S0]; omega))); all_goals try simp only [uid, std, Int.toNat_natCast, Int.ofNat_eq_natCast])
        rfl
      all_goals (have ek : k = r.toNat := by ((try subst hD hu); (try simp only [nc] at *); (try simp only [Int.ofNat_eq_natCast] at *); try simp (disch := omega) only [std, uid, S0] at *); omega)
      all_goals (first | ((subst hD hu; apply qCelS; (focus repeat' (first | exact LR.refl | exact LR_bytes | apply mClu | apply mCel | apply mKey | apply mSnp | apply mKRd | apply mLin | apply mHis | apply mBlk | apply mScr | apply mSes | exact zR | exact zB | exact zT | exact zN | exact zClu | exact zCel | exact zCelS | exact zSnp | exact zKey | exact zSes | exact zScr | apply LR.deq | exact LR.nil | apply LR.one | apply LR.rep | apply LR.cat | apply LR.cat' | apply LR.set | exact u8_0 | exact DEq.s _ | (apply str_deq; (repeat' apply sr_cat) <;> rfl) | apply aLe_1 | (apply LR.rfl'; simp only [uid, std, S0]; omega))); all_goals try simp only [uid, std, Int.toNat_natCast, Int.ofNat_eq_natCast]); rw [hg, ek]; done) | exact DEq.z _ _ _)
theorem cntL_rep {α : Type} (f : α → Nat) (x : α) (n : Nat) : cntL f (List.replicate n x) = n * f x := by simp [cntL]
theorem newScreen_tot (c r : Int) : toEScr (newScreen c r) ≤ 100000 := by
  unfold newScreen
  cases hs : sizeOk c r with
  | false => simp only [Bool.false_eq_true, if_false]; decide
  | true =>
    have hb := (sizeOk_iff c r).mp hs
    have h1 : toECelS (blankRow c) ≤ 200 := by
      unfold blankRow toECelS
      simp only [totL, List.length_replicate, cntL_rep]
      have : toECel dCel = 0 := rfl
      rw [this]; omega
    have h2 : totL toECelS (List.replicate r.toNat (blankRow c)) ≤ 100 + 100 * 200 := by
      simp only [totL, List.length_replicate, cntL_rep]
      have := Nat.mul_le_mul (show r.toNat ≤ 100 by omega) h1
      omega
    have h3 : totL toET ([] : List Str) = 0 := rfl
    simp only [if_true, toEScr, List.length_nil, h3]
    omega
end Go.AW
/- ScreenOk on both sides. -/
set_option linter.unusedVariables false
set_option linter.unusedSimpArgs false
namespace Go.AW
open Go.Proofs
set_option maxRecDepth 100000
set_option maxHeartbeats 4000000
/-- A cell in its row. -/
def cellOk (row : List Cel) (k : Nat) : Prop := (row.getD k dCel).half = true → (row.getD k dCel).text = [] ∧ k ≠ 0 ∧ (row.getD (k - 1) dCel).text ≠ []
def rowOk (c : Int) (row : List Cel) : Prop := (row.length : Int) = c ∧ ∀ k, k < row.length → cellOk row k
structure ScrOk (s : Scr) : Prop where
  size : sizeOk s.cols s.rows = true
  len : (s.grid.length : Int) = s.rows
  hold : s.hold.length ≤ 32
  grid : ∀ k, k < s.grid.length → rowOk s.cols (s.grid.getD k [])
  row : 0 ≤ s.row ∧ s.row < s.rows
  col : 0 ≤ s.col ∧ s.col < s.cols
  late : s.late = true → s.col = s.cols - 1
noncomputable def screenOk (s : Scr) : Bool := @decide (ScrOk s) (Classical.propDecidable _)
theorem screenOk_iff (s : Scr) : screenOk s = true ↔ ScrOk s := by unfold screenOk; exact @decide_eq_true_iff _ (Classical.propDecidable _)
theorem screenOk_not {s : Scr} (h : ¬ ScrOk s) : screenOk s = false := by
  cases e : screenOk s with
  | false => rfl
  | true => exact absurd ((screenOk_iff s).mp e) h
theorem x_implScreenOk (s : Scr) (hb : bdEScr 1000000000 s) (hk : okScr s) : PX Try.prog 56 (fun D u => [.r (.a (rScr D u (u _ s)))]) (fun D u => [RB (u _ (screenOk s))]) (fun D u => []) := by
  refine px_of_awp (fn := Try.f56) (c := bodyOf Try.f56) envOk (by kernel_rfl) (by kernel_rfl) (by kernel_rfl) (by kernel_rfl) rfl (by kernel_rfl) (by kernel_rfl) ?_
  intro w0 mine D u C L hD hu hC hL
  have hb1 := hb.1.1
  have hb2 := hb.1.2
  ((try conv => cbv); (repeat' ((with_reducible first | refine mS hD ?_ | refine mT hD ?_ | refine mF hD ?_ | refine mB hD (fun _ => ?_) (fun _ => ?_) | exact True.intro | refine And.intro ?_ ?_) <;> try conv => cbv)); all_goals try (first | trivial | (subst hD; first | exact fun _ _ => ⟨_, rfl⟩ | exact fl1 | exact fl1') | (((try subst hD hu); (try simp only [nc] at *); (try simp only [Int.ofNat_eq_natCast] at *); try simp (disch := omega) only [std, uid, S0] at *) <;> first | omega | rfl | (exfalso; simp_all only [Bool.true_eq_false, Bool.false_eq_true]; done))))
  refine callx hD hu hC (x_sizeOk s.cols s.rows) ?_
  ((try conv => cbv); (repeat' ((with_reducible first | refine mS hD ?_ | refine mT hD ?_ | refine mF hD ?_ | refine mB hD (fun _ => ?_) (fun _ => ?_) | exact True.intro | refine And.intro ?_ ?_) <;> try conv => cbv)); all_goals try (first | trivial | (subst hD; first | exact fun _ _ => ⟨_, rfl⟩ | exact fl1 | exact fl1') | (((try subst hD hu); (try simp only [nc] at *); (try simp only [Int.ofNat_eq_natCast] at *); try simp (disch := omega) only [std, uid, S0] at *) <;> first | omega | rfl | (exfalso; simp_all only [Bool.true_eq_false, Bool.false_eq_true]; done))))
  · have hn : ¬ ScrOk s := fun h => by have := h.len; ((try subst hD hu); (try simp only [nc] at *); (try simp only [Int.ofNat_eq_natCast] at *); try simp (disch := omega) only [std, uid, S0] at *); omega
    ((try subst hD hu); (try simp only [nc] at *); (try simp only [Int.ofNat_eq_natCast] at *); try simp (disch := omega) only [std, uid, S0, screenOk_not hn] at *)
  · have hn : ¬ ScrOk s := fun h => by have := h.hold; ((try subst hD hu); (try simp only [nc] at *); (try simp only [Int.ofNat_eq_natCast] at *); try simp (disch := omega) only [std, uid, S0] at *); omega
    ((try subst hD hu); (try simp only [nc] at *); (try simp only [Int.ofNat_eq_natCast] at *); try simp (disch := omega) only [std, uid, S0, screenOk_not hn] at *)
  · have hs1 : sizeOk s.cols s.rows = true := by ((try subst hD hu); (try simp only [nc] at *); (try simp only [Int.ofNat_eq_natCast] at *); try simp (disch := omega) only [std, uid, S0] at *); assumption
    have hs2 := (sizeOk_iff _ _).mp hs1
    have hl : (s.grid.length : Int) = s.rows := by ((try subst hD hu); (try simp only [nc] at *); (try simp only [Int.ofNat_eq_natCast] at *); try simp (disch := omega) only [std, uid, S0] at *); omega
    have hh : s.hold.length ≤ 32 := by ((try subst hD hu); (try simp only [nc] at *); (try simp only [Int.ofNat_eq_natCast] at *); try simp (disch := omega) only [std, uid, S0] at *); omega
    refine loop_st hL s.grid.length (fun k (_ : Unit) => ∀ i, i < k → rowOk s.cols (s.grid.getD i [])) () (fun k _ => [(31, VI (u _ k))]) (fun k _ => []) (fun i hi => absurd hi (Nat.not_lt_zero i)) ?_ ?_
    · ((try conv => cbv); (repeat' ((with_reducible first | refine mS hD ?_ | refine mT hD ?_ | refine mF hD ?_ | refine mB hD (fun _ => ?_) (fun _ => ?_) | exact True.intro | refine And.intro ?_ ?_) <;> try conv => cbv)); all_goals try (first | trivial | (subst hD; first | exact fun _ _ => ⟨_, rfl⟩ | exact fl1 | exact fl1') | (((try subst hD hu); (try simp only [nc] at *); (try simp only [Int.ofNat_eq_natCast] at *); try simp (disch := omega) only [std, uid, S0] at *) <;> first | omega | rfl | (exfalso; simp_all only [Bool.true_eq_false, Bool.false_eq_true]; done))))
    · intro k _ hkk hrows
      ((try conv => cbv); (repeat' ((with_reducible first | refine mS hD ?_ | refine mT hD ?_ | refine mF hD ?_ | refine mB hD (fun _ => ?_) (fun _ => ?_) | exact True.intro | refine And.intro ?_ ?_) <;> try conv => cbv)); all_goals try (first | trivial | (subst hD; first | exact fun _ _ => ⟨_, rfl⟩ | exact fl1 | exact fl1') | (((try subst hD hu); (try simp only [nc] at *); (try simp only [Int.ofNat_eq_natCast] at *); try simp (disch := omega) only [std, uid, S0] at *) <;> first | omega | rfl | (exfalso; simp_all only [Bool.true_eq_false, Bool.false_eq_true]; done))))
      all_goals try (have hkn : k < s.grid.length := by ((try subst hD hu); (try simp only [nc] at *); (try simp only [Int.ofNat_eq_natCast] at *); try simp (disch := omega) only [std, uid, S0] at *); omega)
      all_goals try (have hx := hb2 _ (getD_mem s.grid [] k hkn); have hx1 := hx.1)
      · have hn : ¬ ScrOk s := fun h => by have := (h.grid k hkn).1; ((try subst hD hu); (try simp only [nc] at *); (try simp only [Int.ofNat_eq_natCast] at *); try simp (disch := omega) only [std, uid, S0] at *); omega
        ((try subst hD hu); (try simp only [nc] at *); (try simp only [Int.ofNat_eq_natCast] at *); try simp (disch := omega) only [std, uid, S0, screenOk_not hn] at *)
      · generalize hx' : s.grid.getD k [] = x at *
        have hlc : (x.length : Int) = s.cols := by ((try subst hD hu); (try simp only [nc] at *); (try simp only [Int.ofNat_eq_natCast] at *); try simp (disch := omega) only [std, uid, S0, hx'] at *); omega
        refine loop_st hL x.length (fun j (_ : Unit) => ∀ i, i < j → cellOk x i) () (fun j _ => [(42, VI (u _ j))]) (fun j _ => []) (fun i hi => absurd hi (Nat.not_lt_zero i)) ?_ ?_
        · ((try conv => cbv); (repeat' ((with_reducible first | refine mS hD ?_ | refine mT hD ?_ | refine mF hD ?_ | refine mB hD (fun _ => ?_) (fun _ => ?_) | exact True.intro | refine And.intro ?_ ?_) <;> try conv => cbv)); all_goals try (first | trivial | (subst hD; first | exact fun _ _ => ⟨_, rfl⟩ | exact fl1 | exact fl1') | (((try subst hD hu); (try simp only [nc] at *); (try simp only [Int.ofNat_eq_natCast] at *); try simp (disch := omega) only [std, uid, S0] at *) <;> first | omega | rfl | (exfalso; simp_all only [Bool.true_eq_false, Bool.false_eq_true]; done))))
        · intro j _ hj hcs
          ((try conv => cbv); (repeat' ((with_reducible first | refine mS hD ?_ | refine mT hD ?_ | refine mF hD ?_ | refine mB hD (fun _ => ?_) (fun _ => ?_) | exact True.intro | refine And.intro ?_ ?_) <;> try conv => cbv)); all_goals try (first | trivial | (subst hD; first | exact fun _ _ => ⟨_, rfl⟩ | exact fl1 | exact fl1') | (((try subst hD hu); (try simp only [nc] at *); (try simp only [Int.ofNat_eq_natCast] at *); try simp (disch := omega) only [std, uid, S0] at *) <;> first | omega | rfl | (exfalso; simp_all only [Bool.true_eq_false, Bool.false_eq_true]; done))))
          all_goals try (have hjn : j < x.length := by ((try subst hD hu); (try simp only [nc] at *); (try simp only [Int.ofNat_eq_natCast] at *); try simp (disch := omega) only [std, uid, S0, hx'] at *); omega)
          iterate 3
            · have hn : ¬ ScrOk s := fun h => by
                have hc := (h.grid k hkn).2 j (by rw [hx']; exact hjn)
                unfold cellOk at hc
                rw [hx'] at hc
                have e : ((j : Int) - 1).toNat = j - 1 := by omega
                ((try subst hD hu); (try simp only [nc] at *); (try simp only [Int.ofNat_eq_natCast] at *); try simp (disch := omega) only [std, uid, S0, hx', e] at *)
                simp_all
              ((try subst hD hu); (try simp only [nc] at *); (try simp only [Int.ofNat_eq_natCast] at *); try simp (disch := omega) only [std, uid, S0, screenOk_not hn] at *)
          · have hc : cellOk x j := fun h => by
              have e : ((j : Int) - 1).toNat = j - 1 := by omega
              ((try subst hD hu); (try simp only [nc] at *); (try simp only [Int.ofNat_eq_natCast] at *); try simp (disch := omega) only [std, uid, S0, hx', e] at *)
              simp_all
            refine ⟨j + 1, (), hjn, fun i hi => ?_, ssem_of ?_, by omega⟩
            · rcases Nat.lt_or_ge i j with h | h
              · exact hcs i h
              · rw [show i = j by omega]; exact hc
            · ((try conv => cbv); (repeat' ((with_reducible first | refine mS hD ?_ | refine mT hD ?_ | refine mF hD ?_ | refine mB hD (fun _ => ?_) (fun _ => ?_) | exact True.intro | refine And.intro ?_ ?_) <;> try conv => cbv)); all_goals try (first | trivial | (subst hD; first | exact fun _ _ => ⟨_, rfl⟩ | exact fl1 | exact fl1') | (((try subst hD hu); (try simp only [nc] at *); (try simp only [Int.ofNat_eq_natCast] at *); try simp (disch := omega) only [std, uid, S0] at *) <;> first | omega | rfl | (exfalso; simp_all only [Bool.true_eq_false, Bool.false_eq_true]; done))))
          · have hc : cellOk x j := fun h => by
              ((try subst hD hu); (try simp only [nc] at *); (try simp only [Int.ofNat_eq_natCast] at *); try simp (disch := omega) only [std, uid, S0, hx'] at *)
              simp_all
            refine ⟨j + 1, (), hjn, fun i hi => ?_, ssem_of ?_, by omega⟩
            · rcases Nat.lt_or_ge i j with h | h
              · exact hcs i h
              · rw [show i = j by omega]; exact hc
            · ((try conv => cbv); (repeat' ((with_reducible first | refine mS hD ?_ | refine mT hD ?_ | refine mF hD ?_ | refine mB hD (fun _ => ?_) (fun _ => ?_) | exact True.intro | refine And.intro ?_ ?_) <;> try conv => cbv)); all_goals try (first | trivial | (subst hD; first | exact fun _ _ => ⟨_, rfl⟩ | exact fl1 | exact fl1') | (((try subst hD hu); (try simp only [nc] at *); (try simp only [Int.ofNat_eq_natCast] at *); try simp (disch := omega) only [std, uid, S0] at *) <;> first | omega | rfl | (exfalso; simp_all only [Bool.true_eq_false, Bool.false_eq_true]; done))))
          · have ej : j = x.length := by ((try subst hD hu); (try simp only [nc] at *); (try simp only [Int.ofNat_eq_natCast] at *); try simp (disch := omega) only [std, uid, S0, hx'] at *); omega
            subst ej
            refine ⟨k + 1, (), hkn, fun i hi => ?_, ssem_of ?_, by omega⟩
            · rcases Nat.lt_or_ge i k with h | h
              · exact hrows i h
              · rw [show i = k by omega, hx']; exact ⟨hlc, hcs⟩
            · ((try conv => cbv); (repeat' ((with_reducible first | refine mS hD ?_ | refine mT hD ?_ | refine mF hD ?_ | refine mB hD (fun _ => ?_) (fun _ => ?_) | exact True.intro | refine And.intro ?_ ?_) <;> try conv => cbv)); all_goals try (first | trivial | (subst hD; first | exact fun _ _ => ⟨_, rfl⟩ | exact fl1 | exact fl1') | (((try subst hD hu); (try simp only [nc] at *); (try simp only [Int.ofNat_eq_natCast] at *); try simp (disch := omega) only [std, uid, S0] at *) <;> first | omega | rfl | (exfalso; simp_all only [Bool.true_eq_false, Bool.false_eq_true]; done))))
      all_goals (
        have ek : k = s.grid.length := by ((try subst hD hu); (try simp only [nc] at *); (try simp only [Int.ofNat_eq_natCast] at *); try simp (disch := omega) only [std, uid, S0] at *); omega
        subst ek
        have key : ScrOk s ↔ (0 ≤ s.row ∧ s.row < s.rows) ∧ (0 ≤ s.col ∧ s.col < s.cols) ∧ (s.late = true → s.col = s.cols - 1) := ⟨fun h => ⟨h.row, h.col, h.late⟩, fun h => ⟨hs1, hl, hh, hrows, h.1, h.2.1, h.2.2⟩⟩
        ((try subst hD hu); (try simp only [nc] at *); (try simp only [Int.ofNat_eq_natCast] at *); try simp (disch := omega) only [std, uid, S0] at *)
        first
        | exact (screenOk_not (fun h => by have := key.mp h; omega)).symm
        | exact ((screenOk_iff s).mpr (key.mpr ⟨by omega, by omega, fun h => by simp_all⟩)).symm
        | (rw [Bool.eq_iff_iff, screenOk_iff, key]
           simp only [beq_iff_eq]
           exact ⟨fun h => ⟨by omega, by omega, fun _ => h⟩, fun h => h.2.2 (by assumption)⟩))
  · have hn : ¬ ScrOk s := fun h => by have := h.size; ((try subst hD hu); (try simp only [nc] at *); (try simp only [Int.ofNat_eq_natCast] at *); try simp (disch := omega) only [std, uid, S0] at *); simp_all
    ((try subst hD hu); (try simp only [nc] at *); (try simp only [Int.ofNat_eq_natCast] at *); try simp (disch := omega) only [std, uid, S0, screenOk_not hn] at *)
theorem x_specScreenOk (s : Scr) (hb : bdEScr 1000000000 s) (hk : okScr s) : PX Try.prog 54 (fun D u => [.r (.a (rScr D u (u _ s)))]) (fun D u => [RB (u _ (screenOk s))]) (fun D u => []) := by
  refine px_of_awp (fn := Try.f54) (c := bodyOf Try.f54) envOk (by kernel_rfl) (by kernel_rfl) (by kernel_rfl) (by kernel_rfl) rfl (by kernel_rfl) (by kernel_rfl) ?_
  intro w0 mine D u C L hD hu hC hL
  have hb1 := hb.1.1
  have hb2 := hb.1.2
  ((try conv => cbv); (repeat' ((with_reducible first | refine mS hD ?_ | refine mT hD ?_ | refine mF hD ?_ | refine mB hD (fun _ => ?_) (fun _ => ?_) | exact True.intro | refine And.intro ?_ ?_) <;> try conv => cbv)); all_goals try (first | trivial | (subst hD; first | exact fun _ _ => ⟨_, rfl⟩ | exact fl1 | exact fl1') | (((try subst hD hu); (try simp only [nc] at *); (try simp only [Int.ofNat_eq_natCast] at *); try simp (disch := omega) only [std, uid, S0] at *) <;> first | omega | rfl | (exfalso; simp_all only [Bool.true_eq_false, Bool.false_eq_true]; done))))
  refine callx hD hu hC (x_l2SizeOk s.cols s.rows) ?_
  ((try conv => cbv); (repeat' ((with_reducible first | refine mS hD ?_ | refine mT hD ?_ | refine mF hD ?_ | refine mB hD (fun _ => ?_) (fun _ => ?_) | exact True.intro | refine And.intro ?_ ?_) <;> try conv => cbv)); all_goals try (first | trivial | (subst hD; first | exact fun _ _ => ⟨_, rfl⟩ | exact fl1 | exact fl1') | (((try subst hD hu); (try simp only [nc] at *); (try simp only [Int.ofNat_eq_natCast] at *); try simp (disch := omega) only [std, uid, S0] at *) <;> first | omega | rfl | (exfalso; simp_all only [Bool.true_eq_false, Bool.false_eq_true]; done))))
  · have hn : ¬ ScrOk s := fun h => by have := h.len; ((try subst hD hu); (try simp only [nc] at *); (try simp only [Int.ofNat_eq_natCast] at *); try simp (disch := omega) only [std, uid, S0] at *); omega
    ((try subst hD hu); (try simp only [nc] at *); (try simp only [Int.ofNat_eq_natCast] at *); try simp (disch := omega) only [std, uid, S0, screenOk_not hn] at *)
  · have hn : ¬ ScrOk s := fun h => by have := h.hold; ((try subst hD hu); (try simp only [nc] at *); (try simp only [Int.ofNat_eq_natCast] at *); try simp (disch := omega) only [std, uid, S0] at *); omega
    ((try subst hD hu); (try simp only [nc] at *); (try simp only [Int.ofNat_eq_natCast] at *); try simp (disch := omega) only [std, uid, S0, screenOk_not hn] at *)
  · have hs1 : sizeOk s.cols s.rows = true := by ((try subst hD hu); (try simp only [nc] at *); (try simp only [Int.ofNat_eq_natCast] at *); try simp (disch := omega) only [std, uid, S0] at *); assumption
    have hs2 := (sizeOk_iff _ _).mp hs1
    have hl : (s.grid.length : Int) = s.rows := by ((try subst hD hu); (try simp only [nc] at *); (try simp only [Int.ofNat_eq_natCast] at *); try simp (disch := omega) only [std, uid, S0] at *); omega
    have hh : s.hold.length ≤ 32 := by ((try subst hD hu); (try simp only [nc] at *); (try simp only [Int.ofNat_eq_natCast] at *); try simp (disch := omega) only [std, uid, S0] at *); omega
    refine loop_st hL s.grid.length (fun k (_ : Unit) => ∀ i, i < k → rowOk s.cols (s.grid.getD i [])) () (fun k _ => [(3, VI (u _ k))]) (fun k _ => []) (fun i hi => absurd hi (Nat.not_lt_zero i)) ?_ ?_
    · ((try conv => cbv); (repeat' ((with_reducible first | refine mS hD ?_ | refine mT hD ?_ | refine mF hD ?_ | refine mB hD (fun _ => ?_) (fun _ => ?_) | exact True.intro | refine And.intro ?_ ?_) <;> try conv => cbv)); all_goals try (first | trivial | (subst hD; first | exact fun _ _ => ⟨_, rfl⟩ | exact fl1 | exact fl1') | (((try subst hD hu); (try simp only [nc] at *); (try simp only [Int.ofNat_eq_natCast] at *); try simp (disch := omega) only [std, uid, S0] at *) <;> first | omega | rfl | (exfalso; simp_all only [Bool.true_eq_false, Bool.false_eq_true]; done))))
    · intro k _ hkk hrows
      ((try conv => cbv); (repeat' ((with_reducible first | refine mS hD ?_ | refine mT hD ?_ | refine mF hD ?_ | refine mB hD (fun _ => ?_) (fun _ => ?_) | exact True.intro | refine And.intro ?_ ?_) <;> try conv => cbv)); all_goals try (first | trivial | (subst hD; first | exact fun _ _ => ⟨_, rfl⟩ | exact fl1 | exact fl1') | (((try subst hD hu); (try simp only [nc] at *); (try simp only [Int.ofNat_eq_natCast] at *); try simp (disch := omega) only [std, uid, S0] at *) <;> first | omega | rfl | (exfalso; simp_all only [Bool.true_eq_false, Bool.false_eq_true]; done))))
      all_goals try (have hkn : k < s.grid.length := by ((try subst hD hu); (try simp only [nc] at *); (try simp only [Int.ofNat_eq_natCast] at *); try simp (disch := omega) only [std, uid, S0] at *); omega)
      all_goals try (have hx := hb2 _ (getD_mem s.grid [] k hkn); have hx1 := hx.1)
      · have hn : ¬ ScrOk s := fun h => by have := (h.grid k hkn).1; ((try subst hD hu); (try simp only [nc] at *); (try simp only [Int.ofNat_eq_natCast] at *); try simp (disch := omega) only [std, uid, S0] at *); omega
        ((try subst hD hu); (try simp only [nc] at *); (try simp only [Int.ofNat_eq_natCast] at *); try simp (disch := omega) only [std, uid, S0, screenOk_not hn] at *)
      · generalize hx' : s.grid.getD k [] = x at *
        have hlc : (x.length : Int) = s.cols := by ((try subst hD hu); (try simp only [nc] at *); (try simp only [Int.ofNat_eq_natCast] at *); try simp (disch := omega) only [std, uid, S0, hx'] at *); omega
        refine loop_st hL x.length (fun j (_ : Unit) => ∀ i, i < j → cellOk x i) () (fun j _ => [(4, VI (u _ j))]) (fun j _ => []) (fun i hi => absurd hi (Nat.not_lt_zero i)) ?_ ?_
        · ((try conv => cbv); (repeat' ((with_reducible first | refine mS hD ?_ | refine mT hD ?_ | refine mF hD ?_ | refine mB hD (fun _ => ?_) (fun _ => ?_) | exact True.intro | refine And.intro ?_ ?_) <;> try conv => cbv)); all_goals try (first | trivial | (subst hD; first | exact fun _ _ => ⟨_, rfl⟩ | exact fl1 | exact fl1') | (((try subst hD hu); (try simp only [nc] at *); (try simp only [Int.ofNat_eq_natCast] at *); try simp (disch := omega) only [std, uid, S0] at *) <;> first | omega | rfl | (exfalso; simp_all only [Bool.true_eq_false, Bool.false_eq_true]; done))))
        · intro j _ hj hcs
          ((try conv => cbv); (repeat' ((with_reducible first | refine mS hD ?_ | refine mT hD ?_ | refine mF hD ?_ | refine mB hD (fun _ => ?_) (fun _ => ?_) | exact True.intro | refine And.intro ?_ ?_) <;> try conv => cbv)); all_goals try (first | trivial | (subst hD; first | exact fun _ _ => ⟨_, rfl⟩ | exact fl1 | exact fl1') | (((try subst hD hu); (try simp only [nc] at *); (try simp only [Int.ofNat_eq_natCast] at *); try simp (disch := omega) only [std, uid, S0] at *) <;> first | omega | rfl | (exfalso; simp_all only [Bool.true_eq_false, Bool.false_eq_true]; done))))
          all_goals try (have hjn : j < x.length := by ((try subst hD hu); (try simp only [nc] at *); (try simp only [Int.ofNat_eq_natCast] at *); try simp (disch := omega) only [std, uid, S0, hx'] at *); omega)
          iterate 3
            · have hn : ¬ ScrOk s := fun h => by
                have hc := (h.grid k hkn).2 j (by rw [hx']; exact hjn)
                unfold cellOk at hc
                rw [hx'] at hc
                have e : ((j : Int) - 1).toNat = j - 1 := by omega
                ((try subst hD hu); (try simp only [nc] at *); (try simp only [Int.ofNat_eq_natCast] at *); try simp (disch := omega) only [std, uid, S0, hx', e] at *)
                simp_all
              ((try subst hD hu); (try simp only [nc] at *); (try simp only [Int.ofNat_eq_natCast] at *); try simp (disch := omega) only [std, uid, S0, screenOk_not hn] at *)
          · have hc : cellOk x j := fun h => by
              have e : ((j : Int) - 1).toNat = j - 1 := by omega
              ((try subst hD hu); (try simp only [nc] at *); (try simp only [Int.ofNat_eq_natCast] at *); try simp (disch := omega) only [std, uid, S0, hx', e] at *)
              simp_all
            refine ⟨j + 1, (), hjn, fun i hi => ?_, ssem_of ?_, by omega⟩
            · rcases Nat.lt_or_ge i j with h | h
              · exact hcs i h
              · rw [show i = j by omega]; exact hc
            · ((try conv => cbv); (repeat' ((with_reducible first | refine mS hD ?_ | refine mT hD ?_ | refine mF hD ?_ | refine mB hD (fun _ => ?_) (fun _ => ?_) | exact True.intro | refine And.intro ?_ ?_) <;> try conv => cbv)); all_goals try (first | trivial | (subst hD; first | exact fun _ _ => ⟨_, rfl⟩ | exact fl1 | exact fl1') | (((try subst hD hu); (try simp only [nc] at *); (try simp only [Int.ofNat_eq_natCast] at *); try simp (disch := omega) only [std, uid, S0] at *) <;> first | omega | rfl | (exfalso; simp_all only [Bool.true_eq_false, Bool.false_eq_true]; done))))
          · have hc : cellOk x j := fun h => by
              ((try subst hD hu); (try simp only [nc] at *); (try simp only [Int.ofNat_eq_natCast] at *); try simp (disch := omega) only [std, uid, S0, hx'] at *)
              simp_all
            refine ⟨j + 1, (), hjn, fun i hi => ?_, ssem_of ?_, by omega⟩
            · rcases Nat.lt_or_ge i j with h | h
              · exact hcs i h
              · rw [show i = j by omega]; exact hc
            · ((try conv => cbv); (repeat' ((with_reducible first | refine mS hD ?_ | refine mT hD ?_ | refine mF hD ?_ | refine mB hD (fun _ => ?_) (fun _ => ?_) | exact True.intro | refine And.intro ?_ ?_) <;> try conv => cbv)); all_goals try (first | trivial | (subst hD; first | exact fun _ _ => ⟨_, rfl⟩ | exact fl1 | exact fl1') | (((try subst hD hu); (try simp only [nc] at *); (try simp only [Int.ofNat_eq_natCast] at *); try simp (disch := omega) only [std, uid, S0] at *) <;> first | omega | rfl | (exfalso; simp_all only [Bool.true_eq_false, Bool.false_eq_true]; done))))
          · have ej : j = x.length := by ((try subst hD hu); (try simp only [nc] at *); (try simp only [Int.ofNat_eq_natCast] at *); try simp (disch := omega) only [std, uid, S0, hx'] at *); omega
            subst ej
            refine ⟨k + 1, (), hkn, fun i hi => ?_, ssem_of ?_, by omega⟩
            · rcases Nat.lt_or_ge i k with h | h
              · exact hrows i h
              · rw [show i = k by omega, hx']; exact ⟨hlc, hcs⟩
            · ((try conv => cbv); (repeat' ((with_reducible first | refine mS hD ?_ | refine mT hD ?_ | refine mF hD ?_ | refine mB hD (fun _ => ?_) (fun _ => ?_) | exact True.intro | refine And.intro ?_ ?_) <;> try conv => cbv)); all_goals try (first | trivial | (subst hD; first | exact fun _ _ => ⟨_, rfl⟩ | exact fl1 | exact fl1') | (((try subst hD hu); (try simp only [nc] at *); (try simp only [Int.ofNat_eq_natCast] at *); try simp (disch := omega) only [std, uid, S0] at *) <;> first | omega | rfl | (exfalso; simp_all only [Bool.true_eq_false, Bool.false_eq_true]; done))))
      all_goals (
        have ek : k = s.grid.length := by ((try subst hD hu); (try simp only [nc] at *); (try simp only [Int.ofNat_eq_natCast] at *); try simp (disch := omega) only [std, uid, S0] at *); omega
        subst ek
        have key : ScrOk s ↔ (0 ≤ s.row ∧ s.row < s.rows) ∧ (0 ≤ s.col ∧ s.col < s.cols) ∧ (s.late = true → s.col = s.cols - 1) := ⟨fun h => ⟨h.row, h.col, h.late⟩, fun h => ⟨hs1, hl, hh, hrows, h.1, h.2.1, h.2.2⟩⟩
        ((try subst hD hu); (try simp only [nc] at *); (try simp only [Int.ofNat_eq_natCast] at *); try simp (disch := omega) only [std, uid, S0] at *)
        first
        | exact (screenOk_not (fun h => by have := key.mp h; omega)).symm
        | exact ((screenOk_iff s).mpr (key.mpr ⟨by omega, by omega, fun h => by simp_all⟩)).symm
        | (rw [Bool.eq_iff_iff, screenOk_iff, key]
           simp only [beq_iff_eq]
           exact ⟨fun h => ⟨by omega, by omega, fun _ => h⟩, fun h => h.2.2 (by assumption)⟩))
  · have hn : ¬ ScrOk s := fun h => by have := h.size; ((try subst hD hu); (try simp only [nc] at *); (try simp only [Int.ofNat_eq_natCast] at *); try simp (disch := omega) only [std, uid, S0] at *); simp_all
    ((try subst hD hu); (try simp only [nc] at *); (try simp only [Int.ofNat_eq_natCast] at *); try simp (disch := omega) only [std, uid, S0, screenOk_not hn] at *)
end Go.AW
/- The law of ScreenOk. -/
set_option linter.unusedVariables false
set_option linter.unusedSimpArgs false
namespace Go.AW
open Go.Proofs
set_option maxRecDepth 100000
set_option maxHeartbeats 8000000
theorem con_FnExactScreenOk (a : Scr) (h0 : bdEScr 140737488355328 a ∧ okScr a) : PX Try.prog 10 (fun D u => [.r (.a (rScr D u (u _ a)))]) (fun D u => [RB true]) (fun D u => []) := by
  refine px_of_awp (fn := Try.f10) (c := bodyOf Try.f10) envOk (by kernel_rfl) (by kernel_rfl) (by kernel_rfl) (by kernel_rfl) rfl (by kernel_rfl) (by kernel_rfl) ?_
  intro w0 mine D u C L hD hu hC hL
  ((try conv => cbv); (repeat' ((with_reducible first | refine mS hD ?_ | refine mT hD ?_ | refine mF hD ?_ | refine mB hD (fun _ => ?_) (fun _ => ?_) | exact True.intro | refine And.intro ?_ ?_) <;> try conv => cbv)); all_goals try (first | trivial | (subst hD; first | exact fun _ _ => ⟨_, rfl⟩ | exact fl1 | exact fl1') | (((try subst hD hu); (try simp only [nc] at *); (try simp only [Int.ofNat_eq_natCast] at *); try simp (disch := omega) only [std, uid, S0] at *) <;> first | omega | rfl | (exfalso; simp_all only [Bool.true_eq_false, Bool.false_eq_true]; done))))
  obtain ⟨r1, hr1⟩ := opq (if (1048576 : Int) - (toEScr a : Nat) < 0 then -1 else (1048576 : Int) - (toEScr a : Nat))
  all_goals (
    refine callx hD hu hC (x_szScreen a 1048576 r1 (by ((try subst hD hu); (try simp only [nc] at *); (try simp only [Int.ofNat_eq_natCast] at *); try simp (disch := omega) only [std, uid, S0] at *); omega) (h0.1) hr1) ?_
    ((try conv => cbv); (repeat' ((with_reducible first | refine mS hD ?_ | refine mT hD ?_ | refine mF hD ?_ | refine mB hD (fun _ => ?_) (fun _ => ?_) | exact True.intro | refine And.intro ?_ ?_) <;> try conv => cbv)); all_goals try (first | trivial | (subst hD; first | exact fun _ _ => ⟨_, rfl⟩ | exact fl1 | exact fl1') | (((try subst hD hu); (try simp only [nc] at *); (try simp only [Int.ofNat_eq_natCast] at *); try simp (disch := omega) only [std, uid, S0] at *) <;> first | omega | rfl | (exfalso; simp_all only [Bool.true_eq_false, Bool.false_eq_true]; done))))
    all_goals try ((subst hD hu; (try simp only [std, uid, rR, rB, rT, rN, rClu, rCel, rSnp, rKey, rCluS, rCelS, lR, lB, lT, lN, lClu, lCel, eL, dClu, dCel, dSnp, dKey, Int.toNat_natCast, Int.ofNat_eq_natCast, markL_len, mkR_len, mkB_len, mkN_len, mvScr]) <;> rfl)))
  have hz0 : toEScr a ≤ 1048576 := by ((try subst hD hu); (try simp only [nc] at *); (try simp only [Int.ofNat_eq_natCast] at *); try simp (disch := omega) only [std, uid, S0] at *); omega
  have hb0 : bdEScr 1000000000 a := boEScr _ _ (by omega)
  have hc0 := ccVScr a
  all_goals (
    refine callx hD hu hC (x_toScreen a hb0) ?_
    ((try conv => cbv); (repeat' ((with_reducible first | refine mS hD ?_ | refine mT hD ?_ | refine mF hD ?_ | refine mB hD (fun _ => ?_) (fun _ => ?_) | exact True.intro | refine And.intro ?_ ?_) <;> try conv => cbv)); all_goals try (first | trivial | (subst hD; first | exact fun _ _ => ⟨_, rfl⟩ | exact fl1 | exact fl1') | (((try subst hD hu); (try simp only [nc] at *); (try simp only [Int.ofNat_eq_natCast] at *); try simp (disch := omega) only [std, uid, S0] at *) <;> first | omega | rfl | (exfalso; simp_all only [Bool.true_eq_false, Bool.false_eq_true]; done))))
    all_goals try ((subst hD hu; (try simp only [std, uid, rR, rB, rT, rN, rClu, rCel, rSnp, rKey, rCluS, rCelS, lR, lB, lT, lN, lClu, lCel, eL, dClu, dCel, dSnp, dKey, Int.toNat_natCast, Int.ofNat_eq_natCast, markL_len, mkR_len, mkB_len, mkN_len, mvScr]) <;> rfl)))
  all_goals (
    refine callx hD hu hC (x_specScreenOk a hb0 h0.2) ?_
    ((try conv => cbv); (repeat' ((with_reducible first | refine mS hD ?_ | refine mT hD ?_ | refine mF hD ?_ | refine mB hD (fun _ => ?_) (fun _ => ?_) | exact True.intro | refine And.intro ?_ ?_) <;> try conv => cbv)); all_goals try (first | trivial | (subst hD; first | exact fun _ _ => ⟨_, rfl⟩ | exact fl1 | exact fl1') | (((try subst hD hu); (try simp only [nc] at *); (try simp only [Int.ofNat_eq_natCast] at *); try simp (disch := omega) only [std, uid, S0] at *) <;> first | omega | rfl | (exfalso; simp_all only [Bool.true_eq_false, Bool.false_eq_true]; done))))
    all_goals try ((subst hD hu; (try simp only [std, uid, rR, rB, rT, rN, rClu, rCel, rSnp, rKey, rCluS, rCelS, lR, lB, lT, lN, lClu, lCel, eL, dClu, dCel, dSnp, dKey, Int.toNat_natCast, Int.ofNat_eq_natCast, markL_len, mkR_len, mkB_len, mkN_len, mvScr]) <;> rfl)))
  all_goals (
    refine callx hD hu hC (x_toScreen a hb0) ?_
    ((try conv => cbv); (repeat' ((with_reducible first | refine mS hD ?_ | refine mT hD ?_ | refine mF hD ?_ | refine mB hD (fun _ => ?_) (fun _ => ?_) | exact True.intro | refine And.intro ?_ ?_) <;> try conv => cbv)); all_goals try (first | trivial | (subst hD; first | exact fun _ _ => ⟨_, rfl⟩ | exact fl1 | exact fl1') | (((try subst hD hu); (try simp only [nc] at *); (try simp only [Int.ofNat_eq_natCast] at *); try simp (disch := omega) only [std, uid, S0] at *) <;> first | omega | rfl | (exfalso; simp_all only [Bool.true_eq_false, Bool.false_eq_true]; done))))
    all_goals try ((subst hD hu; (try simp only [std, uid, rR, rB, rT, rN, rClu, rCel, rSnp, rKey, rCluS, rCelS, lR, lB, lT, lN, lClu, lCel, eL, dClu, dCel, dSnp, dKey, Int.toNat_natCast, Int.ofNat_eq_natCast, markL_len, mkR_len, mkB_len, mkN_len, mvScr]) <;> rfl)))
  all_goals (
    refine callx hD hu hC (x_implScreenOk a hb0 h0.2) ?_
    ((try conv => cbv); (repeat' ((with_reducible first | refine mS hD ?_ | refine mT hD ?_ | refine mF hD ?_ | refine mB hD (fun _ => ?_) (fun _ => ?_) | exact True.intro | refine And.intro ?_ ?_) <;> try conv => cbv)); all_goals try (first | trivial | (subst hD; first | exact fun _ _ => ⟨_, rfl⟩ | exact fl1 | exact fl1') | (((try subst hD hu); (try simp only [nc] at *); (try simp only [Int.ofNat_eq_natCast] at *); try simp (disch := omega) only [std, uid, S0] at *) <;> first | omega | rfl | (exfalso; simp_all only [Bool.true_eq_false, Bool.false_eq_true]; done))))
    all_goals try ((subst hD hu; (try simp only [std, uid, rR, rB, rT, rN, rClu, rCel, rSnp, rKey, rCluS, rCelS, lR, lB, lT, lN, lClu, lCel, eL, dClu, dCel, dSnp, dKey, Int.toNat_natCast, Int.ofNat_eq_natCast, markL_len, mkR_len, mkB_len, mkN_len, mvScr]) <;> rfl)))
  all_goals (
    refine callx hD hu hC (x_toScreen a hb0) ?_
    ((try conv => cbv); (repeat' ((with_reducible first | refine mS hD ?_ | refine mT hD ?_ | refine mF hD ?_ | refine mB hD (fun _ => ?_) (fun _ => ?_) | exact True.intro | refine And.intro ?_ ?_) <;> try conv => cbv)); all_goals try (first | trivial | (subst hD; first | exact fun _ _ => ⟨_, rfl⟩ | exact fl1 | exact fl1') | (((try subst hD hu); (try simp only [nc] at *); (try simp only [Int.ofNat_eq_natCast] at *); try simp (disch := omega) only [std, uid, S0] at *) <;> first | omega | rfl | (exfalso; simp_all only [Bool.true_eq_false, Bool.false_eq_true]; done))))
    all_goals try ((subst hD hu; (try simp only [std, uid, rR, rB, rT, rN, rClu, rCel, rSnp, rKey, rCluS, rCelS, lR, lB, lT, lN, lClu, lCel, eL, dClu, dCel, dSnp, dKey, Int.toNat_natCast, Int.ofNat_eq_natCast, markL_len, mkR_len, mkB_len, mkN_len, mvScr]) <;> rfl)))
  all_goals (
    refine callx hD hu hC (x_eqScreen a hb0) ?_
    ((try conv => cbv); (repeat' ((with_reducible first | refine mS hD ?_ | refine mT hD ?_ | refine mF hD ?_ | refine mB hD (fun _ => ?_) (fun _ => ?_) | exact True.intro | refine And.intro ?_ ?_) <;> try conv => cbv)); all_goals try (first | trivial | (subst hD; first | exact fun _ _ => ⟨_, rfl⟩ | exact fl1 | exact fl1') | (((try subst hD hu); (try simp only [nc] at *); (try simp only [Int.ofNat_eq_natCast] at *); try simp (disch := omega) only [std, uid, S0] at *) <;> first | omega | rfl | (exfalso; simp_all only [Bool.true_eq_false, Bool.false_eq_true]; done))))
    all_goals try ((subst hD hu; (try simp only [std, uid, rR, rB, rT, rN, rClu, rCel, rSnp, rKey, rCluS, rCelS, lR, lB, lT, lN, lClu, lCel, eL, dClu, dCel, dSnp, dKey, Int.toNat_natCast, Int.ofNat_eq_natCast, markL_len, mkR_len, mkB_len, mkN_len, mvScr]) <;> rfl)))
end Go.AW
