/- Clusters on both sides. -/
import Derived.Test.YtkimeddfdcjlpaaG4
set_option linter.unusedVariables false
set_option linter.unusedSimpArgs false
set_option linter.unusedVariables false
set_option linter.unusedSimpArgs false
namespace Go.AW
open Go.Proofs
set_option maxRecDepth 100000
set_option maxHeartbeats 4000000
theorem clusters_last (rs : List Int) (k : Nat) (hk : k ≤ rs.length) : (clusters (rs.take k)).length ≤ k ∧ ∀ i, ((clusters (rs.take k)).getD i dClu).runes.length ≤ k + 1 := by
  refine ⟨foldl_take_len rs k, fun i => ?_⟩
  have h1 := clusters_cnt (rs.take k) []
  have : cntL toEClu ([] : List Clu) = 0 := rfl
  rw [if_pos rfl, this, List.length_take] at h1
  rcases Nat.lt_or_ge i (clusters (rs.take k)).length with h | h
  · have h2 := le_cntL toEClu (clusters (rs.take k)) _ (getD_mem _ dClu i h)
    simp only [toEClu] at h2
    unfold clusters at *
    omega
  · rw [List.getD_eq_getElem?_getD, List.getElem?_eq_none (by omega)]
    simp [dClu]
theorem x_specClusters (rs : List Int) (hn : rs.length ≤ 1000000000) (hr : ∀ r, r ∈ rs → okR r) : PX Try.prog 114 (fun D u => [.r (.c (lR D u (u _ rs)))]) (fun D u => [.c (lClu D u (u _ (clusters rs)))]) (fun D u => []) := by
  refine px_of_awp (fn := Try.f114) (c := bodyOf Try.f114) envOk (by kernel_rfl) (by kernel_rfl) (by kernel_rfl) (by kernel_rfl) rfl (by kernel_rfl) (by kernel_rfl) ?_
  intro w0 mine D u C L hD hu hC hL
  (have hset := hsA hD; have hset3 := hsB hD; have hset2 := hset; (conv at hset2 => enter [f, a, row, 1]; whnf); (conv at hset3 => enter [f, a, row, row', 1]; whnf; enter [1]; whnf); (conv at hset3 => enter [f, a, row, row', 2]; whnf))
  ((try conv => cbv); (repeat' (first | with_reducible exact mK hD | (with_reducible first | refine mS hD ?_ | refine mJ hL ?_ | refine mT hD ?_ | refine mF hD ?_ | refine mB hD (fun _ => ?_) (fun _ => ?_) | exact True.intro | refine And.intro ?_ ?_) <;> try conv => cbv)); all_goals try exact fx)
  refine loop_st hL rs.length (fun k s => s = clusters (rs.take k)) [] (fun k s => [(3, vO D 0 (u _ s)), (8, .bad), (4, VI (u _ k))]) (fun k s => [(0, oClu D u (u _ s))]) rfl ?_ ?_
  · ((try conv => cbv); (repeat' (first | with_reducible exact mK hD | (with_reducible first | refine mS hD ?_ | refine mJ hL ?_ | refine mT hD ?_ | refine mF hD ?_ | refine mB hD (fun _ => ?_) (fun _ => ?_) | exact True.intro | refine And.intro ?_ ?_) <;> try conv => cbv)); all_goals try exact fx)
    (subst hD hu; apply qClu; (focus repeat' (first | exact LR.refl | exact LR_bytes | apply mClu | apply mCel | apply mKey | apply mSnp | apply mKRd | apply mLin | apply mHis | apply mBlk | apply mScr | apply mSes | exact zR | exact zB | exact zT | exact zN | exact zClu | exact zCel | exact zCelS | exact zSnp | exact zKey | exact zSes | exact zScr | apply LR.deq | exact LR.nil | apply LR.one | apply LR.rep | apply LR.cat | apply LR.cat' | apply LR.set | exact u8_0 | exact DEq.s _ | (apply str_deq; (repeat' apply sr_cat) <;> rfl) | apply aLe_1 | (apply LR.rfl'; simp only [uid, std, S0]; omega))); all_goals try simp only [uid, std, Int.toNat_natCast, Int.ofNat_eq_natCast])
  · intro k s hk hs
    have hb := clusters_last rs k hk
    rw [← hs] at hb
    have hb1 := hb.1
    have hb2 := hb.2
    ((try conv => cbv); (repeat' (first | with_reducible exact mK hD | (with_reducible first | refine mS hD ?_ | refine mJ hL ?_ | refine mT hD ?_ | refine mF hD ?_ | refine mB hD (fun _ => ?_) (fun _ => ?_) | exact True.intro | refine And.intro ?_ ?_) <;> try conv => cbv)); all_goals try exact fx)
    · have hkn : k < rs.length := lo
      have hsn := clusters_snoc rs k hkn
      rw [← hs] at hsn
      have hok := hr _ (getD_mem rs 0 k hkn)
      unfold okR at hok
      generalize hv : rs.getD k 0 = v at *
      have hsr := shown_range v
      have hw := runeWidth_range (shownR v)
      refine callx hD hu hC (x_l1Shown v) ?_
      ((try conv => cbv); (repeat' (first | with_reducible exact mK hD | (with_reducible first | refine mS hD ?_ | refine mJ hL ?_ | refine mT hD ?_ | refine mF hD ?_ | refine mB hD (fun _ => ?_) (fun _ => ?_) | exact True.intro | refine And.intro ?_ ?_) <;> try conv => cbv)); all_goals try exact fx)
      all_goals try (((try subst hD hu); (try simp only [nc] at *); (try simp only [Int.ofNat_eq_natCast] at *); try simp (disch := omega) only [std, uid, S0, hv] at *); done)
      refine callx hD hu hC (x_specRuneWidth (shownR v) (okR_shown v)) ?_
      ((try conv => cbv); (repeat' (first | with_reducible exact mK hD | (with_reducible first | refine mS hD ?_ | refine mJ hL ?_ | refine mT hD ?_ | refine mF hD ?_ | refine mB hD (fun _ => ?_) (fun _ => ?_) | exact True.intro | refine And.intro ?_ ?_) <;> try conv => cbv)); all_goals try exact fx)
      all_goals try (((try subst hD hu); (try simp only [nc] at *); (try simp only [Int.ofNat_eq_natCast] at *); try simp (disch := omega) only [std, uid, S0] at *); rw [wrapI32 _ (by omega)]; done)
      · have hp : 0 < runeWidth (shownR v) := lo
        refine ⟨k + 1, s ++ [⟨[shownR v], runeWidth (shownR v)⟩], hkn, by rw [hsn, addRune, if_pos hp], ssem_of ?_, by omega⟩
        ((try conv => cbv); (repeat' (first | with_reducible exact mK hD | (with_reducible first | refine mS hD ?_ | refine mJ hL ?_ | refine mT hD ?_ | refine mF hD ?_ | refine mB hD (fun _ => ?_) (fun _ => ?_) | exact True.intro | refine And.intro ?_ ?_) <;> try conv => cbv)); all_goals try exact fx)
        (subst hD hu; apply qClu; (focus repeat' (first | exact LR.refl | exact LR_bytes | apply mClu | apply mCel | apply mKey | apply mSnp | apply mKRd | apply mLin | apply mHis | apply mBlk | apply mScr | apply mSes | exact zR | exact zB | exact zT | exact zN | exact zClu | exact zCel | exact zCelS | exact zSnp | exact zKey | exact zSes | exact zScr | apply LR.deq | exact LR.nil | apply LR.one | apply LR.rep | apply LR.cat | apply LR.cat' | apply LR.set | exact u8_0 | exact DEq.s _ | (apply str_deq; (repeat' apply sr_cat) <;> rfl) | apply aLe_1 | (apply LR.rfl'; simp only [uid, std, S0]; omega))); all_goals try simp only [uid, std, Int.toNat_natCast, Int.ofNat_eq_natCast])
        rw [wrapI32 _ (by omega)]
      all_goals (
        have hcA : ∀ (f g : Nat → List DV), D.catF (D.lenL Clu (u _ s)) f 1 g (rowN D 0 (D.subI .i64 (D.ofN (D.addN (D.lenL Clu (u _ s)) 1)) 1)) = g 0 := fun f g => by
          subst hD hu
          simp only [uid, std, catR, rowN, Int.natCast_add, Int.natCast_one]
          rw [wrap64 _ (by omega), if_pos (by omega)]
          congr 1
          omega
        have hcB := hcA
        conv at hcB => enter [f, g, 1]; cbv)
      repeat' ((first | simp only [hcB] | simp only [hset2, hset3, hset, rowN]); ((try conv => cbv); (repeat' (first | with_reducible exact mK hD | (with_reducible first | refine mS hD ?_ | refine mJ hL ?_ | refine mT hD ?_ | refine mF hD ?_ | refine mB hD (fun _ => ?_) (fun _ => ?_) | exact True.intro | refine And.intro ?_ ?_) <;> try conv => cbv)); all_goals try exact fx))
      · have h0 : s = [] := by ((try subst hD hu); (try simp only [nc] at *); (try simp only [Int.ofNat_eq_natCast] at *); try simp (disch := omega) only [std, uid, S0] at *); exact List.length_eq_zero_iff.mp (by omega)
        subst h0
        have hp : ¬ 0 < runeWidth (shownR v) := lo
        refine ⟨k + 1, [⟨[9676, shownR v], 1⟩], hkn, by rw [hsn, addRune, if_neg hp, if_pos rfl], ssem_of ?_, by omega⟩
        ((try conv => cbv); (repeat' (first | with_reducible exact mK hD | (with_reducible first | refine mS hD ?_ | refine mJ hL ?_ | refine mT hD ?_ | refine mF hD ?_ | refine mB hD (fun _ => ?_) (fun _ => ?_) | exact True.intro | refine And.intro ?_ ?_) <;> try conv => cbv)); all_goals try exact fx)
        (subst hD hu; apply qClu; (focus repeat' (first | exact LR.refl | exact LR_bytes | apply mClu | apply mCel | apply mKey | apply mSnp | apply mKRd | apply mLin | apply mHis | apply mBlk | apply mScr | apply mSes | exact zR | exact zB | exact zT | exact zN | exact zClu | exact zCel | exact zCelS | exact zSnp | exact zKey | exact zSes | exact zScr | apply LR.deq | exact LR.nil | apply LR.one | apply LR.rep | apply LR.cat | apply LR.cat' | apply LR.set | exact u8_0 | exact DEq.s _ | (apply str_deq; (repeat' apply sr_cat) <;> rfl) | apply aLe_1 | (apply LR.rfl'; simp only [uid, std, S0]; omega))); all_goals try simp only [uid, std, Int.toNat_natCast, Int.ofNat_eq_natCast])
        rw [wrapI32 _ (by omega)]
        rfl
      · have := hb2 ((s.length : Int) - 1).toNat
        have h0 : s.length ≠ 0 := lo
        ((try subst hD hu); (try simp only [nc] at *); (try simp only [Int.ofNat_eq_natCast] at *); try simp (disch := omega) only [std, uid, S0] at *)
        omega
      · have h0 : s ≠ [] := by
          intro h; subst h; ((try subst hD hu); (try simp only [nc] at *); (try simp only [Int.ofNat_eq_natCast] at *); try simp (disch := omega) only [std, uid, S0] at *); omega
        have hp : ¬ 0 < runeWidth (shownR v) := lo
        refine ⟨k + 1, s.set (s.length - 1) { s.getD (s.length - 1) dClu with runes := (s.getD (s.length - 1) dClu).runes ++ [shownR v] }, hkn, by rw [hsn, addRune, if_neg hp, if_neg h0], ssem_of ?_, by omega⟩
        have h0' : s.length ≠ 0 := fun h => h0 (List.length_eq_zero_iff.mp h)
        ((try conv => cbv); (repeat' (first | with_reducible exact mK hD | (with_reducible first | refine mS hD ?_ | refine mJ hL ?_ | refine mT hD ?_ | refine mF hD ?_ | refine mB hD (fun _ => ?_) (fun _ => ?_) | exact True.intro | refine And.intro ?_ ?_) <;> try conv => cbv)); all_goals try exact fx)
        (subst hD hu; apply qClu; (focus repeat' (first | exact LR.refl | exact LR_bytes | apply mClu | apply mCel | apply mKey | apply mSnp | apply mKRd | apply mLin | apply mHis | apply mBlk | apply mScr | apply mSes | exact zR | exact zB | exact zT | exact zN | exact zClu | exact zCel | exact zCelS | exact zSnp | exact zKey | exact zSes | exact zScr | apply LR.deq | exact LR.nil | apply LR.one | apply LR.rep | apply LR.cat | apply LR.cat' | apply LR.set | exact u8_0 | exact DEq.s _ | (apply str_deq; (repeat' apply sr_cat) <;> rfl) | apply aLe_1 | (apply LR.rfl'; simp only [uid, std, S0]; omega))); all_goals try simp only [uid, std, Int.toNat_natCast, Int.ofNat_eq_natCast])
        rw [wrapI32 _ (by omega), wrap64 _ (by omega), show ((s.length : Int) - 1).toNat = s.length - 1 by omega]
    · have e : k = rs.length := lo
      subst e
      rw [List.take_length] at hs
      rw [hs]
    · have e : k = rs.length := lo
      subst e
      rw [List.take_length] at hs
      (subst hD hu; apply qClu; (focus repeat' (first | exact LR.refl | exact LR_bytes | apply mClu | apply mCel | apply mKey | apply mSnp | apply mKRd | apply mLin | apply mHis | apply mBlk | apply mScr | apply mSes | exact zR | exact zB | exact zT | exact zN | exact zClu | exact zCel | exact zCelS | exact zSnp | exact zKey | exact zSes | exact zScr | apply LR.deq | exact LR.nil | apply LR.one | apply LR.rep | apply LR.cat | apply LR.cat' | apply LR.set | exact u8_0 | exact DEq.s _ | (apply str_deq; (repeat' apply sr_cat) <;> rfl) | apply aLe_1 | (apply LR.rfl'; simp only [uid, std, S0]; omega))); all_goals try simp only [uid, std, Int.toNat_natCast, Int.ofNat_eq_natCast])
      exact hs
theorem x_implClusters (rs : List Int) (hn : rs.length ≤ 1000000000) (hr : ∀ r, r ∈ rs → okR r) : PX Try.prog 119 (fun D u => [.r (.c (lR D u (u _ rs)))]) (fun D u => [.c (lClu D u (u _ (clusters rs)))]) (fun D u => []) := by
  refine px_of_awp (fn := Try.f119) (c := bodyOf Try.f119) envOk (by kernel_rfl) (by kernel_rfl) (by kernel_rfl) (by kernel_rfl) rfl (by kernel_rfl) (by kernel_rfl) ?_
  intro w0 mine D u C L hD hu hC hL
  (have hset := hsA hD; have hset3 := hsB hD; have hset2 := hset; (conv at hset2 => enter [f, a, row, 1]; whnf); (conv at hset3 => enter [f, a, row, row', 1]; whnf; enter [1]; whnf); (conv at hset3 => enter [f, a, row, row', 2]; whnf))
  ((try conv => cbv); (repeat' (first | with_reducible exact mK hD | (with_reducible first | refine mS hD ?_ | refine mJ hL ?_ | refine mT hD ?_ | refine mF hD ?_ | refine mB hD (fun _ => ?_) (fun _ => ?_) | exact True.intro | refine And.intro ?_ ?_) <;> try conv => cbv)); all_goals try exact fx)
  refine loop_st hL rs.length (fun k s => s = clusters (rs.take k)) [] (fun k s => [(3, vO D 0 (u _ s)), (9, .bad), (12, VI (u _ k))]) (fun k s => [(0, oClu D u (u _ s))]) rfl ?_ ?_
  · ((try conv => cbv); (repeat' (first | with_reducible exact mK hD | (with_reducible first | refine mS hD ?_ | refine mJ hL ?_ | refine mT hD ?_ | refine mF hD ?_ | refine mB hD (fun _ => ?_) (fun _ => ?_) | exact True.intro | refine And.intro ?_ ?_) <;> try conv => cbv)); all_goals try exact fx)
    (subst hD hu; apply qClu; (focus repeat' (first | exact LR.refl | exact LR_bytes | apply mClu | apply mCel | apply mKey | apply mSnp | apply mKRd | apply mLin | apply mHis | apply mBlk | apply mScr | apply mSes | exact zR | exact zB | exact zT | exact zN | exact zClu | exact zCel | exact zCelS | exact zSnp | exact zKey | exact zSes | exact zScr | apply LR.deq | exact LR.nil | apply LR.one | apply LR.rep | apply LR.cat | apply LR.cat' | apply LR.set | exact u8_0 | exact DEq.s _ | (apply str_deq; (repeat' apply sr_cat) <;> rfl) | apply aLe_1 | (apply LR.rfl'; simp only [uid, std, S0]; omega))); all_goals try simp only [uid, std, Int.toNat_natCast, Int.ofNat_eq_natCast])
  · intro k s hk hs
    have hb := clusters_last rs k hk
    rw [← hs] at hb
    have hb1 := hb.1
    have hb2 := hb.2
    ((try conv => cbv); (repeat' (first | with_reducible exact mK hD | (with_reducible first | refine mS hD ?_ | refine mJ hL ?_ | refine mT hD ?_ | refine mF hD ?_ | refine mB hD (fun _ => ?_) (fun _ => ?_) | exact True.intro | refine And.intro ?_ ?_) <;> try conv => cbv)); all_goals try exact fx)
    · have hkn : k < rs.length := lo
      have hsn := clusters_snoc rs k hkn
      rw [← hs] at hsn
      have hok := hr _ (getD_mem rs 0 k hkn)
      unfold okR at hok
      generalize hv : rs.getD k 0 = v at *
      have hsr := shown_range v
      have hw := runeWidth_range (shownR v)
      refine callx hD hu hC (x_shown v) ?_
      ((try conv => cbv); (repeat' (first | with_reducible exact mK hD | (with_reducible first | refine mS hD ?_ | refine mJ hL ?_ | refine mT hD ?_ | refine mF hD ?_ | refine mB hD (fun _ => ?_) (fun _ => ?_) | exact True.intro | refine And.intro ?_ ?_) <;> try conv => cbv)); all_goals try exact fx)
      all_goals try (((try subst hD hu); (try simp only [nc] at *); (try simp only [Int.ofNat_eq_natCast] at *); try simp (disch := omega) only [std, uid, S0, hv] at *); done)
      refine callx hD hu hC (x_implRuneWidth (shownR v)) ?_
      ((try conv => cbv); (repeat' (first | with_reducible exact mK hD | (with_reducible first | refine mS hD ?_ | refine mJ hL ?_ | refine mT hD ?_ | refine mF hD ?_ | refine mB hD (fun _ => ?_) (fun _ => ?_) | exact True.intro | refine And.intro ?_ ?_) <;> try conv => cbv)); all_goals try exact fx)
      · have hp : 0 < runeWidth (shownR v) := lo
        refine ⟨k + 1, s ++ [⟨[shownR v], runeWidth (shownR v)⟩], hkn, by rw [hsn, addRune, if_pos hp], ssem_of ?_, by omega⟩
        ((try conv => cbv); (repeat' (first | with_reducible exact mK hD | (with_reducible first | refine mS hD ?_ | refine mJ hL ?_ | refine mT hD ?_ | refine mF hD ?_ | refine mB hD (fun _ => ?_) (fun _ => ?_) | exact True.intro | refine And.intro ?_ ?_) <;> try conv => cbv)); all_goals try exact fx)
        (subst hD hu; apply qClu; (focus repeat' (first | exact LR.refl | exact LR_bytes | apply mClu | apply mCel | apply mKey | apply mSnp | apply mKRd | apply mLin | apply mHis | apply mBlk | apply mScr | apply mSes | exact zR | exact zB | exact zT | exact zN | exact zClu | exact zCel | exact zCelS | exact zSnp | exact zKey | exact zSes | exact zScr | apply LR.deq | exact LR.nil | apply LR.one | apply LR.rep | apply LR.cat | apply LR.cat' | apply LR.set | exact u8_0 | exact DEq.s _ | (apply str_deq; (repeat' apply sr_cat) <;> rfl) | apply aLe_1 | (apply LR.rfl'; simp only [uid, std, S0]; omega))); all_goals try simp only [uid, std, Int.toNat_natCast, Int.ofNat_eq_natCast])
      all_goals (
        have hcA : ∀ (f g : Nat → List DV), D.catF (D.lenL Clu (u _ s)) f 1 g (rowN D 0 (D.subI .i64 (D.ofN (D.addN (D.lenL Clu (u _ s)) 1)) 1)) = g 0 := fun f g => by
          subst hD hu
          simp only [uid, std, catR, rowN, Int.natCast_add, Int.natCast_one]
          rw [wrap64 _ (by omega), if_pos (by omega)]
          congr 1
          omega
        have hcB := hcA
        conv at hcB => enter [f, g, 1]; cbv)
      repeat' ((first | simp only [hcB] | simp only [hset2, hset3, hset, rowN]); ((try conv => cbv); (repeat' (first | with_reducible exact mK hD | (with_reducible first | refine mS hD ?_ | refine mJ hL ?_ | refine mT hD ?_ | refine mF hD ?_ | refine mB hD (fun _ => ?_) (fun _ => ?_) | exact True.intro | refine And.intro ?_ ?_) <;> try conv => cbv)); all_goals try exact fx))
      · have h0 : s = [] := by ((try subst hD hu); (try simp only [nc] at *); (try simp only [Int.ofNat_eq_natCast] at *); try simp (disch := omega) only [std, uid, S0] at *); exact List.length_eq_zero_iff.mp (by omega)
        subst h0
        have hp : ¬ 0 < runeWidth (shownR v) := lo
        refine ⟨k + 1, [⟨[9676, shownR v], 1⟩], hkn, by rw [hsn, addRune, if_neg hp, if_pos rfl], ssem_of ?_, by omega⟩
        ((try conv => cbv); (repeat' (first | with_reducible exact mK hD | (with_reducible first | refine mS hD ?_ | refine mJ hL ?_ | refine mT hD ?_ | refine mF hD ?_ | refine mB hD (fun _ => ?_) (fun _ => ?_) | exact True.intro | refine And.intro ?_ ?_) <;> try conv => cbv)); all_goals try exact fx)
        (subst hD hu; apply qClu; (focus repeat' (first | exact LR.refl | exact LR_bytes | apply mClu | apply mCel | apply mKey | apply mSnp | apply mKRd | apply mLin | apply mHis | apply mBlk | apply mScr | apply mSes | exact zR | exact zB | exact zT | exact zN | exact zClu | exact zCel | exact zCelS | exact zSnp | exact zKey | exact zSes | exact zScr | apply LR.deq | exact LR.nil | apply LR.one | apply LR.rep | apply LR.cat | apply LR.cat' | apply LR.set | exact u8_0 | exact DEq.s _ | (apply str_deq; (repeat' apply sr_cat) <;> rfl) | apply aLe_1 | (apply LR.rfl'; simp only [uid, std, S0]; omega))); all_goals try simp only [uid, std, Int.toNat_natCast, Int.ofNat_eq_natCast])
        rfl
      · have := hb2 ((s.length : Int) - 1).toNat
        have h0 : s.length ≠ 0 := lo
        ((try subst hD hu); (try simp only [nc] at *); (try simp only [Int.ofNat_eq_natCast] at *); try simp (disch := omega) only [std, uid, S0] at *)
        omega
      · have h0 : s ≠ [] := by
          intro h; subst h; ((try subst hD hu); (try simp only [nc] at *); (try simp only [Int.ofNat_eq_natCast] at *); try simp (disch := omega) only [std, uid, S0] at *); omega
        have hp : ¬ 0 < runeWidth (shownR v) := lo
        refine ⟨k + 1, s.set (s.length - 1) { s.getD (s.length - 1) dClu with runes := (s.getD (s.length - 1) dClu).runes ++ [shownR v] }, hkn, by rw [hsn, addRune, if_neg hp, if_neg h0], ssem_of ?_, by omega⟩
        have h0' : s.length ≠ 0 := fun h => h0 (List.length_eq_zero_iff.mp h)
        ((try conv => cbv); (repeat' (first | with_reducible exact mK hD | (with_reducible first | refine mS hD ?_ | refine mJ hL ?_ | refine mT hD ?_ | refine mF hD ?_ | refine mB hD (fun _ => ?_) (fun _ => ?_) | exact True.intro | refine And.intro ?_ ?_) <;> try conv => cbv)); all_goals try exact fx)
        (subst hD hu; apply qClu; (focus repeat' (first | exact LR.refl | exact LR_bytes | apply mClu | apply mCel | apply mKey | apply mSnp | apply mKRd | apply mLin | apply mHis | apply mBlk | apply mScr | apply mSes | exact zR | exact zB | exact zT | exact zN | exact zClu | exact zCel | exact zCelS | exact zSnp | exact zKey | exact zSes | exact zScr | apply LR.deq | exact LR.nil | apply LR.one | apply LR.rep | apply LR.cat | apply LR.cat' | apply LR.set | exact u8_0 | exact DEq.s _ | (apply str_deq; (repeat' apply sr_cat) <;> rfl) | apply aLe_1 | (apply LR.rfl'; simp only [uid, std, S0]; omega))); all_goals try simp only [uid, std, Int.toNat_natCast, Int.ofNat_eq_natCast])
        rw [wrap64 _ (by omega), show ((s.length : Int) - 1).toNat = s.length - 1 by omega]
    · have e : k = rs.length := lo
      subst e
      rw [List.take_length] at hs
      rw [hs]
    · have e : k = rs.length := lo
      subst e
      rw [List.take_length] at hs
      (subst hD hu; apply qClu; (focus repeat' (first | exact LR.refl | exact LR_bytes | apply mClu | apply mCel | apply mKey | apply mSnp | apply mKRd | apply mLin | apply mHis | apply mBlk | apply mScr | apply mSes | exact zR | exact zB | exact zT | exact zN | exact zClu | exact zCel | exact zCelS | exact zSnp | exact zKey | exact zSes | exact zScr | apply LR.deq | exact LR.nil | apply LR.one | apply LR.rep | apply LR.cat | apply LR.cat' | apply LR.set | exact u8_0 | exact DEq.s _ | (apply str_deq; (repeat' apply sr_cat) <;> rfl) | apply aLe_1 | (apply LR.rfl'; simp only [uid, std, S0]; omega))); all_goals try simp only [uid, std, Int.toNat_natCast, Int.ofNat_eq_natCast])
      exact hs
end Go.AW
/- Settle on both sides. -/
set_option linter.unusedVariables false
set_option linter.unusedSimpArgs false
namespace Go.AW
open Go.Proofs
set_option maxRecDepth 100000
set_option maxHeartbeats 4000000
def cutT (s : Str) : List Clu := clusters (clean s)
def settleT (s : Str) : Str := textOf (cutT s)
theorem clean_ok (s : Str) : ∀ r, r ∈ clean s → okR r := by
  intro r hr
  obtain ⟨x, _, rfl⟩ := List.mem_map.mp hr
  exact okR_shown _
theorem cut_ok (s : Str) : ∀ c, c ∈ cutT s → okClu c := clusters_ok _
theorem cut_tot (s : Str) : totL toEClu (cutT s) ≤ 2 * s.length + 1 := by
  have h1 := clusters_tot (clean s)
  have h2 := clean_len s
  unfold cutT
  omega
theorem x_clustersOf (s : Str) (hn : s.length ≤ 100000000) : PX Try.prog 61 (fun D u => [.r (.c (.s (.string (D.strB (u _ s)))))]) (fun D u => [.c (lClu D u (u _ (cutT s)))]) (fun D u => []) := by
  refine px_of_awp (fn := Try.f61) (c := bodyOf Try.f61) envOk (by kernel_rfl) (by kernel_rfl) (by kernel_rfl) (by kernel_rfl) rfl (by kernel_rfl) (by kernel_rfl) ?_
  intro w0 mine D u C L hD hu hC hL
  have h1 := clean_len s
  ((try conv => cbv); (repeat' (first | with_reducible exact mK hD | (with_reducible first | refine mS hD ?_ | refine mJ hL ?_ | refine mT hD ?_ | refine mF hD ?_ | refine mB hD (fun _ => ?_) (fun _ => ?_) | exact True.intro | refine And.intro ?_ ?_) <;> try conv => cbv)); all_goals try exact fx)
  refine callx hD hu hC (x_implClean s (by omega)) ?_
  ((try conv => cbv); (repeat' (first | with_reducible exact mK hD | (with_reducible first | refine mS hD ?_ | refine mJ hL ?_ | refine mT hD ?_ | refine mF hD ?_ | refine mB hD (fun _ => ?_) (fun _ => ?_) | exact True.intro | refine And.intro ?_ ?_) <;> try conv => cbv)); all_goals try exact fx)
  refine callx hD hu hC (x_implClusters (clean s) (by omega) (clean_ok s)) ?_
  ((try conv => cbv); (repeat' (first | with_reducible exact mK hD | (with_reducible first | refine mS hD ?_ | refine mJ hL ?_ | refine mT hD ?_ | refine mF hD ?_ | refine mB hD (fun _ => ?_) (fun _ => ?_) | exact True.intro | refine And.intro ?_ ?_) <;> try conv => cbv)); all_goals try exact fx)
theorem x_implSettle (s : Str) (hn : s.length ≤ 100000000) : PX Try.prog 111 (fun D u => [.r (.c (.s (.string (D.strB (u _ s)))))]) (fun D u => [.c (.s (.string (D.strB (u _ (settleT s)))))]) (fun D u => []) := by
  refine px_of_awp (fn := Try.f111) (c := bodyOf Try.f111) envOk (by kernel_rfl) (by kernel_rfl) (by kernel_rfl) (by kernel_rfl) rfl (by kernel_rfl) (by kernel_rfl) ?_
  intro w0 mine D u C L hD hu hC hL
  have h1 := cut_tot s
  ((try conv => cbv); (repeat' (first | with_reducible exact mK hD | (with_reducible first | refine mS hD ?_ | refine mJ hL ?_ | refine mT hD ?_ | refine mF hD ?_ | refine mB hD (fun _ => ?_) (fun _ => ?_) | exact True.intro | refine And.intro ?_ ?_) <;> try conv => cbv)); all_goals try exact fx)
  refine callx hD hu hC (x_clustersOf s hn) ?_
  ((try conv => cbv); (repeat' (first | with_reducible exact mK hD | (with_reducible first | refine mS hD ?_ | refine mJ hL ?_ | refine mT hD ?_ | refine mF hD ?_ | refine mB hD (fun _ => ?_) (fun _ => ?_) | exact True.intro | refine And.intro ?_ ?_) <;> try conv => cbv)); all_goals try exact fx)
  refine callx hD hu hC (x_implTextOf (cutT s) (by omega) (cut_ok s)) ?_
  ((try conv => cbv); (repeat' (first | with_reducible exact mK hD | (with_reducible first | refine mS hD ?_ | refine mJ hL ?_ | refine mT hD ?_ | refine mF hD ?_ | refine mB hD (fun _ => ?_) (fun _ => ?_) | exact True.intro | refine And.intro ?_ ?_) <;> try conv => cbv)); all_goals try exact fx)
theorem x_specSettle (s : Str) (hn : s.length ≤ 100000000) : PX Try.prog 71 (fun D u => [.r (.c (.s (.string (D.strB (u _ s)))))]) (fun D u => [.c (.s (.string (D.strB (u _ (settleT s)))))]) (fun D u => []) := by
  refine px_of_awp (fn := Try.f71) (c := bodyOf Try.f71) envOk (by kernel_rfl) (by kernel_rfl) (by kernel_rfl) (by kernel_rfl) rfl (by kernel_rfl) (by kernel_rfl) ?_
  intro w0 mine D u C L hD hu hC hL
  have h1 := cut_tot s
  have h2 := clean_len s
  ((try conv => cbv); (repeat' (first | with_reducible exact mK hD | (with_reducible first | refine mS hD ?_ | refine mJ hL ?_ | refine mT hD ?_ | refine mF hD ?_ | refine mB hD (fun _ => ?_) (fun _ => ?_) | exact True.intro | refine And.intro ?_ ?_) <;> try conv => cbv)); all_goals try exact fx)
  refine callx hD hu hC (x_specClean s (by omega)) ?_
  ((try conv => cbv); (repeat' (first | with_reducible exact mK hD | (with_reducible first | refine mS hD ?_ | refine mJ hL ?_ | refine mT hD ?_ | refine mF hD ?_ | refine mB hD (fun _ => ?_) (fun _ => ?_) | exact True.intro | refine And.intro ?_ ?_) <;> try conv => cbv)); all_goals try exact fx)
  refine callx hD hu hC (x_specClusters (clean s) (by omega) (clean_ok s)) ?_
  ((try conv => cbv); (repeat' (first | with_reducible exact mK hD | (with_reducible first | refine mS hD ?_ | refine mJ hL ?_ | refine mT hD ?_ | refine mF hD ?_ | refine mB hD (fun _ => ?_) (fun _ => ?_) | exact True.intro | refine And.intro ?_ ?_) <;> try conv => cbv)); all_goals try exact fx)
  refine callx hD hu hC (x_specTextOf (cutT s) (by omega) (cut_ok s)) ?_
  ((try conv => cbv); (repeat' (first | with_reducible exact mK hD | (with_reducible first | refine mS hD ?_ | refine mJ hL ?_ | refine mT hD ?_ | refine mF hD ?_ | refine mB hD (fun _ => ?_) (fun _ => ?_) | exact True.intro | refine And.intro ?_ ?_) <;> try conv => cbv)); all_goals try exact fx)
end Go.AW
/- Lines: sizes, copies, alike, marked, held. -/
set_option linter.unusedVariables false
set_option linter.unusedSimpArgs false
namespace Go.AW
open Go.Proofs
set_option maxRecDepth 100000
end Go.AW
/- Histories and blocks: sizes, copies, alike, marked, held. -/
set_option linter.unusedVariables false
set_option linter.unusedSimpArgs false
namespace Go.AW
open Go.Proofs
set_option maxRecDepth 100000
theorem x_eqHistory (a : His) (hn : bdEHis 1000000000 a) : PX Try.prog 30 (fun D u => [.r (.a (rHis D u (u _ a))), .r (.a (rHis D u (u _ a)))]) (fun D u => [RB true]) (fun D u => []) := by
  refine px_of_awp (fn := Try.f30) (c := bodyOf Try.f30) envOk (by kernel_rfl) (by kernel_rfl) (by kernel_rfl) (by kernel_rfl) rfl (by kernel_rfl) (by kernel_rfl) ?_
  intro w0 mine D u C L hD hu hC hL
  ((try conv => cbv); (repeat' (first | with_reducible exact mK hD | (with_reducible first | refine mS hD ?_ | refine mJ hL ?_ | refine mT hD ?_ | refine mF hD ?_ | refine mB hD (fun _ => ?_) (fun _ => ?_) | exact True.intro | refine And.intro ?_ ?_) <;> try conv => cbv)); all_goals try exact fx)
  all_goals (
    refine callx hD hu hC (x_eqStringS a.items (hn)) ?_
    ((try conv => cbv); (repeat' (first | with_reducible exact mK hD | (with_reducible first | refine mS hD ?_ | refine mJ hL ?_ | refine mT hD ?_ | refine mF hD ?_ | refine mB hD (fun _ => ?_) (fun _ => ?_) | exact True.intro | refine And.intro ?_ ?_) <;> try conv => cbv)); all_goals try exact fx)
    all_goals try ((subst hD hu; (try simp only [std, uid, rR, rB, rT, rN, rClu, rCel, rSnp, rKey, rCluS, rCelS, lR, lB, lT, lN, lClu, lCel, eL, dClu, dCel, dSnp, dKey, Int.toNat_natCast, Int.ofNat_eq_natCast]) <;> rfl)))
theorem x_markHistory (a : His) (m r : Int) (h : 0 ≤ m ∧ m + cvHis a ≤ 1000000000000000000) (hn : bdEHis 1000000000 a) (hr : r = m + cvHis a) : PX Try.prog 33 (fun D u => [.o (.a (rHis D u (u _ a))), AI (u _ m)]) (fun D u => [RI (u _ r)]) (fun D u => [.a (rHis D u (u _ (mvHis a m)))]) := by
  refine px_of_awp (fn := Try.f33) (c := bodyOf Try.f33) envOk (by kernel_rfl) (by kernel_rfl) (by kernel_rfl) (by kernel_rfl) rfl (by kernel_rfl) (by kernel_rfl) ?_
  intro w0 mine D u C L hD hu hC hL
  simp only [cvHis] at hr h
  ((try conv => cbv); (repeat' (first | with_reducible exact mK hD | (with_reducible first | refine mS hD ?_ | refine mJ hL ?_ | refine mT hD ?_ | refine mF hD ?_ | refine mB hD (fun _ => ?_) (fun _ => ?_) | exact True.intro | refine And.intro ?_ ?_) <;> try conv => cbv)); all_goals try exact fx)
  refine callx hD hu hC (x_markStringS a.items (m) (m + (cntL cnET a.items : Nat)) (by omega) (hn) rfl) ?_
  ((try conv => cbv); (repeat' (first | with_reducible exact mK hD | (with_reducible first | refine mS hD ?_ | refine mJ hL ?_ | refine mT hD ?_ | refine mF hD ?_ | refine mB hD (fun _ => ?_) (fun _ => ?_) | exact True.intro | refine And.intro ?_ ?_) <;> try conv => cbv)); all_goals try exact fx)
  all_goals try ((subst hD hu; (try simp only [std, uid, rR, rB, rT, rN, rClu, rCel, rSnp, rKey, rCluS, rCelS, lR, lB, lT, lN, lClu, lCel, eL, dClu, dCel, dSnp, dKey, Int.toNat_natCast, Int.ofNat_eq_natCast, mvHis, mkB_len, mkR_len, mkN_len, markL_len]) <;> rfl))
theorem x_heldHistory (a : His) (m r : Int) (h : 0 ≤ m ∧ m + cvHis a ≤ 1000000000000000000) (hn : bdEHis 1000000000 a) (hr : r = m + cvHis a) : PX Try.prog 34 (fun D u => [.r (.a (rHis D u (u _ (mvHis a m)))), AI (u _ m)]) (fun D u => [RI (u _ r)]) (fun D u => []) := by
  refine px_of_awp (fn := Try.f34) (c := bodyOf Try.f34) envOk (by kernel_rfl) (by kernel_rfl) (by kernel_rfl) (by kernel_rfl) rfl (by kernel_rfl) (by kernel_rfl) ?_
  intro w0 mine D u C L hD hu hC hL
  simp only [cvHis] at hr h
  ((try conv => cbv); (repeat' (first | with_reducible exact mK hD | (with_reducible first | refine mS hD ?_ | refine mJ hL ?_ | refine mT hD ?_ | refine mF hD ?_ | refine mB hD (fun _ => ?_) (fun _ => ?_) | exact True.intro | refine And.intro ?_ ?_) <;> try conv => cbv)); all_goals try exact fx)
  refine callx hD hu hC (x_heldStringS a.items (m) (m + (cntL cnET a.items : Nat)) (by omega) (hn) rfl) ?_
  ((try conv => cbv); (repeat' (first | with_reducible exact mK hD | (with_reducible first | refine mS hD ?_ | refine mJ hL ?_ | refine mT hD ?_ | refine mF hD ?_ | refine mB hD (fun _ => ?_) (fun _ => ?_) | exact True.intro | refine And.intro ?_ ?_) <;> try conv => cbv)); all_goals try exact fx)
  all_goals try ((subst hD hu; (try simp only [std, uid, rR, rB, rT, rN, rClu, rCel, rSnp, rKey, rCluS, rCelS, lR, lB, lT, lN, lClu, lCel, eL, dClu, dCel, dSnp, dKey, Int.toNat_natCast, Int.ofNat_eq_natCast, mvHis, mkB_len, mkR_len, mkN_len, markL_len]) <;> rfl))
theorem x_szHistory (a : His) (left r : Int) (h : -1 ≤ left ∧ left ≤ 1048576) (hn : bdEHis 140737488355328 a) (hr : r = if left - toEHis a < 0 then -1 else left - toEHis a) : PX Try.prog 26 (fun D u => [.r (.a (rHis D u (u _ a))), AI (u _ left)]) (fun D u => [RI (u _ r)]) (fun D u => []) := by
  refine px_of_awp (fn := Try.f26) (c := bodyOf Try.f26) envOk (by kernel_rfl) (by kernel_rfl) (by kernel_rfl) (by kernel_rfl) rfl (by kernel_rfl) (by kernel_rfl) ?_
  intro w0 mine D u C L hD hu hC hL
  simp only [toEHis] at hr
  simp only [bdEHis] at hn
  ((try conv => cbv); (repeat' (first | with_reducible exact mK hD | (with_reducible first | refine mS hD ?_ | refine mJ hL ?_ | refine mT hD ?_ | refine mF hD ?_ | refine mB hD (fun _ => ?_) (fun _ => ?_) | exact True.intro | refine And.intro ?_ ?_) <;> try conv => cbv)); all_goals try exact fx)
  obtain ⟨r1, hr1⟩ := opq (if left - (totL toET a.items : Nat) < 0 then -1 else left - ((totL toET a.items : Nat) : Int))
  refine callx hD hu hC (x_szStringS a.items (left) r1 lo (hn) hr1) ?_
  ((try conv => cbv); (repeat' (first | with_reducible exact mK hD | (with_reducible first | refine mS hD ?_ | refine mJ hL ?_ | refine mT hD ?_ | refine mF hD ?_ | refine mB hD (fun _ => ?_) (fun _ => ?_) | exact True.intro | refine And.intro ?_ ?_) <;> try conv => cbv)); all_goals try exact fx)
  all_goals try ((subst hD hu; (try simp only [std, uid, rR, rB, rT, rN, rClu, rCel, rSnp, rKey, rCluS, rCelS, lR, lB, lT, lN, lClu, lCel, eL, dClu, dCel, dSnp, dKey, Int.toNat_natCast, Int.ofNat_eq_natCast]) <;> rfl))
  all_goals try (((try subst hD hu); (try simp only [nc] at *); (try simp only [Int.ofNat_eq_natCast] at *); try simp (disch := omega) only [std, uid, S0] at *); omega; done)
theorem x_toHistory (a : His) (hn : bdEHis 1000000000 a) : PX Try.prog 28 (fun D u => [.r (.a (rHis D u (u _ a)))]) (fun D u => [.a (rHis D u (u _ a))]) (fun D u => []) := by
  refine px_of_awp (fn := Try.f28) (c := bodyOf Try.f28) envOk (by kernel_rfl) (by kernel_rfl) (by kernel_rfl) (by kernel_rfl) rfl (by kernel_rfl) (by kernel_rfl) ?_
  intro w0 mine D u C L hD hu hC hL
  ((try conv => cbv); (repeat' (first | with_reducible exact mK hD | (with_reducible first | refine mS hD ?_ | refine mJ hL ?_ | refine mT hD ?_ | refine mF hD ?_ | refine mB hD (fun _ => ?_) (fun _ => ?_) | exact True.intro | refine And.intro ?_ ?_) <;> try conv => cbv)); all_goals try exact fx)
  refine callx hD hu hC (x_toStringS a.items (hn)) ?_
  ((try conv => cbv); (repeat' (first | with_reducible exact mK hD | (with_reducible first | refine mS hD ?_ | refine mJ hL ?_ | refine mT hD ?_ | refine mF hD ?_ | refine mB hD (fun _ => ?_) (fun _ => ?_) | exact True.intro | refine And.intro ?_ ?_) <;> try conv => cbv)); all_goals try exact fx)
  all_goals try ((subst hD hu; (try simp only [std, uid, rR, rB, rT, rN, rClu, rCel, rSnp, rKey, rCluS, rCelS, lR, lB, lT, lN, lClu, lCel, eL, dClu, dCel, dSnp, dKey, Int.toNat_natCast, Int.ofNat_eq_natCast]) <;> rfl))
end Go.AW
/- Lines and histories: settled texts. -/
set_option linter.unusedVariables false
set_option linter.unusedSimpArgs false
namespace Go.AW
open Go.Proofs
set_option maxRecDepth 100000
set_option maxHeartbeats 4000000
/-- A text that is settled and has at most m runes. -/
def within (s : Str) (m : Int) : Bool := decide ((s.length : Int) ≤ 4 * m) && decide (((runesOf s).length : Int) ≤ m) && (settleT s == s)
theorem within_not {s : Str} {m : Int} (h : 4 * m < (s.length : Int) ∨ m < ((runesOf s).length : Int)) : within s m = false := by
  unfold within
  rcases h with h | h
  · rw [decide_eq_false (by omega : ¬ (s.length : Int) ≤ 4 * m)]; rfl
  · rw [decide_eq_false (by omega : ¬ ((runesOf s).length : Int) ≤ m), Bool.and_false]; rfl
theorem within_eq {s : Str} {m : Int} (h : (s.length : Int) ≤ 4 * m ∧ ((runesOf s).length : Int) ≤ m) : within s m = (settleT s == s) := by
  unfold within
  rw [decide_eq_true h.1, decide_eq_true h.2]
  rfl
structure CtI (b : Str) (s : Nat × Nat) : Prop where
  h1 : s.1 ≤ b.length
  h2 : s.2 + (runesOf (b.drop s.1)).length = (runesOf b).length
  h3 : s.2 ≤ s.1
theorem CtI.step {b : Str} {s : Nat × Nat} (h : CtI b s) (hi : s.1 < b.length) : CtI b (s.1 + (dec (b.drop s.1)).2, s.2 + 1) := by
  have hp : 0 < (b.drop s.1).length := by rw [List.length_drop]; omega
  have hw := dec_width hp
  rw [List.length_drop] at hw
  refine ⟨by simp only; omega, ?_, by simp only; have := h.h3; omega⟩
  have := h.h2
  rw [runesOf_cons hp, List.drop_drop] at this
  simp only [List.length_cons] at this ⊢
  omega
theorem CtI.fin {b : Str} {s : Nat × Nat} (h : CtI b s) (hi : ¬ s.1 < b.length) : s.2 = (runesOf b).length := by
  have := h.h2
  rw [List.drop_eq_nil_of_le (by omega), runesOf_nil] at this
  simpa using this
theorem x_RuneCountInString (b : Str) (hn : b.length ≤ 1000000000) : PX Try.prog 110 (fun D u => [.r (.c (.s (.string (D.strB (u _ b)))))]) (fun D u => [RI (u _ ((runesOf b).length))]) (fun D u => []) := by
  refine px_of_awp (fn := Try.f110) (c := bodyOf Try.f110) envOk (by kernel_rfl) (by kernel_rfl) (by kernel_rfl) (by kernel_rfl) rfl (by kernel_rfl) (by kernel_rfl) ?_
  intro w0 mine D u C L hD hu hC hL
  ((try conv => cbv); (repeat' (first | with_reducible exact mK hD | (with_reducible first | refine mS hD ?_ | refine mJ hL ?_ | refine mT hD ?_ | refine mF hD ?_ | refine mB hD (fun _ => ?_) (fun _ => ?_) | exact True.intro | refine And.intro ?_ ?_) <;> try conv => cbv)); all_goals try exact fx)
  refine loop_mu hL (CtI b) (fun s => b.length - s.1) (0, 0) (fun s => [(2, VI (u _ (s.2)))]) (fun s => [(0, .it (D.strB (u _ b)) (u _ (s.1)))]) ⟨by simp, by simp, by simp⟩ ?_ ?_
  · ((try conv => cbv); (repeat' (first | with_reducible exact mK hD | (with_reducible first | refine mS hD ?_ | refine mJ hL ?_ | refine mT hD ?_ | refine mF hD ?_ | refine mB hD (fun _ => ?_) (fun _ => ?_) | exact True.intro | refine And.intro ?_ ?_) <;> try conv => cbv)); all_goals try exact fx)
  · intro s hs
    have h1 := hs.h1
    have h3 := hs.h3
    ((try conv => cbv); (repeat' (first | with_reducible exact mK hD | (with_reducible first | refine mS hD ?_ | refine mJ hL ?_ | refine mT hD ?_ | refine mF hD ?_ | refine mB hD (fun _ => ?_) (fun _ => ?_) | exact True.intro | refine And.intro ?_ ?_) <;> try conv => cbv)); all_goals try exact fx)
    · have hi : s.1 < b.length := lo
      have hp : 0 < (b.drop s.1).length := by rw [List.length_drop]; omega
      have hw := dec_width hp
      rw [List.length_drop] at hw
      obtain ⟨hda1, hda2⟩ := dec_at hi
      refine ⟨_, hs.step hi, ssem_of ?_, by simp only; omega⟩
      ((try conv => cbv); (repeat' (first | with_reducible exact mK hD | (with_reducible first | refine mS hD ?_ | refine mJ hL ?_ | refine mT hD ?_ | refine mF hD ?_ | refine mB hD (fun _ => ?_) (fun _ => ?_) | exact True.intro | refine And.intro ?_ ?_) <;> try conv => cbv)); all_goals try exact fx)
    · have := hs.fin lo
      ((try subst hD hu); (try simp only [nc] at *); (try simp only [Int.ofNat_eq_natCast] at *); try simp (disch := omega) only [std, uid, S0] at *)
      omega
theorem x_l4Count (s : Str) (hn : s.length ≤ 100000000) : PX Try.prog 97 (fun D u => [.r (.c (.s (.string (D.strB (u _ s)))))]) (fun D u => [RI (u _ ((runesOf s).length))]) (fun D u => []) := by
  refine px_of_awp (fn := Try.f97) (c := bodyOf Try.f97) envOk (by kernel_rfl) (by kernel_rfl) (by kernel_rfl) (by kernel_rfl) rfl (by kernel_rfl) (by kernel_rfl) ?_
  intro w0 mine D u C L hD hu hC hL
  have h1 := clean_len s
  have h2 : (clean s).length = (runesOf s).length := by simp [clean]
  ((try conv => cbv); (repeat' (first | with_reducible exact mK hD | (with_reducible first | refine mS hD ?_ | refine mJ hL ?_ | refine mT hD ?_ | refine mF hD ?_ | refine mB hD (fun _ => ?_) (fun _ => ?_) | exact True.intro | refine And.intro ?_ ?_) <;> try conv => cbv)); all_goals try exact fx)
  refine callx hD hu hC (x_specClean s (by omega)) ?_
  ((try conv => cbv); (repeat' (first | with_reducible exact mK hD | (with_reducible first | refine mS hD ?_ | refine mJ hL ?_ | refine mT hD ?_ | refine mF hD ?_ | refine mB hD (fun _ => ?_) (fun _ => ?_) | exact True.intro | refine And.intro ?_ ?_) <;> try conv => cbv)); all_goals try exact fx)
theorem x_l4TextOk (s : Str) (m : Int) (hn : s.length ≤ 100000000) (hm : 0 ≤ m ∧ m ≤ 1000000) : PX Try.prog 43 (fun D u => [.r (.c (.s (.string (D.strB (u _ s))))), AI (u _ m)]) (fun D u => [RB (u _ (within s m))]) (fun D u => []) := by
  refine px_of_awp (fn := Try.f43) (c := bodyOf Try.f43) envOk (by kernel_rfl) (by kernel_rfl) (by kernel_rfl) (by kernel_rfl) rfl (by kernel_rfl) (by kernel_rfl) ?_
  intro w0 mine D u C L hD hu hC hL
  ((try conv => cbv); (repeat' (first | with_reducible exact mK hD | (with_reducible first | refine mS hD ?_ | refine mJ hL ?_ | refine mT hD ?_ | refine mF hD ?_ | refine mB hD (fun _ => ?_) (fun _ => ?_) | exact True.intro | refine And.intro ?_ ?_) <;> try conv => cbv)); all_goals try exact fx)
  all_goals try (refine callx hD hu hC (x_l4Count s hn) ?_; ((try conv => cbv); (repeat' (first | with_reducible exact mK hD | (with_reducible first | refine mS hD ?_ | refine mJ hL ?_ | refine mT hD ?_ | refine mF hD ?_ | refine mB hD (fun _ => ?_) (fun _ => ?_) | exact True.intro | refine And.intro ?_ ?_) <;> try conv => cbv)); all_goals try exact fx))
  all_goals try (refine callx hD hu hC (x_specSettle s hn) ?_; ((try conv => cbv); (repeat' (first | with_reducible exact mK hD | (with_reducible first | refine mS hD ?_ | refine mJ hL ?_ | refine mT hD ?_ | refine mF hD ?_ | refine mB hD (fun _ => ?_) (fun _ => ?_) | exact True.intro | refine And.intro ?_ ?_) <;> try conv => cbv)); all_goals try exact fx))
  all_goals (((try subst hD hu); (try simp only [nc] at *); (try simp only [Int.ofNat_eq_natCast] at *); try simp (disch := omega) only [std, uid, S0] at *); first | exact (within_not (by omega)).symm | exact (within_eq (by omega)).symm)
theorem x_settledWithin (s : Str) (m : Int) (hn : s.length ≤ 100000000) (hm : 0 ≤ m ∧ m ≤ 1000000) : PX Try.prog 49 (fun D u => [.r (.c (.s (.string (D.strB (u _ s))))), AI (u _ m)]) (fun D u => [RB (u _ (within s m))]) (fun D u => []) := by
  refine px_of_awp (fn := Try.f49) (c := bodyOf Try.f49) envOk (by kernel_rfl) (by kernel_rfl) (by kernel_rfl) (by kernel_rfl) rfl (by kernel_rfl) (by kernel_rfl) ?_
  intro w0 mine D u C L hD hu hC hL
  ((try conv => cbv); (repeat' (first | with_reducible exact mK hD | (with_reducible first | refine mS hD ?_ | refine mJ hL ?_ | refine mT hD ?_ | refine mF hD ?_ | refine mB hD (fun _ => ?_) (fun _ => ?_) | exact True.intro | refine And.intro ?_ ?_) <;> try conv => cbv)); all_goals try exact fx)
  · refine callx hD hu hC (x_RuneCountInString s (by omega)) ?_
    ((try conv => cbv); (repeat' (first | with_reducible exact mK hD | (with_reducible first | refine mS hD ?_ | refine mJ hL ?_ | refine mT hD ?_ | refine mF hD ?_ | refine mB hD (fun _ => ?_) (fun _ => ?_) | exact True.intro | refine And.intro ?_ ?_) <;> try conv => cbv)); all_goals try exact fx)
    all_goals try (refine callx hD hu hC (x_implSettle s hn) ?_; ((try conv => cbv); (repeat' (first | with_reducible exact mK hD | (with_reducible first | refine mS hD ?_ | refine mJ hL ?_ | refine mT hD ?_ | refine mF hD ?_ | refine mB hD (fun _ => ?_) (fun _ => ?_) | exact True.intro | refine And.intro ?_ ?_) <;> try conv => cbv)); all_goals try exact fx))
    all_goals (((try subst hD hu); (try simp only [nc] at *); (try simp only [Int.ofNat_eq_natCast] at *); try simp (disch := omega) only [std, uid, S0] at *); first | exact (within_not (by omega)).symm | exact (within_eq (by omega)).symm)
  · ((try subst hD hu); (try simp only [nc] at *); (try simp only [Int.ofNat_eq_natCast] at *); try simp (disch := omega) only [std, uid, S0] at *)
    exact (within_not (by omega)).symm
end Go.AW
/- HistoryOk on both sides. -/
set_option linter.unusedVariables false
set_option linter.unusedSimpArgs false
namespace Go.AW
open Go.Proofs
set_option maxRecDepth 100000
set_option maxHeartbeats 4000000
def itemOk (l : List Str) (i : Nat) : Prop := l.getD i [] ≠ [] ∧ within (l.getD i []) 300 = true ∧ (0 < i → l.getD i [] ≠ l.getD (i - 1) [])
structure HisOk (h : His) : Prop where
  cap : 1 ≤ h.cap ∧ h.cap ≤ 100
  len : (h.items.length : Int) ≤ h.cap
  items : ∀ i, i < h.items.length → itemOk h.items i
noncomputable def hisOk (h : His) : Bool := @decide (HisOk h) (Classical.propDecidable _)
theorem hisOk_iff (h : His) : hisOk h = true ↔ HisOk h := by unfold hisOk; exact @decide_eq_true_iff _ (Classical.propDecidable _)
theorem hisOk_not {h : His} (hn : ¬ HisOk h) : hisOk h = false := by
  cases e : hisOk h with
  | false => rfl
  | true => exact absurd ((hisOk_iff h).mp e) hn
theorem x_l5TextOk (s : Str) (hn : s.length ≤ 100000000) : PX Try.prog 86 (fun D u => [.r (.c (.s (.string (D.strB (u _ s)))))]) (fun D u => [RB (u _ (!(s == []) && within s 300))]) (fun D u => []) := by
  refine px_of_awp (fn := Try.f86) (c := bodyOf Try.f86) envOk (by kernel_rfl) (by kernel_rfl) (by kernel_rfl) (by kernel_rfl) rfl (by kernel_rfl) (by kernel_rfl) ?_
  intro w0 mine D u C L hD hu hC hL
  ((try conv => cbv); (repeat' (first | with_reducible exact mK hD | (with_reducible first | refine mS hD ?_ | refine mJ hL ?_ | refine mT hD ?_ | refine mF hD ?_ | refine mB hD (fun _ => ?_) (fun _ => ?_) | exact True.intro | refine And.intro ?_ ?_) <;> try conv => cbv)); all_goals try exact fx)
  · refine callx hD hu hC (x_l4TextOk s 300 hn (by omega)) ?_
    ((try conv => cbv); (repeat' (first | with_reducible exact mK hD | (with_reducible first | refine mS hD ?_ | refine mJ hL ?_ | refine mT hD ?_ | refine mF hD ?_ | refine mB hD (fun _ => ?_) (fun _ => ?_) | exact True.intro | refine And.intro ?_ ?_) <;> try conv => cbv)); all_goals try exact fx)
    ((try subst hD hu); (try simp only [nc] at *); (try simp only [Int.ofNat_eq_natCast] at *); try simp (disch := omega) only [std, uid, S0] at *)
    simp_all
  · ((try subst hD hu); (try simp only [nc] at *); (try simp only [Int.ofNat_eq_natCast] at *); try simp (disch := omega) only [std, uid, S0] at *)
    simp_all
theorem x_implHistoryOk (h : His) (hb : bdEHis 100000000 h) (hk : okHis h) : PX Try.prog 82 (fun D u => [.r (.a (rHis D u (u _ h)))]) (fun D u => [RB (u _ (hisOk h))]) (fun D u => []) := by
  refine px_of_awp (fn := Try.f82) (c := bodyOf Try.f82) envOk (by kernel_rfl) (by kernel_rfl) (by kernel_rfl) (by kernel_rfl) rfl (by kernel_rfl) (by kernel_rfl) ?_
  intro w0 mine D u C L hD hu hC hL
  have hb1 := hb.1
  have hb2 := hb.2
  ((try conv => cbv); (repeat' (first | with_reducible exact mK hD | (with_reducible first | refine mS hD ?_ | refine mJ hL ?_ | refine mT hD ?_ | refine mF hD ?_ | refine mB hD (fun _ => ?_) (fun _ => ?_) | exact True.intro | refine And.intro ?_ ?_) <;> try conv => cbv)); all_goals try exact fx)
  · have hn : ¬ HisOk h := fun h => by have := h.cap; ((try subst hD hu); (try simp only [nc] at *); (try simp only [Int.ofNat_eq_natCast] at *); try simp (disch := omega) only [std, uid, S0] at *); omega
    ((try subst hD hu); (try simp only [nc] at *); (try simp only [Int.ofNat_eq_natCast] at *); try simp (disch := omega) only [std, uid, S0, hisOk_not hn] at *)
  · have hn : ¬ HisOk h := fun h => by have := h.cap; ((try subst hD hu); (try simp only [nc] at *); (try simp only [Int.ofNat_eq_natCast] at *); try simp (disch := omega) only [std, uid, S0] at *); omega
    ((try subst hD hu); (try simp only [nc] at *); (try simp only [Int.ofNat_eq_natCast] at *); try simp (disch := omega) only [std, uid, S0, hisOk_not hn] at *)
  · have hn : ¬ HisOk h := fun h => by have := h.len; ((try subst hD hu); (try simp only [nc] at *); (try simp only [Int.ofNat_eq_natCast] at *); try simp (disch := omega) only [std, uid, S0] at *); omega
    ((try subst hD hu); (try simp only [nc] at *); (try simp only [Int.ofNat_eq_natCast] at *); try simp (disch := omega) only [std, uid, S0, hisOk_not hn] at *)
  have hc1 : 1 ≤ h.cap ∧ h.cap ≤ 100 := lo
  have hl : (h.items.length : Int) ≤ h.cap := lo
  refine loop_st hL h.items.length (fun k (_ : Unit) => ∀ i, i < k → itemOk h.items i) () (fun k _ => [(24, VI (u _ k))]) (fun k _ => []) (fun i hi => absurd hi (Nat.not_lt_zero i)) ?_ ?_
  · ((try conv => cbv); (repeat' (first | with_reducible exact mK hD | (with_reducible first | refine mS hD ?_ | refine mJ hL ?_ | refine mT hD ?_ | refine mF hD ?_ | refine mB hD (fun _ => ?_) (fun _ => ?_) | exact True.intro | refine And.intro ?_ ?_) <;> try conv => cbv)); all_goals try exact fx)
  · intro k _ hkk hit
    ((try conv => cbv); (repeat' (first | with_reducible exact mK hD | (with_reducible first | refine mS hD ?_ | refine mJ hL ?_ | refine mT hD ?_ | refine mF hD ?_ | refine mB hD (fun _ => ?_) (fun _ => ?_) | exact True.intro | refine And.intro ?_ ?_) <;> try conv => cbv)); all_goals try exact fx)
    all_goals try (have hkn : k < h.items.length := by ((try subst hD hu); (try simp only [nc] at *); (try simp only [Int.ofNat_eq_natCast] at *); try simp (disch := omega) only [std, uid, S0] at *); omega)
    all_goals try (have hx := hb2 _ (getD_mem h.items [] k hkn); unfold bdET at hx)
    · have hn : ¬ HisOk h := fun q => by have := (q.items k hkn).1; ((try subst hD hu); (try simp only [nc] at *); (try simp only [Int.ofNat_eq_natCast] at *); try simp (disch := omega) only [std, uid, S0] at *); simp_all
      ((try subst hD hu); (try simp only [nc] at *); (try simp only [Int.ofNat_eq_natCast] at *); try simp (disch := omega) only [std, uid, S0, hisOk_not hn] at *)
    · have hne : h.items.getD k [] ≠ [] := fun q => by ((try subst hD hu); (try simp only [nc] at *); (try simp only [Int.ofNat_eq_natCast] at *); try simp (disch := omega) only [std, uid, S0, q] at *)
      refine callx hD hu hC (x_settledWithin (h.items.getD k []) 300 hx (by omega)) ?_
      ((try conv => cbv); (repeat' (first | with_reducible exact mK hD | (with_reducible first | refine mS hD ?_ | refine mJ hL ?_ | refine mT hD ?_ | refine mF hD ?_ | refine mB hD (fun _ => ?_) (fun _ => ?_) | exact True.intro | refine And.intro ?_ ?_) <;> try conv => cbv)); all_goals try exact fx)
      all_goals try ((subst hD hu; (try simp only [std, uid, rR, rB, rT, rN, rClu, rCel, rSnp, rKey, rCluS, rCelS, lR, lB, lT, lN, lClu, lCel, eL, dClu, dCel, dSnp, dKey, Int.toNat_natCast, Int.ofNat_eq_natCast]) <;> rfl))
      · have hn : ¬ HisOk h := fun q => by
          have := (q.items k hkn).2.2
          have e : ((k : Int) - 1).toNat = k - 1 := by omega
          ((try subst hD hu); (try simp only [nc] at *); (try simp only [Int.ofNat_eq_natCast] at *); try simp (disch := omega) only [std, uid, S0, e] at *)
          simp_all
        ((try subst hD hu); (try simp only [nc] at *); (try simp only [Int.ofNat_eq_natCast] at *); try simp (disch := omega) only [std, uid, S0, hisOk_not hn] at *)
      · have hok : itemOk h.items k := ⟨hne, by ((try subst hD hu); (try simp only [nc] at *); (try simp only [Int.ofNat_eq_natCast] at *); try simp (disch := omega) only [std, uid, S0] at *); assumption, fun _ => by
          have e : ((k : Int) - 1).toNat = k - 1 := by omega
          ((try subst hD hu); (try simp only [nc] at *); (try simp only [Int.ofNat_eq_natCast] at *); try simp (disch := omega) only [std, uid, S0, e] at *)
          assumption⟩
        refine ⟨k + 1, (), hkn, fun i hi => ?_, ssem_of ?_, by omega⟩
        · rcases Nat.lt_or_ge i k with q | q
          · exact hit i q
          · rw [show i = k by omega]; exact hok
        · ((try conv => cbv); (repeat' (first | with_reducible exact mK hD | (with_reducible first | refine mS hD ?_ | refine mJ hL ?_ | refine mT hD ?_ | refine mF hD ?_ | refine mB hD (fun _ => ?_) (fun _ => ?_) | exact True.intro | refine And.intro ?_ ?_) <;> try conv => cbv)); all_goals try exact fx)
      · have hok : itemOk h.items k := ⟨hne, by ((try subst hD hu); (try simp only [nc] at *); (try simp only [Int.ofNat_eq_natCast] at *); try simp (disch := omega) only [std, uid, S0] at *); assumption, fun _ => by exfalso; ((try subst hD hu); (try simp only [nc] at *); (try simp only [Int.ofNat_eq_natCast] at *); try simp (disch := omega) only [std, uid, S0] at *); omega⟩
        refine ⟨k + 1, (), hkn, fun i hi => ?_, ssem_of ?_, by omega⟩
        · rcases Nat.lt_or_ge i k with q | q
          · exact hit i q
          · rw [show i = k by omega]; exact hok
        · ((try conv => cbv); (repeat' (first | with_reducible exact mK hD | (with_reducible first | refine mS hD ?_ | refine mJ hL ?_ | refine mT hD ?_ | refine mF hD ?_ | refine mB hD (fun _ => ?_) (fun _ => ?_) | exact True.intro | refine And.intro ?_ ?_) <;> try conv => cbv)); all_goals try exact fx)
      · have hn : ¬ HisOk h := fun q => by
          have := (q.items k hkn).2.1
          ((try subst hD hu); (try simp only [nc] at *); (try simp only [Int.ofNat_eq_natCast] at *); try simp (disch := omega) only [std, uid, S0] at *)
          simp_all
        ((try subst hD hu); (try simp only [nc] at *); (try simp only [Int.ofNat_eq_natCast] at *); try simp (disch := omega) only [std, uid, S0, hisOk_not hn] at *)
    · have ek : k = h.items.length := lo
      subst ek
      have := (hisOk_iff h).mpr ⟨hc1, hl, hit⟩
      ((try subst hD hu); (try simp only [nc] at *); (try simp only [Int.ofNat_eq_natCast] at *); try simp (disch := omega) only [std, uid, S0, this] at *)
theorem x_specHistoryOk (h : His) (hb : bdEHis 100000000 h) (hk : okHis h) : PX Try.prog 80 (fun D u => [.r (.a (rHis D u (u _ h)))]) (fun D u => [RB (u _ (hisOk h))]) (fun D u => []) := by
  refine px_of_awp (fn := Try.f80) (c := bodyOf Try.f80) envOk (by kernel_rfl) (by kernel_rfl) (by kernel_rfl) (by kernel_rfl) rfl (by kernel_rfl) (by kernel_rfl) ?_
  intro w0 mine D u C L hD hu hC hL
  have hb1 := hb.1
  have hb2 := hb.2
  ((try conv => cbv); (repeat' (first | with_reducible exact mK hD | (with_reducible first | refine mS hD ?_ | refine mJ hL ?_ | refine mT hD ?_ | refine mF hD ?_ | refine mB hD (fun _ => ?_) (fun _ => ?_) | exact True.intro | refine And.intro ?_ ?_) <;> try conv => cbv)); all_goals try exact fx)
  · have hn : ¬ HisOk h := fun h => by have := h.cap; ((try subst hD hu); (try simp only [nc] at *); (try simp only [Int.ofNat_eq_natCast] at *); try simp (disch := omega) only [std, uid, S0] at *); omega
    ((try subst hD hu); (try simp only [nc] at *); (try simp only [Int.ofNat_eq_natCast] at *); try simp (disch := omega) only [std, uid, S0, hisOk_not hn] at *)
  · have hn : ¬ HisOk h := fun h => by have := h.cap; ((try subst hD hu); (try simp only [nc] at *); (try simp only [Int.ofNat_eq_natCast] at *); try simp (disch := omega) only [std, uid, S0] at *); omega
    ((try subst hD hu); (try simp only [nc] at *); (try simp only [Int.ofNat_eq_natCast] at *); try simp (disch := omega) only [std, uid, S0, hisOk_not hn] at *)
  · have hn : ¬ HisOk h := fun h => by have := h.len; ((try subst hD hu); (try simp only [nc] at *); (try simp only [Int.ofNat_eq_natCast] at *); try simp (disch := omega) only [std, uid, S0] at *); omega
    ((try subst hD hu); (try simp only [nc] at *); (try simp only [Int.ofNat_eq_natCast] at *); try simp (disch := omega) only [std, uid, S0, hisOk_not hn] at *)
  have hc1 : 1 ≤ h.cap ∧ h.cap ≤ 100 := lo
  have hl : (h.items.length : Int) ≤ h.cap := lo
  refine loop_st hL h.items.length (fun k (_ : Unit) => ∀ i, i < k → itemOk h.items i) () (fun k _ => [(3, VI (u _ k))]) (fun k _ => []) (fun i hi => absurd hi (Nat.not_lt_zero i)) ?_ ?_
  · ((try conv => cbv); (repeat' (first | with_reducible exact mK hD | (with_reducible first | refine mS hD ?_ | refine mJ hL ?_ | refine mT hD ?_ | refine mF hD ?_ | refine mB hD (fun _ => ?_) (fun _ => ?_) | exact True.intro | refine And.intro ?_ ?_) <;> try conv => cbv)); all_goals try exact fx)
  · intro k _ hkk hit
    ((try conv => cbv); (repeat' (first | with_reducible exact mK hD | (with_reducible first | refine mS hD ?_ | refine mJ hL ?_ | refine mT hD ?_ | refine mF hD ?_ | refine mB hD (fun _ => ?_) (fun _ => ?_) | exact True.intro | refine And.intro ?_ ?_) <;> try conv => cbv)); all_goals try exact fx)
    all_goals try (have hkn : k < h.items.length := by ((try subst hD hu); (try simp only [nc] at *); (try simp only [Int.ofNat_eq_natCast] at *); try simp (disch := omega) only [std, uid, S0] at *); omega)
    all_goals try (have hx := hb2 _ (getD_mem h.items [] k hkn); unfold bdET at hx)
    · refine callx hD hu hC (x_l5TextOk (h.items.getD k []) hx) ?_
      have e : ((k : Int) - 1).toNat = k - 1 := by omega
      ((try conv => cbv); (repeat' (first | with_reducible exact mK hD | (with_reducible first | refine mS hD ?_ | refine mJ hL ?_ | refine mT hD ?_ | refine mF hD ?_ | refine mB hD (fun _ => ?_) (fun _ => ?_) | exact True.intro | refine And.intro ?_ ?_) <;> try conv => cbv)); all_goals try exact fx)
      all_goals try ((subst hD hu; (try simp only [std, uid, rR, rB, rT, rN, rClu, rCel, rSnp, rKey, rCluS, rCelS, lR, lB, lT, lN, lClu, lCel, eL, dClu, dCel, dSnp, dKey, Int.toNat_natCast, Int.ofNat_eq_natCast]) <;> rfl))
      · have hn : ¬ HisOk h := fun q => by
          have := (q.items k hkn).2.2
          ((try subst hD hu); (try simp only [nc] at *); (try simp only [Int.ofNat_eq_natCast] at *); try simp (disch := omega) only [std, uid, S0, e] at *)
          simp_all
        ((try subst hD hu); (try simp only [nc] at *); (try simp only [Int.ofNat_eq_natCast] at *); try simp (disch := omega) only [std, uid, S0, hisOk_not hn] at *)
      · have hok : itemOk h.items k := by
          refine ⟨?_, ?_, fun _ => ?_⟩ <;> (((try subst hD hu); (try simp only [nc] at *); (try simp only [Int.ofNat_eq_natCast] at *); try simp (disch := omega) only [std, uid, S0, e] at *); simp_all)
        refine ⟨k + 1, (), hkn, fun i hi => ?_, ssem_of ?_, by omega⟩
        · rcases Nat.lt_or_ge i k with q | q
          · exact hit i q
          · rw [show i = k by omega]; exact hok
        · ((try conv => cbv); (repeat' (first | with_reducible exact mK hD | (with_reducible first | refine mS hD ?_ | refine mJ hL ?_ | refine mT hD ?_ | refine mF hD ?_ | refine mB hD (fun _ => ?_) (fun _ => ?_) | exact True.intro | refine And.intro ?_ ?_) <;> try conv => cbv)); all_goals try exact fx)
      · have hok : itemOk h.items k := by
          refine ⟨?_, ?_, fun _ => ?_⟩ <;> (((try subst hD hu); (try simp only [nc] at *); (try simp only [Int.ofNat_eq_natCast] at *); try simp (disch := omega) only [std, uid, S0, e] at *); first | (exfalso; omega) | simp_all)
        refine ⟨k + 1, (), hkn, fun i hi => ?_, ssem_of ?_, by omega⟩
        · rcases Nat.lt_or_ge i k with q | q
          · exact hit i q
          · rw [show i = k by omega]; exact hok
        · ((try conv => cbv); (repeat' (first | with_reducible exact mK hD | (with_reducible first | refine mS hD ?_ | refine mJ hL ?_ | refine mT hD ?_ | refine mF hD ?_ | refine mB hD (fun _ => ?_) (fun _ => ?_) | exact True.intro | refine And.intro ?_ ?_) <;> try conv => cbv)); all_goals try exact fx)
      · have hn : ¬ HisOk h := fun q => by
          have h1 := (q.items k hkn).2.1
          have h2 := (q.items k hkn).1
          ((try subst hD hu); (try simp only [nc] at *); (try simp only [Int.ofNat_eq_natCast] at *); try simp (disch := omega) only [std, uid, S0] at *)
          simp_all
        ((try subst hD hu); (try simp only [nc] at *); (try simp only [Int.ofNat_eq_natCast] at *); try simp (disch := omega) only [std, uid, S0, hisOk_not hn] at *)
    · have ek : k = h.items.length := lo
      subst ek
      have := (hisOk_iff h).mpr ⟨hc1, hl, hit⟩
      ((try subst hD hu); (try simp only [nc] at *); (try simp only [Int.ofNat_eq_natCast] at *); try simp (disch := omega) only [std, uid, S0, this] at *)
end Go.AW
/- Add: the plain part and the specification. -/
set_option linter.unusedVariables false
set_option linter.unusedSimpArgs false
namespace Go.AW
open Go.Proofs
set_option maxRecDepth 100000
set_option maxHeartbeats 8000000
def okTxt (t : Str) : Bool := !(t == []) && within t 300
structure AddOk (h : His) (t : Str) : Prop where
  ok : hisOk h = true
  tx : okTxt t = true
  nl : 0 < h.items.length → h.items.getD (h.items.length - 1) [] ≠ t
def addItems (h : His) (t : Str) : List Str := if (h.items.length : Int) < h.cap then h.items ++ [t] else (h.items ++ [t]).drop 1
noncomputable def addB (h : His) (t : Str) : Bool := @decide (AddOk h t) (Classical.propDecidable _)
noncomputable def addH (h : His) (t : Str) : His := @ite His (AddOk h t) (Classical.propDecidable _) ⟨h.cap, addItems h t⟩ h
theorem add_ok {h : His} {t : Str} (a : AddOk h t) : addB h t = true ∧ addH h t = ⟨h.cap, addItems h t⟩ := by
  constructor
  · unfold addB; exact @decide_eq_true _ (Classical.propDecidable _) a
  · unfold addH; exact @if_pos _ (Classical.propDecidable _) a _ _ _
theorem add_no {h : His} {t : Str} (a : ¬ AddOk h t) : addB h t = false ∧ addH h t = h := by
  constructor
  · unfold addB; exact @decide_eq_false _ (Classical.propDecidable _) a
  · unfold addH; exact @if_neg _ (Classical.propDecidable _) a _ _ _
theorem x_l5Copy (l : List Str) (hn : l.length ≤ 100000000) : PX Try.prog 85 (fun D u => [.r (.c (lT D u (u _ l)))]) (fun D u => [.c (lT D u (u _ l))]) (fun D u => []) := by
  refine px_of_awp (fn := Try.f85) (c := bodyOf Try.f85) envOk (by kernel_rfl) (by kernel_rfl) (by kernel_rfl) (by kernel_rfl) rfl (by kernel_rfl) (by kernel_rfl) ?_
  intro w0 mine D u C L hD hu hC hL
  ((try conv => cbv); (repeat' (first | with_reducible exact mK hD | (with_reducible first | refine mS hD ?_ | refine mJ hL ?_ | refine mT hD ?_ | refine mF hD ?_ | refine mB hD (fun _ => ?_) (fun _ => ?_) | exact True.intro | refine And.intro ?_ ?_) <;> try conv => cbv)); all_goals try exact fx)
  (subst hD hu; apply qT; (focus repeat' (first | exact LR.refl | exact LR_bytes | apply mClu | apply mCel | apply mKey | apply mSnp | apply mKRd | apply mLin | apply mHis | apply mBlk | apply mScr | apply mSes | exact zR | exact zB | exact zT | exact zN | exact zClu | exact zCel | exact zCelS | exact zSnp | exact zKey | exact zSes | exact zScr | apply LR.deq | exact LR.nil | apply LR.one | apply LR.rep | apply LR.cat | apply LR.cat' | apply LR.set | exact u8_0 | exact DEq.s _ | (apply str_deq; (repeat' apply sr_cat) <;> rfl) | apply aLe_1 | (apply LR.rfl'; simp only [uid, std, S0]; omega))); all_goals try simp only [uid, std, Int.toNat_natCast, Int.ofNat_eq_natCast])
  simp
theorem x_l5TextOk' (s : Str) (hn : s.length ≤ 100000000) : PX Try.prog 86 (fun D u => [.r (.c (.s (.string (D.strB (u _ s)))))]) (fun D u => [RB (u _ (okTxt s))]) (fun D u => []) := x_l5TextOk s hn
theorem x_specAdd (h : His) (t : Str) (hb : bdEHis 100000000 h) (hk : okHis h) (ht : t.length ≤ 100000000) : PX Try.prog 31 (fun D u => [.r (.a (rHis D u (u _ h))), .r (.c (.s (.string (D.strB (u _ t)))))]) (fun D u => [.a (rHis D u (u _ (addH h t))), RB (u _ (addB h t))]) (fun D u => []) := by
  refine px_of_awp (fn := Try.f31) (c := bodyOf Try.f31) envOk (by kernel_rfl) (by kernel_rfl) (by kernel_rfl) (by kernel_rfl) rfl (by kernel_rfl) (by kernel_rfl) ?_
  intro w0 mine D u C L hD hu hC hL
  have hb1 := hb.1
  ((try conv => cbv); (repeat' (first | with_reducible exact mK hD | (with_reducible first | refine mS hD ?_ | refine mT hD ?_ | refine mF hD ?_ | refine mB hD (fun _ => ?_) (fun _ => ?_) | exact True.intro | refine And.intro ?_ ?_) <;> try conv => cbv)); all_goals try exact fx)
  refine meet_of hL (ι := Unit) (fun _ => [(6, .one (.lf (.p 2 0)))]) (fun _ => [(2, .vars [.s (.int .i64 (u _ (h.cap))), .o 3 0 (D.lenL _ (u _ (h.items)))]), (3, oT D u (u _ (h.items)))]) (fun _ => True) ?_ ?_
  · ((try conv => cbv); (repeat' (first | with_reducible exact mK hD | (with_reducible first | refine mS hD ?_ | refine mT hD ?_ | refine mF hD ?_ | refine mB hD (fun _ => ?_) (fun _ => ?_) | exact True.intro | refine And.intro ?_ ?_) <;> try conv => cbv)); all_goals try exact fx)
    · refine callx hD hu hC (x_l5Copy h.items (by omega)) ?_
      ((try conv => cbv); (repeat' (first | with_reducible exact mK hD | (with_reducible first | refine mS hD ?_ | refine mT hD ?_ | refine mF hD ?_ | refine mB hD (fun _ => ?_) (fun _ => ?_) | exact True.intro | refine And.intro ?_ ?_) <;> try conv => cbv)); all_goals try exact fx)
      refine ⟨(), trivial, ssem_of ?_⟩
      ((try conv => cbv); (repeat' (first | with_reducible exact mK hD | (with_reducible first | refine mS hD ?_ | refine mJ hL ?_ | refine mT hD ?_ | refine mF hD ?_ | refine mB hD (fun _ => ?_) (fun _ => ?_) | exact True.intro | refine And.intro ?_ ?_) <;> try conv => cbv)); all_goals try exact fx)
    · refine callx hD hu hC (x_l5Copy h.items (by omega)) ?_
      ((try conv => cbv); (repeat' (first | with_reducible exact mK hD | (with_reducible first | refine mS hD ?_ | refine mT hD ?_ | refine mF hD ?_ | refine mB hD (fun _ => ?_) (fun _ => ?_) | exact True.intro | refine And.intro ?_ ?_) <;> try conv => cbv)); all_goals try exact fx)
      refine ⟨(), trivial, ssem_of ?_⟩
      ((try conv => cbv); (repeat' (first | with_reducible exact mK hD | (with_reducible first | refine mS hD ?_ | refine mJ hL ?_ | refine mT hD ?_ | refine mF hD ?_ | refine mB hD (fun _ => ?_) (fun _ => ?_) | exact True.intro | refine And.intro ?_ ?_) <;> try conv => cbv)); all_goals try exact fx)
  intro _ _
  ((try conv => cbv); (repeat' (first | with_reducible exact mK hD | (with_reducible first | refine mS hD ?_ | refine mT hD ?_ | refine mF hD ?_ | refine mB hD (fun _ => ?_) (fun _ => ?_) | exact True.intro | refine And.intro ?_ ?_) <;> try conv => cbv)); all_goals try exact fx)
  refine callx hD hu hC (x_specHistoryOk h hb hk) ?_
  cases h1 : hisOk h with
  | false =>
    have e := add_no (h := h) (t := t) (fun a => by have := a.ok; rw [h1] at this; cases this)
    rw [e.1, e.2]
    ((try conv => cbv); (repeat' (first | with_reducible exact mK hD | (with_reducible first | refine mS hD ?_ | refine mJ hL ?_ | refine mT hD ?_ | refine mF hD ?_ | refine mB hD (fun _ => ?_) (fun _ => ?_) | exact True.intro | refine And.intro ?_ ?_) <;> try conv => cbv)); all_goals try exact fx)
  | true =>
    ((try conv => cbv); (repeat' (first | with_reducible exact mK hD | (with_reducible first | refine mS hD ?_ | refine mT hD ?_ | refine mF hD ?_ | refine mB hD (fun _ => ?_) (fun _ => ?_) | exact True.intro | refine And.intro ?_ ?_) <;> try conv => cbv)); all_goals try exact fx)
    refine callx hD hu hC (x_l5TextOk' t ht) ?_
    cases h2 : okTxt t with
    | false =>
      have e := add_no (h := h) (t := t) (fun a => by have := a.tx; rw [h2] at this; cases this)
      rw [e.1, e.2]
      ((try conv => cbv); (repeat' (first | with_reducible exact mK hD | (with_reducible first | refine mS hD ?_ | refine mJ hL ?_ | refine mT hD ?_ | refine mF hD ?_ | refine mB hD (fun _ => ?_) (fun _ => ?_) | exact True.intro | refine And.intro ?_ ?_) <;> try conv => cbv)); all_goals try exact fx)
    | true =>
      by_cases h3 : 0 < h.items.length → h.items.getD (h.items.length - 1) [] ≠ t
      · have e := add_ok (h := h) (t := t) ⟨h1, h2, h3⟩
        rw [e.1, e.2]
        have e4 : ((h.items.length : Int) - 1).toNat = h.items.length - 1 := by omega
        ((try conv => cbv); (repeat' (first | with_reducible exact mK hD | (with_reducible first | refine mS hD ?_ | refine mT hD ?_ | refine mF hD ?_ | refine mB hD (fun _ => ?_) (fun _ => ?_) | exact True.intro | refine And.intro ?_ ?_) <;> try conv => cbv)); all_goals try exact fx)
        all_goals try (exfalso; have h4 := h3 lo; ((try subst hD hu); (try simp only [nc] at *); (try simp only [Int.ofNat_eq_natCast] at *); try simp (disch := omega) only [std, uid, S0, e4] at *); simp_all; done)
        all_goals
          by_cases h5 : (h.items.length : Int) < h.cap
          · have e5 : addItems h t = h.items ++ [t] := by rw [addItems, if_pos h5]
            ((try conv => cbv); (repeat' (first | with_reducible exact mK hD | (with_reducible first | refine mS hD ?_ | refine mJ hL ?_ | refine mT hD ?_ | refine mF hD ?_ | refine mB hD (fun _ => ?_) (fun _ => ?_) | exact True.intro | refine And.intro ?_ ?_) <;> try conv => cbv)); all_goals try exact fx)
            · ((try subst hD hu); (try simp only [nc] at *); (try simp only [Int.ofNat_eq_natCast] at *); try simp (disch := omega) only [std, uid, S0, e5] at *)
            · (subst hD hu; apply qT; (focus repeat' (first | exact LR.refl | exact LR_bytes | apply mClu | apply mCel | apply mKey | apply mSnp | apply mKRd | apply mLin | apply mHis | apply mBlk | apply mScr | apply mSes | exact zR | exact zB | exact zT | exact zN | exact zClu | exact zCel | exact zCelS | exact zSnp | exact zKey | exact zSes | exact zScr | apply LR.deq | exact LR.nil | apply LR.one | apply LR.rep | apply LR.cat | apply LR.cat' | apply LR.set | exact u8_0 | exact DEq.s _ | (apply str_deq; (repeat' apply sr_cat) <;> rfl) | apply aLe_1 | (apply LR.rfl'; simp only [uid, std, S0]; omega))); all_goals try simp only [uid, std, Int.toNat_natCast, Int.ofNat_eq_natCast])
              exact e5.symm
          · have e5 : addItems h t = (h.items ++ [t]).drop 1 := by rw [addItems, if_neg h5]
            ((try conv => cbv); (repeat' (first | with_reducible exact mK hD | (with_reducible first | refine mS hD ?_ | refine mJ hL ?_ | refine mT hD ?_ | refine mF hD ?_ | refine mB hD (fun _ => ?_) (fun _ => ?_) | exact True.intro | refine And.intro ?_ ?_) <;> try conv => cbv)); all_goals try exact fx)
            refine callx hD hu hC (x_l5Copy (addItems h t) (by rw [e5, List.length_drop, List.length_append]; simp only [List.length_cons, List.length_nil]; omega)) ?_
            ((try conv => cbv); (repeat' (first | with_reducible exact mK hD | (with_reducible first | refine mS hD ?_ | refine mJ hL ?_ | refine mT hD ?_ | refine mF hD ?_ | refine mB hD (fun _ => ?_) (fun _ => ?_) | exact True.intro | refine And.intro ?_ ?_) <;> try conv => cbv)); all_goals try exact fx)
            · ((try subst hD hu); (try simp only [nc] at *); (try simp only [Int.ofNat_eq_natCast] at *); try simp (disch := omega) only [std, uid, S0, e5] at *)
              omega
            · subst hD hu
              refine ((LR.sh (a := 1) (LR.cat' LR.refl (LR.one (x := t) (aLe_rfl _))) (by simp only [std, uid]; omega)).to ?_).deq2
              simp only [uid, e5, std]
              rw [List.take_of_length_le]
              simp
      · have e := add_no (h := h) (t := t) (fun a => h3 a.nl)
        rw [e.1, e.2]
        have e4 : ((h.items.length : Int) - 1).toNat = h.items.length - 1 := by omega
        ((try conv => cbv); (repeat' (first | with_reducible exact mK hD | (with_reducible first | refine mS hD ?_ | refine mT hD ?_ | refine mF hD ?_ | refine mB hD (fun _ => ?_) (fun _ => ?_) | exact True.intro | refine And.intro ?_ ?_) <;> try conv => cbv)); all_goals try exact fx)
        all_goals try (exfalso; apply h3; intro h4; ((try subst hD hu); (try simp only [nc] at *); (try simp only [Int.ofNat_eq_natCast] at *); try simp (disch := omega) only [std, uid, S0, e4] at *); first | omega | (simp_all; done))
        all_goals ((try conv => cbv); (repeat' (first | with_reducible exact mK hD | (with_reducible first | refine mS hD ?_ | refine mJ hL ?_ | refine mT hD ?_ | refine mF hD ?_ | refine mB hD (fun _ => ?_) (fun _ => ?_) | exact True.intro | refine And.intro ?_ ?_) <;> try conv => cbv)); all_goals try exact fx)
end Go.AW
/- Wrap: the plain part. -/
set_option linter.unusedVariables false
set_option linter.unusedSimpArgs false
namespace Go.AW
open Go.Proofs
set_option maxRecDepth 100000
set_option maxHeartbeats 4000000
/-- The width of a cluster, brought into 0 .. 1000. -/
def wideC (c : Clu) : Int := if c.width < 0 then 0 else if 1000 < c.width then 1000 else c.width
def lastI (l : List Int) : Int := l.getD (l.length - 1) 0
def stStep (cols : Int) (cs : List Clu) (s : List Int × Int) (i : Nat) : List Int × Int :=
  if lastI s.1 < i ∧ cols < s.2 + wideC (cs.getD i dClu) then (s.1 ++ [(i : Int)], wideC (cs.getD i dClu)) else (s.1, s.2 + wideC (cs.getD i dClu))
/-- The places where rows begin, and the width of the last one, behind k clusters. -/
def stF (cols : Int) (cs : List Clu) : Nat → List Int × Int
  | 0 => ([0], 0)
  | k + 1 => stStep cols cs (stF cols cs k) k
def starts (cs : List Clu) (cols : Int) : List Int := (stF cols cs cs.length).1
structure StI (k : Nat) (s : List Int × Int) : Prop where
  pos : 0 < s.1.length
  len : s.1.length ≤ k + 1
  rng : ∀ i, i < s.1.length → 0 ≤ s.1.getD i 0 ∧ s.1.getD i 0 ≤ k
  inc : ∀ i, i + 1 < s.1.length → s.1.getD i 0 < s.1.getD (i + 1) 0
  used : 0 ≤ s.2 ∧ s.2 ≤ 1000 * k
theorem getD_app_l {α : Type} (a b : List α) (d : α) (i : Nat) (h : i < a.length) : (a ++ b).getD i d = a.getD i d := by
  simp [List.getD_eq_getElem?_getD, List.getElem?_append_left h]
theorem getD_app_r {α : Type} (a b : List α) (d : α) (i : Nat) (h : a.length ≤ i) : (a ++ b).getD i d = b.getD (i - a.length) d := by
  simp [List.getD_eq_getElem?_getD, List.getElem?_append_right h]
theorem StI.last {k : Nat} {s : List Int × Int} (h : StI k s) : 0 ≤ lastI s.1 ∧ lastI s.1 ≤ k := h.rng _ (by have := h.pos; omega)
/-- Clusters a .. b. -/
def seg (cs : List Clu) (a b : Int) : List Clu := (cs.drop a.toNat).take (b.toNat - a.toNat)
def rowsOf (cs : List Clu) (st : List Int) (n : Nat) : List (List Clu) := (List.range st.length).map fun i => seg cs (st.getD i 0) ((st ++ [(n : Int)]).getD (i + 1) 0)
def wrap (cs : List Clu) (cols : Int) : List (List Clu) := if cols < 2 then [] else rowsOf cs (starts cs cols) cs.length
theorem getD_end {α : Type} (l : List α) (x d : α) : (l ++ [x]).getD l.length d = x := by rw [getD_app_r _ _ _ _ (Nat.le_refl _)]; simp
end Go.AW
/- Widths of clusters and places of rows: plain. -/
set_option linter.unusedVariables false
set_option linter.unusedSimpArgs false
namespace Go.AW
open Go.Proofs
set_option maxRecDepth 100000
set_option maxHeartbeats 8000000
def wOk (c : Clu) : Prop := 1 ≤ c.width ∧ c.width ≤ 2
def widthsOf (cs : List Clu) : Int := (cs.map (·.width)).sum
/-- The row of place p. -/
def rowK (st : List Int) (p : Int) : Nat → Nat
  | 0 => 0
  | k + 1 => if st.getD k 0 ≤ p then k else rowK st p k
def rowOf (st : List Int) (p : Int) : Nat := rowK st p st.length
theorem shF_eq (a : Nat) (f : Nat → List DV) : shF std a f = fun i => f (a + i) := by
  cases a with
  | zero => simp [shF]
  | succ a => rfl
theorem LR.shF {α : Type} {row : α → List DV} {d : α} {f : Nat → List DV} {n a m : Nat} {l : List α} (h : LR row d f n l) (ha : a + m ≤ n) : LR row d (Go.AW.shF std a f) m ((l.drop a).take m) := by
  rw [shF_eq]
  exact h.sh ha
end Go.AW
/- Add of the program. -/
set_option linter.unusedVariables false
set_option linter.unusedSimpArgs false
namespace Go.AW
open Go.Proofs
set_option maxRecDepth 100000
set_option maxHeartbeats 8000000
theorem x_CloneStr (s : List Str) (hn : s.length ≤ 1000000000) : PX Try.prog 87 (fun D u => [.r (.c (lT D u (u _ s)))]) (fun D u => [.c (lT D u (u _ s))]) (fun D u => []) := by
  refine px_of_awp (fn := Try.f87) (c := bodyOf Try.f87) envOk (by kernel_rfl) (by kernel_rfl) (by kernel_rfl) (by kernel_rfl) rfl (by kernel_rfl) (by kernel_rfl) ?_
  intro w0 mine D u C L hD hu hC hL
  ((try conv => cbv); (repeat' (first | with_reducible exact mK hD | (with_reducible first | refine mS hD ?_ | refine mJ hL ?_ | refine mT hD ?_ | refine mF hD ?_ | refine mB hD (fun _ => ?_) (fun _ => ?_) | exact True.intro | refine And.intro ?_ ?_) <;> try conv => cbv)); all_goals try exact fx)
  · have h0 : s = [] := by ((try subst hD hu); (try simp only [nc] at *); (try simp only [Int.ofNat_eq_natCast] at *); try simp (disch := omega) only [std, uid, S0] at *); exact List.length_eq_zero_iff.mp (by omega)
    subst h0
    exact DEq.z _ _ _
  · (subst hD hu; apply qT; (focus repeat' (first | exact LR.refl | exact LR_bytes | apply mClu | apply mCel | apply mKey | apply mSnp | apply mKRd | apply mLin | apply mHis | apply mBlk | apply mScr | apply mSes | exact zR | exact zB | exact zT | exact zN | exact zClu | exact zCel | exact zCelS | exact zSnp | exact zKey | exact zSes | exact zScr | apply LR.deq | exact LR.nil | apply LR.one | apply LR.rep | apply LR.cat | apply LR.cat' | apply LR.set | exact u8_0 | exact DEq.s _ | (apply str_deq; (repeat' apply sr_cat) <;> rfl) | apply aLe_1 | (apply LR.rfl'; simp only [uid, std, S0]; omega))); all_goals try simp only [uid, std, Int.toNat_natCast, Int.ofNat_eq_natCast])
    simp
  · (subst hD hu; apply qT; (focus repeat' (first | exact LR.refl | exact LR_bytes | apply mClu | apply mCel | apply mKey | apply mSnp | apply mKRd | apply mLin | apply mHis | apply mBlk | apply mScr | apply mSes | exact zR | exact zB | exact zT | exact zN | exact zClu | exact zCel | exact zCelS | exact zSnp | exact zKey | exact zSes | exact zScr | apply LR.deq | exact LR.nil | apply LR.one | apply LR.rep | apply LR.cat | apply LR.cat' | apply LR.set | exact u8_0 | exact DEq.s _ | (apply str_deq; (repeat' apply sr_cat) <;> rfl) | apply aLe_1 | (apply LR.rfl'; simp only [uid, std, S0]; omega))); all_goals try simp only [uid, std, Int.toNat_natCast, Int.ofNat_eq_natCast])
    simp
theorem okTxt_iff (t : Str) : okTxt t = true ↔ t ≠ [] ∧ within t 300 = true := by simp [okTxt]
def ringR (l : List Str) (k : Nat) : List Str := l.take k ++ List.replicate (100 - k) []
theorem ringR_len (l : List Str) (k : Nat) (h : k ≤ l.length) (h2 : k ≤ 100) : (ringR l k).length = 100 := by simp [ringR]; omega
theorem ringR_set (l : List Str) (k : Nat) (h : k < l.length) (h2 : k < 100) : (ringR l k).set k (l.getD k []) = ringR l (k + 1) := by
  unfold ringR
  rw [show 100 - k = (100 - (k + 1)) + 1 by omega, List.replicate_succ, List.set_append_right _ _ (by simp; omega)]
  simp only [List.length_take, Nat.min_eq_left (Nat.le_of_lt h), Nat.sub_self, List.set_cons_zero]
  rw [take_snoc l [] k h, List.append_assoc]; rfl
/-- Where the last item is put. -/
structure RingI (l : List Str) (cap a n : Int) (p : Nat) : Prop where
  c : 1 ≤ cap ∧ cap ≤ 100
  l1 : (l.length : Int) ≤ cap
  p1 : (p : Int) = (a + n) % 100
  s1 : (l.length : Int) < cap → a = 0 ∧ n = l.length
  s2 : ¬ (l.length : Int) < cap → a = 1 ∧ n = cap - 1
theorem ring_get {l : List Str} {cap a n : Int} {p : Nat} (t : Str) (q : RingI l cap a n p) : ((addItems ⟨cap, l⟩ t).length : Int) = n + 1 ∧
    ∀ k : Nat, k < (addItems ⟨cap, l⟩ t).length → ((ringR l l.length).set p t).getD ((a + k) % 100).toNat [] = (addItems ⟨cap, l⟩ t).getD k [] := by
  obtain ⟨c1, c2⟩ := q.c
  have l1 := q.l1
  have p1 := q.p1
  have hlen : (ringR l l.length).length = 100 := ringR_len _ _ (Nat.le_refl _) (by omega)
  have hget : ∀ i : Nat, ((ringR l l.length).set p t).getD i [] = if p = i then t else (l ++ List.replicate (100 - l.length) []).getD i [] := by
    intro i
    simp only [List.getD_eq_getElem?_getD, List.getElem?_set, hlen]
    by_cases h : p = i
    · rw [if_pos h, if_pos h, if_pos (by omega)]; rfl
    · rw [if_neg h, if_neg h]; simp [ringR]
  by_cases hc : (l.length : Int) < cap
  · obtain ⟨e1, e2⟩ := q.s1 hc
    have ea : addItems ⟨cap, l⟩ t = l ++ [t] := by unfold addItems; exact if_pos hc
    rw [ea]
    refine ⟨by simp; omega, fun k hk => ?_⟩
    simp only [List.length_append, List.length_cons, List.length_nil] at hk
    have ek : ((a + k) % 100).toNat = k := by omega
    rw [ek, hget]
    by_cases h : p = k
    · have : k = l.length := by omega
      rw [if_pos h, this, getD_end]
    · rw [if_neg h, getD_app_l _ _ _ _ (by omega), getD_app_l _ _ _ _ (by omega)]
  · obtain ⟨e1, e2⟩ := q.s2 hc
    have ea : addItems ⟨cap, l⟩ t = (l ++ [t]).drop 1 := by unfold addItems; exact if_neg hc
    rw [ea]
    refine ⟨by simp; omega, fun k hk => ?_⟩
    simp only [List.length_drop, List.length_append, List.length_cons, List.length_nil] at hk
    rw [hget]
    have ed : ((l ++ [t]).drop 1).getD k [] = (l ++ [t]).getD (1 + k) [] := by simp only [List.getD_eq_getElem?_getD, List.getElem?_drop]
    rw [ed]
    by_cases h : 1 + k = l.length
    · rw [if_pos (by omega), h, getD_end]
    · rw [if_neg (by omega), show ((a + (k : Int)) % 100).toNat = 1 + k by omega, getD_app_l _ _ _ _ (by omega), getD_app_l _ _ _ _ (by omega)]
def isE : Value → Bool
  | .string s => s.data.toList.isEmpty
  | _ => false
theorem isE_eq {v : Value} (h : isE v = true) : v = .string ⟨#[]⟩ := by
  unfold isE at h
  split at h
  · rename_i s
    obtain ⟨⟨l⟩⟩ := s
    cases l with
    | nil => rfl
    | cons a l => cases h
  · cases h
theorem allV_get : ∀ (n : Nat) (l : List Value) (i : Nat), i < n → (l.take n).all isE = true → getN (.string ⟨#[]⟩) l i = .string ⟨#[]⟩
  | 0, _, _, h, _ => absurd h (Nat.not_lt_zero _)
  | _ + 1, [], _, _, _ => rfl
  | n + 1, v :: l, 0, _, h => by simp only [List.take_succ_cons, List.all_cons, Bool.and_eq_true] at h; exact isE_eq h.1
  | n + 1, v :: l, i + 1, hi, h => by simp only [List.take_succ_cons, List.all_cons, Bool.and_eq_true] at h; exact allV_get n l i (by omega) h.2
theorem x_implAdd (h : His) (t : Str) (hb : bdEHis 100000000 h) (hk : okHis h) (ht : t.length ≤ 100000000) : PX Try.prog 32 (fun D u => [.r (.a (rHis D u (u _ h))), .r (.c (.s (.string (D.strB (u _ t)))))]) (fun D u => [.a (rHis D u (u _ (addH h t))), RB (u _ (addB h t))]) (fun D u => []) := by
  refine px_of_awp (fn := Try.f32) (c := bodyOf Try.f32) envOk (by kernel_rfl) (by kernel_rfl) (by kernel_rfl) (by kernel_rfl) rfl (by kernel_rfl) (by kernel_rfl) ?_
  intro w0 mine D u C L hD hu hC hL
  have hb1 := hb.1
  ((try conv => cbv); (repeat' (first | with_reducible exact mK hD | (with_reducible first | refine mS hD ?_ | refine mT hD ?_ | refine mF hD ?_ | refine mB hD (fun _ => ?_) (fun _ => ?_) | exact True.intro | refine And.intro ?_ ?_) <;> try conv => cbv)); all_goals try exact fx)
  refine meet_of hL (ι := Unit) (fun _ => [(6, .one (.lf (.p 2 0)))]) (fun _ => [(2, .vars [.s (.int .i64 (u _ (h.cap))), .o 3 0 (D.lenL _ (u _ (h.items)))]), (3, oT D u (u _ (h.items)))]) (fun _ => True) ?_ ?_
  · ((try conv => cbv); (repeat' (first | with_reducible exact mK hD | (with_reducible first | refine mS hD ?_ | refine mT hD ?_ | refine mF hD ?_ | refine mB hD (fun _ => ?_) (fun _ => ?_) | exact True.intro | refine And.intro ?_ ?_) <;> try conv => cbv)); all_goals try exact fx)
    all_goals
      refine callx hD hu hC (x_CloneStr h.items (by omega)) ?_
      ((try conv => cbv); (repeat' (first | with_reducible exact mK hD | (with_reducible first | refine mS hD ?_ | refine mT hD ?_ | refine mF hD ?_ | refine mB hD (fun _ => ?_) (fun _ => ?_) | exact True.intro | refine And.intro ?_ ?_) <;> try conv => cbv)); all_goals try exact fx)
      refine ⟨(), trivial, ssem_of ?_⟩
      ((try conv => cbv); (repeat' (first | with_reducible exact mK hD | (with_reducible first | refine mS hD ?_ | refine mJ hL ?_ | refine mT hD ?_ | refine mF hD ?_ | refine mB hD (fun _ => ?_) (fun _ => ?_) | exact True.intro | refine And.intro ?_ ?_) <;> try conv => cbv)); all_goals try exact fx)
  intro _ _
  ((try conv => cbv); (repeat' (first | with_reducible exact mK hD | (with_reducible first | refine mS hD ?_ | refine mT hD ?_ | refine mF hD ?_ | refine mB hD (fun _ => ?_) (fun _ => ?_) | exact True.intro | refine And.intro ?_ ?_) <;> try conv => cbv)); all_goals try exact fx)
  refine callx hD hu hC (x_implHistoryOk h hb hk) ?_
  cases h1 : hisOk h with
  | false =>
    have e := add_no (h := h) (t := t) (fun a => by have := a.ok; rw [h1] at this; cases this)
    rw [e.1, e.2]
    ((try conv => cbv); (repeat' (first | with_reducible exact mK hD | (with_reducible first | refine mS hD ?_ | refine mJ hL ?_ | refine mT hD ?_ | refine mF hD ?_ | refine mB hD (fun _ => ?_) (fun _ => ?_) | exact True.intro | refine And.intro ?_ ?_) <;> try conv => cbv)); all_goals try exact fx)
  | true =>
    by_cases ht0 : t = []
    · have e := add_no (h := h) (t := t) (fun a => ((okTxt_iff t).mp a.tx).1 ht0)
      rw [e.1, e.2]
      ((try conv => cbv); (repeat' (first | with_reducible exact mK hD | (with_reducible first | refine mS hD ?_ | refine mJ hL ?_ | refine mT hD ?_ | refine mF hD ?_ | refine mB hD (fun _ => ?_) (fun _ => ?_) | exact True.intro | refine And.intro ?_ ?_) <;> try conv => cbv)); all_goals try exact fx)
      all_goals (exfalso; ((try subst hD hu); (try simp only [nc] at *); (try simp only [Int.ofNat_eq_natCast] at *); try simp (disch := omega) only [std, uid, S0] at *); simp_all; done)
    ((try conv => cbv); (repeat' (first | with_reducible exact mK hD | (with_reducible first | refine mS hD ?_ | refine mT hD ?_ | refine mF hD ?_ | refine mB hD (fun _ => ?_) (fun _ => ?_) | exact True.intro | refine And.intro ?_ ?_) <;> try conv => cbv)); all_goals try exact fx)
    all_goals try (exfalso; ((try subst hD hu); (try simp only [nc] at *); (try simp only [Int.ofNat_eq_natCast] at *); try simp (disch := omega) only [std, uid, S0] at *); simp_all; done)
    refine callx hD hu hC (x_settledWithin t 300 ht (by omega)) ?_
    cases h2 : within t 300 with
    | false =>
      have e := add_no (h := h) (t := t) (fun a => by have := ((okTxt_iff t).mp a.tx).2; rw [h2] at this; cases this)
      rw [e.1, e.2]
      ((try conv => cbv); (repeat' (first | with_reducible exact mK hD | (with_reducible first | refine mS hD ?_ | refine mJ hL ?_ | refine mT hD ?_ | refine mF hD ?_ | refine mB hD (fun _ => ?_) (fun _ => ?_) | exact True.intro | refine And.intro ?_ ?_) <;> try conv => cbv)); all_goals try exact fx)
    | true =>
      have e4 : ((h.items.length : Int) - 1).toNat = h.items.length - 1 := by omega
      by_cases h3 : 0 < h.items.length → h.items.getD (h.items.length - 1) [] ≠ t
      · have e := add_ok (h := h) (t := t) ⟨h1, (okTxt_iff t).mpr ⟨ht0, h2⟩, h3⟩
        rw [e.1, e.2]
        have q := (hisOk_iff h).mp h1
        have q1 := q.cap
        have q2 := q.len
        obtain ⟨A, N, p, hR⟩ : ∃ (A N : Int) (p : Nat), RingI h.items h.cap A N p := by
          by_cases hc : (h.items.length : Int) < h.cap
          · exact ⟨0, h.items.length, h.items.length, q1, q2, by omega, fun _ => ⟨rfl, rfl⟩, fun c => absurd hc c⟩
          · exact ⟨1, h.cap - 1, (h.cap % 100).toNat, q1, q2, by omega, fun c => absurd c hc, fun _ => ⟨rfl, rfl⟩⟩
        have hG := (ring_get t hR).2
        have hN := (ring_get t hR).1
        have hs1 := hR.s1
        have hs2 := hR.s2
        have hp := hR.p1
        rw [show (⟨h.cap, h.items⟩ : His) = h from rfl] at hG hN
        have hAr : 0 ≤ A ∧ A ≤ 1 := by omega
        have hNr : 0 ≤ N ∧ N ≤ 99 := by omega
        ((try conv => cbv); (repeat' (first | with_reducible exact mK hD | (with_reducible first | refine mS hD ?_ | refine mT hD ?_ | refine mF hD ?_ | refine mB hD (fun _ => ?_) (fun _ => ?_) | exact True.intro | refine And.intro ?_ ?_) <;> try conv => cbv)); all_goals try exact fx)
        all_goals try (exfalso; have h4 := h3 lo; ((try subst hD hu); (try simp only [nc] at *); (try simp only [Int.ofNat_eq_natCast] at *); try simp (disch := omega) only [std, uid, S0, e4] at *); simp_all; done)
        all_goals
          refine call_in (fn := Try.f88) (c := bodyOf Try.f88) envOk (by kernel_rfl) (by kernel_rfl) (by kernel_rfl) (by kernel_rfl) rfl hD hC hL (by kernel_rfl) ?_; intro _
          ((try conv => cbv); (repeat' (first | with_reducible exact mK hD | (with_reducible first | refine mS hD ?_ | refine mJ hL ?_ | refine mT hD ?_ | refine mF hD ?_ | refine mB hD (fun _ => ?_) (fun _ => ?_) | exact True.intro | refine And.intro ?_ ?_) <;> try conv => cbv)); all_goals try exact fx)
          refine loop_st hL h.items.length (fun k (_ : Unit) => True) () (fun k _ => [(13, VI (u _ k))]) (fun k _ => [(6, .arr 100 (fun i => rT D u (D.nthL Str [] (u _ (ringR h.items k)) i)) [.int .i64 0, .int .i64 (u _ ((k : Int))), .int .i64 (u _ (h.cap))])]) trivial ?_ ?_
          · ((try conv => cbv); (repeat' (first | with_reducible exact mK hD | (with_reducible first | refine mS hD ?_ | refine mJ hL ?_ | refine mT hD ?_ | refine mF hD ?_ | refine mB hD (fun _ => ?_) (fun _ => ?_) | exact True.intro | refine And.intro ?_ ?_) <;> try conv => cbv)); all_goals try exact fx)
            subst hD hu
            exact LR.deq2 (LR.same (by simp [ringR, uid]) fun i hi => by rw [allV_get 100 _ i hi (by kernel_rfl), show (uid _ (ringR h.items 0)).getD i [] = ([] : Str) by simp only [ringR, uid, List.take_zero, List.nil_append, List.getD_eq_getElem?_getD, List.getElem?_replicate]; split <;> rfl]; rfl)
          · intro k _ hk _
            ((try conv => cbv); (repeat' (first | with_reducible exact mK hD | (with_reducible first | refine mS hD ?_ | refine mJ hL ?_ | refine mT hD ?_ | refine mF hD ?_ | refine mB hD (fun _ => ?_) (fun _ => ?_) | exact True.intro | refine And.intro ?_ ?_) <;> try conv => cbv)); all_goals try exact fx)
            all_goals try
              have hkn : k < h.items.length := lo
              first
              | (exfalso; have : 0 < h.items.length := by omega
                 ((try subst hD hu); (try simp only [nc] at *); (try simp only [Int.ofNat_eq_natCast] at *); try simp (disch := omega) only [std, uid, S0] at *)
                 omega)
              | (refine call_in (fn := Try.f89) (c := bodyOf Try.f89) envOk (by kernel_rfl) (by kernel_rfl) (by kernel_rfl) (by kernel_rfl) rfl hD hC hL (by kernel_rfl) ?_; intro _
                 ((try conv => cbv); (repeat' (first | with_reducible exact mK hD | (with_reducible first | refine mS hD ?_ | refine mJ hL ?_ | refine mT hD ?_ | refine mF hD ?_ | refine mB hD (fun _ => ?_) (fun _ => ?_) | exact True.intro | refine And.intro ?_ ?_) <;> try conv => cbv)); all_goals try exact fx)
                 refine ⟨k + 1, (), hkn, trivial, ssem_of ?_, by omega⟩
                 ((try conv => cbv); (repeat' (first | with_reducible exact mK hD | (with_reducible first | refine mS hD ?_ | refine mJ hL ?_ | refine mT hD ?_ | refine mF hD ?_ | refine mB hD (fun _ => ?_) (fun _ => ?_) | exact True.intro | refine And.intro ?_ ?_) <;> try conv => cbv)); all_goals try exact fx)
                 have e0 : ((0 + (k : Int)) % 100).toNat = k := by omega
                 subst hD hu
                 refine LR.deq2 (LR.to (LR.set (LR.rfl' ?_) (x := h.items.getD k []) (aLe_rfl _)) ?_)
                 · simp only [uid]; exact (ringR_len _ _ (by omega) (by omega)).symm
                 · ((try subst hD hu); (try simp only [nc] at *); (try simp only [Int.ofNat_eq_natCast] at *); try simp (disch := omega) only [std, uid, S0, e0] at *)
                   exact ringR_set _ _ hkn (by omega))
              done
            refine call_in (fn := Try.f89) (c := bodyOf Try.f89) envOk (by kernel_rfl) (by kernel_rfl) (by kernel_rfl) (by kernel_rfl) rfl hD hC hL (by kernel_rfl) ?_; intro _
            have ek : k = h.items.length := lo
            subst ek
            ((try conv => cbv); (repeat' (first | with_reducible exact mK hD | (with_reducible first | refine mS hD ?_ | refine mT hD ?_ | refine mF hD ?_ | refine mB hD (fun _ => ?_) (fun _ => ?_) | exact True.intro | refine And.intro ?_ ?_) <;> try conv => cbv)); all_goals try exact fx)
            refine meet_of hL (ι := Unit) (fun _ => []) (fun _ => [(6, .arr 100 (fun i => rT D u (D.nthL Str [] (u _ (ringR h.items h.items.length)) i)) [.int .i64 (u _ A), .int .i64 (u _ N), .int .i64 (u _ (h.cap))])]) (fun _ => True) ?_ ?_
            · ((try conv => cbv); (repeat' (first | with_reducible exact mK hD | (with_reducible first | refine mS hD ?_ | refine mJ hL ?_ | refine mT hD ?_ | refine mF hD ?_ | refine mB hD (fun _ => ?_) (fun _ => ?_) | exact True.intro | refine And.intro ?_ ?_) <;> try conv => cbv)); all_goals try exact fx)
              all_goals refine ⟨(), trivial, ssem_of ?_⟩
              all_goals ((try conv => cbv); (repeat' (first | with_reducible exact mK hD | (with_reducible first | refine mS hD ?_ | refine mJ hL ?_ | refine mT hD ?_ | refine mF hD ?_ | refine mB hD (fun _ => ?_) (fun _ => ?_) | exact True.intro | refine And.intro ?_ ?_) <;> try conv => cbv)); all_goals try exact fx)
            intro _ _
            ((try conv => cbv); (repeat' (first | with_reducible exact mK hD | (with_reducible first | refine mS hD ?_ | refine mJ hL ?_ | refine mT hD ?_ | refine mF hD ?_ | refine mB hD (fun _ => ?_) (fun _ => ?_) | exact True.intro | refine And.intro ?_ ?_) <;> try conv => cbv)); all_goals try exact fx)
            refine call_in (fn := Try.f90) (c := bodyOf Try.f90) envOk (by kernel_rfl) (by kernel_rfl) (by kernel_rfl) (by kernel_rfl) rfl hD hC hL (by kernel_rfl) ?_; intro _
            ((try conv => cbv); (repeat' (first | with_reducible exact mK hD | (with_reducible first | refine mS hD ?_ | refine mJ hL ?_ | refine mT hD ?_ | refine mF hD ?_ | refine mB hD (fun _ => ?_) (fun _ => ?_) | exact True.intro | refine And.intro ?_ ?_) <;> try conv => cbv)); all_goals try exact fx)
            refine loop_st hL (addItems h t).length (fun k s => s = (addItems h t).take k) [] (fun k s => [(3, vO D 9 (u _ s)), (5, .bad), (10, VI (u _ k))]) (fun k s => [(9, oT D u (u _ s)), (6, .arr 100 (fun i => rT D u (D.nthL Str [] (u _ ((ringR h.items h.items.length).set p t)) i)) [.int .i64 (u _ A), .int .i64 (u _ (N + 1)), .int .i64 (u _ (h.cap))])]) rfl ?_ ?_
            · ((try conv => cbv); (repeat' (first | with_reducible exact mK hD | (with_reducible first | refine mS hD ?_ | refine mJ hL ?_ | refine mT hD ?_ | refine mF hD ?_ | refine mB hD (fun _ => ?_) (fun _ => ?_) | exact True.intro | refine And.intro ?_ ?_) <;> try conv => cbv)); all_goals try exact fx)
              · (subst hD hu; apply qT; (focus repeat' (first | exact LR.refl | exact LR_bytes | apply mClu | apply mCel | apply mKey | apply mSnp | apply mKRd | apply mLin | apply mHis | apply mBlk | apply mScr | apply mSes | exact zR | exact zB | exact zT | exact zN | exact zClu | exact zCel | exact zCelS | exact zSnp | exact zKey | exact zSes | exact zScr | apply LR.deq | exact LR.nil | apply LR.one | apply LR.rep | apply LR.cat | apply LR.cat' | apply LR.set | exact u8_0 | exact DEq.s _ | (apply str_deq; (repeat' apply sr_cat) <;> rfl) | apply aLe_1 | (apply LR.rfl'; simp only [uid, std, S0]; omega))); all_goals try simp only [uid, std, Int.toNat_natCast, Int.ofNat_eq_natCast])
              · subst hD hu
                refine LR.deq2 (LR.to (LR.set (LR.rfl' ?_) (x := t) (aLe_rfl _)) ?_)
                · simp only [uid]; exact (ringR_len _ _ (Nat.le_refl _) (by omega)).symm
                · have ei : ((A + N) % 100).toNat = p := by omega
                  ((try subst hD hu); (try simp only [nc] at *); (try simp only [Int.ofNat_eq_natCast] at *); try simp (disch := omega) only [std, uid, S0, ei] at *)
            · intro k s hk hs
              have hsl : s.length = k := by rw [hs, List.length_take]; omega
              have hkg : k < (addItems h t).length → k < (addItems h t).length := id
              ((try conv => cbv); (repeat' (first | with_reducible exact mK hD | (with_reducible first | refine mS hD ?_ | refine mJ hL ?_ | refine mT hD ?_ | refine mF hD ?_ | refine mB hD (fun _ => ?_) (fun _ => ?_) | exact True.intro | refine And.intro ?_ ?_) <;> try conv => cbv)); all_goals try exact fx)
              · have hkn : k < (addItems h t).length := lo
                refine ⟨k + 1, s ++ [(addItems h t).getD k []], hkn, by rw [hs, take_snoc _ [] _ hkn], ssem_of ?_, by omega⟩
                ((try conv => cbv); (repeat' (first | with_reducible exact mK hD | (with_reducible first | refine mS hD ?_ | refine mJ hL ?_ | refine mT hD ?_ | refine mF hD ?_ | refine mB hD (fun _ => ?_) (fun _ => ?_) | exact True.intro | refine And.intro ?_ ?_) <;> try conv => cbv)); all_goals try exact fx)
                have hG2 := hG k hkn
                subst hD hu
                refine LR.deq2 (LR.cat' LR.refl (LR.one (aLe_1 ?_)))
                ((try subst hD hu); (try simp only [nc] at *); (try simp only [Int.ofNat_eq_natCast] at *); try simp (disch := omega) only [std, uid, S0, hG2] at *)
                exact DEq.s _
              · have ek : k = (addItems h t).length := lo
                subst ek
                rw [List.take_length] at hs
                (subst hD hu; apply qT; (focus repeat' (first | exact LR.refl | exact LR_bytes | apply mClu | apply mCel | apply mKey | apply mSnp | apply mKRd | apply mLin | apply mHis | apply mBlk | apply mScr | apply mSes | exact zR | exact zB | exact zT | exact zN | exact zClu | exact zCel | exact zCelS | exact zSnp | exact zKey | exact zSes | exact zScr | apply LR.deq | exact LR.nil | apply LR.one | apply LR.rep | apply LR.cat | apply LR.cat' | apply LR.set | exact u8_0 | exact DEq.s _ | (apply str_deq; (repeat' apply sr_cat) <;> rfl) | apply aLe_1 | (apply LR.rfl'; simp only [uid, std, S0]; omega))); all_goals try simp only [uid, std, Int.toNat_natCast, Int.ofNat_eq_natCast])
                exact hs
      · have e := add_no (h := h) (t := t) (fun a => h3 a.nl)
        rw [e.1, e.2]
        ((try conv => cbv); (repeat' (first | with_reducible exact mK hD | (with_reducible first | refine mS hD ?_ | refine mT hD ?_ | refine mF hD ?_ | refine mB hD (fun _ => ?_) (fun _ => ?_) | exact True.intro | refine And.intro ?_ ?_) <;> try conv => cbv)); all_goals try exact fx)
        all_goals try (exfalso; apply h3; intro h4; ((try subst hD hu); (try simp only [nc] at *); (try simp only [Int.ofNat_eq_natCast] at *); try simp (disch := omega) only [std, uid, S0, e4] at *); first | omega | (simp_all; done))
        all_goals ((try conv => cbv); (repeat' (first | with_reducible exact mK hD | (with_reducible first | refine mS hD ?_ | refine mJ hL ?_ | refine mT hD ?_ | refine mF hD ?_ | refine mB hD (fun _ => ?_) (fun _ => ?_) | exact True.intro | refine And.intro ?_ ?_) <;> try conv => cbv)); all_goals try exact fx)
end Go.AW
/- What Add makes is bounded. -/
set_option linter.unusedVariables false
set_option linter.unusedSimpArgs false
namespace Go.AW
open Go.Proofs
theorem addH_tot (h : His) (t : Str) : toEHis (addH h t) ≤ toEHis h + t.length + 1 := by
  by_cases a : AddOk h t
  · rw [(add_ok a).2]
    have h1 := cntL_append toET h.items [t]
    have h2 : cntL toET [t] = t.length := by simp [cntL, toET]
    have h3 := cntL_append toET ((h.items ++ [t]).take 1) ((h.items ++ [t]).drop 1)
    rw [List.take_append_drop] at h3
    simp only [toEHis, addItems, totL]
    split <;> simp only [List.length_drop, List.length_append, List.length_singleton] <;> omega
  · rw [(add_no a).2]; omega
end Go.AW
/- The law of Add. -/
set_option linter.unusedVariables false
set_option linter.unusedSimpArgs false
namespace Go.AW
open Go.Proofs
set_option maxRecDepth 100000
set_option maxHeartbeats 8000000
theorem con_FnExactAdd (a : His) (h0 : bdEHis 140737488355328 a ∧ okHis a) (b : Str) (h1 : b.length ≤ 140737488355328) : PX Try.prog 7 (fun D u => [.r (.a (rHis D u (u _ a))), .r (.c (.s (.string (D.strB (u _ b)))))]) (fun D u => [RB true]) (fun D u => []) := by
  refine px_of_awp (fn := Try.f7) (c := bodyOf Try.f7) envOk (by kernel_rfl) (by kernel_rfl) (by kernel_rfl) (by kernel_rfl) rfl (by kernel_rfl) (by kernel_rfl) ?_
  intro w0 mine D u C L hD hu hC hL
  ((try conv => cbv); (repeat' (first | with_reducible exact mK hD | (with_reducible first | refine mS hD ?_ | refine mJ hL ?_ | refine mT hD ?_ | refine mF hD ?_ | refine mB hD (fun _ => ?_) (fun _ => ?_) | exact True.intro | refine And.intro ?_ ?_) <;> try conv => cbv)); all_goals try exact fx)
  have hz1 : b.length ≤ 1048576 := lo
  obtain ⟨r1, hr1⟩ := opq (if (1048576 : Int) - (toEHis a : Nat) < 0 then -1 else (1048576 : Int) - (toEHis a : Nat))
  all_goals (
    refine callx hD hu hC (x_szHistory a 1048576 r1 lo (h0.1) hr1) ?_
    ((try conv => cbv); (repeat' (first | with_reducible exact mK hD | (with_reducible first | refine mS hD ?_ | refine mJ hL ?_ | refine mT hD ?_ | refine mF hD ?_ | refine mB hD (fun _ => ?_) (fun _ => ?_) | exact True.intro | refine And.intro ?_ ?_) <;> try conv => cbv)); all_goals try exact fx)
    all_goals try ((subst hD hu; (try simp only [std, uid, rR, rB, rT, rN, rClu, rCel, rSnp, rKey, rCluS, rCelS, lR, lB, lT, lN, lClu, lCel, eL, dClu, dCel, dSnp, dKey, Int.toNat_natCast, Int.ofNat_eq_natCast, markL_len, mkR_len, mkB_len, mkN_len, mvHis]) <;> rfl)))
  have hz0 : toEHis a ≤ 1048576 := lo
  have hb0 : bdEHis 1000000000 a := boEHis _ _ (by omega)
  have hc0 := ccVHis a
  have ht0 : toEHis (addH a b) ≤ 1000000000 := Nat.le_trans (addH_tot a b) (by omega)
  have hbr0 : bdEHis 1000000000 (addH a b) := boEHis _ _ ht0
  have hcr0 := ccVHis (addH a b)
  all_goals (
    refine callx hD hu hC (x_toHistory a hb0) ?_
    ((try conv => cbv); (repeat' (first | with_reducible exact mK hD | (with_reducible first | refine mS hD ?_ | refine mJ hL ?_ | refine mT hD ?_ | refine mF hD ?_ | refine mB hD (fun _ => ?_) (fun _ => ?_) | exact True.intro | refine And.intro ?_ ?_) <;> try conv => cbv)); all_goals try exact fx)
    all_goals try ((subst hD hu; (try simp only [std, uid, rR, rB, rT, rN, rClu, rCel, rSnp, rKey, rCluS, rCelS, lR, lB, lT, lN, lClu, lCel, eL, dClu, dCel, dSnp, dKey, Int.toNat_natCast, Int.ofNat_eq_natCast, markL_len, mkR_len, mkB_len, mkN_len, mvHis]) <;> rfl)))
  all_goals (
    refine callx hD hu hC (x_specAdd a b (bmEHis _ _ _ (by omega) (boEHis _ a hz0)) h0.2 (by omega)) ?_
    ((try conv => cbv); (repeat' (first | with_reducible exact mK hD | (with_reducible first | refine mS hD ?_ | refine mJ hL ?_ | refine mT hD ?_ | refine mF hD ?_ | refine mB hD (fun _ => ?_) (fun _ => ?_) | exact True.intro | refine And.intro ?_ ?_) <;> try conv => cbv)); all_goals try exact fx)
    all_goals try ((subst hD hu; (try simp only [std, uid, rR, rB, rT, rN, rClu, rCel, rSnp, rKey, rCluS, rCelS, lR, lB, lT, lN, lClu, lCel, eL, dClu, dCel, dSnp, dKey, Int.toNat_natCast, Int.ofNat_eq_natCast, markL_len, mkR_len, mkB_len, mkN_len, mvHis]) <;> rfl)))
  all_goals (
    refine callx hD hu hC (x_toHistory a hb0) ?_
    ((try conv => cbv); (repeat' (first | with_reducible exact mK hD | (with_reducible first | refine mS hD ?_ | refine mJ hL ?_ | refine mT hD ?_ | refine mF hD ?_ | refine mB hD (fun _ => ?_) (fun _ => ?_) | exact True.intro | refine And.intro ?_ ?_) <;> try conv => cbv)); all_goals try exact fx)
    all_goals try ((subst hD hu; (try simp only [std, uid, rR, rB, rT, rN, rClu, rCel, rSnp, rKey, rCluS, rCelS, lR, lB, lT, lN, lClu, lCel, eL, dClu, dCel, dSnp, dKey, Int.toNat_natCast, Int.ofNat_eq_natCast, markL_len, mkR_len, mkB_len, mkN_len, mvHis]) <;> rfl)))
  all_goals (
    refine callx hD hu hC (x_implAdd a b (bmEHis _ _ _ (by omega) (boEHis _ a hz0)) h0.2 (by omega)) ?_
    ((try conv => cbv); (repeat' (first | with_reducible exact mK hD | (with_reducible first | refine mS hD ?_ | refine mJ hL ?_ | refine mT hD ?_ | refine mF hD ?_ | refine mB hD (fun _ => ?_) (fun _ => ?_) | exact True.intro | refine And.intro ?_ ?_) <;> try conv => cbv)); all_goals try exact fx)
    all_goals try ((subst hD hu; (try simp only [std, uid, rR, rB, rT, rN, rClu, rCel, rSnp, rKey, rCluS, rCelS, lR, lB, lT, lN, lClu, lCel, eL, dClu, dCel, dSnp, dKey, Int.toNat_natCast, Int.ofNat_eq_natCast, markL_len, mkR_len, mkB_len, mkN_len, mvHis]) <;> rfl)))
  all_goals (
    refine callx hD hu hC (x_eqHistory (addH a b) hbr0) ?_
    ((try conv => cbv); (repeat' (first | with_reducible exact mK hD | (with_reducible first | refine mS hD ?_ | refine mJ hL ?_ | refine mT hD ?_ | refine mF hD ?_ | refine mB hD (fun _ => ?_) (fun _ => ?_) | exact True.intro | refine And.intro ?_ ?_) <;> try conv => cbv)); all_goals try exact fx)
    all_goals try ((subst hD hu; (try simp only [std, uid, rR, rB, rT, rN, rClu, rCel, rSnp, rKey, rCluS, rCelS, lR, lB, lT, lN, lClu, lCel, eL, dClu, dCel, dSnp, dKey, Int.toNat_natCast, Int.ofNat_eq_natCast, markL_len, mkR_len, mkB_len, mkN_len, mvHis]) <;> rfl)))
  all_goals (
    refine callx hD hu hC (x_toHistory a hb0) ?_
    ((try conv => cbv); (repeat' (first | with_reducible exact mK hD | (with_reducible first | refine mS hD ?_ | refine mJ hL ?_ | refine mT hD ?_ | refine mF hD ?_ | refine mB hD (fun _ => ?_) (fun _ => ?_) | exact True.intro | refine And.intro ?_ ?_) <;> try conv => cbv)); all_goals try exact fx)
    all_goals try ((subst hD hu; (try simp only [std, uid, rR, rB, rT, rN, rClu, rCel, rSnp, rKey, rCluS, rCelS, lR, lB, lT, lN, lClu, lCel, eL, dClu, dCel, dSnp, dKey, Int.toNat_natCast, Int.ofNat_eq_natCast, markL_len, mkR_len, mkB_len, mkN_len, mvHis]) <;> rfl)))
  all_goals (
    refine callx hD hu hC (x_eqHistory a hb0) ?_
    ((try conv => cbv); (repeat' (first | with_reducible exact mK hD | (with_reducible first | refine mS hD ?_ | refine mJ hL ?_ | refine mT hD ?_ | refine mF hD ?_ | refine mB hD (fun _ => ?_) (fun _ => ?_) | exact True.intro | refine And.intro ?_ ?_) <;> try conv => cbv)); all_goals try exact fx)
    all_goals try ((subst hD hu; (try simp only [std, uid, rR, rB, rT, rN, rClu, rCel, rSnp, rKey, rCluS, rCelS, lR, lB, lT, lN, lClu, lCel, eL, dClu, dCel, dSnp, dKey, Int.toNat_natCast, Int.ofNat_eq_natCast, markL_len, mkR_len, mkB_len, mkN_len, mvHis]) <;> rfl)))
  all_goals (
    refine callx hD hu hC (x_markHistory a (1) (1 + (cvHis a : Nat)) (by omega) hb0 rfl) ?_
    ((try conv => cbv); (repeat' (first | with_reducible exact mK hD | (with_reducible first | refine mS hD ?_ | refine mJ hL ?_ | refine mT hD ?_ | refine mF hD ?_ | refine mB hD (fun _ => ?_) (fun _ => ?_) | exact True.intro | refine And.intro ?_ ?_) <;> try conv => cbv)); all_goals try exact fx)
    all_goals try ((subst hD hu; (try simp only [std, uid, rR, rB, rT, rN, rClu, rCel, rSnp, rKey, rCluS, rCelS, lR, lB, lT, lN, lClu, lCel, eL, dClu, dCel, dSnp, dKey, Int.toNat_natCast, Int.ofNat_eq_natCast, markL_len, mkR_len, mkB_len, mkN_len, mvHis]) <;> rfl)))
  all_goals (
    refine callx hD hu hC (x_eqHistory (addH a b) hbr0) ?_
    ((try conv => cbv); (repeat' (first | with_reducible exact mK hD | (with_reducible first | refine mS hD ?_ | refine mJ hL ?_ | refine mT hD ?_ | refine mF hD ?_ | refine mB hD (fun _ => ?_) (fun _ => ?_) | exact True.intro | refine And.intro ?_ ?_) <;> try conv => cbv)); all_goals try exact fx)
    all_goals try ((subst hD hu; (try simp only [std, uid, rR, rB, rT, rN, rClu, rCel, rSnp, rKey, rCluS, rCelS, lR, lB, lT, lN, lClu, lCel, eL, dClu, dCel, dSnp, dKey, Int.toNat_natCast, Int.ofNat_eq_natCast, markL_len, mkR_len, mkB_len, mkN_len, mvHis]) <;> rfl)))
  all_goals (
    refine callx hD hu hC (x_markHistory (addH a b) (1) (1 + (cvHis (addH a b) : Nat)) (by omega) hbr0 rfl) ?_
    ((try conv => cbv); (repeat' (first | with_reducible exact mK hD | (with_reducible first | refine mS hD ?_ | refine mJ hL ?_ | refine mT hD ?_ | refine mF hD ?_ | refine mB hD (fun _ => ?_) (fun _ => ?_) | exact True.intro | refine And.intro ?_ ?_) <;> try conv => cbv)); all_goals try exact fx)
    all_goals try ((subst hD hu; (try simp only [std, uid, rR, rB, rT, rN, rClu, rCel, rSnp, rKey, rCluS, rCelS, lR, lB, lT, lN, lClu, lCel, eL, dClu, dCel, dSnp, dKey, Int.toNat_natCast, Int.ofNat_eq_natCast, markL_len, mkR_len, mkB_len, mkN_len, mvHis]) <;> rfl)))
  all_goals (
    refine callx hD hu hC (x_heldHistory (addH a b) (1) (1 + (cvHis (addH a b) : Nat)) (by omega) hbr0 rfl) ?_
    ((try conv => cbv); (repeat' (first | with_reducible exact mK hD | (with_reducible first | refine mS hD ?_ | refine mJ hL ?_ | refine mT hD ?_ | refine mF hD ?_ | refine mB hD (fun _ => ?_) (fun _ => ?_) | exact True.intro | refine And.intro ?_ ?_) <;> try conv => cbv)); all_goals try exact fx)
    all_goals try ((subst hD hu; (try simp only [std, uid, rR, rB, rT, rN, rClu, rCel, rSnp, rKey, rCluS, rCelS, lR, lB, lT, lN, lClu, lCel, eL, dClu, dCel, dSnp, dKey, Int.toNat_natCast, Int.ofNat_eq_natCast, markL_len, mkR_len, mkB_len, mkN_len, mvHis]) <;> rfl)))
  all_goals (
    refine callx hD hu hC (x_toHistory a hb0) ?_
    ((try conv => cbv); (repeat' (first | with_reducible exact mK hD | (with_reducible first | refine mS hD ?_ | refine mJ hL ?_ | refine mT hD ?_ | refine mF hD ?_ | refine mB hD (fun _ => ?_) (fun _ => ?_) | exact True.intro | refine And.intro ?_ ?_) <;> try conv => cbv)); all_goals try exact fx)
    all_goals try ((subst hD hu; (try simp only [std, uid, rR, rB, rT, rN, rClu, rCel, rSnp, rKey, rCluS, rCelS, lR, lB, lT, lN, lClu, lCel, eL, dClu, dCel, dSnp, dKey, Int.toNat_natCast, Int.ofNat_eq_natCast, markL_len, mkR_len, mkB_len, mkN_len, mvHis]) <;> rfl)))
  all_goals (
    refine callx hD hu hC (x_implAdd a b (bmEHis _ _ _ (by omega) (boEHis _ a hz0)) h0.2 (by omega)) ?_
    ((try conv => cbv); (repeat' (first | with_reducible exact mK hD | (with_reducible first | refine mS hD ?_ | refine mJ hL ?_ | refine mT hD ?_ | refine mF hD ?_ | refine mB hD (fun _ => ?_) (fun _ => ?_) | exact True.intro | refine And.intro ?_ ?_) <;> try conv => cbv)); all_goals try exact fx)
    all_goals try ((subst hD hu; (try simp only [std, uid, rR, rB, rT, rN, rClu, rCel, rSnp, rKey, rCluS, rCelS, lR, lB, lT, lN, lClu, lCel, eL, dClu, dCel, dSnp, dKey, Int.toNat_natCast, Int.ofNat_eq_natCast, markL_len, mkR_len, mkB_len, mkN_len, mvHis]) <;> rfl)))
  all_goals (
    refine callx hD hu hC (x_eqHistory (addH a b) hbr0) ?_
    ((try conv => cbv); (repeat' (first | with_reducible exact mK hD | (with_reducible first | refine mS hD ?_ | refine mJ hL ?_ | refine mT hD ?_ | refine mF hD ?_ | refine mB hD (fun _ => ?_) (fun _ => ?_) | exact True.intro | refine And.intro ?_ ?_) <;> try conv => cbv)); all_goals try exact fx)
    all_goals try ((subst hD hu; (try simp only [std, uid, rR, rB, rT, rN, rClu, rCel, rSnp, rKey, rCluS, rCelS, lR, lB, lT, lN, lClu, lCel, eL, dClu, dCel, dSnp, dKey, Int.toNat_natCast, Int.ofNat_eq_natCast, markL_len, mkR_len, mkB_len, mkN_len, mvHis]) <;> rfl)))
  all_goals (
    refine callx hD hu hC (x_heldHistory (addH a b) (1) (1 + (cvHis (addH a b) : Nat)) (by omega) hbr0 rfl) ?_
    ((try conv => cbv); (repeat' (first | with_reducible exact mK hD | (with_reducible first | refine mS hD ?_ | refine mJ hL ?_ | refine mT hD ?_ | refine mF hD ?_ | refine mB hD (fun _ => ?_) (fun _ => ?_) | exact True.intro | refine And.intro ?_ ?_) <;> try conv => cbv)); all_goals try exact fx)
    all_goals try ((subst hD hu; (try simp only [std, uid, rR, rB, rT, rN, rClu, rCel, rSnp, rKey, rCluS, rCelS, lR, lB, lT, lN, lClu, lCel, eL, dClu, dCel, dSnp, dKey, Int.toNat_natCast, Int.ofNat_eq_natCast, markL_len, mkR_len, mkB_len, mkN_len, mvHis]) <;> rfl)))
end Go.AW
