/- The abstract calculus, part 14: append, its soundness. -/
import Derived.Test.YtfidphaoddenlaaAw13
set_option linter.unusedVariables false
set_option linter.unusedSimpArgs false
namespace Go.AW

section
variable {P : Program} {w0 w w' : World} {mine : FP} {γ γ' : Ghost} {σ : St} {a : Act} {k : V → St → Prop} {E : Env}

theorem rv_map {γ γ' : Ghost} {w : World} {h : Leaf → Leaf} (hl : ∀ l u, RLeaf γ w l u → RLeaf γ' w (h l) u) {v : V} {u : Value} (hr : RV γ w v u) : RV γ' w (mapV h v) u := by
  have h1 : ∀ (v : V1) (u : Value), RV1 γ w v u → RV1 γ' w (mapV1 h v) u := by
    intro v u hr
    cases v with
    | lf l => exact hl l u hr
    | ag cs =>
      obtain ⟨us, hu, hc⟩ := hr
      refine ⟨us, hu, by simp [hc.1], fun j l hj => ?_⟩
      simp only [List.getElem?_map, Option.map_eq_some_iff] at hj
      obtain ⟨l0, hl0, rfl⟩ := hj
      obtain ⟨x, hx, hx2⟩ := hc.2 j l0 hl0
      exact ⟨x, hx, hl _ _ hx2⟩
  cases v with
  | one v => exact h1 v u hr
  | tup vs =>
    obtain ⟨us, hu, hlen, hc⟩ := hr
    refine ⟨us, hu, by simp [hlen], fun j l hj => ?_⟩
    simp only [List.getElem?_map, Option.map_eq_some_iff] at hj
    obtain ⟨l0, hl0, rfl⟩ := hj
    obtain ⟨x, hx, hx2⟩ := hc j l0 hl0
    exact ⟨x, hx, h1 _ _ hx2⟩
  | bad => trivial
theorem zeroCells_size (z : Array Value) (n : Nat) : (Builtin.zeroCells z n).size = n * z.size := by simp [Builtin.zeroCells]

theorem cat_get {old new : List Value} {rest : Array Value} {j : Nat} (h : j < old.length + new.length) : ((old ++ new).toArray ++ rest)[j]? = (old ++ new)[j]? := by
  rw [Array.getElem?_append_left (by simpa using h)]
  simp

theorem row_lt {i n sz j : Nat} (hi : i < n) (hj : j < sz) : i * sz + j < n * sz := by
  have : i * sz + sz ≤ n * sz := by rw [← Nat.succ_mul]; exact Nat.mul_le_mul_right _ hi
  omega

theorem app_fin {d t p af g} {s x : Operand} {t1 t2 : TypeId} {v : Value} (hr : (Builtin.append_ #[t1, t2] t #[a.eval s, a.eval x]).run P w = .ok v w') {V : V} {σ' : St} {γ' : Ghost} (hk : k V σ') (hR : Rel w0 mine γ' σ' a w') (hv : RV γ' w' V v) :
    Does P w0 mine a w ⟨d, .call { callee := .builtin .append, args := #[s, x], argTypes := #[t1, t2] }, t, p, af, g⟩ k := by
  refine .inl ⟨v, w', ?_, V, σ', γ', hk, hR, hv⟩
  simp [execOp, resolve, invoke, builtin, hr]

theorem does_append (hE : EnvOk P E) (R : Rel w0 mine γ σ a w) {d ty p af gd t t2} {s x : Operand} (h2 : P.underlying t2 = some .string ∨ ∃ e2, P.underlying t2 = some (.slice e2))
    (h : appendP std E σ t (evA σ s) (evA σ x) k) : Does P w0 mine a w ⟨d, .call { callee := .builtin .append, args := #[s, x], argTypes := #[t, t2] }, ty, p, af, gd⟩ k := by
  unfold appendP at h
  split at h
  case h_2 => exact h.elim
  rename_i e hk
  split at h
  case h_2 => exact h.elim
  rename_i sz hke hsz
  change (E e).size = sz + 1 at hsz
  obtain ⟨hby, h⟩ := h
  have hby := Nat.le_of_ble_eq_true hby
  have hT := hE t (by rw [hk]; simp)
  have hTe := hE e (okK_ne hke)
  obtain ⟨i, hi, hisz, hib, z, hz, hzc⟩ := hTe.run_info
  rw [hsz] at hisz
  have hzs : z.cells.size = sz + 1 := by rw [← hsz, ← hTe.len, ← hzc]; simp
  obtain ⟨m, g, σ1, hf, γ1, new, G, hK, T, S⟩ := rowsIn_sound (P := P) (sz := sz + 1) R (Nat.succ_pos sz) (R.ev x) h
  obtain ⟨ls, σ2, γ2, hK, R1, hls, hfree⟩ := onto_sound T.R (rv_map (fun l u hl => T.leaf l u hl) (R.ev s)) hK
  have hF2 := hfree _ T.free
  have hGf : ∀ i j x, G i j x → (∀ i' oi, look σ2.store i' = some oi → ¬ γ2.fp i' x) ∧ ¬ γ2.ro x ∧ x < w.heap.size ∧ (w0.heap.size ≤ x ∨ mine x) := fun i j x hx => hF2 x ⟨i, j, hx⟩
  have hrow : ∀ i0 j0 (d0 : DV), i0 < m → (g i0)[j0]? = some d0 → i0 * (sz + 1) + j0 < m * (sz + 1) := fun i0 j0 d0 h1 h2 => row_lt h1 (by rw [← S.rlen i0 h1]; exact (List.getElem?_eq_some_iff.mp h2).1)
  split at hK
  · -- a nil slice
    have hsv : a.eval s = .slice none 0 0 := hls.2
    obtain ⟨hroom, hK⟩ := hK
    have hroom : m * (E e).bytes ≤ 140737488355328 := by simpa [std] using hroom
    rcases Nat.eq_zero_or_pos m with h0 | h0
    · subst h0
      have hnew : new = [] := List.eq_nil_of_length_eq_zero (by rw [S.nlen]; simp)
      have hrun := run_append_in (P := P) (w := w) t t2 ty e (sz + 1) none 0 0 0 (a.eval x) new (hT.sl hk) h2 (hsz ▸ hTe.run_size w) S.len (S.run w rfl) (by omega) w (by simp) (fun _ => rfl)
      refine app_fin (by rw [hsv]; exact hrun) hK (R1.fresh2 (fun b o h => h) R1.st.keep (Nat.le_refl _) ⟨none, 0, sz + 1, 0, 0⟩ (fun _ => False) _ ⟨rfl, rfl, rfl⟩ (fun b hb => hb.elim)) ?_
      exact ⟨rfl, ⟨none, 0, sz + 1, 0, 0⟩, none, 0, by simp [Ghost.add], rfl, Nat.le_refl _, by simp, by simp, fun h => absurd h (Nat.lt_irrefl 0)⟩
    · obtain ⟨cap, rest, hcap, hrest, hrun⟩ := run_append_new (P := P) (w := w) t t2 ty e i z none 0 0 m (a.eval x) [] new (hT.sl hk) h2 hi hz S.len (by rw [hisz]; exact S.run) (fun w1 _ => by simp [Builtin.firstCells]) (by omega) (by omega) (by rw [hib]; simpa using hroom)
      simp only [Nat.zero_add, List.nil_append] at hrun hcap hrest
      obtain ⟨hx1, hx2, hx3, hx4, hx5, hx6, hx7⟩ := drew_alloc w (.cells (new.toArray ++ rest) e)
      have hsize : (new.toArray ++ rest).size = cap * (sz + 1) := by
        rw [Array.size_append, hrest, zeroCells_size, hzs]
        have : new.toArray.size = m * (sz + 1) := by simpa using S.nlen
        rw [this, ← Nat.add_mul]
        congr 1
        omega
      let γ' := γ2.add σ2.next ⟨some w.heap.size, 0, sz + 1, cap * (sz + 1), m⟩ (fun b => b = w.heap.size ∨ ∃ i j, G i j b)
      have hR : Rel w0 mine γ' (mkObj σ2 (.deep (sz + 1) m g)) a (w.drew.alloc (.cells (new.toArray ++ rest) e)) := by
        refine R1.fresh2 hx1 (R1.st.keep.later (by omega) hx4 hx5 hx6 hx7) (by omega) _ _ _ ?_ ?_
        · refine ⟨rfl, rfl, Nat.succ_pos _, new.toArray ++ rest, e, (0, 0), fun i0 j0 => new.getD (i0 * (sz + 1) + j0) undef, G, by simp [Ghost.add], hx3, .inl (Nat.le_refl _), by rw [hsize]; simp, Nat.mul_le_mul_right _ hcap, S.rlen, ?_, S.disj, ?_⟩
          · intro i0 j0 x0 hx0
            have := (hGf i0 j0 x0 hx0).2.2.1
            exact ⟨by simp only [Ghost.add, if_true]; exact .inr ⟨i0, j0, hx0⟩, by omega⟩
          · intro i0 j0 d0 hi0 hd0
            obtain ⟨v, hv, ho⟩ := S.val i0 j0 d0 hi0 hd0
            have hlt := hrow i0 j0 d0 hi0 hd0
            have e1 : new.getD (i0 * (sz + 1) + j0) undef = v := by rw [List.getD_eq_getElem?_getD, hv]; rfl
            dsimp only
            rw [e1]
            refine ⟨?_, ho.mono (fun _ hb => hb) (fun b o _ hb => hx1 b o hb)⟩
            rw [Array.getElem?_append_left (by simp [S.nlen]; omega)]
            simpa using hv
        · intro b hb
          rcases hb with rfl | ⟨i, j, hf⟩
          · refine ⟨fun i' oi hi' hf => ?_, fun hro => ?_, by omega, .inl R.st.keep.size⟩
            · have := (R1.st.fp i' oi hi' _ hf).1
              omega
            · have := R1.st.rolt _ hro
              omega
          · have := hGf i j b hf
            exact ⟨this.1, this.2.1, by have := this.2.2.1; omega, this.2.2.2⟩
      refine app_fin (by rw [hsv]; exact hrun) hK hR ?_
      exact ⟨rfl, ⟨some w.heap.size, 0, sz + 1, cap * (sz + 1), m⟩, _, cap, by simp [γ', Ghost.add], rfl, hcap, by simp, by simp, fun _ => ⟨w.heap.size, rfl, by simp⟩⟩
  · -- an own slice
    rename_i id off len
    split at hK
    case h_2 => exact hK.elim
    rename_i sz' n f hst
    obtain ⟨hze, hend, hroom, hK⟩ := hK
    have hze := Nat.eq_of_beq_eq_true hze
    subst hze
    have hend : off + len ≤ n := by simpa [std] using hend
    have hroom : (len + m) * (E e).bytes ≤ 140737488355328 := by simpa [std] using hroom
    obtain ⟨g1, A, cap, hg, hsv, hle, hgn, htot, had⟩ := hls.2
    obtain ⟨g1', hg', ho⟩ := R1.st.objs id _ hst
    rw [hg] at hg'; cases hg'
    have hg1 : γ2.g id = some g1 := hg
    have hfpid := R1.st.fp id _ hst
    have hcross : ∀ i j x, G i j x → ¬ γ2.fp id x := fun i j x hx => (hGf i j x hx).1 id _ hst
    let F : FP := fun x => γ2.fp id x ∨ ∃ i j, G i j x
    have hF0 : ∀ b, F b → (γ2.fp id b ∨ (∀ i oi, look σ2.store i = some oi → ¬ γ2.fp i b) ∧ ¬ γ2.ro b) ∧ b < w.heap.size ∧ (w0.heap.size ≤ b ∨ mine b) := by
      intro b hb
      rcases hb with hb | ⟨i, j, hb⟩
      · exact ⟨.inl hb, hfpid b hb⟩
      · have := hGf i j b hb
        exact ⟨.inr ⟨this.1, this.2.1⟩, this.2.2⟩
    by_cases hfit : len + m ≤ cap
    · rcases Nat.eq_zero_or_pos cap with h0 | h0
      · -- nothing at all
        have hl0 : len = 0 := by omega
        have hm0 : m = 0 := by omega
        subst h0 hl0 hm0
        have hnew : new = [] := List.eq_nil_of_length_eq_zero (by rw [S.nlen]; simp)
        have hrun := run_append_in (P := P) (w := w) t t2 ty e (sz + 1) A 0 0 0 (a.eval x) new (hT.sl hk) h2 (hsz ▸ hTe.run_size w) S.len (S.run w rfl) (by omega) w (fun ad _ => by rw [hnew]; rfl) (fun _ => rfl)
        have hR := R1.write (o' := .deep (sz + 1) 0 (std.catF 0 (shF std off f) 0 g)) (g' := ⟨none, 0, sz + 1, 0, 0⟩) (F := fun _ => False) (w' := w) (fun i => i = id) (fun i => i = id) (killA id) (kills_A id) hst hg1 (fun h => absurd rfl h) (fun h => absurd rfl h) (fun b hb => hb.elim)
          (fun b x _ h => h) (Nat.le_refl _) R1.st.keep (by exact ⟨rfl, rfl, rfl⟩)
        refine app_fin (by rw [hsv]; exact hrun) hK hR ?_
        exact ⟨rfl, ⟨none, 0, sz + 1, 0, 0⟩, A, 0, by simp [Ghost.grow], rfl, Nat.le_refl _, by simp [std], by simp, fun h => absurd h (Nat.lt_irrefl 0)⟩
      · -- in place
        obtain ⟨b, hb, hA⟩ := had h0
        subst hA
        simp only [RObj, hb] at ho
        obtain ⟨hn, hgs, hs0', cs, t', fr, vs, G1, hfp, hh, hunf, htot', hnt, hlen, hG, hGd, hv⟩ := ho
        rw [hgs] at htot hnt hlen hv
        have hcaps : (off + cap) * (sz + 1) = off * (sz + 1) + len * (sz + 1) + (cap - len) * (sz + 1) := by rw [← Nat.add_mul, ← Nat.add_mul]; congr 1; omega
        have hms : m * (sz + 1) ≤ (cap - len) * (sz + 1) := Nat.mul_le_mul_right _ (by omega)
        obtain ⟨cs', hr, hcs, hc⟩ := run_storeCells_U P b (g1.base + off * (sz + 1) + len * (sz + 1)) t' fr new 0 cs w hh hunf (by rw [S.nlen]; omega) S.one
        rw [S.nlen] at hc
        simp only [Nat.add_zero] at hc
        have hrun := run_append_in (P := P) (w := w) t t2 ty e (sz + 1) (some ⟨b, g1.base + off * g1.sz, none⟩) len cap m (a.eval x) new (hT.sl hk) h2 (hsz ▸ hTe.run_size w) S.len (S.run w rfl) hfit (w.setRow b cs')
          (fun ad had => by cases had; rw [add_at, hgs]; exact hr) (fun h => by cases h)
        have hblt := hfpid b hfp
        have hbw : b < w.heap.size := hblt.1
        have hext : ∀ b' (x : Go.Obj), ¬ γ2.fp id b' → w.heap[b']? = some x → (w.setRow b cs').heap[b']? = some x := fun b' x hne hx => by
          rw [setRow_other w b b' cs' (by rintro rfl; exact hne hfp)]; exact hx
        have hother : ∀ b' (x : Go.Obj), b' ≠ b → w.heap[b']? = some x → (w.setRow b cs').heap[b']? = some x := fun b' x hne hx => by
          rw [setRow_other w b b' cs' hne]; exact hx
        obtain ⟨c1, vs', G', c2, c3, c4⟩ := cat_rows (w' := w.setRow b cs') (F := F) (b := b) (cs := cs') (base := g1.base + off * (sz + 1)) (sz := sz + 1) (len := len) (m := m) (f := shF std off f) (g := g) (G1 := fun i j => G1 (off + i) j) (G2 := G)
          (fun i0 h1 => by rw [shF_std]; exact hlen _ (by omega)) S.rlen (fun i0 j0 x0 hx0 => ⟨.inl (hG _ _ x0 hx0).1, (hG _ _ x0 hx0).2⟩)
          (fun i0 j0 x0 hx0 => ⟨.inr ⟨i0, j0, hx0⟩, by rintro rfl; exact hcross _ _ _ hx0 hfp⟩)
          (fun i0 j0 i1 j1 x0 h1 h2 => by have := hGd _ _ _ _ x0 h1 h2; omega) S.disj
          (fun i0 j0 i1 j1 x0 h1 h2 => hcross _ _ _ h2 (hG _ _ x0 h1).1)
          (fun i0 j0 d0 hi0 hd0 => by
            rw [shF_std] at hd0
            obtain ⟨h1, h3⟩ := hv (off + i0) j0 d0 (by omega) hd0
            have hj0 : j0 < sz + 1 := by rw [← hlen (off + i0) (by omega)]; exact (List.getElem?_eq_some_iff.mp hd0).1
            have hlt := row_lt hi0 hj0
            refine ⟨_, ?_, h3.mono (fun _ h => h) (fun b' x hb' hx => hother b' x (hG _ _ b' hb').2 hx)⟩
            rw [hc, if_neg (by omega), ← h1]
            congr 1
            rw [Nat.add_mul]
            omega)
          (fun i0 j0 d0 hi0 hd0 => by
            obtain ⟨v, hv0, ho0⟩ := S.val i0 j0 d0 hi0 hd0
            have hlt := hrow i0 j0 d0 hi0 hd0
            refine ⟨v, ?_, ho0.mono (fun _ h => h) (fun b' x hb' hx => ?_)⟩
            · have e1 : (len + i0) * (sz + 1) = len * (sz + 1) + i0 * (sz + 1) := Nat.add_mul _ _ _
              rw [hc, if_pos (by omega), ← hv0]
              congr 1
              omega
            · exact hother b' x (by rintro rfl; exact hcross _ _ _ hb' hfp) hx)
        have hoc : off * (sz + 1) + cap * (sz + 1) = (off + cap) * (sz + 1) := (Nat.add_mul _ _ _).symm
        have hR := R1.write (o' := .deep (sz + 1) (std.addN len m) (std.catF len (shF std off f) m g)) (g' := ⟨some b, g1.base + off * (sz + 1), sz + 1, cap * (sz + 1), len + m⟩) (F := F) (w' := w.setRow b cs') (fun i => i = id) (fun i => i = id) (killA id) (kills_A id) hst hg1 (fun h => absurd rfl h) (fun h => absurd rfl h)
          (fun b' hb' => by simpa using hF0 b' hb') hext (by simp) (keep_setRow R1.st.keep cs' hblt.2) (by
            refine ⟨rfl, rfl, Nat.succ_pos _, cs', t', fr, vs', G', by simp only [Ghost.grow, if_true]; exact .inl hfp, setRow_heap w b cs cs' t' fr hh, by rw [hcs]; exact hunf, by rw [hcs]; dsimp only; omega, Nat.mul_le_mul_right _ hfit, c1, ?_, c3, c4⟩
            simp only [Ghost.grow, if_true]
            exact c2)
        refine app_fin (by rw [hsv]; exact hrun) hK hR ?_
        exact ⟨rfl, ⟨some b, g1.base + off * (sz + 1), sz + 1, cap * (sz + 1), len + m⟩, _, cap, by simp [Ghost.grow], rfl, hfit, by simp [std], by simp, fun _ => ⟨b, rfl, by simp [hgs]⟩⟩
    · -- a new row
      have hold : ∃ old : List Value, old.length = len * (sz + 1) ∧ (∀ w1 : World, w1.heap = w.heap → (Builtin.firstCells (sz + 1) len (.slice A len cap)).run P w1 = .ok old.toArray w1) ∧
          ∃ G1 : Nat → Nat → FP, (∀ i0, i0 < len → (shF std off f i0).length = sz + 1) ∧ (∀ i0 j0 x0, G1 i0 j0 x0 → γ2.fp id x0) ∧ (∀ i0 j0 i1 j1 x0, G1 i0 j0 x0 → G1 i1 j1 x0 → i0 = i1 ∧ j0 = j1) ∧
          ∀ i0 j0 d0, i0 < len → (shF std off f i0)[j0]? = some d0 → ∃ v, old[i0 * (sz + 1) + j0]? = some v ∧ OwnT w (G1 i0 j0) v d0 := by
        rcases Nat.eq_zero_or_pos cap with h0 | h0
        · have hl0 : len = 0 := by omega
          subst h0 hl0
          refine ⟨[], by simp, fun w1 _ => ?_, fun _ _ _ => False, fun i0 hi0 => absurd hi0 (Nat.not_lt_zero i0), fun i0 j0 x0 hx => hx.elim, fun i0 j0 i1 j1 x0 hx => hx.elim, fun i0 j0 d0 hi0 => absurd hi0 (Nat.not_lt_zero i0)⟩
          cases A with
          | none => simp [Builtin.firstCells]
          | some ad =>
            have := run_loadCells_list (P := P) w1 ad [] (by simp)
            simpa [Builtin.firstCells] using this
        · obtain ⟨b, hb, hA⟩ := had h0
          subst hA
          simp only [RObj, hb] at ho
          obtain ⟨hn, hgs, hs0', cs, t', fr, vs, G1, hfp, hh, hunf, htot', hnt, hlen, hG, hGd, hv⟩ := ho
          rw [hgs] at htot hnt hlen hv
          let old := (List.range (len * (sz + 1))).map fun q => vs (off + q / (sz + 1)) (q % (sz + 1))
          have hlold : old.length = len * (sz + 1) := by simp [old]
          have hgold : ∀ i0 j0, i0 < len → j0 < sz + 1 → old[i0 * (sz + 1) + j0]? = some (vs (off + i0) j0) := by
            intro i0 j0 hi0 hj0
            simp only [old, List.getElem?_map, List.getElem?_range (row_lt hi0 hj0), Option.map_some, (divmod hj0).1, (divmod hj0).2]
          have hd0 : ∀ i0 j0, i0 < len → j0 < sz + 1 → ∃ d0, (f (off + i0))[j0]? = some d0 := fun i0 j0 hi0 hj0 => ⟨_, List.getElem?_eq_getElem (by rw [hlen (off + i0) (by omega)]; exact hj0)⟩
          refine ⟨old, hlold, fun w1 hw1 => ?_, fun i0 j0 => G1 (off + i0) j0, fun i0 hi0 => by rw [shF_std]; exact hlen _ (by omega), fun i0 j0 x0 hx => (hG _ _ x0 hx).1, fun i0 j0 i1 j1 x0 h1 h2 => by have := hGd _ _ _ _ x0 h1 h2; omega, ?_⟩
          · have := run_loadCells_list (P := P) w1 ⟨b, g1.base + off * g1.sz, none⟩ old (by
              intro q v hq
              have hq' : q < len * (sz + 1) := by have := (List.getElem?_eq_some_iff.mp hq).1; rwa [hlold] at this
              have hqi : q / (sz + 1) < len := (Nat.div_lt_iff_lt_mul (Nat.succ_pos _)).mpr hq'
              have hqj : q % (sz + 1) < sz + 1 := Nat.mod_lt _ (Nat.succ_pos _)
              have hqe : q / (sz + 1) * (sz + 1) + q % (sz + 1) = q := Nat.div_add_mod' q (sz + 1)
              obtain ⟨d0, hd0⟩ := hd0 _ _ hqi hqj
              have h1 := (hv _ _ d0 (by omega) hd0).1
              have h2 := hgold _ _ hqi hqj
              rw [hqe, hq] at h2
              cases h2
              rw [add_at, cell_heap hw1, cell_at hh, ← h1, hgs]
              congr 1
              rw [Nat.add_mul]
              omega)
            rw [hlold] at this
            simpa [Builtin.firstCells] using this
          · intro i0 j0 d0 hi0 hd0
            rw [shF_std] at hd0
            have hj0 : j0 < sz + 1 := by rw [← hlen (off + i0) (by omega)]; exact (List.getElem?_eq_some_iff.mp hd0).1
            exact ⟨_, hgold i0 j0 hi0 hj0, (hv _ _ d0 (by omega) hd0).2⟩
      obtain ⟨old, hlold, hfold, G1, o1, o2, o3, o4⟩ := hold
      obtain ⟨cap', rest, hcap, hrest, hrun⟩ := run_append_new (P := P) (w := w) t t2 ty e i z A len cap m (a.eval x) old new (hT.sl hk) h2 hi hz S.len (by rw [hisz]; exact S.run) (by rw [hisz]; exact hfold) (by omega) (by omega) (by rw [hib]; exact hroom)
      obtain ⟨hx1, hx2, hx3, hx4, hx5, hx6, hx7⟩ := drew_alloc w (.cells ((old ++ new).toArray ++ rest) e)
      have hsize : ((old ++ new).toArray ++ rest).size = cap' * (sz + 1) := by
        rw [Array.size_append, hrest, zeroCells_size, hzs]
        have : (old ++ new).toArray.size = (len + m) * (sz + 1) := by simp [S.nlen, hlold, Nat.add_mul]
        rw [this, ← Nat.add_mul]
        congr 1
        omega
      let F' : FP := fun x => F x ∨ x = w.heap.size
      have hFlt : ∀ x, F x → x < w.heap.size := fun x hx => (hF0 x hx).2.1
      obtain ⟨c1, vs', G', c2, c3, c4⟩ := cat_rows (w' := w.drew.alloc (.cells ((old ++ new).toArray ++ rest) e)) (F := F') (b := w.heap.size) (cs := (old ++ new).toArray ++ rest) (base := 0) (sz := sz + 1) (len := len) (m := m) (f := shF std off f) (g := g) (G1 := G1) (G2 := G)
        o1 S.rlen (fun i0 j0 x0 hx0 => ⟨.inl (.inl (o2 _ _ x0 hx0)), by have := (hfpid x0 (o2 _ _ x0 hx0)).1; omega⟩)
        (fun i0 j0 x0 hx0 => ⟨.inl (.inr ⟨i0, j0, hx0⟩), by have := (hGf i0 j0 x0 hx0).2.2.1; omega⟩)
        o3 S.disj (fun i0 j0 i1 j1 x0 h1 h2 => hcross _ _ _ h2 (o2 _ _ x0 h1))
        (fun i0 j0 d0 hi0 hd0 => by
          obtain ⟨v, hv0, ho0⟩ := o4 i0 j0 d0 hi0 hd0
          have hlt := row_lt hi0 (show j0 < sz + 1 by rw [← o1 i0 hi0]; exact (List.getElem?_eq_some_iff.mp hd0).1)
          refine ⟨v, ?_, ho0.mono (fun _ h => h) (fun b' x _ hx => hx1 b' x hx)⟩
          rw [cat_get (by omega), List.getElem?_append_left (by omega), Nat.zero_add]
          exact hv0)
        (fun i0 j0 d0 hi0 hd0 => by
          obtain ⟨v, hv0, ho0⟩ := S.val i0 j0 d0 hi0 hd0
          have hlt := hrow i0 j0 d0 hi0 hd0
          have e1 : (len + i0) * (sz + 1) = len * (sz + 1) + i0 * (sz + 1) := Nat.add_mul _ _ _
          refine ⟨v, ?_, ho0.mono (fun _ h => h) (fun b' x _ hx => hx1 b' x hx)⟩
          rw [cat_get (by rw [S.nlen]; omega), List.getElem?_append_right (by omega), ← hv0]
          congr 1
          omega)
      have hR := R1.write (o' := .deep (sz + 1) (std.addN len m) (std.catF len (shF std off f) m g)) (g' := ⟨some w.heap.size, 0, sz + 1, cap' * (sz + 1), len + m⟩) (F := F') (w' := w.drew.alloc (.cells ((old ++ new).toArray ++ rest) e)) (fun i => i = id) (fun i => i = id) (killA id) (kills_A id) hst hg1 (fun h => absurd rfl h) (fun h => absurd rfl h)
        (fun b' hb' => by
          rcases hb' with hb' | rfl
          · have := hF0 b' hb'
            exact ⟨this.1, by omega, this.2.2⟩
          · refine ⟨.inr ⟨fun i' oi hi' hf => ?_, fun hro => ?_⟩, by omega, .inl R.st.keep.size⟩
            · have := (R1.st.fp i' oi hi' _ hf).1
              omega
            · have := R1.st.rolt _ hro
              omega)
        (fun b x _ hx => hx1 b x hx) (by omega) (R1.st.keep.later (by omega) hx4 hx5 hx6 hx7) (by
          refine ⟨rfl, rfl, Nat.succ_pos _, _, e, (0, 0), vs', G', by simp only [Ghost.grow, if_true]; exact .inr rfl, hx3, .inl (Nat.le_refl _), by rw [hsize]; simp, Nat.mul_le_mul_right _ hcap, c1, ?_, c3, c4⟩
          simp only [Ghost.grow, if_true]
          exact c2)
      refine app_fin (by rw [hsv]; exact hrun) hK hR ?_
      exact ⟨rfl, ⟨some w.heap.size, 0, sz + 1, cap' * (sz + 1), len + m⟩, _, cap', by simp [Ghost.grow], rfl, hcap, by simp [std], by simp, fun _ => ⟨w.heap.size, rfl, by simp⟩⟩
  · exact hK.elim
end
end Go.AW
