/- The abstract calculus, part 5: reading memory. -/
import Derived.Test.YtfidphaoddenlaaAw4
set_option linter.unusedVariables false
set_option linter.unusedSimpArgs false
namespace Go.AW

theorem add_at (b o j : Nat) : (⟨b, o, none⟩ : Addr).add j = ⟨b, o + j, none⟩ := by unfold Addr.add; split <;> simp_all
theorem cell_at {w : World} {b : Nat} {cs : Array Value} {t : TypeId} {fr : Nat × Nat} (h : w.heap[b]? = some (.cells cs t fr)) (o : Nat) : w.cell? ⟨b, o, none⟩ = cs[o]? := by
  simp [World.cell?, h]

theorem takeL_spec {α : Type} : ∀ (l : List α) (n : Nat) (r : List α), cutL.takeL l n = some r → r.length = n ∧ ∀ k, k < n → r[k]? = l[k]?
  | l, 0, r, h => by simp [cutL.takeL] at h; subst h; simp
  | [], n + 1, r, h => by simp [cutL.takeL] at h
  | a :: l, n + 1, r, h => by
    simp only [cutL.takeL] at h
    split at h
    · rename_i t ht
      simp at h
      subst h
      obtain ⟨h1, h2⟩ := takeL_spec l n t ht
      refine ⟨by simp [h1], fun k hk => ?_⟩
      cases k with
      | zero => simp
      | succ k => simpa using h2 k (by omega)
    · simp at h
theorem cutL_spec {α : Type} : ∀ (l : List α) (j n : Nat) (r : List α), cutL l j n = some r → r.length = n ∧ ∀ k, k < n → r[k]? = l[j + k]?
  | l, 0, n, r, h => by
    have := takeL_spec l n r (by cases l <;> simpa [cutL] using h)
    simpa using this
  | [], j + 1, n, r, h => by simp [cutL] at h
  | a :: l, j + 1, n, r, h => by
    obtain ⟨h1, h2⟩ := cutL_spec l j n r (by simpa [cutL] using h)
    refine ⟨h1, fun k hk => ?_⟩
    rw [h2 k hk, show j + 1 + k = (j + k) + 1 by omega]
    simp

section
variable {P : Program} {w0 w : World} {mine : FP} {γ : Ghost} {σ : St} {a : Act} {k : V → St → Prop} {E : Env}

theorem RoT.one {F : FP} {v : Value} {d : DV} (h : RoT w F v d) : v.oneCell' = true := by
  cases h with
  | x v h1 => exact h1
  | s v h1 => exact h1
  | nl => rfl
  | bl => rfl
theorem OwnT.one {F : FP} {v : Value} {d : DV} (h : OwnT w F v d) : v.oneCell' = true := h.ro.one

theorem rleaf_ro {u : Value} {d : DV} (h : RoT w γ.ro u d) : RLeaf γ w (roLeaf d) u := by
  refine ⟨h.one, ?_⟩
  cases d with
  | s v => cases h; rfl
  | l z n f => exact h.resz 0
  | x => trivial
theorem rleaf_sn {u : Value} {d : DV} {id : Nat} {g : G1} (hg : γ.g id = some g) (h : RoT w (γ.fp id) u d) : RLeaf γ w (snLeaf id d) u := by
  refine ⟨h.one, ?_⟩
  cases d with
  | s v => cases h; rfl
  | l z n f => exact ⟨⟨g, hg⟩, h.resz 0⟩
  | x => trivial

/-- What lies in a cell is owned as the object tells. -/
theorem at_own {st : List (Nat × Obj)} {nx : Nat} (R : RelS w0 mine γ st nx w) {id i j sz m : Nat} {F : Nat → List DV} {c : Value} {d : DV} (ho : look st id = some (.deep sz m F)) (hc : AtCell γ w id i j c) (hd : (F i)[j]? = some d) :
    ∃ G : FP, OwnT w G c d ∧ ∀ x, G x → γ.fp id x := by
  obtain ⟨g, b, cs, t, fr, hg, hb, hlt, hfp, hh, hcell⟩ := hc
  obtain ⟨g', hg', hr⟩ := R.objs id _ ho
  rw [hg] at hg'; cases hg'
  simp only [RObj, hb] at hr
  obtain ⟨rfl, _, _, cs', t', fr', vs, G, hfp', hh', hun, htot, hn, hlen, hG, hGd, hv⟩ := hr
  rw [hh] at hh'; cases hh'
  obtain ⟨h1, h2⟩ := hv i j d hlt hd
  rw [hcell] at h1; cases h1
  exact ⟨G i j, h2, fun x hx => (hG i j x hx).1⟩
theorem own_view {F : FP} {c : Value} {sz n : Nat} {f : Nat → List DV} (h : OwnT w F c (.l sz n f)) : ∃ A cap, c = .slice A n cap ∧ n ≤ cap ∧ (0 < n → ∃ b o, A = some ⟨b, o, none⟩) := by
  cases h with
  | nl => exact ⟨_, _, rfl, Nat.le_refl _, fun h => absurd h (Nat.lt_irrefl 0)⟩
  | bl _ b off _ cap _ _ cs t fr vs G hF hs hb hu hn => exact ⟨_, _, rfl, hn, fun _ => ⟨_, _, rfl⟩⟩
theorem qLeaves_spec (id i : Nat) : ∀ (l : List DV) (j : Nat), (qLeaves id i j l).length = l.length ∧ ∀ q, (qLeaves id i j l)[q]? = (l[q]?).map (qLeaf id i (j + q))
  | [], j => by simp [qLeaves]
  | d :: l, j => by
    obtain ⟨h1, h2⟩ := qLeaves_spec id i l (j + 1)
    refine ⟨by simp [qLeaves, h1], fun q => ?_⟩
    cases q with
    | zero => simp [qLeaves]
    | succ q => simp only [qLeaves, List.getElem?_cons_succ, h2 q]; rw [show j + 1 + q = j + (q + 1) by omega]
theorem rleaf_q {c : Value} {d : DV} {id i j : Nat} {F : FP} (h : OwnT w F c d) (hc : AtCell γ w id i j c) : RLeaf γ w (qLeaf id i j d) c := by
  refine ⟨h.one, ?_⟩
  cases d with
  | s v => cases h; rfl
  | l z n f => exact ⟨c, hc, rfl, own_view h⟩
  | x => trivial

/-- What 'readAt' tells lies there. -/
theorem readAt_sound (R : RelS w0 mine γ σ.store σ.next w) {l : Leaf} {u : Value} (hl : RLeaf γ w l u) {n : Nat} {cs : List Leaf} (h : readAt σ l n = some cs) :
    ∃ b off us, u = .pointer (some ⟨b, off, none⟩) ∧ cs.length = n ∧ RCells γ w cs us ∧ ∀ j, j < n → w.cell? ⟨b, off + j, none⟩ = us[j]? := by
  cases l <;> simp only [readAt] at h <;> try (simp at h; done)
  case p id j =>
    split at h
    · rename_i cells hs
      obtain ⟨h1, h2⟩ := cutL_spec _ _ _ _ h
      obtain ⟨g, b, hg, hb, hu⟩ := hl.2
      obtain ⟨g', hg', b', cs', t, fr, hb', hfp, hh, hun, hbase, htot, hsz, hgz, hrc⟩ := R.objs id _ hs
      rw [hg] at hg'; cases hg'
      rw [hb] at hb'; cases hb'
      refine ⟨b, j, (cs'.toList.drop j).take n, by rw [hu, hbase, Nat.zero_add], h1, ⟨?_, ?_⟩, ?_⟩
      · rw [h1, List.length_take, List.length_drop]
        have : n = 0 ∨ j + n ≤ cells.length := by
          rcases Nat.eq_zero_or_pos n with h0 | h0
          · exact .inl h0
          · right
            have := h2 (n - 1) (by omega)
            rw [List.getElem?_eq_getElem (by omega)] at this
            have := (List.getElem?_eq_some_iff.mp this.symm).1
            omega
        have h3 : cs'.toList.length = cells.length := by simpa using hsz
        omega
      · intro i x hx
        have hi : i < n := by rw [← h1]; exact (List.getElem?_eq_some_iff.mp hx).1
        rw [h2 i hi] at hx
        obtain ⟨v, hv, hrv⟩ := hrc.2 _ _ hx
        exact ⟨v, by rw [List.getElem?_take, if_pos hi, List.getElem?_drop]; exact hv, hrv⟩
      · intro i hi
        rw [cell_at hh, List.getElem?_take, if_pos hi, List.getElem?_drop]
        simp
    · simp at h
  case pr id i j =>
    split at h
    · rename_i m f hs
      split at h
      · rename_i r hr
        simp at h
        subst h
        obtain ⟨h1, h2⟩ := cutL_spec _ _ _ _ hr
        obtain ⟨g, b, hg, hb, hlt, hu⟩ := hl.2
        obtain ⟨g', hg', ho⟩ := R.objs id _ hs
        rw [hg] at hg'; cases hg'
        simp only [RObj, hb] at ho
        obtain ⟨rfl, _, _, cs', t, fr, vs, G, hfp, hh, hun, htot, hn, hlen, hG, hGd, hv⟩ := ho
        obtain ⟨q1, q2⟩ := qLeaves_spec id i r j
        refine ⟨b, g.base + i * g.sz + j, (List.range n).map fun q => vs i (j + q), hu, by rw [q1, h1], ⟨by rw [q1, h1]; simp, ?_⟩, ?_⟩
        · intro q x hx
          rw [q2 q] at hx
          simp only [Option.map_eq_some_iff] at hx
          obtain ⟨d, hd, rfl⟩ := hx
          have hq : q < n := by rw [← h1]; exact (List.getElem?_eq_some_iff.mp hd).1
          rw [h2 q hq] at hd
          obtain ⟨hcell, hown⟩ := hv i (j + q) d hlt hd
          exact ⟨vs i (j + q), by simp [hq], rleaf_q hown ⟨g, b, cs', t, fr, hg, hb, hlt, hfp, hh, hcell⟩⟩
        · intro q hq
          have hd : ∃ d, (f i)[j + q]? = some d := by
            rw [← h2 q hq, List.getElem?_eq_getElem (by omega)]
            exact ⟨_, rfl⟩
          obtain ⟨d, hd⟩ := hd
          rw [cell_at hh, show g.base + i * g.sz + j + q = g.base + i * g.sz + (j + q) by omega, (hv i (j + q) d hlt hd).1]
          simp [hq]
      · simp at h
    · simp at h
  case qp id i j kk l sz =>
    split at h
    · rename_i sz0 m F hs
      split at h
      · rename_i sz' n' f hf
        split at h
        · rename_i r hz hr
          simp at h
          subst h
          have hz := Nat.eq_of_beq_eq_true hz
          subst hz
          rw [nthO_getElem?] at hf
          obtain ⟨h1, h2⟩ := cutL_spec _ _ _ _ hr
          obtain ⟨c, b0, o0, N, cap0, hc, hce, hkN, hu⟩ := hl.2
          obtain ⟨G, hG, hGs⟩ := at_own R hs hc hf
          obtain ⟨g, bb, _, _, _, hg, _⟩ := hc
          cases hG with
          | nl => cases hce; omega
          | bl _ b off n1 cap _ _ cs' t fr vs G' hF hs0 hb hun hn htot hsz hG' hGd hv hd =>
            cases hce
            have hrow : ∀ q, q < n → ∃ d, (f kk)[l + q]? = some d ∧ r[q]? = some d := fun q hq => by
              have := h2 q hq
              refine ⟨r[q]'(by omega), ?_, List.getElem?_eq_getElem (by omega)⟩
              rw [← this]; exact List.getElem?_eq_getElem (by omega)
            refine ⟨b0, o0 + kk * sz' + l, (List.range n).map fun q => vs kk (l + q), hu, by simp [h1], ⟨by simp [h1], ?_⟩, ?_⟩
            · intro q x hx
              simp only [List.getElem?_map, Option.map_eq_some_iff] at hx
              obtain ⟨d, hd', rfl⟩ := hx
              have hq : q < n := by rw [← h1]; exact (List.getElem?_eq_some_iff.mp hd').1
              rw [h2 q hq] at hd'
              refine ⟨_, by simp only [List.getElem?_map, List.getElem?_range hq, Option.map_some], rleaf_sn hg ((hd kk (l + q) d hkN hd').ro.mono (fun x hx => hGs x (hG' _ _ x hx).1) (Ext.refl _ _))⟩
            · intro q hq
              obtain ⟨d, hd', _⟩ := hrow q hq
              rw [cell_at hb, show o0 + kk * sz' + l + q = o0 + kk * sz' + (l + q) by omega, hv kk (l + q) d hkN hd']
              simp only [List.getElem?_map, List.getElem?_range hq, Option.map_some]
        · simp at h
      · simp at h
    · simp at h
  case rp row =>
    split at h
    · rename_i r hr
      simp at h
      subst h
      obtain ⟨h1, h2⟩ := cutL_spec _ _ _ _ hr
      obtain ⟨b, off, cs', t, fr, hu, hF, hh, hv⟩ := hl.2
      have hv' : ∀ j d, row[j]? = some d → RoT w γ.ro ((cs'.toList.drop off).getD j undef) d ∧ cs'[off + j]? = some ((cs'.toList.drop off).getD j undef) := by
        intro j d hd
        obtain ⟨v, h3, h4⟩ := hv j d hd
        have : (cs'.toList.drop off).getD j undef = v := by simp [List.getD, List.getElem?_drop, h3]
        rw [this]; exact ⟨h4, h3⟩
      refine ⟨b, off, (List.range n).map fun q => (cs'.toList.drop off).getD q undef, hu, by simp [h1], ⟨by simp [h1], ?_⟩, ?_⟩
      · intro q x hx
        simp only [List.getElem?_map, Option.map_eq_some_iff] at hx
        obtain ⟨d, hd, rfl⟩ := hx
        have hq : q < n := by rw [← h1]; exact (List.getElem?_eq_some_iff.mp hd).1
        rw [h2 q hq, Nat.zero_add] at hd
        exact ⟨_, by simp only [List.getElem?_map, List.getElem?_range hq, Option.map_some], rleaf_ro (hv' q d hd).1⟩
      · intro q hq
        have hd : ∃ d, row[q]? = some d := by
          have := h2 q hq
          rw [Nat.zero_add] at this
          rw [← this, List.getElem?_eq_getElem (by omega)]
          exact ⟨_, rfl⟩
        obtain ⟨d, hd⟩ := hd
        rw [cell_at hh, (hv' q d hd).2]
        simp only [List.getElem?_map, List.getElem?_range hq, Option.map_some]
    · simp at h
  case sp id row =>
    split at h
    · rename_i r hr
      simp at h
      subst h
      obtain ⟨h1, h2⟩ := cutL_spec _ _ _ _ hr
      obtain ⟨⟨g, hg⟩, b, off, cs', t, fr, hu, hF, hh, hv⟩ := hl.2
      have hv' : ∀ j d, row[j]? = some d → RoT w (γ.fp id) ((cs'.toList.drop off).getD j undef) d ∧ cs'[off + j]? = some ((cs'.toList.drop off).getD j undef) := by
        intro j d hd
        obtain ⟨v, h3, h4⟩ := hv j d hd
        have : (cs'.toList.drop off).getD j undef = v := by simp [List.getD, List.getElem?_drop, h3]
        rw [this]; exact ⟨h4, h3⟩
      refine ⟨b, off, (List.range n).map fun q => (cs'.toList.drop off).getD q undef, hu, by simp [h1], ⟨by simp [h1], ?_⟩, ?_⟩
      · intro q x hx
        simp only [List.getElem?_map, Option.map_eq_some_iff] at hx
        obtain ⟨d, hd, rfl⟩ := hx
        have hq : q < n := by rw [← h1]; exact (List.getElem?_eq_some_iff.mp hd).1
        rw [h2 q hq, Nat.zero_add] at hd
        exact ⟨_, by simp only [List.getElem?_map, List.getElem?_range hq, Option.map_some], rleaf_sn hg (hv' q d hd).1⟩
      · intro q hq
        have hd : ∃ d, row[q]? = some d := by
          have := h2 q hq
          rw [Nat.zero_add] at this
          rw [← this, List.getElem?_eq_getElem (by omega)]
          exact ⟨_, rfl⟩
        obtain ⟨d, hd⟩ := hd
        rw [cell_at hh, (hv' q d hd).2]
        simp only [List.getElem?_map, List.getElem?_range hq, Option.map_some]
    · simp at h

theorem run_loadAt {t : TypeId} {i : TI} (h : TIok P t i) {b off : Nat} {us : List Value} (hn : us.length = i.size) (hc : ∀ j, j < i.size → w.cell? ⟨b, off + j, none⟩ = us[j]?) :
    (isAg i.k = true → (Instr.loadAt t (.pointer (some ⟨b, off, none⟩))).run P w = .ok (.agg us.toArray) w) ∧
    (isAg i.k = false → ∀ u, us = [u] → (Instr.loadAt t (.pointer (some ⟨b, off, none⟩))).run P w = .ok u w) := by
  have hl := run_loadCells_list (P := P) w ⟨b, off, none⟩ us (fun j v hj => by
    have : j < i.size := by rw [← hn]; exact (List.getElem?_eq_some_iff.mp hj).1
    rw [add_at, hc j this, hj])
  rw [hn] at hl
  constructor
  · intro hk
    simp [Instr.loadAt, Instr.sureAddr, loadVar, h.run_isAgg, hk, h.run_size, hl]
  · rintro hk u rfl
    have h0 := hc 0 (by simp at hn; omega)
    simp at h0
    simp [Instr.loadAt, Instr.sureAddr, loadVar, h.run_isAgg, hk, h0]

theorem packV_sound {ag : Bool} {cs : List Leaf} {v : V} {us : List Value} (h : packV ag cs = some v) (hr : RCells γ w cs us) :
    (ag = true ∧ RV γ w v (.agg us.toArray)) ∨ (ag = false ∧ ∃ u, us = [u] ∧ RV γ w v u) := by
  unfold packV at h
  split at h
  · simp at h; subst h; exact .inl ⟨rfl, us, rfl, hr⟩
  · rename_i c
    simp at h; subst h
    right
    refine ⟨rfl, ?_⟩
    obtain ⟨h1, h2⟩ := hr
    match us, h1 with
    | [u], _ =>
      obtain ⟨u', hu', hl⟩ := h2 0 c rfl
      simp at hu'; subst hu'
      exact ⟨u, rfl, hl⟩
  · simp at h

theorem does_load (hE : EnvOk P E) (R : Rel w0 mine γ σ a w) {d t p af g lt} {x : Operand} (hk : (E lt).k ≠ .other) {l : Leaf} {cs : List Leaf} {v : V} (hx : evA σ x = .one (.lf l)) (hr : readAt σ l (E lt).size = some cs)
    (hv : packV (isAg (E lt).k) cs = some v) (h : k v σ) : DoesQ P γ σ a w ⟨d, .load lt x, t, p, af, g⟩ k := by
  have hl := R.ev x
  rw [hx] at hl
  obtain ⟨b, off, us, hu, hn, hcs, hcell⟩ := readAt_sound R.st hl hr
  have hi := hE lt hk
  have hus : us.length = (E lt).size := by rw [hcs.1, hn]
  obtain ⟨h1, h2⟩ := run_loadAt (w := w) hi hus hcell
  rcases packV_sound hv hcs with ⟨ha, hrv⟩ | ⟨ha, u, rfl, hrv⟩
  · exact .value R h hrv (by simp [execOp, hu, h1 ha])
  · exact .value R h hrv (by simp [execOp, hu, h2 ha u rfl])
end
end Go.AW
