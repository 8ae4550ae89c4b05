/- The abstract calculus, part 11: cells written, rows appended. -/
import Derived.Test.YtfidphaoddenlaaAw10
set_option linter.unusedVariables false
set_option linter.unusedSimpArgs false
namespace Go.AW

theorem run_storeCells_U (P : Program) (b o : Nat) (t : TypeId) (fr : Nat × Nat) : ∀ (vs : List Value) (i : Nat) (cur : Array Value) (w : World), w.heap[b]? = some (.cells cur t fr) → Unfrozen fr cur.size → o + i + vs.length ≤ cur.size → vs.all (·.oneCell') = true →
    ∃ cs', (storeCells ⟨b, o, none⟩ vs i).run P w = .ok () (w.setRow b cs') ∧ cs'.size = cur.size ∧ ∀ j, cs'[j]? = if o + i ≤ j ∧ j < o + i + vs.length then vs[j - (o + i)]? else cur[j]?
  | [], i, cur, w, hg, _, _, _ => by
    refine ⟨cur, ?_, rfl, fun j => by rw [if_neg (by simp)]⟩
    rw [setRow_self w b cur t fr hg]
    rfl
  | v :: rest, i, cur, w, hg, hu, hl, h1 => by
    simp only [List.length_cons] at hl
    simp only [List.all_cons, Bool.and_eq_true] at h1
    have hi : o + i < cur.size := by omega
    have hcell : w.cell? ⟨b, o + i, none⟩ = some cur[o + i] := by rw [cell_at hg]; exact Array.getElem?_eq_getElem hi
    have hfro : w.frozen? ⟨b, o + i, none⟩ = false := by
      obtain ⟨lo, hi'⟩ := fr
      simp only [World.frozen?, hg, Bool.and_eq_false_iff, decide_eq_false_iff_not]
      rcases hu with hu | hu
      · simp only at hu
        rcases Nat.lt_or_ge (o + i) lo with h | h
        · left; omega
        · right; omega
      · simp only at hu; left; omega
    have hst : (store ((⟨b, o, none⟩ : Addr).add i) v).run P w = .ok () (w.setRow b (cur.setIfInBounds (o + i) v)) := by
      rw [add_at, run_store P w _ v _ h1.1, hcell]
      simp [hfro, setCell_eq_setRow w b (o + i) cur t fr v hg]
    obtain ⟨cs', hr, hs, hc⟩ := run_storeCells_U P b o t fr rest (i + 1) (cur.setIfInBounds (o + i) v) (w.setRow b (cur.setIfInBounds (o + i) v)) (setRow_heap w b cur _ t fr hg) (by simpa using hu) (by simp; omega) h1.2
    refine ⟨cs', ?_, by simpa using hs, fun j => ?_⟩
    · simp only [storeCells, Sem.run_bind, hst, Result.andThen_ok, hr, setRow_setRow]
    · rw [hc j]
      simp only [Array.getElem?_setIfInBounds, List.length_cons]
      by_cases hj : j = o + i
      · subst hj
        rw [if_neg (by omega), if_pos rfl, if_pos hi, if_pos (by omega)]
        simp
      · by_cases hr : o + (i + 1) ≤ j ∧ j < o + (i + 1) + rest.length
        · rw [if_pos hr, if_pos (by omega), show j - (o + i) = (j - (o + (i + 1))) + 1 by omega]
          simp
        · rw [if_neg hr, if_neg (by omega), if_neg (by omega)]

theorem go_spec : ∀ (l vs r : List Leaf), setCells.go l vs = some r → r.length = l.length ∧ vs.length ≤ l.length ∧ ∀ q, r[q]? = if q < vs.length then vs[q]? else l[q]?
  | l, [], r, h => by
    have : r = l := by cases l <;> simp [setCells.go] at h <;> first | exact h.symm | exact h
    subst this; simp
  | [], v :: vs, r, h => by simp [setCells.go] at h
  | a :: l, v :: vs, r, h => by
    simp only [setCells.go] at h
    split at h
    · rename_i t ht
      simp at h; subst h
      obtain ⟨h1, h2, h3⟩ := go_spec l vs t ht
      refine ⟨by simp [h1], by simp; exact h2, fun q => ?_⟩
      cases q with
      | zero => simp
      | succ q => simp [h3 q]
    · simp at h
theorem setCells_spec : ∀ (l : List Leaf) (j : Nat) (vs r : List Leaf), setCells l j vs = some r → r.length = l.length ∧ j + vs.length ≤ l.length ∧ ∀ q, r[q]? = if j ≤ q ∧ q < j + vs.length then vs[q - j]? else l[q]?
  | l, 0, vs, r, h => by
    have := go_spec l vs r (by cases l <;> simpa [setCells] using h)
    simpa using this
  | [], j + 1, vs, r, h => by simp [setCells] at h
  | a :: l, j + 1, vs, r, h => by
    simp only [setCells] at h
    split at h
    · rename_i t ht
      simp at h; subst h
      obtain ⟨h1, h2, h3⟩ := setCells_spec l j vs t ht
      refine ⟨by simp [h1], by simp; omega, fun q => ?_⟩
      cases q with
      | zero => rw [if_neg (by omega)]; simp
      | succ q =>
        simp only [List.getElem?_cons_succ, h3 q]
        by_cases hq : j ≤ q ∧ q < j + vs.length
        · rw [if_pos hq, if_pos (by omega), show q + 1 - (j + 1) = q - j by omega]
        · rw [if_neg hq, if_neg (by omega)]
    · simp at h
theorem goD_spec : ∀ (l vs r : List DV), setDs.go l vs = some r → r.length = l.length ∧ vs.length ≤ l.length ∧ ∀ q, r[q]? = if q < vs.length then vs[q]? else l[q]?
  | l, [], r, h => by
    have : r = l := by cases l <;> simp [setDs.go] at h <;> first | exact h.symm | exact h
    subst this; simp
  | [], v :: vs, r, h => by simp [setDs.go] at h
  | a :: l, v :: vs, r, h => by
    simp only [setDs.go] at h
    split at h
    · rename_i t ht
      simp at h; subst h
      obtain ⟨h1, h2, h3⟩ := goD_spec l vs t ht
      refine ⟨by simp [h1], by simp; exact h2, fun q => ?_⟩
      cases q with
      | zero => simp
      | succ q => simp [h3 q]
    · simp at h
theorem setDs_spec : ∀ (l : List DV) (j : Nat) (vs r : List DV), setDs l j vs = some r → r.length = l.length ∧ j + vs.length ≤ l.length ∧ ∀ q, r[q]? = if j ≤ q ∧ q < j + vs.length then vs[q - j]? else l[q]?
  | l, 0, vs, r, h => by
    have := goD_spec l vs r (by cases l <;> simpa [setDs] using h)
    simpa using this
  | [], j + 1, vs, r, h => by simp [setDs] at h
  | a :: l, j + 1, vs, r, h => by
    simp only [setDs] at h
    split at h
    · rename_i t ht
      simp at h; subst h
      obtain ⟨h1, h2, h3⟩ := setDs_spec l j vs t ht
      refine ⟨by simp [h1], by simp; omega, fun q => ?_⟩
      cases q with
      | zero => rw [if_neg (by omega)]; simp
      | succ q =>
        simp only [List.getElem?_cons_succ, h3 q]
        by_cases hq : j ≤ q ∧ q < j + vs.length
        · rw [if_pos hq, if_pos (by omega), show q + 1 - (j + 1) = q - j by omega]
        · rw [if_neg hq, if_neg (by omega)]
    · simp at h

section
variable {P : Program} {w0 w w' : World} {mine : FP} {γ γ' : Ghost} {σ : St} {a : Act} {k : V → St → Prop} {E : Env}

theorem keep_setRow (h : Keep w0 mine w) {b : Nat} (cs : Array Value) (hb : w0.heap.size ≤ b ∨ mine b) : Keep w0 mine (w.setRow b cs) :=
  ⟨by simpa using h.size, h.os, h.tape, h.output, fun x hx hm => by
    rw [setRow_other w b x cs (by rintro rfl; rcases hb with hb | hb; omega; exact hm hb)]
    exact h.old x hx hm⟩

theorem run_storeAt {t : TypeId} {i : TI} (h : TIok P t i) {b off : Nat} {v : Value} {cur : Array Value} {et : TypeId} {fr : Nat × Nat} (hn : v.cells.toList.length = i.size) (h1 : v.cells.toList.all (·.oneCell') = true)
    (hg : w.heap[b]? = some (.cells cur et fr)) (hu : Unfrozen fr cur.size) (hl : off + i.size ≤ cur.size) :
    ∃ cs', (Instr.storeAt t (.pointer (some ⟨b, off, none⟩)) v).run P w = .ok () (w.setRow b cs') ∧ cs'.size = cur.size ∧ ∀ j, cs'[j]? = if off ≤ j ∧ j < off + i.size then v.cells.toList[j - off]? else cur[j]? := by
  obtain ⟨cs', hr, hs, hc⟩ := run_storeCells_U P b off et fr v.cells.toList 0 cur w hg hu (by omega) h1
  refine ⟨cs', ?_, hs, fun j => by rw [hc j, hn, Nat.add_zero]⟩
  have hsz : ¬ (v.cells.size ≠ i.size) := by
    intro hne
    apply hne
    rw [← hn]; simp
  simp only [Instr.storeAt, Instr.sureAddr, storeVar, Sem.run_bind, Sem.run_pure, Result.andThen_ok, h.run_size]
  rw [if_neg hsz]
  simpa using hr

theorem does_store_p (hE : EnvOk P E) (R : Rel w0 mine γ σ a w) {d ty p af g t} {x y : Operand} {id j : Nat} {cs cells cells' : List Leaf} (hk : okK (E t).k = true) (hx : evA σ x = .one (.lf (.p id j))) (hy : cellsOf (evA σ y) = some cs)
    (hlen : cs.length = (E t).size) (ho : look σ.store id = some (.vars cells)) (hset : setCells cells j cs = some cells') (h : k undefV (mapSt (killQ id) (putObj σ id (.vars cells')))) :
    Does P w0 mine a w ⟨d, .store t x y, ty, p, af, g⟩ k := by
  have hT := hE t (okK_ne hk)
  obtain ⟨hrc, h1⟩ := cellsOf_sound (R.ev y) hy
  have hxr := R.ev x
  rw [hx] at hxr
  obtain ⟨g1, b, hg, hb, hu⟩ := hxr.2
  obtain ⟨g1', hg', b', cur, et, fr, hb', hfp, hh, hun, hbase, htot, hsz, hgz, hcells⟩ := R.st.objs id _ ho
  rw [hg] at hg'; cases hg'
  rw [hb] at hb'; cases hb'
  obtain ⟨s1, s2, s3⟩ := setCells_spec _ _ _ _ hset
  have hn : (a.eval y).cells.toList.length = (E t).size := by rw [hrc.1, hlen]
  obtain ⟨cs', hr, hs, hc⟩ := run_storeAt (w := w) hT (off := j) hn h1 hh hun (by omega)
  have hbd := R.st.fp id _ ho b hfp
  have hblt : b < w.heap.size := hbd.1
  have hext : ∀ b' (x : Go.Obj), ¬ γ.fp id b' → w.heap[b']? = some x → (w.setRow b cs').heap[b']? = some x := fun b' x hne hx => by
    rw [setRow_other w b b' cs' (by rintro rfl; exact hne hfp)]; exact hx
  have S := step_write (w' := w.setRow b cs') R.st (g' := g1) (fun _ => False) (fun i => i = id) ho hg (γ.fp id) (fun _ => rfl) (fun h => absurd rfl h) hext
  have R' := R.write (o' := .vars cells') (g' := g1) (F := γ.fp id) (w' := w.setRow b cs') (fun _ => False) (fun i => i = id) (killQ id) (kills_Q id) ho hg (fun _ => rfl) (fun h => absurd rfl h)
    (fun b' hb' => ⟨.inl hb', by have := R.st.fp id _ ho b' hb'; simpa using this⟩) hext (by simp) (keep_setRow R.st.keep cs' hbd.2) (by
      refine ⟨b, cs', et, fr, hb, by simpa [Ghost.grow] using hfp, setRow_heap w b cur cs' et fr hh, by rw [hs]; exact hun, hbase, by simp [s1, htot], by simp [s1, hs, hsz], by simpa [s1] using hgz, by simp [s1, hs, hsz], ?_⟩
      intro q l hq
      simp only [List.getElem?_map, Option.map_eq_some_iff] at hq
      obtain ⟨l0, hl0, rfl⟩ := hq
      rw [s3 q] at hl0
      simp only [Array.getElem?_toList, hc q]
      by_cases hin : j ≤ q ∧ q < j + cs.length
      · rw [if_pos hin] at hl0
        rw [if_pos (by omega)]
        obtain ⟨u, hu', hru⟩ := hrc.2 _ l0 hl0
        exact ⟨u, by simpa using hu', hru.kill S (kills_Q id)⟩
      · rw [if_neg hin] at hl0
        rw [if_neg (by omega)]
        obtain ⟨u, hu', hru⟩ := hcells.2 q l0 hl0
        exact ⟨u, by simpa using hu', hru.kill S (kills_Q id)⟩)
  refine .inr (.inl ⟨w.setRow b cs', ?_, undefV, _, _, h, R', ⟨[], rfl, rfl, by simp⟩⟩)
  have hu2 : a.eval x = .pointer (some ⟨b, j, none⟩) := by rw [hu, hbase, Nat.zero_add]
  simp only [execOp, hu2, Sem.run_bind, hr, Result.andThen_ok, Sem.run_pure]


/-- Rows that lie in a block, owned. -/
def RowsT (w : World) (F : FP) (b base sz n tot : Nat) (f : Nat → List DV) : Prop :=
  ∃ cs t fr vs G, F b ∧ w.heap[b]? = some (.cells cs t fr) ∧ Unfrozen fr cs.size ∧ base + tot ≤ cs.size ∧ n * sz ≤ tot ∧
    (∀ i, i < n → (f i).length = sz) ∧ (∀ i j x, (G : Nat → Nat → FP) i j x → F x ∧ x ≠ b) ∧ (∀ i j i' j' x, G i j x → G i' j' x → i = i' ∧ j = j') ∧
    ∀ i j d, i < n → (f i)[j]? = some d → cs[base + i * sz + j]? = some ((vs : Nat → Nat → Value) i j) ∧ OwnT w (G i j) (vs i j) d
theorem robj_rows {γ : Ghost} {w : World} {id : Nat} {g : G1} {b sz n : Nat} {f : Nat → List DV} (hb : g.blk = some b) : RObj γ w id g (.deep sz n f) ↔ g.n = n ∧ g.sz = sz ∧ 0 < sz ∧ RowsT w (γ.fp id) b g.base g.sz n g.tot f := by
  simp only [RObj, hb, RowsT]
theorem own_rows {w : World} {F : FP} {b off n cap sz : Nat} {f : Nat → List DV} : OwnT w F (.slice (some ⟨b, off, none⟩) n cap) (.l sz n f) → (n = 0 ∧ cap = 0) ∨ (0 < sz ∧ n ≤ cap ∧ RowsT w F b off sz n (cap * sz) f) := by
  intro h
  cases h with
  | nl => exact .inl ⟨rfl, rfl⟩
  | bl _ _ _ _ _ _ _ cs t fr vs G hF hs hb hu hn htot hsz hG hGd hv hd =>
    exact .inr ⟨hs, hn, cs, t, fr, vs, G, hF, hb, hu, htot, Nat.mul_le_mul_right _ hn, hsz, hG, hGd, fun i j d hi hj => ⟨hv i j d hi hj, hd i j d hi hj⟩⟩
theorem rows_own {w : World} {F : FP} {b off n cap sz : Nat} {f : Nat → List DV} (hs : 0 < sz) (hn : n ≤ cap) (h : RowsT w F b off sz n (cap * sz) f) : OwnT w F (.slice (some ⟨b, off, none⟩) n cap) (.l sz n f) := by
  obtain ⟨cs, t, fr, vs, G, hF, hb, hu, htot, _, hsz, hG, hGd, hv⟩ := h
  exact .bl _ b off n cap sz f cs t fr vs G hF hs hb hu hn htot hsz hG hGd (fun i j d hi hj => (hv i j d hi hj).1) fun i j d hi hj => (hv i j d hi hj).2

theorem mul_pos_ne {sz i i0 j j0 : Nat} (hj : j < sz) (hj0 : j0 < sz) (h : i * sz + j = i0 * sz + j0) : i = i0 ∧ j = j0 := by
  rcases Nat.lt_trichotomy i i0 with hlt | heq | hgt
  · have : i * sz + sz ≤ i0 * sz := by rw [← Nat.succ_mul]; exact Nat.mul_le_mul_right _ hlt
    omega
  · subst heq; omega
  · have : i0 * sz + sz ≤ i * sz := by rw [← Nat.succ_mul]; exact Nat.mul_le_mul_right _ hgt
    omega

/-- Cells of a row written. -/
theorem rows_set {F Fn : FP} {b base sz n tot i j : Nat} {f : Nat → List DV} {ds row : List DV} {us : List Value} {Gn : Nat → FP} {cs cs' : Array Value} {t : TypeId} {fr : Nat × Nat} (h : RowsT w F b base sz n tot f) (hi : i < n) (hset : setDs (f i) j ds = some row)
    (hGn : ∀ q x, Gn q x → Fn x) (hGnd : ∀ q q' x, Gn q x → Gn q' x → q = q') (hvn : ∀ (q : Nat) (d : DV), ds[q]? = some d → ∃ u, us[q]? = some u ∧ OwnT w (Gn q) u d) (hFn : ∀ x, Fn x → ¬ F x)
    (hh : w.heap[b]? = some (.cells cs t fr)) (hs : cs'.size = cs.size) (hc : ∀ q, cs'[q]? = if base + i * sz + j ≤ q ∧ q < base + i * sz + j + ds.length then us[q - (base + i * sz + j)]? else cs[q]?) :
    RowsT (w.setRow b cs') (fun x => F x ∨ Fn x) b base sz n tot (std.setF f i row) := by
  obtain ⟨cur, et, fr', vs, G, hF, hh', hun, htot, hnt, hl, hG, hGd, hv⟩ := h
  rw [hh] at hh'; cases hh'
  obtain ⟨s1, s2, s3⟩ := setDs_spec _ _ _ _ hset
  have hsz := hl i hi
  have hnb : ∀ q x, Gn q x → x ≠ b := fun q x hx e => hFn x (hGn q x hx) (e ▸ hF)
  refine ⟨cs', t, fr, fun i0 j0 => if i0 = i ∧ j ≤ j0 ∧ j0 < j + ds.length then us.getD (j0 - j) undef else vs i0 j0, fun i0 j0 => if i0 = i ∧ j ≤ j0 ∧ j0 < j + ds.length then Gn (j0 - j) else G i0 j0,
    .inl hF, setRow_heap w b cs cs' t fr hh, by rw [hs]; exact hun, by rw [hs]; exact htot, hnt, ?_, ?_, ?_, ?_⟩
  · intro i0 hi0
    simp only [std]
    split
    · rw [s1]; exact hsz
    · exact hl i0 hi0
  · intro i0 j0 x hx
    split at hx
    · exact ⟨.inr (hGn _ x hx), hnb _ x hx⟩
    · exact ⟨.inl (hG i0 j0 x hx).1, (hG i0 j0 x hx).2⟩
  · have hcross : ∀ q i0 j0 x, Gn q x → G i0 j0 x → False := fun q i0 j0 x h2 h3 => hFn x (hGn q x h2) (hG i0 j0 x h3).1
    intro i0 j0 i1 j1 x h2 h3
    split at h2
    · rename_i c2
      split at h3
      · rename_i c3
        have := hGnd _ _ x h2 h3
        omega
      · exact (hcross _ _ _ x h2 h3).elim
    · split at h3
      · exact (hcross _ _ _ x h3 h2).elim
      · exact hGd _ _ _ _ x h2 h3
  · intro i0 j0 d0 hi0 hd0
    simp only [std] at hd0
    have hj0 : j0 < sz := by
      split at hd0
      · rw [← hsz, ← s1]; exact (List.getElem?_eq_some_iff.mp hd0).1
      · rw [← hl i0 hi0]; exact (List.getElem?_eq_some_iff.mp hd0).1
    have hpos : base + i * sz + j ≤ base + i0 * sz + j0 ∧ base + i0 * sz + j0 < base + i * sz + j + ds.length ↔ i0 = i ∧ j ≤ j0 ∧ j0 < j + ds.length := by
      constructor
      · rintro ⟨h2, h3⟩
        have e : i0 = i := by
          rcases Nat.lt_trichotomy i0 i with hlt | heq | hgt
          · have : i0 * sz + sz ≤ i * sz := by rw [← Nat.succ_mul]; exact Nat.mul_le_mul_right _ hlt
            omega
          · exact heq
          · have : i * sz + sz ≤ i0 * sz := by rw [← Nat.succ_mul]; exact Nat.mul_le_mul_right _ hgt
            omega
        subst e
        omega
      · rintro ⟨rfl, h2, h3⟩
        omega
    dsimp only
    by_cases hcase : i0 = i ∧ j ≤ j0 ∧ j0 < j + ds.length
    · rw [if_pos hcase, if_pos hcase]
      obtain ⟨e1, e2, e3⟩ := hcase
      rw [if_pos e1, s3 j0, if_pos ⟨e2, e3⟩] at hd0
      obtain ⟨u, hu', hou⟩ := hvn _ d0 hd0
      have hgd : us.getD (j0 - j) undef = u := by rw [List.getD_eq_getElem?_getD, hu']; rfl
      rw [hgd]
      refine ⟨?_, hou.mono (fun _ hb => hb) (fun b' x hb' hx => ?_)⟩
      · rw [hc, if_pos (hpos.mpr ⟨e1, e2, e3⟩), ← hu']
        congr 1
        subst e1
        omega
      · rw [setRow_other w b b' cs' (hnb _ b' hb')]; exact hx
    · rw [if_neg hcase, if_neg hcase]
      have hd1 : (f i0)[j0]? = some d0 := by
        split at hd0
        · rename_i e
          rw [s3 j0, if_neg (fun c => hcase ⟨e, c.1, c.2⟩)] at hd0
          rw [e]; exact hd0
        · exact hd0
      obtain ⟨h2, h3⟩ := hv i0 j0 d0 hi0 hd1
      refine ⟨?_, h3.mono (fun _ hb => hb) (fun b' x hb' hx => ?_)⟩
      · rw [hc, if_neg (fun c => hcase (hpos.mp c))]; exact h2
      · rw [setRow_other w b b' cs' (hG i0 j0 b' hb').2]; exact hx

/-- One datum of a row turned inside. -/
theorem rows_sub {F Fn : FP} {b base sz n tot i j : Nat} {f : Nat → List DV} {d d' : DV} (h : RowsT w F b base sz n tot f) (hi : i < n) (hd : (f i)[j]? = some d) (hFn : ∀ x, Fn x → ¬ F x)
    (hw : ∀ (Gij : FP) (c : Value), (∀ x, Gij x → F x ∧ x ≠ b) → (∀ cs t fr, w.heap[b]? = some (.cells cs t fr) → cs[base + i * sz + j]? = some c) → OwnT w Gij c d → (∀ x o, ¬ Gij x → w.heap[x]? = some o → w'.heap[x]? = some o) ∧ OwnT w' (fun x => Gij x ∨ Fn x) c d') :
    RowsT w' (fun x => F x ∨ Fn x) b base sz n tot (std.setF f i (setD1 (f i) j d')) := by
  obtain ⟨cs, t, fr, vs, G, hF, hh, hun, htot, hnt, hl, hG, hGd, hv⟩ := h
  obtain ⟨h1, h2⟩ := hv i j d hi hd
  obtain ⟨hext, hown⟩ := hw (G i j) (vs i j) (fun x hx => hG i j x hx) (fun cs' t' fr' he => by rw [hh] at he; cases he; exact h1) h2
  have hjlt : j < (f i).length := (List.getElem?_eq_some_iff.mp hd).1
  obtain ⟨s1, s2⟩ := setD1_spec (f i) j d'
  refine ⟨cs, t, fr, vs, fun i0 j0 => if i0 = i ∧ j0 = j then fun x => G i j x ∨ Fn x else G i0 j0, .inl hF, hext b _ (fun hx => (hG i j b hx).2 rfl) hh, hun, htot, hnt, ?_, ?_, ?_, ?_⟩
  · intro i0 hi0
    simp only [std]
    split
    · rename_i e; subst e; rw [s1]; exact hl _ hi0
    · exact hl i0 hi0
  · intro i0 j0 x hx
    split at hx
    · rcases hx with hx | hx
      · exact ⟨.inl (hG i j x hx).1, (hG i j x hx).2⟩
      · exact ⟨.inr hx, fun e => hFn x hx (e ▸ hF)⟩
    · exact ⟨.inl (hG i0 j0 x hx).1, (hG i0 j0 x hx).2⟩
  · intro i0 j0 i1 j1 x h3 h4
    have out : ∀ i0 j0, G i0 j0 x → ¬ Fn x := fun i0 j0 h h' => hFn x h' (hG i0 j0 x h).1
    split at h3
    · rename_i e3
      split at h4
      · rename_i e4; omega
      · rcases h3 with h3 | h3
        · have := hGd _ _ _ _ x h3 h4; omega
        · exact absurd h3 (out _ _ h4)
    · split at h4
      · rename_i e4
        rcases h4 with h4 | h4
        · have := hGd _ _ _ _ x h3 h4; omega
        · exact absurd h4 (out _ _ h3)
      · exact hGd _ _ _ _ x h3 h4
  · intro i0 j0 d0 hi0 hd0
    simp only [std] at hd0
    have hcase : (i0 = i ∧ j0 = j ∧ d0 = d') ∨ (¬ (i0 = i ∧ j0 = j) ∧ (f i0)[j0]? = some d0) := by
      split at hd0
      · rename_i e
        subst e
        rw [s2] at hd0
        split at hd0
        · rename_i e; simp at hd0; exact .inl ⟨rfl, e.1, hd0.symm⟩
        · rename_i e; exact .inr ⟨fun c => e ⟨c.2, hjlt⟩, hd0⟩
      · rename_i e; exact .inr ⟨fun c => e c.1, hd0⟩
    rcases hcase with ⟨rfl, rfl, rfl⟩ | ⟨hne, hd1⟩
    · simp only [and_self, if_true]
      exact ⟨h1, hown⟩
    · dsimp only
      rw [if_neg hne]
      obtain ⟨h3, h4⟩ := hv i0 j0 d0 hi0 hd1
      exact ⟨h3, h4.mono (fun _ hb => hb) fun x o hx ho => hext x o (fun hx' => hne (hGd _ _ _ _ x hx hx')) ho⟩

theorem does_store_pr (hE : EnvOk P E) (R : Rel w0 mine γ σ a w) {d ty p af g t} {x y : Operand} {l : Leaf} {cs : List Leaf} {ds : List DV} {σ1 : St} {hf : Leaf → Leaf} (hk : okK (E t).k = true) (hx : evA σ x = .one (.lf l)) (hy : cellsOf (evA σ y) = some cs)
    (hlen : cs.length = (E t).size) (ht : takeCs std cs σ (fun l => l) = some (ds, σ1, hf)) (h : stowP std σ1 ds (hf l) fun σ' => k undefV σ') : Does P w0 mine a w ⟨d, .store t x y, ty, p, af, g⟩ k := by
  have hT := hE t (okK_ne hk)
  obtain ⟨hrc, h1⟩ := cellsOf_sound (R.ev y) hy
  obtain ⟨γ1, Gn, T, hdl, hGnd, hvn⟩ := takeCs_sound cs _ σ γ (fun l => l) ds σ1 hf R hrc.1 (fun j l hj => hrc.2 j l hj) ht
  have hxr := R.ev x
  rw [hx] at hxr
  have hxl := T.leaf l _ hxr
  have R1 := T.R
  have hdlen : ds.length = (E t).size := by rw [hdl, hlen]
  have hn : (a.eval y).cells.toList.length = (E t).size := by rw [hrc.1, hlen]
  generalize hf l = l' at hxl h
  unfold stowP at h
  split at h
  · -- a row of an object
    rename_i id i j
    obtain ⟨g1, b, hg, hb, hin, hu⟩ := hxl.2
    split at h
    · rename_i sz n f ho
      split at h
      · rename_i row hset
        obtain ⟨g1', hg', hob⟩ := R1.st.objs id _ ho
        rw [hg] at hg'; cases hg'
        rw [robj_rows hb] at hob
        obtain ⟨hgn, hgs, hs0, hrows⟩ := hob
        obtain ⟨s1, s2, s3⟩ := setDs_spec _ _ _ _ hset
        have hi : i < n := by omega
        obtain ⟨cur, et, fr, vs, G, hfp, hh, hun, htot, hnt, hl, hG, hGd, hv⟩ := (fun {α : Prop} (x : α) => x) hrows
        have hsz := hl i hi
        have hrow : i * g1.sz + g1.sz ≤ n * g1.sz := by rw [← Nat.succ_mul]; exact Nat.mul_le_mul_right _ hi
        obtain ⟨cs', hr, hs, hc⟩ := run_storeAt (w := w) hT (off := g1.base + i * g1.sz + j) hn h1 hh hun (by omega)
        have hbd := R1.st.fp id _ ho b hfp
        have hFn : ∀ x, (∃ q, Gn q x) → ¬ γ1.fp id x := fun x hx => (T.free x hx).1 id _ ho
        have hext : ∀ b' (x : Go.Obj), ¬ γ1.fp id b' → w.heap[b']? = some x → (w.setRow b cs').heap[b']? = some x := fun b' x hne hx => by
          rw [setRow_other w b b' cs' (by rintro rfl; exact hne hfp)]; exact hx
        have hrows' := rows_set (us := (a.eval y).cells.toList) (Fn := fun x => ∃ q, Gn q x) (cs' := cs') hrows hi hset (fun q x hx => ⟨q, hx⟩) hGnd hvn hFn hh hs (fun q => by rw [hc q, hdlen])
        have R' := R1.write (o' := .deep sz n (std.setF f i row)) (g' := g1) (F := fun x => γ1.fp id x ∨ ∃ q, Gn q x) (w' := w.setRow b cs') (fun _ => False) (fun i => i = id) (killQ id) (kills_Q id) ho hg (fun _ => rfl) (fun h => absurd rfl h)
          (fun x hx => by
            rcases hx with hx | hx
            · exact ⟨.inl hx, by have := R1.st.fp id _ ho x hx; simpa using this⟩
            · obtain ⟨f1, f2, f3⟩ := T.free x hx
              exact ⟨.inr ⟨f1, f2⟩, by simpa using f3⟩)
          hext (by simp) (keep_setRow R1.st.keep cs' hbd.2) (by
            simp only [mapObj]
            rw [robj_rows hb]
            exact ⟨hgn, hgs, hs0, by simpa [Ghost.grow] using hrows'⟩)
        refine .inr (.inl ⟨w.setRow b cs', ?_, undefV, _, _, h, R', ⟨[], rfl, rfl, by simp⟩⟩)
        simp only [execOp, hu, Sem.run_bind, hr, Result.andThen_ok, Sem.run_pure]
      · exact h.elim
    · exact h.elim
  · -- a row of a slice in an object
    rename_i id i j kk l sz2
    obtain ⟨c, b2, o2, N, cap, hat, hce, hkN, hu⟩ := hxl.2
    split at h
    · rename_i sz n F ho
      split at h
      · rename_i sz' n' f hd
        split at h
        · rename_i row hz hset
          have hz := Nat.eq_of_beq_eq_true hz
          subst hz
          rw [nthO_getElem?] at hd
          obtain ⟨g1, b, cs0, t0, fr0, hg, hb, hin, hfp, hh, hcell⟩ := (fun {α : Prop} (x : α) => x) hat
          obtain ⟨g1', hg', hob⟩ := R1.st.objs id _ ho
          rw [hg] at hg'; cases hg'
          rw [robj_rows hb] at hob
          obtain ⟨hgn, hgs, hs0, hrows⟩ := hob
          obtain ⟨s1, s2, s3⟩ := setDs_spec _ _ _ _ hset
          obtain ⟨G, hG, hGs⟩ := at_own R1.st ho hat hd
          have hn' : N = n' := by
            rw [hce] at hG
            cases hG <;> rfl
          subst hn'
          rw [hce] at hG
          rcases own_rows hG with ⟨h0, _⟩ | ⟨hs2, hncap, hrows2⟩
          · omega
          obtain ⟨cur, et, fr, vs, G2, hfp2, hh2, hun2, htot2, hnt2, hl2, hG2, hGd2, hv2⟩ := (fun {α : Prop} (x : α) => x) hrows2
          have hsz := hl2 kk hkN
          have hrow : kk * sz' + sz' ≤ N * sz' := by rw [← Nat.succ_mul]; exact Nat.mul_le_mul_right _ hkN
          obtain ⟨cs', hr, hs, hc⟩ := run_storeAt (w := w) hT (off := o2 + kk * sz' + l) hn h1 hh2 hun2 (by omega)
          have hbd := R1.st.fp id _ ho b2 (hGs b2 hfp2)
          have hFn : ∀ x, (∃ q, Gn q x) → ¬ γ1.fp id x := fun x hx => (T.free x hx).1 id _ ho
          have hext : ∀ b' (x : Go.Obj), ¬ γ1.fp id b' → w.heap[b']? = some x → (w.setRow b2 cs').heap[b']? = some x := fun b' x hne hx => by
            rw [setRow_other w b2 b' cs' (by rintro rfl; exact hne (hGs _ hfp2))]; exact hx
          have hrows' := rows_sub (w' := w.setRow b2 cs') (Fn := fun x => ∃ q, Gn q x) (d' := .l sz' N (std.setF f kk row)) hrows (by omega) hd hFn (fun Gij c' hGF hcc hOw => by
            have e := hcc _ _ _ hh
            rw [hcell] at e; cases e
            rw [hce] at hOw ⊢
            rcases own_rows hOw with ⟨h0, _⟩ | ⟨_, _, hr3⟩
            · omega
            refine ⟨fun x o hx ho' => ?_, rows_own hs2 hncap (rows_set (us := (a.eval y).cells.toList) (Fn := fun x => ∃ q, Gn q x) (cs' := cs') hr3 hkN hset (fun q x hx => ⟨q, hx⟩) hGnd hvn (fun x hx hx' => hFn x hx (hGF x hx').1) hh2 hs (fun q => by rw [hc q, hdlen]))⟩
            obtain ⟨_, _, _, _, _, hb3, _⟩ := hr3
            rw [setRow_other w b2 x cs' (by rintro rfl; exact hx hb3)]; exact ho')
          have hbb : b ≠ b2 := by
            obtain ⟨cs3, t3, fr3, vs3, G3, hF3, hh3, _, _, _, _, hG3, _, hv3⟩ := (fun {α : Prop} (x : α) => x) hrows
            obtain ⟨e1, e2⟩ := hv3 i j _ (by omega) hd
            rw [hh] at hh3; cases hh3
            rw [hcell] at e1; cases e1
            rw [hce] at e2
            rcases own_rows e2 with ⟨h0, _⟩ | ⟨_, _, _, _, _, _, _, hb3, _⟩
            · omega
            · exact fun e => (hG3 i j b2 hb3).2 e.symm
          have R' := R1.write (o' := .deep sz n (std.setF F i (setD1 (F i) j (.l sz' N (std.setF f kk row))))) (g' := g1) (F := fun x => γ1.fp id x ∨ ∃ q, Gn q x) (w' := w.setRow b2 cs') (fun _ => False) (fun _ => False) (killS id) (kills_S id) ho hg (fun _ => rfl)
            (fun _ b' x hb' hx' => by
              rw [hb] at hb'; cases hb'
              exact ⟨.inl hfp, by rw [setRow_other w b2 b cs' hbb]; exact hx'⟩)
            (fun x hx => by
              rcases hx with hx | hx
              · exact ⟨.inl hx, by have := R1.st.fp id _ ho x hx; simpa using this⟩
              · obtain ⟨f1, f2, f3⟩ := T.free x hx
                exact ⟨.inr ⟨f1, f2⟩, by simpa using f3⟩)
            hext (by simp) (keep_setRow R1.st.keep cs' hbd.2) (by
              simp only [mapObj]
              rw [robj_rows hb]
              exact ⟨hgn, hgs, hs0, by simpa [Ghost.grow] using hrows'⟩)
          refine .inr (.inl ⟨w.setRow b2 cs', ?_, undefV, _, _, h, R', ⟨[], rfl, rfl, by simp⟩⟩)
          simp only [execOp, hu, Sem.run_bind, hr, Result.andThen_ok, Sem.run_pure]
        · exact h.elim
      · exact h.elim
    · exact h.elim
  · exact h.elim
end
end Go.AW
