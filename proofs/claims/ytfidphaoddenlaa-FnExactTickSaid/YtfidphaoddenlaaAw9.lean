/- The abstract calculus, part 9: slices made. -/
import Derived.Test.YtfidphaoddenlaaAw8
import Derived.IntWalk
set_option linter.unusedVariables false
set_option linter.unusedSimpArgs false
namespace Go.AW

theorem foldset : ∀ (l : List Value) (s off : Nat) (cells : Array Value) (j : Nat),
    ((l.zipIdx s).foldl (fun cs x => cs.setIfInBounds (off + x.2) x.1) cells).size = cells.size ∧
    ((l.zipIdx s).foldl (fun cs x => cs.setIfInBounds (off + x.2) x.1) cells)[j]? = if off + s ≤ j ∧ j < off + s + l.length ∧ j < cells.size then l[j - off - s]? else cells[j]?
  | [], s, off, cells, j => by
    refine ⟨rfl, ?_⟩
    simp only [List.zipIdx_nil, List.foldl_nil, List.length_nil]
    rw [if_neg (by omega)]
  | v :: l, s, off, cells, j => by
    simp only [List.zipIdx_cons, List.foldl_cons]
    obtain ⟨h1, h2⟩ := foldset l (s + 1) off (cells.setIfInBounds (off + s) v) j
    refine ⟨by rw [h1]; simp, ?_⟩
    rw [h2]
    simp only [Array.size_setIfInBounds, Array.getElem?_setIfInBounds, List.length_cons]
    by_cases hj : j = off + s
    · subst hj
      rw [if_neg (by omega), if_pos rfl]
      by_cases hlt : off + s < cells.size
      · rw [if_pos hlt, if_pos (by omega)]; simp
      · rw [if_neg hlt, if_neg (by omega), Array.getElem?_eq_none (by omega)]
    · by_cases hr : off + (s + 1) ≤ j ∧ j < off + (s + 1) + l.length ∧ j < cells.size
      · rw [if_pos hr, if_pos (by omega), show j - off - s = (j - off - (s + 1)) + 1 by omega]; simp
      · rw [if_neg hr, if_neg (by omega), if_neg (by omega)]

theorem fill_one (place : Nat → Option (Nat × Nat)) (cells : Array Value) (i off : Nat) (v : Value) (rest : List (Nat × Value)) (hp : place i = some (off, v.cells.size)) (hfit : off + v.cells.size ≤ cells.size) :
    ∃ cells', Instr.fill place cells ((i, v) :: rest) = Instr.fill place cells' rest ∧ cells'.size = cells.size ∧
      ∀ j, cells'[j]? = if off ≤ j ∧ j < off + v.cells.size then v.cells[j - off]? else cells[j]? := by
  refine ⟨v.cells.zipIdx.foldl (fun cs (c, j) => cs.setIfInBounds (off + j) c) cells, ?_, ?_, ?_⟩
  · have h1 : (decide (v.cells.size ≠ v.cells.size) || decide (off + v.cells.size > cells.size)) = false := by simp; omega
    simp only [Instr.fill, hp, h1]
    rfl
  · have h := foldset v.cells.toList 0 off cells 0
    rw [← Array.foldl_toList, Array.toList_zipIdx]
    exact h.1
  · intro j
    have h := (foldset v.cells.toList 0 off cells j).2
    rw [← Array.foldl_toList, Array.toList_zipIdx]
    rw [show (List.foldl (fun (cs : Array Value) (x : Value × Nat) => match x with | (c, j) => cs.setIfInBounds (off + j) c) cells (v.cells.toList.zipIdx)) = (List.foldl (fun cs x => cs.setIfInBounds (off + x.2) x.1) cells (v.cells.toList.zipIdx 0)) from rfl, h]
    simp only [Nat.add_zero, Nat.sub_zero, Array.length_toList, Array.getElem?_toList]
    by_cases hr : off ≤ j ∧ j < off + v.cells.size
    · rw [if_pos hr, if_pos (by omega)]
    · rw [if_neg hr, if_neg (by omega)]

section
variable {P : Program} {w0 w w' : World} {mine : FP} {γ : Ghost} {σ : St} {a : Act} {k : V → St → Prop} {E : Env}

/-- Rows of leaves that lie in a row of cells. -/
structure Lay (γ : Ghost) (w : World) (sz n : Nat) (cells : Array Value) (rows : List (List Leaf)) : Prop where
  size : cells.size = n * sz
  len : rows.length = n
  row : ∀ i row, rows[i]? = some row → row.length = sz ∧ ∀ j l, row[j]? = some l → ∃ u, cells[i * sz + j]? = some u ∧ RLeaf γ w l u

theorem setN_getElem? {α : Type} (v : α) : ∀ (l : List α) (n m : Nat), (setN l n v)[m]? = if m = n ∧ n < l.length then some v else l[m]?
  | [], n, m => by simp [setN]
  | a :: l, 0, 0 => by simp [setN]
  | a :: l, 0, m + 1 => by simp [setN]
  | a :: l, n + 1, 0 => by simp [setN]
  | a :: l, n + 1, m + 1 => by simp [setN, setN_getElem? v l n m]

theorem fill_lay {sz n : Nat} : ∀ (parts : List (Nat × Operand)) (ps : List (Nat × List Leaf)) (cells : Array Value) (rows : List (List Leaf)), Lay γ w sz n cells rows → Rel w0 mine γ σ a w → partsV σ parts = some ps →
    (∀ p, p ∈ ps → p.1 < n ∧ p.2.length = sz) →
    ∃ cells', Instr.fill (fun i => some (i * sz, sz)) cells (parts.map fun x => (x.1, a.eval x.2)) = some cells' ∧ Lay γ w sz n cells' (ps.foldl (fun rows p => setN rows p.1 p.2) rows)
  | [], ps, cells, rows, hl, R, hp, hok => by
    simp [partsV] at hp; subst hp
    exact ⟨cells, rfl, hl⟩
  | (i, x) :: t, ps, cells, rows, hl, R, hp, hok => by
    simp only [partsV] at hp
    split at hp
    · rename_i cs l hcs hl'
      simp at hp; subst hp
      obtain ⟨hrc, h1⟩ := cellsOf_sound (R.ev x) hcs
      obtain ⟨hi, hlen⟩ := hok (i, cs) (by simp)
      simp only at hi hlen
      have hvs : (a.eval x).cells.size = sz := by have := hrc.1; simp at this; omega
      have hmul : i * sz + sz ≤ n * sz := by rw [← Nat.succ_mul]; exact Nat.mul_le_mul_right _ hi
      obtain ⟨cells', hf, hs', hg⟩ := fill_one (fun i => some (i * sz, sz)) cells i (i * sz) (a.eval x) (t.map fun x => (x.1, a.eval x.2)) (by simp [hvs]) (by rw [hvs, hl.size]; exact hmul)
      simp only [List.map_cons, hf, List.foldl_cons]
      refine fill_lay t l cells' _ ⟨by rw [hs', hl.size], by rw [setN_length, hl.len], ?_⟩ R hl' (fun p hp => hok p (List.mem_cons_of_mem _ hp))
      intro i' row hrow
      rw [setN_getElem?] at hrow
      by_cases he : i' = i ∧ i < rows.length
      · rw [if_pos he] at hrow
        cases hrow
        obtain ⟨rfl, _⟩ := he
        refine ⟨hlen, fun j l hj => ?_⟩
        obtain ⟨u, hu, hru⟩ := hrc.2 j l hj
        have hjlt : j < sz := by rw [← hlen]; exact (List.getElem?_eq_some_iff.mp hj).1
        exact ⟨u, by rw [hg, if_pos (by omega), show i' * sz + j - i' * sz = j by omega]; simpa using hu, hru⟩
      · rw [if_neg he] at hrow
        obtain ⟨h2, h3⟩ := hl.row i' row hrow
        refine ⟨h2, fun j l hj => ?_⟩
        obtain ⟨u, hu, hru⟩ := h3 j l hj
        have hjlt : j < sz := by rw [← h2]; exact (List.getElem?_eq_some_iff.mp hj).1
        have hne : i' ≠ i := fun e => he ⟨e, by rw [hl.len]; exact hi⟩
        refine ⟨u, ?_, hru⟩
        rw [hg, if_neg ?_, hu]
        rw [hvs]
        rintro ⟨h4, h5⟩
        rcases Nat.lt_or_gt_of_ne hne with h | h
        · have : i' * sz + sz ≤ i * sz := by rw [← Nat.succ_mul]; exact Nat.mul_le_mul_right _ h
          omega
        · have : i * sz + sz ≤ i' * sz := by rw [← Nat.succ_mul]; exact Nat.mul_le_mul_right _ h
          omega
    · simp at hp

/-- Zero rows. -/
theorem lay_zero (γ : Ghost) (w : World) {z : Array Value} {sz : Nat} (n : Nat) (hz : z.size = sz) (h1 : z.toList.all (·.oneCell') = true) :
    Lay γ w sz n ((Array.range (n * sz)).map (z[· % z.size]!)) (List.replicate n (z.toList.map leafOfValue)) where
  size := by simp
  len := by simp
  row := by
    intro i row hrow
    have hi : i < n := by have := (List.getElem?_eq_some_iff.mp hrow).1; simpa using this
    simp [List.getElem?_replicate, hi] at hrow
    subst hrow
    refine ⟨by simp [hz], fun j l hj => ?_⟩
    simp only [List.getElem?_map, Option.map_eq_some_iff] at hj
    obtain ⟨u, hu, rfl⟩ := hj
    have hjlt : j < z.size := by have := (List.getElem?_eq_some_iff.mp hu).1; simpa using this
    have hlt : i * sz + j < n * sz := by
      have : i * sz + sz ≤ n * sz := by rw [← Nat.succ_mul]; exact Nat.mul_le_mul_right _ hi
      omega
    refine ⟨u, ?_, rleaf_ofValue γ w u (List.all_eq_true.mp h1 u (List.mem_of_getElem? hu))⟩
    rw [Array.getElem?_map, Array.getElem?_range, if_pos hlt]
    simp only [Option.map_some]
    have hmod : (i * sz + j) % z.size = j := by rw [hz, Nat.add_comm, Nat.add_mul_mod_self_right]; exact Nat.mod_eq_of_lt (by omega)
    rw [hmod, getElem!_pos z j hjlt]
    have : z.toList[j]? = some z[j] := by rw [List.getElem?_eq_getElem (by simpa using hjlt)]; simp
    rw [this] at hu
    exact hu

theorem run_buildSlice (hE : EnvOk P E) (R : Rel w0 mine γ σ a w) {t e : TypeId} {n : Nat} {parts : Array (Nat × Operand)} {ps : List (Nat × List Leaf)} (hk : (E t).k = .sl e) (hke : okK (E e).k = true) (hps : partsV σ parts.toList = some ps)
    (hn : n * (E e).size ≤ 16777216) (hpos : 0 < (E e).size) (hok : ∀ p, p ∈ ps → p.1 < n ∧ p.2.length = (E e).size) :
    ∃ cells, (Instr.buildSlice t n (parts.map fun (i, x) => (i, a.eval x))).run P w = .ok (.slice (some ⟨w.heap.size, 0, none⟩) n n) { w with heap := w.heap.push (.cells cells e) } ∧
      Lay γ w (E e).size n cells (layRows (E e).size ((E e).zero.map leafOfValue) n ps) := by
  have hT := hE t (by rw [hk]; simp)
  have hTe := hE e (okK_ne hke)
  obtain ⟨z, hz, hc⟩ := hTe.run_zero (w := w)
  have hsz : (sizeOf e).run P w = .ok (E e).size w := hTe.run_size w
  have hbig : ¬ (n * (E e).size > 2 ^ 24) := by omega
  have hparts : (parts.map fun (i, x) => (i, a.eval x)).toList = parts.toList.map fun x => (x.1, a.eval x.2) := by simp
  have hzs : z.cells.size = (E e).size := by rw [← hTe.len, ← hc]; simp
  by_cases h0 : n * (E e).size = 0
  · have hn0 : n = 0 := by
      rcases Nat.eq_zero_or_pos n with h | h
      · exact h
      · have := Nat.mul_pos h hpos; omega
    subst hn0
    have hps0 : ps = [] := by
      cases ps with
      | nil => rfl
      | cons p t => have := (hok p (by simp)).1; omega
    subst hps0
    have hp0 : parts.toList = [] := by
      cases hpl : parts.toList with
      | nil => rfl
      | cons p t => rw [hpl] at hps; simp only [partsV] at hps; split at hps <;> simp at hps
    refine ⟨#[], ?_, ⟨by simp, by simp [layRows], by simp [layRows]⟩⟩
    simp only [Instr.buildSlice, Sem.run_bind, run_underlying (hT.sl hk), Result.andThen_ok, hsz]
    rw [if_neg hbig, if_pos h0]
    simp only [Sem.run_pure, Result.andThen_ok, hparts, hp0]
    have h00 : ∀ f : Nat → Value, Array.map f (Array.range 0) = #[] := fun f => Array.eq_empty_of_size_eq_zero (by simp)
    simp [Instr.fill, newRow, h00]
  · obtain ⟨cells, hf, hl⟩ := fill_lay parts.toList ps _ _ (lay_zero γ w n hzs (by rw [hc]; exact hTe.one)) R hps hok
    refine ⟨cells, ?_, by rw [hc] at hl; exact hl⟩
    simp only [Instr.buildSlice, Sem.run_bind, run_underlying (hT.sl hk), Result.andThen_ok, hsz]
    rw [if_neg hbig, if_neg h0]
    simp only [Sem.run_bind, hz, Sem.run_pure, Result.andThen_ok, hparts, hf]
    simp [newRow]

theorem intsOf_spec (kk : IntKind) : ∀ (l : List Leaf) (r : List Int), intsOf kk l = some r → r.length = l.length ∧ ∀ (i : Nat) (x : Leaf), l[i]? = some x → ∃ n, r[i]? = some n ∧ x = .s (.int kk n)
  | [], r, h => by simp [intsOf] at h; subst h; simp
  | x :: l, r, h => by
    unfold intsOf at h
    split at h
    · rename_i he; exact absurd he (by simp)
    · rename_i k' n t heq
      cases heq
      split at h
      · rename_i r' hk hr
        simp at h; subst h
        have hkk : kk = k' := by cases kk <;> cases k' <;> first | rfl | (simp [sameK] at hk)
        subst hkk
        obtain ⟨h1, h2⟩ := intsOf_spec kk l r' hr
        refine ⟨by simp [h1], fun i y hy => ?_⟩
        cases i with
        | zero => simp at hy; subst hy; exact ⟨n, rfl, rfl⟩
        | succ i => simpa using h2 i y (by simpa using hy)
      · simp at h
    · simp at h
theorem strsOf_spec : ∀ (l : List Leaf) (r : List ByteArray), strsOf l = some r → r.length = l.length ∧ ∀ (i : Nat) (x : Leaf), l[i]? = some x → ∃ n, r[i]? = some n ∧ x = .s (.string n)
  | [], r, h => by simp [strsOf] at h; subst h; simp
  | x :: l, r, h => by
    unfold strsOf at h
    split at h
    · rename_i he; exact absurd he (by simp)
    · rename_i n t heq
      cases heq
      split at h
      · rename_i r' hr
        simp at h; subst h
        obtain ⟨h1, h2⟩ := strsOf_spec l r' hr
        refine ⟨by simp [h1], fun i y hy => ?_⟩
        cases i with
        | zero => simp at hy; subst hy; exact ⟨n, rfl, rfl⟩
        | succ i => simpa using h2 i y (by simpa using hy)
      · simp at h
    · simp at h

theorem colAt_spec {col : List Leaf} {f : Nat → DV} (h : colAt std col = some f) : ∀ (i : Nat) (x : Leaf), col[i]? = some x → ∃ v, f i = .s v ∧ x = .s v ∧ v.oneCell' = true := by
  unfold colAt at h
  split at h
  · rename_i kk n t
    split at h
    · rename_i l hl
      simp at h; subst h
      obtain ⟨h1, h2⟩ := intsOf_spec kk t l hl
      intro i x hx
      cases i with
      | zero => simp at hx; subst hx; exact ⟨_, rfl, by simp [std], rfl⟩
      | succ i =>
        obtain ⟨m, hm, he⟩ := h2 i x (by simpa using hx)
        exact ⟨_, rfl, by simp [std, List.getD, hm, he], rfl⟩
    · simp at h
  · rename_i n t
    split at h
    · rename_i l hl
      simp at h; subst h
      obtain ⟨h1, h2⟩ := strsOf_spec t l hl
      intro i x hx
      cases i with
      | zero => simp at hx; subst hx; exact ⟨_, rfl, by simp [std], rfl⟩
      | succ i =>
        obtain ⟨m, hm, he⟩ := h2 i x (by simpa using hx)
        exact ⟨_, rfl, by simp [std, List.getD, hm, he], rfl⟩
    · simp at h
  · simp at h

theorem colsFrom_spec {rows : List (List Leaf)} {sz : Nat} : ∀ (c : Nat) (cols : List (Nat → DV)), c ≤ sz → colsFrom std rows sz c = some cols →
    cols.length = c ∧ ∀ (j : Nat) (f : Nat → DV), cols[j]? = some f → colAt std (rows.map fun r => getN .un r (sz - c + j)) = some f
  | 0, cols, _, h => by simp [colsFrom] at h; subst h; simp
  | c + 1, cols, hc, h => by
    simp only [colsFrom] at h
    split at h
    · rename_i f l hf hl
      simp at h; subst h
      obtain ⟨h1, h2⟩ := colsFrom_spec c l (by omega) hl
      refine ⟨by simp [h1], fun j g hg => ?_⟩
      cases j with
      | zero => simp at hg; subst hg; simpa using hf
      | succ j =>
        have := h2 j g (by simpa using hg)
        rwa [show sz - c + j = sz - (c + 1) + (j + 1) by omega] at this
    · simp at h

theorem Lay.cells {sz n : Nat} {cells : Array Value} {cs : List Leaf} (h : Lay γ w sz 1 cells [cs]) : RCells γ w cs cells.toList := by
  obtain ⟨h1, h2⟩ := h.row 0 cs rfl
  refine ⟨by have := h.size; simp; omega, fun j l hj => ?_⟩
  obtain ⟨u, hu, hr⟩ := h2 j l hj
  exact ⟨u, by simpa using hu, hr⟩

theorem bs_fin {d ty p af g t e} {n : Nat} {parts : Array (Nat × Operand)} {cells : Array Value} {V : V} {σ' : St} {γ' : Ghost} (hr : (Instr.buildSlice t n (parts.map fun (i, x) => (i, a.eval x))).run P w = .ok (.slice (some ⟨w.heap.size, 0, none⟩) n n) { w with heap := w.heap.push (.cells cells e) })
    (hk' : k V σ') (hR : Rel w0 mine γ' σ' a { w with heap := w.heap.push (.cells cells e) }) (hv : RV γ' { w with heap := w.heap.push (.cells cells e) } V (.slice (some ⟨w.heap.size, 0, none⟩) n n)) :
    Does P w0 mine a w ⟨d, .buildSlice t n parts, ty, p, af, g⟩ k := by
  refine .inl ⟨_, _, ?_, V, σ', γ', hk', hR, hv⟩
  simp only [execOp, Sem.run_bind, hr, Result.andThen_ok, Sem.run_pure]

theorem does_buildSlice0 (hE : EnvOk P E) (R : Rel w0 mine γ σ a w) {d ty p af g t e} {parts : Array (Nat × Operand)} (hk : (E t).k = .sl e) (hke : okK (E e).k = true) (hps : partsV σ parts.toList = some []) (hpos : 0 < (E e).size)
    (h : k (.one (.lf (.o σ.next 0 0))) (mkObj σ (.deep (E e).size 0 (fun _ => [])))) : Does P w0 mine a w ⟨d, .buildSlice t 0 parts, ty, p, af, g⟩ k := by
  obtain ⟨cells, hr, hl⟩ := run_buildSlice (n := 0) hE R hk hke hps (by simp) hpos (by simp)
  have hc0 : cells = #[] := Array.eq_empty_of_size_eq_zero (by have := hl.size; simpa using this)
  subst hc0
  obtain ⟨R', hv⟩ := R.newDeep (n := 0) (sz := (E e).size) (cap := 0) (f := fun _ => []) (vs := fun _ _ => undef) (cs := #[]) (t := e) (fr := (0, 0)) (wext_push w (.cells #[] e)) (keep_push R.st.keep _) (by simp) (by simp) (.inl (Nat.le_refl _)) hpos (Nat.le_refl _) (by simp)
    (fun i hi => absurd hi (Nat.not_lt_zero i)) (fun i j d hi => absurd hi (Nat.not_lt_zero i))
  exact bs_fin hr h R' hv

theorem does_buildSlice1 (hE : EnvOk P E) (R : Rel w0 mine γ σ a w) {d ty p af g t e} {parts : Array (Nat × Operand)} {cs : List Leaf} (hk : (E t).k = .sl e) (hke : okK (E e).k = true) (hps : partsV σ parts.toList = some [(0, cs)]) (hpos : 0 < (E e).size)
    (hlen : cs.length = (E e).size) (hn : (E e).size ≤ 16777216) (h : k (.one (.lf (.o σ.next 0 1))) (mkObj σ (.vars cs))) : Does P w0 mine a w ⟨d, .buildSlice t 1 parts, ty, p, af, g⟩ k := by
  obtain ⟨cells, hr, hl⟩ := run_buildSlice (n := 1) hE R hk hke hps (by omega) hpos (by simp [hlen])
  have hc : RCells γ w cs cells.toList := Lay.cells (sz := (E e).size) (n := 1) (by simpa [layRows, setN] using hl)
  have R' := R.newVars e (E e).size (.inr hlen.symm) hc
  refine bs_fin hr h (by simpa using R') ⟨rfl, ⟨some w.heap.size, 0, (E e).size, cs.length, 1⟩, _, 1, by simp [Ghost.add], rfl, Nat.le_refl _, by simp, by simp [hlen], fun _ => ⟨w.heap.size, rfl, by simp⟩⟩

theorem does_buildSliceT (hE : EnvOk P E) (R : Rel w0 mine γ σ a w) {d ty p af g t e} {n : Nat} {parts : Array (Nat × Operand)} {ps : List (Nat × List Leaf)} {cols : List (Nat → DV)} (hk : (E t).k = .sl e) (hke : okK (E e).k = true) (hps : partsV σ parts.toList = some ps) (hpos : 0 < (E e).size)
    (hcols : colsFrom std (layRows (E e).size ((E e).zero.map leafOfValue) n ps) (E e).size (E e).size = some cols) (hok : ∀ p, p ∈ ps → p.1 < n ∧ p.2.length = (E e).size) (hn : n * (E e).size ≤ 16777216)
    (hk' : k (.one (.lf (.o σ.next 0 n))) (mkObj σ (.deep (E e).size n (fun i => cols.map fun c => c i)))) : Does P w0 mine a w ⟨d, .buildSlice t n parts, ty, p, af, g⟩ k := by
  obtain ⟨cells, hr, hl⟩ := run_buildSlice hE R hk hke hps hn hpos hok
  obtain ⟨hcl, hcs⟩ := colsFrom_spec _ cols (Nat.le_refl _) hcols
  obtain ⟨R', hv⟩ := R.newDeep (n := n) (sz := (E e).size) (cap := n) (f := fun i => cols.map fun c => c i) (vs := fun i j => cells.toList.getD (i * (E e).size + j) undef) (cs := cells) (t := e) (fr := (0, 0)) (wext_push w (.cells cells e)) (keep_push R.st.keep _) (by simp) (by simp) (.inl (Nat.le_refl _)) hpos (Nat.le_refl _) (by rw [hl.size]; exact Nat.le_refl _)
    (fun i hi => by simp [hcl]) (fun i j d hi hj => by
      simp only [List.getElem?_map, Option.map_eq_some_iff] at hj
      obtain ⟨f, hf, rfl⟩ := hj
      have hcol := hcs j f hf
      have hjlt : j < (E e).size := by rw [← hcl]; exact (List.getElem?_eq_some_iff.mp hf).1
      rw [show (E e).size - (E e).size + j = j by omega] at hcol
      obtain ⟨row, hrow⟩ : ∃ row, (layRows (E e).size ((E e).zero.map leafOfValue) n ps)[i]? = some row := ⟨_, List.getElem?_eq_getElem (by rw [hl.len]; exact hi)⟩
      obtain ⟨hrl, hrr⟩ := hl.row i row hrow
      obtain ⟨l, hl'⟩ : ∃ l, row[j]? = some l := ⟨_, List.getElem?_eq_getElem (by omega)⟩
      obtain ⟨u, hu, hru⟩ := hrr j l hl'
      obtain ⟨v, hfv, hlv, h1⟩ := colAt_spec hcol i l (by rw [List.getElem?_map, hrow]; simp [getN_getD, List.getD, hl'])
      subst hlv
      have huv : u = v := hru.2
      subst huv
      have e1 : cells.toList.getD (i * (E e).size + j) undef = u := by simp [List.getD, hu]
      rw [e1, hfv]
      exact ⟨hu, .s _ _ h1⟩)
  exact bs_fin hr hk' R' hv

theorem allS_spec {α β : Type} {h : α → Option β} : ∀ {l : List α} {r : List β}, allS h l = some r → r.length = l.length ∧ ∀ (i : Nat) (x : α), l[i]? = some x → ∃ y, r[i]? = some y ∧ h x = some y
  | [], r, e => by simp [allS] at e; subst e; simp
  | x :: l, r, e => by
    simp only [allS] at e
    split at e
    · rename_i d hd
      split at e
      · rename_i ds hds
        simp at e; subst e
        obtain ⟨h1, h2⟩ := allS_spec hds
        refine ⟨by simp [h1], fun i y hy => ?_⟩
        cases i with
        | zero => simp at hy; subst hy; exact ⟨d, rfl, hd⟩
        | succ i => simpa using h2 i y (by simpa using hy)
      · simp at e
    · simp at e

theorem zeroC_sound {v : Value} {d : DV} (h : zeroC v = some d) (w : World) (F : FP) : OwnT w F v d := by
  unfold zeroC at h
  split at h <;> simp at h <;> subst h
  · exact .nl _ _ _ _
  all_goals exact .s _ _ rfl

theorem does_makeSlice (hE : EnvOk P E) (R : Rel w0 mine γ σ a w) {d ty p af g t e} {l c : Operand} {n m : Int} {ds : List DV} (hk : (E t).k = .sl e) (hke : okK (E e).k = true) (hl : intV (evA σ l) = some n) (hc : intV (evA σ c) = some m)
    (hpos : 0 < (E e).size) (h0 : 0 ≤ n) (h1 : n ≤ m) (hr : m.toNat * (E e).bytes ≤ 140737488355328) (hm : m ≤ 9223372036854775807) (hz : allS zeroC (E e).zero = some ds)
    (h : k (.one (.lf (.o σ.next 0 (std.natI n)))) (mkObj σ (.deep (E e).size (std.natI n) (fun _ => ds)))) : Does P w0 mine a w ⟨d, .makeSlice t l c, ty, p, af, g⟩ k := by
  have hT := hE t (by rw [hk]; simp)
  have hTe := hE e (okK_ne hke)
  obtain ⟨kl, hl'⟩ := R.int hl
  obtain ⟨kc, hc'⟩ := R.int hc
  obtain ⟨x, hx, hxs, hxb, z, hzz, hzc⟩ := hTe.run_info
  have hsz : (sizeOf e).run P w = .ok (E e).size w := hTe.run_size w
  have hzs : z.cells.size = (E e).size := by rw [← hTe.len, ← hzc]; simp
  obtain ⟨hdl, hdz⟩ := allS_spec hz
  let cells : Array Value := if m.toNat * (E e).size = 0 then #[] else (Array.range (m.toNat * (E e).size)).map (z.cells[· % z.cells.size]!)
  have hcs : cells.size = m.toNat * (E e).size := by
    simp only [cells]; split
    · rename_i h; simp [h]
    · simp
  have hrun : (Instr.makeSlice t (.int kl n) (.int kc m)).run P w = .ok (.slice (some ⟨w.heap.size, 0, none⟩) n.toNat m.toNat) { w with heap := w.heap.push (.cells cells e) } := by
    have wn : IntKind.wrap .i64 n = n := IntWalk.i64_in n (by omega)
    have wm : IntKind.wrap .i64 m = m := IntWalk.i64_in m (by omega)
    have hle : (x.bytes : Int) * m ≤ 281474976710656 := by
      have h2 : (m.toNat : Int) = m := by omega
      rw [hxb, ← h2, Int.mul_comm]
      rw [← Int.natCast_mul]
      omega
    have c1 : decide (m < 0) = false := decide_eq_false (by omega)
    have c2 : decide ((x.bytes : Int) * m > 2 ^ 48) = false := decide_eq_false (by rw [show (2 : Int) ^ 48 = 281474976710656 from by decide]; omega)
    have c3 : decide (n < 0) = false := decide_eq_false (by omega)
    have c4 : decide (n > m) = false := decide_eq_false (by omega)
    simp only [Instr.makeSlice, Sem.run_bind, run_underlying (hT.sl hk), Result.andThen_ok, asInt, asIntOf, Sem.run_pure, run_typeInfo w hx, wn, wm, c1, c2, c3, c4, Bool.or_false, Bool.false_eq_true, if_false, run_askRoom, hsz]
    by_cases h0 : m.toNat * (E e).size = 0
    · have h00 : ∀ f : Nat → Value, Array.map f (Array.range 0) = #[] := fun f => Array.eq_empty_of_size_eq_zero (by simp)
      have hcz : cells = #[] := if_pos h0
      rw [hcz]
      simp only [h0, if_true, Sem.run_pure, Result.andThen_ok, Sem.run_bind, newRow, run_newObj, h00]
    · have hz0 : (zeroValue e).run P w = .ok z w := by simp [zeroValue, typeInfo, hx, hzz]
      simp only [if_neg h0, Sem.run_pure, Result.andThen_ok, Sem.run_bind, newRow, run_newObj, cells, hz0]
  obtain ⟨R', hv⟩ := R.newDeep (n := n.toNat) (sz := (E e).size) (cap := m.toNat) (f := fun _ => ds) (vs := fun i j => z.cells.toList.getD j undef) (cs := cells) (t := e) (fr := (0, 0)) (wext_push w (.cells cells e)) (keep_push R.st.keep _) (by simp) (by simp) (.inl (Nat.le_refl _)) hpos (by omega) (by rw [hcs]; exact Nat.le_refl _)
    (fun i hi => by rw [hdl, hTe.len]) (fun i j d hi hj => by
      have hjlt : j < (E e).size := by rw [← hTe.len, ← hdl]; exact (List.getElem?_eq_some_iff.mp hj).1
      obtain ⟨v, hv⟩ : ∃ v, (E e).zero[j]? = some v := ⟨_, List.getElem?_eq_getElem (by rw [hTe.len]; exact hjlt)⟩
      obtain ⟨y, hy, hzy⟩ := hdz j v hv
      rw [hj] at hy; cases hy
      have hlt : i * (E e).size + j < m.toNat * (E e).size := by
        have : i * (E e).size + (E e).size ≤ m.toNat * (E e).size := by rw [← Nat.succ_mul]; exact Nat.mul_le_mul_right _ (by omega)
        omega
      have e1 : z.cells.toList.getD j undef = v := by rw [hzc]; simp [List.getD, hv]
      rw [e1]
      refine ⟨?_, zeroC_sound hzy _ _⟩
      simp only [cells]
      rw [if_neg (by omega), Array.getElem?_map, Array.getElem?_range, if_pos hlt]
      simp only [Option.map_some]
      have hmod : (i * (E e).size + j) % z.cells.size = j := by rw [hzs, Nat.add_comm, Nat.add_mul_mod_self_right]; exact Nat.mod_eq_of_lt hjlt
      rw [hmod, getElem!_pos z.cells j (by rw [hzs]; exact hjlt)]
      have h5 : z.cells.toList[j]? = some v := by rw [hzc]; exact hv
      rw [List.getElem?_eq_getElem (by simp [hzs]; exact hjlt)] at h5
      simpa using h5)
  refine .inl ⟨_, _, ?_, _, _, _, h, R', hv⟩
  simp only [execOp, hl', hc', Sem.run_bind, hrun, Result.andThen_ok, Sem.run_pure]
end
end Go.AW
