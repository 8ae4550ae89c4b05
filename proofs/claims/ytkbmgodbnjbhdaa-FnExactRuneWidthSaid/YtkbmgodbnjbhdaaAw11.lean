/- The abstract calculus, part 11: cells written, rows appended. -/
import Derived.Test.YtkbmgodbnjbhdaaAw10
set_option linter.unusedVariables false
set_option linter.unusedSimpArgs false
namespace Go.AW

theorem run_storeCells_U (P : Program) (b o : Nat) (t : TypeId) (fr : Nat × Nat) : ∀ (vs : List Value) (i : Nat) (cur : Array Value) (w : World), w.heap[b]? = some (.cells cur t fr) → Unfrozen fr cur.size → o + i + vs.length ≤ cur.size → vs.all (·.oneCell') = true →
    ∃ cs', (storeCells ⟨b, o, none⟩ vs i).run P w = .ok () (w.setRow b cs') ∧ cs'.size = cur.size ∧ ∀ j, cs'[j]? = if o + i ≤ j ∧ j < o + i + vs.length then vs[j - (o + i)]? else cur[j]?
  | [], i, cur, w, hg, _, _, _ => by
    refine ⟨cur, ?_, rfl, fun j => by rw [if_neg (by simp)]⟩
    rw [setRow_self w b cur t fr hg]
    rfl
  | v :: rest, i, cur, w, hg, hu, hl, h1 => by
    simp only [List.length_cons] at hl
    simp only [List.all_cons, Bool.and_eq_true] at h1
    have hi : o + i < cur.size := by omega
    have hcell : w.cell? ⟨b, o + i, none⟩ = some cur[o + i] := by rw [cell_at hg]; exact Array.getElem?_eq_getElem hi
    have hfro : w.frozen? ⟨b, o + i, none⟩ = false := by
      obtain ⟨lo, hi'⟩ := fr
      simp only [World.frozen?, hg, Bool.and_eq_false_iff, decide_eq_false_iff_not]
      rcases hu with hu | hu
      · simp only at hu
        rcases Nat.lt_or_ge (o + i) lo with h | h
        · left; omega
        · right; omega
      · simp only at hu; left; omega
    have hst : (store ((⟨b, o, none⟩ : Addr).add i) v).run P w = .ok () (w.setRow b (cur.setIfInBounds (o + i) v)) := by
      rw [add_at, run_store P w _ v _ h1.1, hcell]
      simp [hfro, setCell_eq_setRow w b (o + i) cur t fr v hg]
    obtain ⟨cs', hr, hs, hc⟩ := run_storeCells_U P b o t fr rest (i + 1) (cur.setIfInBounds (o + i) v) (w.setRow b (cur.setIfInBounds (o + i) v)) (setRow_heap w b cur _ t fr hg) (by simpa using hu) (by simp; omega) h1.2
    refine ⟨cs', ?_, by simpa using hs, fun j => ?_⟩
    · simp only [storeCells, Sem.run_bind, hst, Result.andThen_ok, hr, setRow_setRow]
    · rw [hc j]
      simp only [Array.getElem?_setIfInBounds, List.length_cons]
      by_cases hj : j = o + i
      · subst hj
        rw [if_neg (by omega), if_pos rfl, if_pos hi, if_pos (by omega)]
        simp
      · by_cases hr : o + (i + 1) ≤ j ∧ j < o + (i + 1) + rest.length
        · rw [if_pos hr, if_pos (by omega), show j - (o + i) = (j - (o + (i + 1))) + 1 by omega]
          simp
        · rw [if_neg hr, if_neg (by omega), if_neg (by omega)]

theorem go_spec : ∀ (l vs r : List Leaf), setCells.go l vs = some r → r.length = l.length ∧ vs.length ≤ l.length ∧ ∀ q, r[q]? = if q < vs.length then vs[q]? else l[q]?
  | l, [], r, h => by
    have : r = l := by cases l <;> simp [setCells.go] at h <;> first | exact h.symm | exact h
    subst this; simp
  | [], v :: vs, r, h => by simp [setCells.go] at h
  | a :: l, v :: vs, r, h => by
    simp only [setCells.go] at h
    split at h
    · rename_i t ht
      simp at h; subst h
      obtain ⟨h1, h2, h3⟩ := go_spec l vs t ht
      refine ⟨by simp [h1], by simp; exact h2, fun q => ?_⟩
      cases q with
      | zero => simp
      | succ q => simp [h3 q]
    · simp at h
theorem setCells_spec : ∀ (l : List Leaf) (j : Nat) (vs r : List Leaf), setCells l j vs = some r → r.length = l.length ∧ j + vs.length ≤ l.length ∧ ∀ q, r[q]? = if j ≤ q ∧ q < j + vs.length then vs[q - j]? else l[q]?
  | l, 0, vs, r, h => by
    have := go_spec l vs r (by cases l <;> simpa [setCells] using h)
    simpa using this
  | [], j + 1, vs, r, h => by simp [setCells] at h
  | a :: l, j + 1, vs, r, h => by
    simp only [setCells] at h
    split at h
    · rename_i t ht
      simp at h; subst h
      obtain ⟨h1, h2, h3⟩ := setCells_spec l j vs t ht
      refine ⟨by simp [h1], by simp; omega, fun q => ?_⟩
      cases q with
      | zero => rw [if_neg (by omega)]; simp
      | succ q =>
        simp only [List.getElem?_cons_succ, h3 q]
        by_cases hq : j ≤ q ∧ q < j + vs.length
        · rw [if_pos hq, if_pos (by omega), show q + 1 - (j + 1) = q - j by omega]
        · rw [if_neg hq, if_neg (by omega)]
    · simp at h
theorem goD_spec : ∀ (l vs r : List DV), setDs.go l vs = some r → r.length = l.length ∧ vs.length ≤ l.length ∧ ∀ q, r[q]? = if q < vs.length then vs[q]? else l[q]?
  | l, [], r, h => by
    have : r = l := by cases l <;> simp [setDs.go] at h <;> first | exact h.symm | exact h
    subst this; simp
  | [], v :: vs, r, h => by simp [setDs.go] at h
  | a :: l, v :: vs, r, h => by
    simp only [setDs.go] at h
    split at h
    · rename_i t ht
      simp at h; subst h
      obtain ⟨h1, h2, h3⟩ := goD_spec l vs t ht
      refine ⟨by simp [h1], by simp; exact h2, fun q => ?_⟩
      cases q with
      | zero => simp
      | succ q => simp [h3 q]
    · simp at h
theorem setDs_spec : ∀ (l : List DV) (j : Nat) (vs r : List DV), setDs l j vs = some r → r.length = l.length ∧ j + vs.length ≤ l.length ∧ ∀ q, r[q]? = if j ≤ q ∧ q < j + vs.length then vs[q - j]? else l[q]?
  | l, 0, vs, r, h => by
    have := goD_spec l vs r (by cases l <;> simpa [setDs] using h)
    simpa using this
  | [], j + 1, vs, r, h => by simp [setDs] at h
  | a :: l, j + 1, vs, r, h => by
    simp only [setDs] at h
    split at h
    · rename_i t ht
      simp at h; subst h
      obtain ⟨h1, h2, h3⟩ := setDs_spec l j vs t ht
      refine ⟨by simp [h1], by simp; omega, fun q => ?_⟩
      cases q with
      | zero => rw [if_neg (by omega)]; simp
      | succ q =>
        simp only [List.getElem?_cons_succ, h3 q]
        by_cases hq : j ≤ q ∧ q < j + vs.length
        · rw [if_pos hq, if_pos (by omega), show q + 1 - (j + 1) = q - j by omega]
        · rw [if_neg hq, if_neg (by omega)]
    · simp at h

section
variable {P : Program} {w0 w w' : World} {mine : FP} {γ γ' : Ghost} {σ : St} {a : Act} {k : V → St → Prop} {E : Env}

/-- A ghost in which one object has more blocks. -/
def Ghost.grow (γ : Ghost) (id : Nat) (g : G1) (F : FP) : Ghost :=
  { g := fun i => if i = id then some g else γ.g i, fp := fun i => if i = id then F else γ.fp i, ro := γ.ro }

theorem step_write (R : RelS w0 mine γ σ.store σ.next w) {id : Nat} {o : Obj} {g g' : G1} (dead : Nat → Prop) (ho : look σ.store id = some o) (hg : γ.g id = some g) (F : FP) (hgg : ¬ dead id → g' = g)
    (hext : ∀ b (x : Go.Obj), ¬ γ.fp id b → w.heap[b]? = some x → w'.heap[b]? = some x) : Step γ (γ.grow id g' F) w w' dead (fun i => i = id) where
  g := fun i gi hi hn => by
    simp only [Ghost.grow]
    by_cases he : i = id
    · subst he; rw [if_pos rfl]; rw [hg] at hi; cases hi; rw [hgg hn]
    · rw [if_neg he]; exact hi
  fp := fun i gi hi hn b hb => by simp only [Ghost.grow]; rw [if_neg hn]; exact hb
  ext := fun i gi hi hn b x hb hx => by
    obtain ⟨oi, hoi⟩ := R.dom i gi hi
    exact hext b x (fun hf => R.disj id i o oi ho hoi (Ne.symm hn) b hf hb) hx
  ro := fun b hb => hb
  rext := fun b x hb hx => hext b x (fun hf => R.ro id o ho b hf hb) hx

/-- One object written, in place or anew: all else stays. 'F': its blocks. -/
theorem Rel.write (R : Rel w0 mine γ σ a w) {id : Nat} {o o' : Obj} {g g' : G1} (dead : Nat → Prop) (h : Leaf → Leaf) (hk : Kills dead (fun i => i = id) h) (ho : look σ.store id = some o) (hg : γ.g id = some g) {F : FP}
    (hgg : ¬ dead id → g' = g)
    (hF : ∀ b, F b → (γ.fp id b ∨ (∀ i oi, look σ.store i = some oi → ¬ γ.fp i b) ∧ ¬ γ.ro b) ∧ b < w'.heap.size ∧ (w0.heap.size ≤ b ∨ mine b))
    (hext : ∀ b (x : Go.Obj), ¬ γ.fp id b → w.heap[b]? = some x → w'.heap[b]? = some x) (hs : w.heap.size ≤ w'.heap.size) (hkeep : Keep w0 mine w')
    (hobj : RObj (γ.grow id g' F) w' id g' (mapObj h o')) :
    Rel w0 mine (γ.grow id g' F) (mapSt h (putObj σ id o')) a w' := by
  have S : Step γ (γ.grow id g' F) w w' dead (fun i => i = id) := step_write R.st dead ho hg F hgg hext
  have hlook : ∀ i, look (mapSt h (putObj σ id o')).store i = if i = id then some (mapObj h o') else (look σ.store i).map (mapObj h) := by
    intro i
    simp only [mapSt, putObj, look_map, look_put, ho]
    by_cases hi : i = id
    · simp [hi]
    · simp [hi]
  refine ⟨by simp [mapSt, putObj, R.size], fun i => ?_, ?_, ?_, ?_, ?_, ?_, ?_, ?_, hkeep⟩
  · simp only [mapSt, putObj]
    rw [getN_map (mapV h) undefV undefV (by simp [mapV, undefV])]
    exact (R.slots i).kill S hk
  · intro i x hx
    rw [hlook] at hx
    by_cases hi : i = id
    · rw [if_pos hi] at hx; cases hx; subst hi
      exact ⟨g', by simp [Ghost.grow], hobj⟩
    · rw [if_neg hi] at hx
      simp only [Option.map_eq_some_iff] at hx
      obtain ⟨x', hx', rfl⟩ := hx
      obtain ⟨gi, hgi, hr⟩ := R.st.objs i x' hx'
      refine ⟨gi, by simp [Ghost.grow, hi, hgi], RObj.step S hk hgi hr (fun b hb => by simp only [Ghost.grow]; rw [if_neg hi]; exact hb) (fun b y hb hy => ?_)⟩
      exact hext b y (fun hf => R.st.disj id i o x' ho hx' (Ne.symm hi) b hf hb) hy
  · intro i j x y hx hy hne b hb hb'
    rw [hlook] at hx hy
    simp only [Ghost.grow] at hb hb'
    by_cases hi : i = id
    · have hj : j ≠ id := fun e => hne (hi.trans e.symm)
      rw [if_pos hi] at hb
      rw [if_neg hj] at hb' hy
      simp only [Option.map_eq_some_iff] at hy
      obtain ⟨y', hy', rfl⟩ := hy
      rcases (hF b hb).1 with hf | ⟨hf, _⟩
      · exact R.st.disj id j o y' ho hy' (Ne.symm hj) b hf hb'
      · exact hf j y' hy' hb'
    · rw [if_neg hi] at hb hx
      simp only [Option.map_eq_some_iff] at hx
      obtain ⟨x', hx', rfl⟩ := hx
      by_cases hj : j = id
      · rw [if_pos hj] at hb'
        rcases (hF b hb').1 with hf | ⟨hf, _⟩
        · exact R.st.disj i id x' o hx' ho hi b hb hf
        · exact hf i x' hx' hb
      · rw [if_neg hj] at hb' hy
        simp only [Option.map_eq_some_iff] at hy
        obtain ⟨y', hy', rfl⟩ := hy
        exact R.st.disj i j x' y' hx' hy' hne b hb hb'
  · intro i x hx b hb hro
    rw [hlook] at hx
    simp only [Ghost.grow] at hb hro
    by_cases hi : i = id
    · rw [if_pos hi] at hb
      rcases (hF b hb).1 with hf | ⟨_, hf⟩
      · exact R.st.ro id o ho b hf hro
      · exact hf hro
    · rw [if_neg hi] at hb hx
      simp only [Option.map_eq_some_iff] at hx
      obtain ⟨x', hx', rfl⟩ := hx
      exact R.st.ro i x' hx' b hb hro
  · intro i gi hi
    show i < σ.next
    simp only [Ghost.grow] at hi
    by_cases he : i = id
    · subst he; exact R.st.lt i g hg
    · rw [if_neg he] at hi; exact R.st.lt i gi hi
  · intro i gi hi
    rw [hlook]
    simp only [Ghost.grow] at hi
    by_cases he : i = id
    · rw [if_pos he]; exact ⟨_, rfl⟩
    · rw [if_neg he] at hi ⊢
      obtain ⟨x, hx⟩ := R.st.dom i gi hi
      exact ⟨mapObj h x, by rw [hx]; rfl⟩
  · intro i x hx b hb
    rw [hlook] at hx
    simp only [Ghost.grow] at hb
    by_cases hi : i = id
    · rw [if_pos hi] at hb; exact (hF b hb).2
    · rw [if_neg hi] at hb hx
      simp only [Option.map_eq_some_iff] at hx
      obtain ⟨x', hx', rfl⟩ := hx
      have := R.st.fp i x' hx' b hb
      exact ⟨by omega, this.2⟩
  · intro b hb
    have := R.st.rolt b hb
    omega

theorem keep_setRow (h : Keep w0 mine w) {b : Nat} (cs : Array Value) (hb : w0.heap.size ≤ b ∨ mine b) : Keep w0 mine (w.setRow b cs) :=
  ⟨by simpa using h.size, h.os, h.tape, h.output, fun x hx hm => by
    rw [setRow_other w b x cs (by rintro rfl; rcases hb with hb | hb; omega; exact hm hb)]
    exact h.old x hx hm⟩

theorem run_storeAt {t : TypeId} {i : TI} (h : TIok P t i) {b off : Nat} {v : Value} {cur : Array Value} {et : TypeId} {fr : Nat × Nat} (hn : v.cells.toList.length = i.size) (h1 : v.cells.toList.all (·.oneCell') = true)
    (hg : w.heap[b]? = some (.cells cur et fr)) (hu : Unfrozen fr cur.size) (hl : off + i.size ≤ cur.size) :
    ∃ cs', (Instr.storeAt t (.pointer (some ⟨b, off, none⟩)) v).run P w = .ok () (w.setRow b cs') ∧ cs'.size = cur.size ∧ ∀ j, cs'[j]? = if off ≤ j ∧ j < off + i.size then v.cells.toList[j - off]? else cur[j]? := by
  obtain ⟨cs', hr, hs, hc⟩ := run_storeCells_U P b off et fr v.cells.toList 0 cur w hg hu (by omega) h1
  refine ⟨cs', ?_, hs, fun j => by rw [hc j, hn, Nat.add_zero]⟩
  have hsz : ¬ (v.cells.size ≠ i.size) := by
    intro hne
    apply hne
    rw [← hn]; simp
  simp only [Instr.storeAt, Instr.sureAddr, storeVar, Sem.run_bind, Sem.run_pure, Result.andThen_ok, h.run_size]
  rw [if_neg hsz]
  simpa using hr

theorem does_store_p (hE : EnvOk P E) (R : Rel w0 mine γ σ a w) {d ty p af g t} {x y : Operand} {id j : Nat} {cs cells cells' : List Leaf} (hk : okK (E t).k = true) (hx : evA σ x = .one (.lf (.p id j))) (hy : cellsOf (evA σ y) = some cs)
    (hlen : cs.length = (E t).size) (ho : look σ.store id = some (.vars cells)) (hset : setCells cells j cs = some cells') (h : k undefV (mapSt (killS id) (putObj σ id (.vars cells')))) :
    Does P w0 mine a w ⟨d, .store t x y, ty, p, af, g⟩ k := by
  have hT := hE t (okK_ne hk)
  obtain ⟨hrc, h1⟩ := cellsOf_sound (R.ev y) hy
  have hxr := R.ev x
  rw [hx] at hxr
  obtain ⟨g1, b, hg, hb, hu⟩ := hxr.2
  obtain ⟨g1', hg', b', cur, et, fr, hb', hfp, hh, hun, hbase, htot, hsz, hcells⟩ := R.st.objs id _ ho
  rw [hg] at hg'; cases hg'
  rw [hb] at hb'; cases hb'
  obtain ⟨s1, s2, s3⟩ := setCells_spec _ _ _ _ hset
  have hn : (a.eval y).cells.toList.length = (E t).size := by rw [hrc.1, hlen]
  obtain ⟨cs', hr, hs, hc⟩ := run_storeAt (w := w) hT (off := j) hn h1 hh hun (by omega)
  have hbd := R.st.fp id _ ho b hfp
  have hblt : b < w.heap.size := hbd.1
  have hext : ∀ b' (x : Go.Obj), ¬ γ.fp id b' → w.heap[b']? = some x → (w.setRow b cs').heap[b']? = some x := fun b' x hne hx => by
    rw [setRow_other w b b' cs' (by rintro rfl; exact hne hfp)]; exact hx
  have S := step_write (w' := w.setRow b cs') R.st (g' := g1) (fun _ => False) ho hg (γ.fp id) (fun _ => rfl) hext
  have R' := R.write (o' := .vars cells') (g' := g1) (F := γ.fp id) (w' := w.setRow b cs') (fun _ => False) (killS id) (kills_S id) ho hg (fun _ => rfl)
    (fun b' hb' => ⟨.inl hb', by have := R.st.fp id _ ho b' hb'; simpa using this⟩) hext (by simp) (keep_setRow R.st.keep cs' hbd.2) (by
      refine ⟨b, cs', et, fr, hb, by simpa [Ghost.grow] using hfp, setRow_heap w b cur cs' et fr hh, by rw [hs]; exact hun, hbase, by simp [s1, htot], by simp [s1, hs, hsz], by simp [s1, hs, hsz], ?_⟩
      intro q l hq
      simp only [List.getElem?_map, Option.map_eq_some_iff] at hq
      obtain ⟨l0, hl0, rfl⟩ := hq
      rw [s3 q] at hl0
      simp only [Array.getElem?_toList, hc q]
      by_cases hin : j ≤ q ∧ q < j + cs.length
      · rw [if_pos hin] at hl0
        rw [if_pos (by omega)]
        obtain ⟨u, hu', hru⟩ := hrc.2 _ l0 hl0
        exact ⟨u, by simpa using hu', hru.kill S (kills_S id)⟩
      · rw [if_neg hin] at hl0
        rw [if_neg (by omega)]
        obtain ⟨u, hu', hru⟩ := hcells.2 q l0 hl0
        exact ⟨u, by simpa using hu', hru.kill S (kills_S id)⟩)
  refine .inr (.inl ⟨w.setRow b cs', ?_, undefV, _, _, h, R', ⟨[], rfl, rfl, by simp⟩⟩)
  have hu2 : a.eval x = .pointer (some ⟨b, j, none⟩) := by rw [hu, hbase, Nat.zero_add]
  simp only [execOp, hu2, Sem.run_bind, hr, Result.andThen_ok, Sem.run_pure]

theorem mul_pos_ne {sz i i0 j j0 : Nat} (hj : j < sz) (hj0 : j0 < sz) (h : i * sz + j = i0 * sz + j0) : i = i0 ∧ j = j0 := by
  rcases Nat.lt_trichotomy i i0 with hlt | heq | hgt
  · have : i * sz + sz ≤ i0 * sz := by rw [← Nat.succ_mul]; exact Nat.mul_le_mul_right _ hlt
    omega
  · subst heq; omega
  · have : i0 * sz + sz ≤ i * sz := by rw [← Nat.succ_mul]; exact Nat.mul_le_mul_right _ hgt
    omega

theorem does_store_pr (hE : EnvOk P E) (R : Rel w0 mine γ σ a w) {d ty p af g t} {x y : Operand} {id i j sz n : Nat} {f : Nat → List DV} {cs : List Leaf} {ds row : List DV} {ids : List Nat} (hk : okK (E t).k = true) (hx : evA σ x = .one (.lf (.pr id i j))) (hy : cellsOf (evA σ y) = some cs)
    (hlen : cs.length = (E t).size) (hown : ownCs std (drop σ.store id) cs = some (ds, ids)) (ho : look σ.store id = some (.deep sz n f)) (hset : setDs (f i) j ds = some row)
    (h : k undefV (mapSt (killS id) (putObj (forget σ ids) id (.deep sz n (std.setF f i row))))) : Does P w0 mine a w ⟨d, .store t x y, ty, p, af, g⟩ k := by
  have hT := hE t (okK_ne hk)
  obtain ⟨hrc, h1⟩ := cellsOf_sound (R.ev y) hy
  have hxr := R.ev x
  rw [hx] at hxr
  obtain ⟨g1, b, hg, hb, hin, hu⟩ := hxr.2
  obtain ⟨g1', hg', hob⟩ := R.st.objs id _ ho
  rw [hg] at hg'; cases hg'
  simp only [RObj, hb] at hob
  obtain ⟨hgn, hgs, hs0, cur, et, fr, vs, G, hfp, hh, hun, htot, hnt, hl, hG, hGd, hv⟩ := hob
  have hst0 : ∀ i o, look (drop σ.store id) i = some o → look σ.store i = some o := fun i o hi => by
    rw [look_drop] at hi
    split at hi
    · cases hi
    · exact hi
  obtain ⟨hdl, hids, Gn, hGn, hGnd, hvn⟩ := ownCs_sound R.st cs _ _ ds ids hst0 hrc hown
  have hid : id ∉ ids := fun hm => by
    obtain ⟨o, ho'⟩ := hids id hm
    rw [look_drop, if_pos rfl] at ho'; cases ho'
  have hidsσ : ∀ i, i ∈ ids → ∃ o, look σ.store i = some o := fun i hi => let ⟨o, h⟩ := hids i hi; ⟨o, hst0 i o h⟩
  obtain ⟨s1, s2, s3⟩ := setDs_spec _ _ _ _ hset
  have hi : i < n := by omega
  have hsz := hl i hi
  have hdlen : ds.length = (E t).size := by rw [hdl, hlen]
  have hn : (a.eval y).cells.toList.length = (E t).size := by rw [hrc.1, hlen]
  have hrow : i * g1.sz + g1.sz ≤ n * g1.sz := by rw [← Nat.succ_mul]; exact Nat.mul_le_mul_right _ hi
  obtain ⟨cs', hr, hs, hc⟩ := run_storeAt (w := w) hT (off := g1.base + i * g1.sz + j) hn h1 hh hun (by omega)
  have R1 := R.drops ids
  have ho1 : look (forget σ ids).store id = some (.deep sz n f) := by rw [look_forget, if_neg hid, ho]; rfl
  have hg1 : (γ.dels ids).g id = some g1 := by rw [Ghost.dels_g ids γ id hid]; exact hg
  have hfp1 : ∀ i, (γ.dels ids).fp i = γ.fp i := fun i => by rw [Ghost.dels_fp]
  have hbd := R.st.fp id _ ho b hfp
  have hext : ∀ b' (x : Go.Obj), ¬ (γ.dels ids).fp id b' → w.heap[b']? = some x → (w.setRow b cs').heap[b']? = some x := fun b' x hne hx => by
    rw [setRow_other w b b' cs' (by rintro rfl; exact hne (by rw [hfp1]; exact hfp))]; exact hx
  have hnb : ∀ i x, i ∈ ids → γ.fp i x → x ≠ b := fun i x hi hx e => by
    obtain ⟨o, ho'⟩ := hidsσ i hi
    exact R.st.disj i id o _ ho' ho (fun e => hid (e ▸ hi)) x hx (e ▸ hfp)
  have R' := R1.write (o' := .deep sz n (std.setF f i row)) (g' := g1) (F := fun x => γ.fp id x ∨ ∃ i, i ∈ ids ∧ γ.fp i x) (w' := w.setRow b cs') (fun _ => False) (killS id) (kills_S id) ho1 hg1 (fun _ => rfl)
    (fun x hx => by
      rcases hx with hx | ⟨i, hi, hx⟩
      · exact ⟨.inl (by rw [hfp1]; exact hx), by have := R.st.fp id _ ho x hx; simpa using this⟩
      · obtain ⟨o, ho'⟩ := hidsσ i hi
        refine ⟨.inr ⟨fun i' oi hi' hf => ?_, by rw [Ghost.dels_ro]; exact R.st.ro i o ho' x hx⟩, by have := R.st.fp i o ho' x hx; simpa using this⟩
        rw [look_forget] at hi'
        split at hi'
        · cases hi'
        · rename_i hni
          simp only [Option.map_eq_some_iff] at hi'
          obtain ⟨o', ho'', _⟩ := hi'
          rw [hfp1] at hf
          exact R.st.disj i i' o o' ho' ho'' (fun e => hni (e ▸ hi)) x hx hf)
    hext (by simp) (keep_setRow R.st.keep cs' hbd.2) (by
      simp only [mapObj, RObj, hb]
      refine ⟨hgn, hgs, hs0, cs', et, fr, fun i0 j0 => if i0 = i ∧ j ≤ j0 ∧ j0 < j + ds.length then (a.eval y).cells.toList.getD (j0 - j) undef else vs i0 j0, fun i0 j0 => if i0 = i ∧ j ≤ j0 ∧ j0 < j + ds.length then Gn (j0 - j) else G i0 j0,
        by simp [Ghost.grow, hfp], setRow_heap w b cur cs' et fr hh, by rw [hs]; exact hun, by rw [hs]; exact htot, hnt, ?_, ?_, ?_, ?_⟩
      · intro i0 hi0
        simp only [std]
        split
        · rw [s1]; exact hsz
        · exact hl i0 hi0
      · intro i0 j0 x hx
        simp only [Ghost.grow, if_true]
        split at hx
        · obtain ⟨i', hi', hx'⟩ := hGn _ x hx
          exact ⟨.inr ⟨i', hi', hx'⟩, hnb i' x hi' hx'⟩
        · exact ⟨.inl (hG i0 j0 x hx).1, (hG i0 j0 x hx).2⟩
      · have hcross : ∀ q i0 j0 x, Gn q x → G i0 j0 x → False := fun q i0 j0 x h2 h3 => by
          obtain ⟨i', hi', hx'⟩ := hGn q x h2
          obtain ⟨o, ho'⟩ := hidsσ i' hi'
          exact R.st.disj i' id o _ ho' ho (fun e => hid (e ▸ hi')) x hx' (hG i0 j0 x h3).1
        intro i0 j0 i1 j1 x h2 h3
        split at h2
        · rename_i c2
          split at h3
          · rename_i c3
            have := hGnd _ _ x h2 h3
            omega
          · exact (hcross _ _ _ x h2 h3).elim
        · split at h3
          · exact (hcross _ _ _ x h3 h2).elim
          · exact hGd _ _ _ _ x h2 h3
      · intro i0 j0 d0 hi0 hd0
        simp only [std] at hd0
        have hj0 : j0 < g1.sz := by
          split at hd0
          · rw [← hsz, ← s1]; exact (List.getElem?_eq_some_iff.mp hd0).1
          · rw [← hl i0 hi0]; exact (List.getElem?_eq_some_iff.mp hd0).1
        have hpos : g1.base + i * g1.sz + j ≤ g1.base + i0 * g1.sz + j0 ∧ g1.base + i0 * g1.sz + j0 < g1.base + i * g1.sz + j + (E t).size ↔ i0 = i ∧ j ≤ j0 ∧ j0 < j + ds.length := by
          constructor
          · rintro ⟨h2, h3⟩
            have e : i0 = i := by
              rcases Nat.lt_trichotomy i0 i with hlt | heq | hgt
              · have : i0 * g1.sz + g1.sz ≤ i * g1.sz := by rw [← Nat.succ_mul]; exact Nat.mul_le_mul_right _ hlt
                omega
              · exact heq
              · have : i * g1.sz + g1.sz ≤ i0 * g1.sz := by rw [← Nat.succ_mul]; exact Nat.mul_le_mul_right _ hgt
                omega
            subst e
            omega
          · rintro ⟨rfl, h2, h3⟩
            omega
        dsimp only
        by_cases hcase : i0 = i ∧ j ≤ j0 ∧ j0 < j + ds.length
        · rw [if_pos hcase, if_pos hcase]
          obtain ⟨e1, e2, e3⟩ := hcase
          rw [if_pos e1, s3 j0, if_pos ⟨e2, e3⟩] at hd0
          obtain ⟨u, hu', hou⟩ := hvn _ d0 hd0
          have hgd : (a.eval y).cells.toList.getD (j0 - j) undef = u := by rw [List.getD_eq_getElem?_getD, hu']; rfl
          rw [hgd]
          refine ⟨?_, hou.mono (fun _ hb => hb) (fun b' x hb' hx => ?_)⟩
          · rw [hc, if_pos (hpos.mpr ⟨e1, e2, e3⟩), ← hu']
            congr 1
            subst e1
            omega
          · obtain ⟨i', hi', hx'⟩ := hGn _ b' hb'
            rw [setRow_other w b b' cs' (hnb i' b' hi' hx')]; exact hx
        · rw [if_neg hcase, if_neg hcase]
          have hd1 : (f i0)[j0]? = some d0 := by
            split at hd0
            · rename_i e
              rw [s3 j0, if_neg (fun c => hcase ⟨e, c.1, c.2⟩)] at hd0
              rw [e]; exact hd0
            · exact hd0
          obtain ⟨h2, h3⟩ := hv i0 j0 d0 hi0 hd1
          refine ⟨?_, h3.mono (fun _ hb => hb) (fun b' x hb' hx => ?_)⟩
          · rw [hc, if_neg (fun c => hcase (hpos.mp c))]; exact h2
          · rw [setRow_other w b b' cs' (hG i0 j0 b' hb').2]; exact hx)
  refine .inr (.inl ⟨w.setRow b cs', ?_, undefV, _, _, h, R', ⟨[], rfl, rfl, by simp⟩⟩)
  simp only [execOp, hu, Sem.run_bind, hr, Result.andThen_ok, Sem.run_pure]
end
end Go.AW
