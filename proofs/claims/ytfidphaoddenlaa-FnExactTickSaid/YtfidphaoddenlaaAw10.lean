/- The abstract calculus, part 10: objects taken, objects written. -/
import Derived.Test.YtfidphaoddenlaaAw9
import Derived.Laws.CopyRow
set_option linter.unusedVariables false
set_option linter.unusedSimpArgs false
namespace Go.AW

def Ghost.del (γ : Ghost) (id : Nat) : Ghost := { γ with g := fun i => if i = id then none else γ.g i }

section
variable {P : Program} {w0 w w' : World} {mine : FP} {γ γ' : Ghost} {σ : St} {a : Act} {k : V → St → Prop} {E : Env}

theorem beq_ne {i id : Nat} (h : Nat.beq i id = false) : i ≠ id := Nat.ne_of_beq_eq_false h

theorem kills_A (id : Nat) : Kills (fun i => i = id) (fun i => i = id) (fun i => i = id) (killA id) := by
  intro l
  cases l <;> simp only [killA]
  case fn f caps =>
    cases hb : caps.any (fun c => Nat.beq c.1 id) with
    | true => exact .inl rfl
    | false =>
      refine .inr ⟨rfl, fun j hj => ?_, by simp [qIds], by simp [snIds]⟩
      simp only [leafIds, List.mem_map] at hj
      obtain ⟨c, hc, rfl⟩ := hj
      have := List.any_eq_false.mp hb c hc
      simpa using this
  all_goals first
    | exact kill_ite _ id _ fun h => ⟨by simpa [leafIds] using h, by simp [qIds] <;> exact h, by simp [snIds] <;> exact h⟩
    | exact .inr ⟨by first | rfl | trivial, by simp [leafIds], by simp [qIds], by simp [snIds]⟩

/-- One object forgotten, and all that names it. -/
theorem RelS.drop1 (R : RelS w0 mine γ σ.store σ.next w) (id : Nat) : RelS w0 mine (γ.del id) (forget1 σ id).store (forget1 σ id).next w := by
  have S : Step γ (γ.del id) w w (fun i => i = id) (fun i => i = id) (fun i => i = id) := {
    root := fun i g b o h _ _ hb ho => ⟨hb, ho⟩
    g := fun i g h hne => by simp only [Ghost.del]; rw [if_neg hne]; exact h
    fp := fun i g h _ b hb => hb
    ext := fun i g h _ => Ext.refl _ _
    ro := fun b hb => hb
    rext := Ext.refl _ _ }
  have hl : ∀ i o, look (forget1 σ id).store i = some o → i ≠ id ∧ ∃ o', look σ.store i = some o' ∧ o = mapObj (killA id) o' := by
    intro i o h
    simp only [forget1, mapSt, look_drop, look_map] at h
    by_cases hi : i = id
    · rw [if_pos hi] at h; cases h
    · rw [if_neg hi] at h
      simp only [Option.map_eq_some_iff] at h
      obtain ⟨o', h1, h2⟩ := h
      exact ⟨hi, o', h1, h2.symm⟩
  refine ⟨?_, ?_, ?_, ?_, ?_, ?_, R.rolt, R.keep⟩
  · intro i o h
    obtain ⟨hi, o', ho', rfl⟩ := hl i o h
    obtain ⟨g, hg, hr⟩ := R.objs i o' ho'
    exact ⟨g, by simp only [Ghost.del]; rw [if_neg hi]; exact hg, RObj.step S (kills_A id) hg hr (fun b hb => hb) (Ext.refl _ _)⟩
  · intro i j o1 o2 h1 h2 hne
    obtain ⟨_, o1', h1', _⟩ := hl i o1 h1
    obtain ⟨_, o2', h2', _⟩ := hl j o2 h2
    exact R.disj i j o1' o2' h1' h2' hne
  · intro i o h
    obtain ⟨_, o', h', _⟩ := hl i o h
    exact R.ro i o' h'
  · intro i g h
    simp only [Ghost.del] at h
    by_cases hi : i = id
    · rw [if_pos hi] at h; cases h
    · rw [if_neg hi] at h; exact R.lt i g h
  · intro i g h
    simp only [Ghost.del] at h
    by_cases hi : i = id
    · rw [if_pos hi] at h; cases h
    · rw [if_neg hi] at h
      obtain ⟨o, ho⟩ := R.dom i g h
      exact ⟨mapObj (killA id) o, by simp only [forget1, mapSt, look_drop, look_map]; rw [if_neg hi, ho]; rfl⟩
  · intro i o h
    obtain ⟨_, o', h', _⟩ := hl i o h
    exact R.fp i o' h'

theorem Rel.drop1 (R : Rel w0 mine γ σ a w) (id : Nat) : Rel w0 mine (γ.del id) (forget1 σ id) a w := by
  have S : Step γ (γ.del id) w w (fun i => i = id) (fun i => i = id) (fun i => i = id) := {
    root := fun i g b o h _ _ hb ho => ⟨hb, ho⟩
    g := fun i g h hne => by simp only [Ghost.del]; rw [if_neg hne]; exact h
    fp := fun i g h _ b hb => hb
    ext := fun i g h _ => Ext.refl _ _
    ro := fun b hb => hb
    rext := Ext.refl _ _ }
  refine ⟨by simp [forget1, mapSt, R.size], fun i => ?_, R.st.drop1 id⟩
  simp only [forget1, mapSt]
  rw [getN_map (mapV (killA id)) undefV undefV (by simp [mapV, undefV])]
  exact (R.slots i).kill S (kills_A id)


theorem shF_std (off : Nat) (f : Nat → List DV) : shF std off f = fun i => f (off + i) := by
  cases off with
  | zero => simp [shF]
  | succ o => rfl


/-- A ghost in which one object has more blocks. -/
def Ghost.grow (γ : Ghost) (id : Nat) (g : G1) (F : FP) : Ghost :=
  { g := fun i => if i = id then some g else γ.g i, fp := fun i => if i = id then F else γ.fp i, ro := γ.ro }

theorem step_write (R : RelS w0 mine γ σ.store σ.next w) {id : Nat} {o : Obj} {g g' : G1} (dead rd : Nat → Prop) (ho : look σ.store id = some o) (hg : γ.g id = some g) (F : FP) (hgg : ¬ dead id → g' = g)
    (hroot : ¬ rd id → ∀ b x, g.blk = some b → w.heap[b]? = some x → F b ∧ w'.heap[b]? = some x)
    (hext : ∀ b (x : Go.Obj), ¬ γ.fp id b → w.heap[b]? = some x → w'.heap[b]? = some x) : Step γ (γ.grow id g' F) w w' dead rd (fun i => i = id) where
  root := fun i gi b x hi hb hn hf hx => by
    simp only [Ghost.grow]
    by_cases he : i = id
    · subst he; rw [if_pos rfl]; rw [hg] at hi; cases hi
      exact hroot hn b x hb hx
    · rw [if_neg he]
      obtain ⟨oi, hoi⟩ := R.dom i gi hi
      exact ⟨hf, hext b x (fun hf' => R.disj id i o oi ho hoi (Ne.symm he) b hf' hf) hx⟩
  g := fun i gi hi hn => by
    simp only [Ghost.grow]
    by_cases he : i = id
    · subst he; rw [if_pos rfl]; rw [hg] at hi; cases hi; rw [hgg hn]
    · rw [if_neg he]; exact hi
  fp := fun i gi hi hn b hb => by simp only [Ghost.grow]; rw [if_neg hn]; exact hb
  ext := fun i gi hi hn b x hb hx => by
    obtain ⟨oi, hoi⟩ := R.dom i gi hi
    exact hext b x (fun hf => R.disj id i o oi ho hoi (Ne.symm hn) b hf hb) hx
  ro := fun b hb => hb
  rext := fun b x hb hx => hext b x (fun hf => R.ro id o ho b hf hb) hx

/-- One object written, in place or anew: all else stays. 'F': its blocks. -/
theorem Rel.write (R : Rel w0 mine γ σ a w) {id : Nat} {o o' : Obj} {g g' : G1} (dead rd : Nat → Prop) (h : Leaf → Leaf) (hk : Kills dead rd (fun i => i = id) h) (ho : look σ.store id = some o) (hg : γ.g id = some g) {F : FP}
    (hgg : ¬ dead id → g' = g) (hroot : ¬ rd id → ∀ b x, g.blk = some b → w.heap[b]? = some x → F b ∧ w'.heap[b]? = some x)
    (hF : ∀ b, F b → (γ.fp id b ∨ (∀ i oi, look σ.store i = some oi → ¬ γ.fp i b) ∧ ¬ γ.ro b) ∧ b < w'.heap.size ∧ (w0.heap.size ≤ b ∨ mine b))
    (hext : ∀ b (x : Go.Obj), ¬ γ.fp id b → w.heap[b]? = some x → w'.heap[b]? = some x) (hs : w.heap.size ≤ w'.heap.size) (hkeep : Keep w0 mine w')
    (hobj : RObj (γ.grow id g' F) w' id g' (mapObj h o')) :
    Rel w0 mine (γ.grow id g' F) (mapSt h (putObj σ id o')) a w' := by
  have S : Step γ (γ.grow id g' F) w w' dead rd (fun i => i = id) := step_write R.st dead rd ho hg F hgg hroot hext
  have hlook : ∀ i, look (mapSt h (putObj σ id o')).store i = if i = id then some (mapObj h o') else (look σ.store i).map (mapObj h) := by
    intro i
    simp only [mapSt, putObj, look_map, look_put, ho]
    by_cases hi : i = id
    · simp [hi]
    · simp [hi]
  refine ⟨by simp [mapSt, putObj, R.size], fun i => ?_, ?_, ?_, ?_, ?_, ?_, ?_, ?_, hkeep⟩
  · simp only [mapSt, putObj]
    rw [getN_map (mapV h) undefV undefV (by simp [mapV, undefV])]
    exact (R.slots i).kill S hk
  · intro i x hx
    rw [hlook] at hx
    by_cases hi : i = id
    · rw [if_pos hi] at hx; cases hx; subst hi
      exact ⟨g', by simp [Ghost.grow], hobj⟩
    · rw [if_neg hi] at hx
      simp only [Option.map_eq_some_iff] at hx
      obtain ⟨x', hx', rfl⟩ := hx
      obtain ⟨gi, hgi, hr⟩ := R.st.objs i x' hx'
      refine ⟨gi, by simp [Ghost.grow, hi, hgi], RObj.step S hk hgi hr (fun b hb => by simp only [Ghost.grow]; rw [if_neg hi]; exact hb) (fun b y hb hy => ?_)⟩
      exact hext b y (fun hf => R.st.disj id i o x' ho hx' (Ne.symm hi) b hf hb) hy
  · intro i j x y hx hy hne b hb hb'
    rw [hlook] at hx hy
    simp only [Ghost.grow] at hb hb'
    by_cases hi : i = id
    · have hj : j ≠ id := fun e => hne (hi.trans e.symm)
      rw [if_pos hi] at hb
      rw [if_neg hj] at hb' hy
      simp only [Option.map_eq_some_iff] at hy
      obtain ⟨y', hy', rfl⟩ := hy
      rcases (hF b hb).1 with hf | ⟨hf, _⟩
      · exact R.st.disj id j o y' ho hy' (Ne.symm hj) b hf hb'
      · exact hf j y' hy' hb'
    · rw [if_neg hi] at hb hx
      simp only [Option.map_eq_some_iff] at hx
      obtain ⟨x', hx', rfl⟩ := hx
      by_cases hj : j = id
      · rw [if_pos hj] at hb'
        rcases (hF b hb').1 with hf | ⟨hf, _⟩
        · exact R.st.disj i id x' o hx' ho hi b hb hf
        · exact hf i x' hx' hb
      · rw [if_neg hj] at hb' hy
        simp only [Option.map_eq_some_iff] at hy
        obtain ⟨y', hy', rfl⟩ := hy
        exact R.st.disj i j x' y' hx' hy' hne b hb hb'
  · intro i x hx b hb hro
    rw [hlook] at hx
    simp only [Ghost.grow] at hb hro
    by_cases hi : i = id
    · rw [if_pos hi] at hb
      rcases (hF b hb).1 with hf | ⟨_, hf⟩
      · exact R.st.ro id o ho b hf hro
      · exact hf hro
    · rw [if_neg hi] at hb hx
      simp only [Option.map_eq_some_iff] at hx
      obtain ⟨x', hx', rfl⟩ := hx
      exact R.st.ro i x' hx' b hb hro
  · intro i gi hi
    show i < σ.next
    simp only [Ghost.grow] at hi
    by_cases he : i = id
    · subst he; exact R.st.lt i g hg
    · rw [if_neg he] at hi; exact R.st.lt i gi hi
  · intro i gi hi
    rw [hlook]
    simp only [Ghost.grow] at hi
    by_cases he : i = id
    · rw [if_pos he]; exact ⟨_, rfl⟩
    · rw [if_neg he] at hi ⊢
      obtain ⟨x, hx⟩ := R.st.dom i gi hi
      exact ⟨mapObj h x, by rw [hx]; rfl⟩
  · intro i x hx b hb
    rw [hlook] at hx
    simp only [Ghost.grow] at hb
    by_cases hi : i = id
    · rw [if_pos hi] at hb; exact (hF b hb).2
    · rw [if_neg hi] at hb hx
      simp only [Option.map_eq_some_iff] at hx
      obtain ⟨x', hx', rfl⟩ := hx
      have := R.st.fp i x' hx' b hb
      exact ⟨by omega, this.2⟩
  · intro b hb
    have := R.st.rolt b hb
    omega


/-- Nobody's blocks. -/
def Free (w0 : World) (mine : FP) (γ : Ghost) (st : List (Nat × Obj)) (w : World) (F : FP) : Prop :=
  ∀ b, F b → (∀ i oi, look st i = some oi → ¬ γ.fp i b) ∧ ¬ γ.ro b ∧ b < w.heap.size ∧ (w0.heap.size ≤ b ∨ mine b)

/-- What stays when something is taken out: what leaves say, and what was nobody's. -/
structure Took (w0 : World) (mine : FP) (a : Act) (w : World) (γ : Ghost) (σ : St) (h : Leaf → Leaf) (F : FP) (γ' : Ghost) (σ' : St) (h' : Leaf → Leaf) : Prop where
  R : Rel w0 mine γ' σ' a w
  leaf : ∀ l u, RLeaf γ w (h l) u → RLeaf γ' w (h' l) u
  free : Free w0 mine γ' σ'.store w F
  keep : ∀ H : FP, Free w0 mine γ σ.store w H → Free w0 mine γ' σ'.store w H ∧ ∀ x, H x → ¬ F x
  next : σ'.next = σ.next

theorem free_none : Free w0 mine γ σ.store w (fun _ => False) := fun b hb => hb.elim
theorem Took.refl (R : Rel w0 mine γ σ a w) (h : Leaf → Leaf) : Took w0 mine a w γ σ h (fun _ => False) γ σ h := ⟨R, fun _ _ hl => hl, free_none, fun H hH => ⟨hH, fun _ _ hx => hx⟩, rfl⟩
theorem Took.trans {σ' σ'' : St} {γ'' : Ghost} {h h' h'' : Leaf → Leaf} {F F' : FP} (T : Took w0 mine a w γ σ h F γ' σ' h') (T' : Took w0 mine a w γ' σ' h' F' γ'' σ'' h'') : Took w0 mine a w γ σ h (fun x => F x ∨ F' x) γ'' σ'' h'' := by
  refine ⟨T'.R, fun l u hl => T'.leaf l u (T.leaf l u hl), fun b hb => ?_, fun H hH => ?_, T'.next.trans T.next⟩
  · rcases hb with hb | hb
    · exact (T'.keep F T.free).1 b hb
    · exact T'.free b hb
  · obtain ⟨h1, h2⟩ := T.keep H hH
    obtain ⟨h3, h4⟩ := T'.keep H h1
    exact ⟨h3, fun x hx hf => hf.elim (h2 x hx) (h4 x hx)⟩
theorem Took.mono {σ' : St} {h h' : Leaf → Leaf} {F F' : FP} (T : Took w0 mine a w γ σ h F γ' σ' h') (hF : ∀ b, F' b → F b) : Took w0 mine a w γ σ h F' γ' σ' h' :=
  ⟨T.R, T.leaf, fun b hb => T.free b (hF b hb), fun H hH => ⟨(T.keep H hH).1, fun x hx hf => (T.keep H hH).2 x hx (hF x hf)⟩, T.next⟩

/-- A whole object taken. -/
theorem took_drop (R : Rel w0 mine γ σ a w) {id : Nat} {o : Obj} (ho : look σ.store id = some o) : Took w0 mine a w γ σ (fun l => l) (γ.fp id) (γ.del id) (forget1 σ id) (killA id) := by
  have hl : ∀ i oi, look (forget1 σ id).store i = some oi → i ≠ id ∧ ∃ o', look σ.store i = some o' := by
    intro i oi h
    simp only [forget1, mapSt, look_drop, look_map] at h
    by_cases hi : i = id
    · rw [if_pos hi] at h; cases h
    · rw [if_neg hi] at h
      simp only [Option.map_eq_some_iff] at h
      obtain ⟨o', h1, h2⟩ := h
      exact ⟨hi, o', h1⟩
  have S : Step γ (γ.del id) w w (fun i => i = id) (fun i => i = id) (fun i => i = id) := {
    root := fun i g b o h _ _ hb ho => ⟨hb, ho⟩
    g := fun i g h hne => by simp only [Ghost.del]; rw [if_neg hne]; exact h
    fp := fun i g h _ b hb => hb
    ext := fun i g h _ => Ext.refl _ _
    ro := fun b hb => hb
    rext := Ext.refl _ _ }
  refine ⟨R.drop1 id, fun l u h => h.kill S (kills_A id), fun b hb => ⟨fun i oi hi hf => ?_, R.st.ro id o ho b hb, R.st.fp id o ho b hb⟩, fun H hH => ⟨fun b hb => ?_, fun x hx hf => (hH x hx).1 id o ho hf⟩, rfl⟩
  · obtain ⟨hne, o', ho'⟩ := hl i oi hi
    exact R.st.disj i id o' o ho' ho hne b hf hb
  · obtain ⟨h1, h2, h3⟩ := hH b hb
    exact ⟨fun i oi hi => let ⟨_, o', ho'⟩ := hl i oi hi; h1 i o' ho', h2, h3⟩

theorem setD1_spec : ∀ (l : List DV) (j : Nat) (d : DV), (setD1 l j d).length = l.length ∧ ∀ q, (setD1 l j d)[q]? = if q = j ∧ j < l.length then some d else l[q]?
  | [], j, d => by simp [setD1]
  | a :: l, 0, d => by
    refine ⟨by simp [setD1], fun q => ?_⟩
    cases q <;> simp [setD1]
  | a :: l, j + 1, d => by
    obtain ⟨h1, h2⟩ := setD1_spec l j d
    refine ⟨by simp [setD1, h1], fun q => ?_⟩
    cases q with
    | zero => simp [setD1]
    | succ q => simp [setD1, h2 q]

/-- A row's slice taken: a hole stays. -/
theorem took_hole (R : Rel w0 mine γ σ a w) {id i j sz m sz' n' : Nat} {F f : Nat → List DV} {c : Value} (ho : look σ.store id = some (.deep sz m F)) (hd : (F i)[j]? = some (.l sz' n' f)) (hc : AtCell γ w id i j c) :
    ∃ γ' G, Took w0 mine a w γ σ (fun l => l) G γ' (mapSt (killS id) (putObj σ id (.deep sz m (std.setF F i (setD1 (F i) j .x))))) (killS id) ∧ OwnT w G c (.l sz' n' f) := by
  obtain ⟨g, b, cs, t, fr, hg, hb, hlt, hfp, hh, hcell⟩ := hc
  obtain ⟨g', hg', hr⟩ := R.st.objs id _ ho
  rw [hg] at hg'; cases hg'
  simp only [RObj, hb] at hr
  obtain ⟨hgn, hgs, hs0, cs', t', fr', vs, G, hfp', hh', hun, htot, hn, hlen, hG, hGd, hv⟩ := hr
  rw [hh] at hh'; cases hh'
  obtain ⟨h1, h2⟩ := hv i j _ (by omega) hd
  rw [hcell] at h1; cases h1
  have hjlt : j < (F i).length := (List.getElem?_eq_some_iff.mp hd).1
  let F1 : FP := fun x => γ.fp id x ∧ ¬ G i j x
  have hbF : F1 b := ⟨hfp, fun hx => (hG i j b hx).2 rfl⟩
  have S := step_write (w' := w) R.st (g' := g) (fun _ => False) (fun _ => False) ho hg F1 (fun _ => rfl) (fun _ b' x hb' hx => by rw [hb] at hb'; cases hb'; exact ⟨hbF, hx⟩) (fun b x _ hx => hx)
  have R' := R.write (o' := .deep sz m (std.setF F i (setD1 (F i) j .x))) (g' := g) (F := F1) (w' := w) (fun _ => False) (fun _ => False) (killS id) (kills_S id) ho hg (fun _ => rfl) (fun _ b' x hb' hx => by rw [hb] at hb'; cases hb'; exact ⟨hbF, hx⟩)
    (fun x hx => ⟨.inl hx.1, R.st.fp id _ ho x hx.1⟩) (fun b x _ hx => hx) (Nat.le_refl _) R.st.keep (by
      simp only [mapObj, RObj, hb]
      obtain ⟨s1, s2⟩ := setD1_spec (F i) j .x
      refine ⟨hgn, hgs, hs0, cs, t, fr, vs, fun i0 j0 x => G i0 j0 x ∧ ¬ (i0 = i ∧ j0 = j), by simpa [Ghost.grow] using hbF, hh, hun, htot, hn, ?_, ?_, fun i0 j0 i1 j1 x hx hy => hGd _ _ _ _ x hx.1 hy.1, ?_⟩
      · intro i0 hi0
        simp only [std]
        split
        · rename_i e; subst e; rw [s1]; exact hlen _ hi0
        · exact hlen i0 hi0
      · intro i0 j0 x hx
        simp only [Ghost.grow, if_true]
        refine ⟨⟨(hG _ _ x hx.1).1, fun hy => ?_⟩, (hG _ _ x hx.1).2⟩
        have := hGd _ _ _ _ x hx.1 hy
        exact hx.2 this
      · intro i0 j0 d hi0 hd0
        simp only [std] at hd0
        have hd1 : (i0 = i ∧ j0 = j ∧ d = .x) ∨ (¬ (i0 = i ∧ j0 = j) ∧ (F i0)[j0]? = some d) := by
          split at hd0
          · rename_i e
            subst e
            rw [s2] at hd0
            split at hd0
            · rename_i e; simp at hd0; exact .inl ⟨rfl, e.1, hd0.symm⟩
            · rename_i e; exact .inr ⟨fun c => e ⟨c.2, hjlt⟩, hd0⟩
          · rename_i e; exact .inr ⟨fun c => e c.1, hd0⟩
        rcases hd1 with ⟨rfl, rfl, rfl⟩ | ⟨hne, hd1⟩
        · obtain ⟨h3, h4⟩ := hv _ _ _ hi0 hd
          exact ⟨h3, .x _ _ h4.one⟩
        · obtain ⟨h3, h4⟩ := hv _ _ _ hi0 hd1
          exact ⟨h3, h4.mono (fun x hx => ⟨hx, hne⟩) (Ext.refl _ _)⟩)
  have hl : ∀ i0 oi, look (mapSt (killS id) (putObj σ id (.deep sz m (std.setF F i (setD1 (F i) j .x))))).store i0 = some oi → ∃ o', look σ.store i0 = some o' := by
    intro i0 oi h
    simp only [mapSt, putObj, look_map, look_put, ho] at h
    by_cases hi : i0 = id
    · subst hi; exact ⟨_, ho⟩
    · simp only [hi, false_and, if_false, Option.map_eq_some_iff] at h
      obtain ⟨o', h1, _⟩ := h
      exact ⟨o', h1⟩
  refine ⟨_, G i j, ⟨R', fun l u h => h.kill S (kills_S id), fun x hx => ?_, fun H hH => ⟨fun x hx => ?_, fun x hx hf => (hH x hx).1 id _ ho (hG i j x hf).1⟩, rfl⟩, h2⟩
  · have hfx := (hG i j x hx).1
    refine ⟨fun i0 oi hi hf => ?_, R.st.ro id _ ho x hfx, R.st.fp id _ ho x hfx⟩
    obtain ⟨o', ho'⟩ := hl i0 oi hi
    simp only [Ghost.grow] at hf
    by_cases e : i0 = id
    · rw [if_pos e] at hf; exact hf.2 hx
    · rw [if_neg e] at hf; exact R.st.disj i0 id _ _ ho' ho e x hf hfx
  · obtain ⟨h1, h3, h4⟩ := hH x hx
    refine ⟨fun i0 oi hi hf => ?_, h3, h4⟩
    obtain ⟨o', ho'⟩ := hl i0 oi hi
    simp only [Ghost.grow] at hf
    by_cases e : i0 = id
    · rw [if_pos e] at hf; exact h1 id _ ho hf.1
    · rw [if_neg e] at hf; exact h1 i0 o' ho' hf

theorem flatCs_sound {cs : List Leaf} {us : List Value} (hr : RCells γ w cs us) {ds : List DV} (h : flatCs cs = some ds) : ds.length = cs.length ∧ ∀ (j : Nat) (d : DV), ds[j]? = some d → ∃ u, us[j]? = some u ∧ OwnT w (fun _ => False) u d := by
  induction cs generalizing us ds with
  | nil => simp [flatCs] at h; subst h; exact ⟨rfl, fun j d hj => by simp at hj⟩
  | cons l t ih =>
    obtain ⟨u0, us', rfl⟩ : ∃ u0 us', us = u0 :: us' := by
      cases us with
      | nil => exact absurd hr.1 (by simp)
      | cons u us => exact ⟨u, us, rfl⟩
    obtain ⟨u, hu, hl⟩ := hr.2 0 l rfl
    simp at hu; subst hu
    simp only [flatCs] at h
    split at h
    · rename_i d ds' h1 h2
      simp at h; subst h
      obtain ⟨i1, i2⟩ := ih (us := us') ⟨by simpa using hr.1, fun j l hj => by simpa using hr.2 (j + 1) l (by simpa using hj)⟩ h2
      refine ⟨by simp [i1], fun j d' hd => ?_⟩
      cases j with
      | succ j => simpa using i2 j d' (by simpa using hd)
      | zero =>
        simp at hd; subst hd
        refine ⟨u0, rfl, ?_⟩
        unfold flatC at h1
        split at h1
        · simp at h1; subst h1
          have : u0 = _ := hl.2
          subst this
          exact .s _ _ hl.1
        · simp at h1; subst h1
          have : u0 = _ := hl.2
          subst this
          exact .nl _ _ _ _
        · cases h1
    · cases h

theorem own_obj (R : RelS w0 mine γ σ.store σ.next w) {id off len sz n : Nat} {f : Nat → List DV} {u : Value} (hl : RLeaf γ w (.o id off len) u) (hs : look σ.store id = some (.deep sz n f)) : OwnT w (γ.fp id) u (.l sz len (shF std off f)) := by
  obtain ⟨g, A, cap, hg, hu, hle, hgn, htot, had⟩ := hl.2
  rw [shF_std]
  subst hu
  rcases Nat.eq_zero_or_pos cap with h0 | h0
  · have : len = 0 := by omega
    subst h0 this
    exact .nl _ _ _ _
  · obtain ⟨b, hb, hA⟩ := had h0
    subst hA
    obtain ⟨g', hg', ho⟩ := R.objs id _ hs
    rw [hg] at hg'; cases hg'
    simp only [RObj, hb] at ho
    obtain ⟨hn, rfl, hs0, cs, t, fr, vs, G, hfp, hh, hun, htot', hnt, hlen, hG, hGd, hv⟩ := ho
    have hoff : ∀ i j, g.base + off * g.sz + i * g.sz + j = g.base + (off + i) * g.sz + j := fun i j => by rw [Nat.add_mul]; omega
    refine .bl _ b (g.base + off * g.sz) len cap g.sz _ cs t fr (fun i j => vs (off + i) j) (fun i j => G (off + i) j) hfp hs0 hh hun hle ?_ (fun i hi => hlen _ (by omega)) (fun i j x hx => hG _ _ x hx) (fun i j i' j' x h1 h2 => ?_) (fun i j d hi hd => ?_) (fun i j d hi hd => (hv _ j d (by omega) hd).2)
    · have : (off + cap) * g.sz = off * g.sz + cap * g.sz := Nat.add_mul _ _ _
      omega
    · have := hGd _ _ _ _ x h1 h2
      omega
    · rw [hoff]
      exact (hv _ j d (by omega) hd).1

theorem takeC_sound (R : Rel w0 mine γ σ a w) {l : Leaf} {u : Value} (hl : RLeaf γ w l u) {d : DV} {σ' : St} {hf : Leaf → Leaf} (h : takeC std σ l = some (d, σ', hf)) :
    ∃ γ' F, Took w0 mine a w γ σ (fun l => l) F γ' σ' hf ∧ OwnT w F u d := by
  cases l
  case q id i j v n =>
    cases v with
    | some v => simp [takeC] at h
    | none =>
      simp only [takeC] at h
      split at h
      · rename_i sz m F ho
        split at h
        · rename_i sz' n' f hd
          simp at h; obtain ⟨rfl, rfl, rfl⟩ := h
          rw [nthO_getElem?] at hd
          obtain ⟨c, hc, hw⟩ := hl.2
          have : u = c := hw.1
          subst this
          exact took_hole R ho hd hc
        · cases h
      · cases h
  all_goals simp only [takeC] at h
  all_goals try (simp at h; done)
  case s v =>
    simp at h; obtain ⟨rfl, rfl, rfl⟩ := h
    have : u = v := hl.2
    subst this
    exact ⟨γ, _, Took.refl R _, .s _ _ hl.1⟩
  case nil =>
    simp at h; obtain ⟨rfl, rfl, rfl⟩ := h
    have : u = .slice none 0 0 := hl.2
    subst this
    exact ⟨γ, _, Took.refl R _, .nl _ _ _ _⟩
  case o id off len =>
    obtain ⟨g, A, cap, hg, hu, hle, hgn, htot, had⟩ := hl.2
    split at h
    · rename_i sz n f hs
      simp only [Option.some.injEq, Prod.mk.injEq] at h
      obtain ⟨rfl, rfl, rfl⟩ := h
      rw [shF_std]
      subst hu
      refine ⟨_, _, took_drop R hs, ?_⟩
      rcases Nat.eq_zero_or_pos cap with h0 | h0
      · have : len = 0 := by omega
        subst h0 this
        exact .nl _ _ _ _
      · obtain ⟨b, hb, hA⟩ := had h0
        subst hA
        obtain ⟨g', hg', ho⟩ := R.st.objs id _ hs
        rw [hg] at hg'; cases hg'
        simp only [RObj, hb] at ho
        obtain ⟨hn, rfl, hs0, cs, t, fr, vs, G, hfp, hh, hun, htot', hnt, hlen, hG, hGd, hv⟩ := ho
        have hoff : ∀ i j, g.base + off * g.sz + i * g.sz + j = g.base + (off + i) * g.sz + j := fun i j => by rw [Nat.add_mul]; omega
        refine .bl _ b (g.base + off * g.sz) len cap g.sz _ cs t fr (fun i j => vs (off + i) j) (fun i j => G (off + i) j) hfp hs0 hh hun hle ?_ (fun i hi => hlen _ (by omega)) (fun i j x hx => hG _ _ x hx) (fun i j i' j' x h1 h2 => ?_) (fun i j d hi hd => ?_) (fun i j d hi hd => (hv _ j d (by omega) hd).2)
        · have : (off + cap) * g.sz = off * g.sz + cap * g.sz := Nat.add_mul _ _ _
          omega
        · have := hGd _ _ _ _ x h1 h2
          omega
        · rw [hoff]
          exact (hv _ j d (by omega) hd).1
    · rename_i cs hs
      split at h
      · rename_i l0 t0
        split at h
        · rename_i ds hds
          simp only [Option.some.injEq, Prod.mk.injEq] at h
          obtain ⟨rfl, rfl, rfl⟩ := h
          obtain ⟨g', hg', b, cur, et, fr, hb, hfp, hh, hun, hbase, hct, hcs, hgz, hrc⟩ := R.st.objs id _ hs
          rw [hg] at hg'; cases hg'
          obtain ⟨hdl, hdv⟩ := flatCs_sound hrc hds
          obtain ⟨b', hb', hA⟩ := had (by omega)
          rw [hb] at hb'; cases hb'
          subst hA hu
          refine ⟨_, _, took_drop R hs, ?_⟩
          have hgz' : g.sz = (l0 :: t0).length := by
            rcases hgz.1 with h0 | h0
            · rw [h0, hct] at htot; simp at htot
            · exact h0
          have hcap : cap = 1 := by
            rw [hct, hgz', Nat.zero_add] at htot
            have hpos : 0 < (l0 :: t0).length := by simp
            have : cap * (l0 :: t0).length = 1 * (l0 :: t0).length := by rw [htot, Nat.one_mul]
            exact Nat.eq_of_mul_eq_mul_right hpos this
          subst hcap
          refine .bl _ b _ 1 1 _ _ cur et fr (fun _ j => cur.toList.getD j undef) (fun _ _ _ => False) hfp (by simp) hh hun (Nat.le_refl _) (by rw [hbase, hcs]; simp) (fun i hi => hdl) (fun i j x hx => hx.elim) (fun i j i' j' x hx => hx.elim) ?_ ?_
          · intro i j d hi hd
            have : i = 0 := by omega
            subst this
            obtain ⟨v, hv, _⟩ := hdv j d hd
            rw [hbase]
            simp only [Nat.zero_mul, Nat.zero_add]
            rw [List.getD_eq_getElem?_getD, hv]
            simpa using hv
          · intro i j d hi hd
            obtain ⟨v, hv, ho⟩ := hdv j d hd
            rw [List.getD_eq_getElem?_getD, hv]
            exact ho
        · cases h
      · cases h
    · cases h

theorem takeCs_sound : ∀ (cs : List Leaf) (us : List Value) (σ : St) (γ : Ghost) (h : Leaf → Leaf) (ds : List DV) (σ' : St) (h' : Leaf → Leaf), Rel w0 mine γ σ a w → us.length = cs.length → (∀ (j : Nat) (l : Leaf), cs[j]? = some l → ∃ u, us[j]? = some u ∧ RLeaf γ w (h l) u) →
    takeCs std cs σ h = some (ds, σ', h') → ∃ (γ' : Ghost) (G : Nat → FP), Took w0 mine a w γ σ h (fun x => ∃ j, G j x) γ' σ' h' ∧ ds.length = cs.length ∧ (∀ j j' x, G j x → G j' x → j = j') ∧ ∀ (j : Nat) (d : DV), ds[j]? = some d → ∃ u, us[j]? = some u ∧ OwnT w (G j) u d
  | [], us, σ, γ, h, ds, σ', h', R, hl, hr, ht => by
    simp [takeCs] at ht
    obtain ⟨rfl, rfl, rfl⟩ := ht
    exact ⟨γ, fun _ _ => False, (Took.refl R h).mono (fun b ⟨_, hb⟩ => hb), rfl, fun j j' x hx => hx.elim, fun j d hd => by simp at hd⟩
  | l :: t, us, σ, γ, h, ds, σ', h', R, hl, hr, ht => by
    obtain ⟨u0, us', rfl⟩ : ∃ u0 us', us = u0 :: us' := by
      cases us with
      | nil => simp at hl
      | cons u us => exact ⟨u, us, rfl⟩
    obtain ⟨u, hu, hlu⟩ := hr 0 l rfl
    simp at hu; subst hu
    simp only [takeCs] at ht
    split at ht
    · rename_i d σ1 h1 ht1
      split at ht
      · rename_i ds2 σ2 h2 ht2
        simp only [Option.some.injEq, Prod.mk.injEq] at ht
        obtain ⟨rfl, rfl, rfl⟩ := ht
        obtain ⟨γ1, F1, T1, o1⟩ := takeC_sound R hlu ht1
        obtain ⟨γ2, G, T2, hdl, hGd, hv⟩ := takeCs_sound t us' σ1 γ1 (fun l => h1 (h l)) ds2 σ2 h2 T1.R (by simpa using hl) (fun j l' hj => by
          obtain ⟨u, hu, hlu⟩ := hr (j + 1) l' (by simpa using hj)
          exact ⟨u, by simpa using hu, T1.leaf _ _ hlu⟩) ht2
        have T1' : Took w0 mine a w γ σ h F1 γ1 σ1 (fun l => h1 (h l)) := ⟨T1.R, fun l u hl => T1.leaf _ _ hl, T1.free, T1.keep, T1.next⟩
        refine ⟨γ2, fun j => match j with | 0 => F1 | j + 1 => G j, (T1'.trans T2).mono ?_, by simp [hdl], ?_, ?_⟩
        · rintro b ⟨j, hb⟩
          cases j with
          | zero => exact .inl hb
          | succ j => exact .inr ⟨j, hb⟩
        · have hcross : ∀ j x, F1 x → G j x → False := fun j x hf hg => (T2.keep F1 T1.free).2 x hf ⟨j, hg⟩
          intro j j' x hx hx'
          cases j with
          | zero => cases j' with
            | zero => rfl
            | succ j' => exact (hcross j' x hx hx').elim
          | succ j => cases j' with
            | zero => exact (hcross j x hx' hx).elim
            | succ j' => rw [hGd j j' x hx hx']
        · intro j d' hd'
          cases j with
          | zero => simp at hd'; subst hd'; exact ⟨u0, rfl, o1⟩
          | succ j => simpa using hv j d' (by simpa using hd')
      · cases ht
    · cases ht
end
end Go.AW
