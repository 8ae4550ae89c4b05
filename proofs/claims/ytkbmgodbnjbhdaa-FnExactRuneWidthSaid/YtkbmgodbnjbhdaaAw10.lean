/- The abstract calculus, part 10: objects taken, cells written. -/
import Derived.Test.YtkbmgodbnjbhdaaAw9
import Derived.Laws.CopyRow
set_option linter.unusedVariables false
set_option linter.unusedSimpArgs false
namespace Go.AW

def Ghost.del (γ : Ghost) (id : Nat) : Ghost := { γ with g := fun i => if i = id then none else γ.g i }

section
variable {P : Program} {w0 w w' : World} {mine : FP} {γ γ' : Ghost} {σ : St} {a : Act} {k : V → St → Prop} {E : Env}

theorem beq_ne {i id : Nat} (h : Nat.beq i id = false) : i ≠ id := Nat.ne_of_beq_eq_false h

theorem kills_one (i id : Nat) (l : Leaf) (hl : leafIds l = [i]) (hs : ∀ j, j ∈ snIds l → j = i) :
    (bif Nat.beq i id then Leaf.un else l) = .un ∨ ((bif Nat.beq i id then Leaf.un else l) = l ∧ Alive (fun i => i = id) (fun i => i = id) l) := by
  cases hb : Nat.beq i id with
  | true => exact .inl rfl
  | false =>
    have hne := beq_ne hb
    exact .inr ⟨rfl, fun j hj => by rw [hl] at hj; simp at hj; rw [hj]; exact hne, fun j hj => by rw [hs j hj]; exact hne⟩

theorem kills_A (id : Nat) : Kills (fun i => i = id) (fun i => i = id) (killA id) := by
  intro l
  cases l <;> simp only [killA]
  case fn f caps =>
    cases hb : caps.any (fun c => Nat.beq c.1 id) with
    | true => exact .inl rfl
    | false =>
      refine .inr ⟨rfl, fun j hj => ?_, fun j hj => by simp [snIds] at hj⟩
      simp only [leafIds, List.mem_map] at hj
      obtain ⟨c, hc, rfl⟩ := hj
      have := List.any_eq_false.mp hb c hc
      simpa using this
  all_goals first
    | (refine kills_one _ id _ rfl ?_; intro j hj; (simp only [snIds, List.not_mem_nil, List.mem_cons, or_false] at hj; try exact hj))
    | (exact .inr ⟨by first | rfl | trivial, fun i hi => by simp [leafIds] at hi, fun i hi => by simp [snIds] at hi⟩)

/-- One object forgotten, and all that names it. -/
theorem RelS.drop1 (R : RelS w0 mine γ σ.store σ.next w) (id : Nat) : RelS w0 mine (γ.del id) (forget1 σ id).store (forget1 σ id).next w := by
  have S : Step γ (γ.del id) w w (fun i => i = id) (fun i => i = id) := {
    g := fun i g h hne => by simp only [Ghost.del]; rw [if_neg hne]; exact h
    fp := fun i g h _ b hb => hb
    ext := fun i g h _ => Ext.refl _ _
    ro := fun b hb => hb
    rext := Ext.refl _ _ }
  have hl : ∀ i o, look (forget1 σ id).store i = some o → i ≠ id ∧ ∃ o', look σ.store i = some o' ∧ o = mapObj (killA id) o' := by
    intro i o h
    simp only [forget1, mapSt, look_drop, look_map] at h
    by_cases hi : i = id
    · rw [if_pos hi] at h; cases h
    · rw [if_neg hi] at h
      simp only [Option.map_eq_some_iff] at h
      obtain ⟨o', h1, h2⟩ := h
      exact ⟨hi, o', h1, h2.symm⟩
  refine ⟨?_, ?_, ?_, ?_, ?_, ?_, R.rolt, R.keep⟩
  · intro i o h
    obtain ⟨hi, o', ho', rfl⟩ := hl i o h
    obtain ⟨g, hg, hr⟩ := R.objs i o' ho'
    exact ⟨g, by simp only [Ghost.del]; rw [if_neg hi]; exact hg, RObj.step S (kills_A id) hg hr (fun b hb => hb) (Ext.refl _ _)⟩
  · intro i j o1 o2 h1 h2 hne
    obtain ⟨_, o1', h1', _⟩ := hl i o1 h1
    obtain ⟨_, o2', h2', _⟩ := hl j o2 h2
    exact R.disj i j o1' o2' h1' h2' hne
  · intro i o h
    obtain ⟨_, o', h', _⟩ := hl i o h
    exact R.ro i o' h'
  · intro i g h
    simp only [Ghost.del] at h
    by_cases hi : i = id
    · rw [if_pos hi] at h; cases h
    · rw [if_neg hi] at h; exact R.lt i g h
  · intro i g h
    simp only [Ghost.del] at h
    by_cases hi : i = id
    · rw [if_pos hi] at h; cases h
    · rw [if_neg hi] at h
      obtain ⟨o, ho⟩ := R.dom i g h
      exact ⟨mapObj (killA id) o, by simp only [forget1, mapSt, look_drop, look_map]; rw [if_neg hi, ho]; rfl⟩
  · intro i o h
    obtain ⟨_, o', h', _⟩ := hl i o h
    exact R.fp i o' h'

theorem Rel.drop1 (R : Rel w0 mine γ σ a w) (id : Nat) : Rel w0 mine (γ.del id) (forget1 σ id) a w := by
  have S : Step γ (γ.del id) w w (fun i => i = id) (fun i => i = id) := {
    g := fun i g h hne => by simp only [Ghost.del]; rw [if_neg hne]; exact h
    fp := fun i g h _ b hb => hb
    ext := fun i g h _ => Ext.refl _ _
    ro := fun b hb => hb
    rext := Ext.refl _ _ }
  refine ⟨by simp [forget1, mapSt, R.size], fun i => ?_, R.st.drop1 id⟩
  simp only [forget1, mapSt]
  rw [getN_map (mapV (killA id)) undefV undefV (by simp [mapV, undefV])]
  exact (R.slots i).kill S (kills_A id)

def Ghost.dels (γ : Ghost) : List Nat → Ghost
  | [] => γ
  | i :: t => (γ.del i).dels t
theorem Ghost.dels_fp : ∀ (ids : List Nat) (γ : Ghost), (γ.dels ids).fp = γ.fp
  | [], γ => rfl
  | i :: t, γ => (Ghost.dels_fp t (γ.del i)).trans rfl
theorem Ghost.dels_ro : ∀ (ids : List Nat) (γ : Ghost), (γ.dels ids).ro = γ.ro
  | [], γ => rfl
  | i :: t, γ => (Ghost.dels_ro t (γ.del i)).trans rfl
theorem Ghost.dels_g : ∀ (ids : List Nat) (γ : Ghost) (i : Nat), i ∉ ids → (γ.dels ids).g i = γ.g i
  | [], γ, i, _ => rfl
  | j :: t, γ, i, h => by
    simp only [List.mem_cons, not_or] at h
    rw [Ghost.dels, Ghost.dels_g t _ i h.2]
    simp [Ghost.del, h.1]
theorem Rel.drops (R : Rel w0 mine γ σ a w) : ∀ (ids : List Nat), Rel w0 mine (γ.dels ids) (forget σ ids) a w := by
  intro ids
  induction ids generalizing σ γ with
  | nil => exact R
  | cons i t ih => exact ih (R.drop1 i)
theorem forget_next : ∀ (ids : List Nat) (σ : St), (forget σ ids).next = σ.next
  | [], σ => rfl
  | i :: t, σ => by rw [show forget σ (i :: t) = forget (forget1 σ i) t from rfl, forget_next t]; rfl
theorem look_forget : ∀ (ids : List Nat) (σ : St) (i : Nat), look (forget σ ids).store i = if i ∈ ids then none else (look σ.store i).map (mapObj fun l => ids.foldl (fun l d => killA d l) l)
  | [], σ, i => by
    simp only [forget, List.foldl_nil, List.not_mem_nil, if_false]
    cases look σ.store i with
    | none => rfl
    | some o => simp [mapObj_id]
  | j :: t, σ, i => by
    rw [show forget σ (j :: t) = forget (forget1 σ j) t from rfl, look_forget t]
    simp only [forget1, mapSt, look_drop, look_map, List.mem_cons, List.foldl_cons]
    by_cases h1 : i ∈ t
    · simp [h1]
    · by_cases h2 : i = j
      · subst h2; simp [h1]
      · simp only [h1, h2, or_false, if_false, Option.map_map]
        congr 1
        funext o
        cases o <;> simp [mapObj, Function.comp_def]

/-! ### What is taken is owned -/
theorem shF_std (off : Nat) (f : Nat → List DV) : shF std off f = fun i => f (off + i) := by
  cases off with
  | zero => simp [shF]
  | succ o => rfl

theorem ownC_sound (R : RelS w0 mine γ σ.store σ.next w) {l : Leaf} {u : Value} (hl : RLeaf γ w l u) {d : DV} {ids : List Nat} (h : ownC std σ.store l = some (d, ids)) :
    ∃ F : FP, OwnT w F u d ∧ (∀ b, F b → ∃ id, id ∈ ids ∧ γ.fp id b) ∧ ∀ id, id ∈ ids → ∃ o, look σ.store id = some o := by
  cases l <;> simp only [ownC] at h <;> try (simp at h; done)
  case s v =>
    simp at h; obtain ⟨rfl, rfl⟩ := h
    have : u = v := hl.2
    subst this
    exact ⟨fun _ => False, .s _ _ hl.1, fun b hb => hb.elim, fun id hid => by simp at hid⟩
  case nil =>
    simp at h; obtain ⟨rfl, rfl⟩ := h
    have : u = .slice none 0 0 := hl.2
    subst this
    exact ⟨fun _ => False, .nl _ _ _ _, fun b hb => hb.elim, fun id hid => by simp at hid⟩
  case o id off len =>
    split at h
    · rename_i n f hs
      simp only [Option.some.injEq, Prod.mk.injEq] at h
      obtain ⟨rfl, rfl⟩ := h
      rw [shF_std]
      obtain ⟨g, A, cap, hg, hu, hle, hgn, htot, had⟩ := hl.2
      subst hu
      refine ⟨γ.fp id, ?_, fun b hb => ⟨id, by simp, hb⟩, fun i hi => by simp at hi; subst hi; exact ⟨_, hs⟩⟩
      rcases Nat.eq_zero_or_pos cap with h0 | h0
      · have : len = 0 := by omega
        subst h0 this
        exact .nl _ _ _ _
      · obtain ⟨b, hb, hA⟩ := had h0
        subst hA
        obtain ⟨g', hg', ho⟩ := R.objs id _ hs
        rw [hg] at hg'; cases hg'
        simp only [RObj, hb] at ho
        obtain ⟨hn, rfl, hs0, cs, t, fr, vs, G, hfp, hh, hun, htot', hnt, hlen, hG, hGd, hv⟩ := ho
        have hoff : ∀ i j, g.base + off * g.sz + i * g.sz + j = g.base + (off + i) * g.sz + j := fun i j => by rw [Nat.add_mul]; omega
        refine .bl _ b (g.base + off * g.sz) len cap g.sz _ cs t fr (fun i j => vs (off + i) j) (fun i j => G (off + i) j) hfp hs0 hh hun hle ?_ (fun i hi => hlen _ (by omega)) (fun i j x hx => hG _ _ x hx) (fun i j i' j' x h1 h2 => ?_) (fun i j d hi hd => ?_) (fun i j d hi hd => (hv _ j d (by omega) hd).2)
        · have : (off + cap) * g.sz = off * g.sz + cap * g.sz := Nat.add_mul _ _ _
          omega
        · have := hGd _ _ _ _ x h1 h2
          omega
        · rw [hoff]
          exact (hv _ j d (by omega) hd).1
    · simp at h

theorem dropsL_look {α : Type} : ∀ (ids : List Nat) (st : List (Nat × α)) (i : Nat), look (ids.foldl drop st) i = if i ∈ ids then none else look st i
  | [], st, i => by simp
  | j :: t, st, i => by
    rw [List.foldl_cons, dropsL_look t, look_drop]
    by_cases h1 : i ∈ t
    · simp [h1]
    · by_cases h2 : i = j <;> simp [h1, h2]

/-- A store with fewer objects. -/
theorem RelS.less {st st' : List (Nat × Obj)} {n : Nat} (R : RelS w0 mine γ st n w) (ids : List Nat) (h : ∀ i o, look st' i = some o → look st i = some o) :
    (∀ id o, look st' id = some o → ∃ g, γ.g id = some g ∧ RObj γ w id g o) ∧ (∀ id id' o o', look st' id = some o → look st' id' = some o' → id ≠ id' → ∀ b, γ.fp id b → ¬ γ.fp id' b) :=
  ⟨fun id o ho => R.objs id o (h id o ho), fun id id' o o' h1 h2 => R.disj id id' o o' (h id o h1) (h id' o' h2)⟩

theorem ownC_less {st st' : List (Nat × Obj)} (h : ∀ i o, look st' i = some o → look st i = some o) {l : Leaf} {r : DV × List Nat} (hr : ownC std st' l = some r) : ownC std st l = some r := by
  cases l <;> simp only [ownC] at hr ⊢ <;> try exact hr
  case o id off len =>
    split at hr
    · rename_i n f hs
      rw [h id _ hs]
      exact hr
    · simp at hr

theorem ownC_in {st : List (Nat × Obj)} {l : Leaf} {d : DV} {ids : List Nat} (h : ownC std st l = some (d, ids)) : ∀ i, i ∈ ids → ∃ o, look st i = some o := by
  cases l <;> simp only [ownC] at h <;> try (simp at h; done)
  case s v => simp at h; obtain ⟨_, rfl⟩ := h; simp
  case nil => simp at h; obtain ⟨_, rfl⟩ := h; simp
  case o id off len =>
    split at h
    · rename_i n f hs
      simp only [Option.some.injEq, Prod.mk.injEq] at h
      obtain ⟨_, rfl⟩ := h
      intro i hi; simp at hi; subst hi; exact ⟨_, hs⟩
    · simp at h

theorem ownCs_sound (R : RelS w0 mine γ σ.store σ.next w) : ∀ (cs : List Leaf) (us : List Value) (st : List (Nat × Obj)) (ds : List DV) (ids : List Nat), (∀ i o, look st i = some o → look σ.store i = some o) → RCells γ w cs us → ownCs std st cs = some (ds, ids) →
    ds.length = cs.length ∧ (∀ i, i ∈ ids → ∃ o, look st i = some o) ∧ ∃ G : Nat → FP, (∀ j x, G j x → ∃ id, id ∈ ids ∧ γ.fp id x) ∧ (∀ j j' x, G j x → G j' x → j = j') ∧ ∀ (j : Nat) (d : DV), ds[j]? = some d → ∃ u, us[j]? = some u ∧ OwnT w (G j) u d
  | [], us, st, ds, ids, _, _, h => by
    simp [ownCs] at h
    obtain ⟨rfl, rfl⟩ := h
    exact ⟨rfl, by simp, fun _ _ => False, fun j x hx => hx.elim, fun j j' x hx => hx.elim, fun j d hd => by simp at hd⟩
  | l :: t, us, st, ds, ids, hst, hr, h => by
    simp only [ownCs] at h
    split at h
    · rename_i d ids1 h1
      split at h
      · rename_i ds' ids2 h2
        simp only [Option.some.injEq, Prod.mk.injEq] at h
        obtain ⟨rfl, rfl⟩ := h
        obtain ⟨u0, us', rfl⟩ : ∃ u0 us', us = u0 :: us' := by
          cases us with
          | nil => exact absurd hr.1 (by simp)
          | cons u us => exact ⟨u, us, rfl⟩
        obtain ⟨u, hu, hlu⟩ := hr.2 0 l rfl
        simp at hu; subst hu
        obtain ⟨F, hF, hFs, hin⟩ := ownC_sound R hlu (ownC_less hst h1)
        have hr' : RCells γ w t us' := ⟨by have := hr.1; simpa using this, fun j l hj => by simpa using hr.2 (j + 1) l (by simpa using hj)⟩
        have hst' : ∀ i o, look (ids1.foldl drop st) i = some o → look σ.store i = some o := fun i o ho => by
          rw [dropsL_look] at ho
          split at ho
          · cases ho
          · exact hst i o ho
        obtain ⟨hl, hin2, G, hG, hGd, hv⟩ := ownCs_sound R t us' _ ds' ids2 hst' hr' h2
        have hin1 := ownC_in h1
        have hnew : ∀ i, i ∈ ids2 → i ∉ ids1 ∧ ∃ o, look st i = some o := fun i hi => by
          obtain ⟨o, ho⟩ := hin2 i hi
          rw [dropsL_look] at ho
          split at ho
          · cases ho
          · rename_i hn; exact ⟨hn, o, ho⟩
        refine ⟨by simp [hl], ?_, fun j => match j with | 0 => F | j + 1 => G j, ?_, ?_, ?_⟩
        · intro i hi
          rcases List.mem_append.mp hi with hi | hi
          · exact hin1 i hi
          · exact (hnew i hi).2
        · intro j x hx
          cases j with
          | zero => obtain ⟨id, h3, h4⟩ := hFs x hx; exact ⟨id, List.mem_append.mpr (.inl h3), h4⟩
          | succ j => obtain ⟨id, h3, h4⟩ := hG j x hx; exact ⟨id, List.mem_append.mpr (.inr h3), h4⟩
        · have hcross : ∀ j x, F x → G j x → False := fun j x hf hg => by
            obtain ⟨i1, h3, h4⟩ := hFs x hf
            obtain ⟨i2, h5, h6⟩ := hG j x hg
            obtain ⟨o1, ho1⟩ := hin1 i1 h3
            obtain ⟨hn, o2, ho2⟩ := hnew i2 h5
            exact R.disj i1 i2 o1 o2 (hst _ _ ho1) (hst _ _ ho2) (fun e => hn (e ▸ h3)) x h4 h6
          intro j j' x hx hx'
          cases j with
          | zero => cases j' with
            | zero => rfl
            | succ j' => exact (hcross j' x hx hx').elim
          | succ j => cases j' with
            | zero => exact (hcross j x hx' hx).elim
            | succ j' => rw [hGd j j' x hx hx']
        · intro j d' hd'
          cases j with
          | zero => simp at hd'; subst hd'; exact ⟨u0, rfl, hF⟩
          | succ j => simpa using hv j d' (by simpa using hd')
      · simp at h
    · simp at h
end
end Go.AW
