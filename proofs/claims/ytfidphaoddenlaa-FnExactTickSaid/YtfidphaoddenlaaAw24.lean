/- The abstract calculus, part 24: lending and taking are sound. -/
import Derived.Test.YtfidphaoddenlaaAw23
set_option linter.unusedVariables false
set_option linter.unusedSimpArgs false
namespace Go.AW

/-! ### Data told to be less -/
theorem dvLe_own {w : World} {F : FP} {u : Value} {d d' : DV} (h : OwnT w F u d) (e : dvLe d d') : OwnT w F u d' := by
  unfold dvLe at e
  split at e
  · exact .x _ _ h.one
  · rw [← e]; exact h
  · obtain ⟨rfl, e⟩ := e
    exact h.deq e
  · exact e.elim
theorem dvRo_ro {w : World} {F : FP} {u : Value} {d d' : DV} (h : RoT w F u d) (e : dvRo d d') : RoT w F u d' := by
  unfold dvRo at e
  split at e
  · exact .x _ h.one
  · rw [← e]; exact h
  · obtain ⟨rfl, e⟩ := e
    exact ((h.resz 0).deq e).resz _
  · exact e.elim
theorem allLe_get {r : DV → DV → Prop} : ∀ {ds ds' : List DV}, allLe r ds ds' → ds.length = ds'.length ∧ ∀ (j : Nat) (d' : DV), ds'[j]? = some d' → ∃ d, ds[j]? = some d ∧ r d d'
  | [], [], _ => ⟨rfl, fun j d h => by simp at h⟩
  | d :: ds, d' :: ds', h => by
    obtain ⟨h1, h2⟩ := allLe_get h.2
    refine ⟨by simp [h1], fun j y hx => ?_⟩
    cases j with
    | zero => simp at hx; subst hx; exact ⟨d, rfl, h.1⟩
    | succ j => simpa using h2 j y (by simpa using hx)
  | [], _ :: _, h => h.elim
  | _ :: _, [], h => h.elim
theorem ownC_le {w : World} {F : FP} {ds ds' : List DV} {us : List Value} (h : OwnC w F ds us) (e : allLe dvLe ds ds') : OwnC w F ds' us := by
  obtain ⟨hl, G, h1, h2, h3⟩ := h
  obtain ⟨e1, e2⟩ := allLe_get e
  refine ⟨by rw [hl, e1], G, h1, h2, fun j d' hd' => ?_⟩
  obtain ⟨d, hd, hr⟩ := e2 j d' hd'
  obtain ⟨x, hx, ho⟩ := h3 j d hd
  exact ⟨x, hx, dvLe_own ho hr⟩
theorem drLe_own {w : World} {F : FP} {u : Value} {d d' : DR} (h : OwnR w F d u) (e : drLe d d') : OwnR w F d' u := by
  cases d <;> cases d' <;> simp only [drLe] at e
  · exact dvLe_own h e
  · obtain ⟨us, hu, hc⟩ := h
    exact ⟨us, hu, ownC_le hc e⟩
  · obtain ⟨b, cs, t, fr, hu, hF, hb, hun, hc⟩ := h
    exact ⟨b, cs, t, fr, hu, hF, hb, hun, ownC_le hc e⟩
theorem drsLe_own {w : World} : ∀ {rs rs' : List DR} {us : List Value} {Fs : List FP}, OwnL w rs us Fs → drsLe rs rs' → OwnL w rs' us Fs
  | [], [], _, _, h, _ => h
  | d :: ds, d' :: ds', _, _, h, e => by
    cases h with
    | cons F _ u _ us Fs h ht => exact .cons F _ u _ us Fs (drLe_own h e.1) (drsLe_own ht e.2)
  | [], _ :: _, _, _, _, e => e.elim
  | _ :: _, [], _, _, _, e => e.elim
theorem rrow_le {w : World} {F : FP} {u : Value} {ds ds' : List DV} (h : RRow w F u ds) (e : allLe dvRo ds ds') : RRow w F u ds' := by
  obtain ⟨b, off, cs, t, fr, hu, hF, hb, hv⟩ := h
  obtain ⟨_, e2⟩ := allLe_get e
  refine ⟨b, off, cs, t, fr, hu, hF, hb, fun j d' hd' => ?_⟩
  obtain ⟨d, hd, hr⟩ := e2 j d' hd'
  obtain ⟨x, hx, ho⟩ := hv j d hd
  exact ⟨x, hx, dvRo_ro ho hr⟩
theorem rowsRo_get : ∀ {ds ds' : List (List DV)}, rowsRo ds ds' → ds.length = ds'.length ∧ ∀ (j : Nat) (d' : List DV), ds'[j]? = some d' → ∃ d, ds[j]? = some d ∧ allLe dvRo d d'
  | [], [], _ => ⟨rfl, fun j d h => by simp at h⟩
  | d :: ds, d' :: ds', h => by
    obtain ⟨h1, h2⟩ := rowsRo_get h.2
    refine ⟨by simp [h1], fun j y hx => ?_⟩
    cases j with
    | zero => simp at hx; subst hx; exact ⟨d, rfl, h.1⟩
    | succ j => simpa using h2 j y (by simpa using hx)
  | [], _ :: _, h => h.elim
  | _ :: _, [], h => h.elim
theorem dpLe_arg {w : World} {F : FP} {u : Value} {d d' : DP} (h : ArgT w F d u) (e : dpLe d d') : ArgT w F d' u := by
  cases d <;> cases d' <;> simp only [dpLe] at e
  · exact dvRo_ro h e
  · obtain ⟨us, hu, hl, hv⟩ := h
    obtain ⟨e1, e2⟩ := allLe_get e
    refine ⟨us, hu, by rw [hl, e1], fun j d' hd' => ?_⟩
    obtain ⟨d, hd, hr⟩ := e2 j d' hd'
    obtain ⟨x, hx, ho⟩ := hv j d hd
    exact ⟨x, hx, dvRo_ro ho hr⟩
  · exact rrow_le h e
  · obtain ⟨rfl, e⟩ := e
    obtain ⟨vs, hu, hl, hv⟩ := h
    obtain ⟨e1, e2⟩ := rowsRo_get e
    refine ⟨vs, hu, by rw [hl, e1], fun k row hk => ?_⟩
    obtain ⟨d, hd, hr⟩ := e2 k row hk
    obtain ⟨v, hv', hr'⟩ := hv k d hd
    exact ⟨v, hv', rrow_le hr' hr⟩

section
variable {P : Program} {w0 w w' : World} {mine : FP} {γ γ' : Ghost} {σ : St} {a : Act} {k : V → St → Prop} {E : Env}

/-! ### What is read -/
/-- Where what is read lies: outside, or in objects that stay. -/
def Seen (γ : Ghost) (st : List (Nat × Obj)) : FP := fun b => γ.ro b ∨ ∃ i o, look st i = some o ∧ γ.fp i b

theorem roCells_sound (R : RelS w0 mine γ σ.store σ.next w) {cs : List Leaf} {us : List Value} (hr : RCells γ w cs us) {ds : List DV} (h : allS (roD std σ.store) cs = some ds) :
    ds.length = cs.length ∧ ∀ (j : Nat) (d : DV), ds[j]? = some d → ∃ x, us[j]? = some x ∧ RoT w (Seen γ σ.store) x d := by
  obtain ⟨h1, h2⟩ := allS_spec h
  refine ⟨h1, fun j d hd => ?_⟩
  have hlt : j < cs.length := by rw [← h1]; exact (List.getElem?_eq_some_iff.mp hd).1
  obtain ⟨y, hy, hm⟩ := h2 j _ (List.getElem?_eq_getElem hlt)
  rw [hd] at hy; cases hy
  obtain ⟨x, hx, hrx⟩ := hr.2 j _ (List.getElem?_eq_getElem hlt)
  obtain ⟨F, hF, hFs⟩ := roD_sound R hrx hm
  exact ⟨x, hx, hF.mono hFs (Ext.refl _ _)⟩
theorem rcells_drop {cs : List Leaf} {us : List Value} (hr : RCells γ w cs us) (j : Nat) : RCells γ w (cs.drop j) (us.drop j) :=
  ⟨by simp [hr.1], fun i l hl => by rw [List.getElem?_drop] at hl ⊢; exact hr.2 _ l hl⟩
theorem RRow.sub {F F' : FP} {u : Value} {row : List DV} (h : RRow w F u row) (hF : ∀ b, F b → F' b) : RRow w F' u row := h.mono hF (Ext.refl _ _)

theorem roP_sound (R : RelS w0 mine γ σ.store σ.next w) {v : V} {u : Value} (hv : RV γ w v u) {d : DP} (h : roP std σ.store v = some d) : ArgT w (Seen γ σ.store) d u := by
  unfold roP at h
  split at h
  · rename_i id j
    split at h
    · rename_i cs hst
      split at h
      · rename_i ds hds
        simp at h; subst h
        obtain ⟨g1, b, hg, hb, hu⟩ := hv.2
        obtain ⟨g1', hg', b', cur, t, fr, hb', hfp, hh, hun, hbase, htot, hsz, hgz, hcells⟩ := R.objs id _ hst
        rw [hg] at hg'; cases hg'
        rw [hb] at hb'; cases hb'
        obtain ⟨_, h2⟩ := roCells_sound R (rcells_drop hcells j) hds
        refine ⟨b, j, cur, t, fr, by rw [hu, hbase, Nat.zero_add], .inr ⟨id, _, hst, hfp⟩, hh, fun q d hd => ?_⟩
        obtain ⟨x, hx, hr⟩ := h2 q d hd
        rw [List.getElem?_drop] at hx
        exact ⟨x, by simpa using hx, hr⟩
      · simp at h
    · simp at h
  · rename_i id i j
    split at h
    · rename_i sz n f hst
      simp at h; subst h
      obtain ⟨g1, b, hg, hb, hlt, hu⟩ := hv.2
      obtain ⟨g1', hg', ho⟩ := R.objs id _ hst
      rw [hg] at hg'; cases hg'
      simp only [RObj, hb] at ho
      obtain ⟨hn, _, _, cs, t, fr, vs, G, hfp, hh, hun, htot, hnt, hlen, hG, hGd, hvv⟩ := ho
      refine ⟨b, g1.base + i * g1.sz + j, cs, t, fr, hu, .inr ⟨id, _, hst, hfp⟩, hh, fun q d hd => ?_⟩
      rw [List.getElem?_drop] at hd
      obtain ⟨h1, h2⟩ := hvv i (j + q) d (by omega) hd
      exact ⟨_, by rw [← h1]; congr 1; omega, h2.ro.mono (fun x hx => .inr ⟨id, _, hst, (hG _ _ x hx).1⟩) (Ext.refl _ _)⟩
    · simp at h
  · simp at h; subst h
    exact RRow.sub hv.2 fun b hb => .inl hb
  · simp at h; subst h
    obtain ⟨vs, hu, hl, hr⟩ := hv.2
    exact ⟨vs, hu, hl, fun k row hk => let ⟨x, h1, h2⟩ := hr k row hk; ⟨x, h1, h2.sub fun b hb => .inl hb⟩⟩
  · rename_i f caps
    split at h
    · rename_i rows hrows
      simp at h; subst h
      obtain ⟨h1, h2⟩ := allS_spec hrows
      obtain ⟨vs, hu, hl, hc⟩ := hv.2
      refine ⟨vs, hu, by rw [hl, h1], fun k row hk => ?_⟩
      have hlt : k < caps.length := by rw [← h1]; exact (List.getElem?_eq_some_iff.mp hk).1
      obtain ⟨y, hy, hm⟩ := h2 k _ (List.getElem?_eq_getElem hlt)
      rw [hk] at hy; cases hy
      obtain ⟨g1, b, hg, hb, hvk⟩ := hc k _ (List.getElem?_eq_getElem hlt)
      split at hm
      · rename_i cs hst
        obtain ⟨g1', hg', b', cur, t, fr, hb', hfp, hh, hun, hbase, htot, hsz, hgz, hcells⟩ := R.objs _ _ hst
        rw [hg] at hg'; cases hg'
        rw [hb] at hb'; cases hb'
        obtain ⟨_, h4⟩ := roCells_sound R (rcells_drop hcells caps[k].2) hm
        refine ⟨_, hvk, b, caps[k].2, cur, t, fr, by rw [hbase, Nat.zero_add], .inr ⟨_, _, hst, hfp⟩, hh, fun q d hd => ?_⟩
        obtain ⟨x, hx, hr⟩ := h4 q d hd
        rw [List.getElem?_drop] at hx
        exact ⟨x, by simpa using hx, hr⟩
      · cases hm
    · simp at h
  · simp at h; subst h
    obtain ⟨⟨g, hg⟩, hr⟩ := hv.2
    obtain ⟨o, ho⟩ := R.dom _ g hg
    exact RRow.sub hr fun b hb => .inr ⟨_, o, ho, hb⟩
  · split at h
    · rename_i d' hd
      simp at h; subst h
      obtain ⟨F, hF, hFs⟩ := roD_sound R hv hd
      exact hF.mono hFs (Ext.refl _ _)
    · simp at h
  · rename_i cs
    split at h
    · rename_i ds hds
      simp at h; subst h
      obtain ⟨us, hu, hr⟩ := hv
      obtain ⟨h1, h2⟩ := roCells_sound R hr hds
      exact ⟨us, hu, by rw [hr.1, h1], h2⟩
    · simp at h
  · simp at h

/-! ### What is lent -/
theorem Took.id {h : Leaf → Leaf} {F : FP} {σ' : St} {h1 : Leaf → Leaf} (T : Took w0 mine a w γ σ (fun l => l) F γ' σ' h1) (g : Leaf → Leaf) : Took w0 mine a w γ σ g F γ' σ' (fun l => h1 (g l)) :=
  ⟨T.R, fun l u hl => T.leaf _ _ hl, T.free, T.keep, T.next⟩

/-- An object's own blocks given away, the object kept by name. -/
theorem took_name (R : Rel w0 mine γ σ a w) {id : Nat} {o o' : Obj} {g : G1} (F' : FP) (ho : look σ.store id = some o) (hg : γ.g id = some g) (hF : ∀ b, F' b → γ.fp id b)
    (hobj : RObj (γ.grow id g F') w id g (mapObj (killQ id) o')) : Took w0 mine a w γ σ (fun l => l) (fun b => γ.fp id b ∧ ¬ F' b) (γ.grow id g F') (mapSt (killQ id) (putObj σ id o')) (killQ id) := by
  have S := step_write (w' := w) R.st (g' := g) (fun _ => False) (fun i => i = id) ho hg F' (fun _ => rfl) (fun h => absurd rfl h) (fun b x _ hx => hx)
  have R' := R.write (o' := o') (g' := g) (F := F') (w' := w) (fun _ => False) (fun i => i = id) (killQ id) (kills_Q id) ho hg (fun _ => rfl) (fun h => absurd rfl h)
    (fun x hx => ⟨.inl (hF x hx), R.st.fp id _ ho x (hF x hx)⟩) (fun b x _ hx => hx) (Nat.le_refl _) R.st.keep hobj
  have hl : ∀ i0 oi, look (mapSt (killQ id) (putObj σ id o')).store i0 = some oi → ∃ o', look σ.store i0 = some o' := by
    intro i0 oi h
    simp only [mapSt, putObj, look_map, look_put, ho] at h
    by_cases hi : i0 = id
    · subst hi; exact ⟨_, ho⟩
    · simp only [hi, false_and, if_false, Option.map_eq_some_iff] at h
      obtain ⟨o', h1, _⟩ := h
      exact ⟨o', h1⟩
  refine ⟨R', fun l u h => h.kill S (kills_Q id), fun x hx => ⟨fun i0 oi hi hf => ?_, R.st.ro id _ ho x hx.1, R.st.fp id _ ho x hx.1⟩, fun H hH => ⟨fun x hx => ?_, fun x hx hf => (hH x hx).1 id _ ho hf.1⟩, rfl⟩
  · obtain ⟨o', ho'⟩ := hl i0 oi hi
    simp only [Ghost.grow] at hf
    by_cases e : i0 = id
    · rw [if_pos e] at hf; exact hx.2 hf
    · rw [if_neg e] at hf; exact R.st.disj i0 id _ _ ho' ho e x hf hx.1
  · obtain ⟨h1, h3, h4⟩ := hH x hx
    refine ⟨fun i0 oi hi hf => ?_, h3, h4⟩
    obtain ⟨o', ho'⟩ := hl i0 oi hi
    simp only [Ghost.grow] at hf
    by_cases e : i0 = id
    · rw [if_pos e] at hf; exact h1 id _ ho (hF x hf)
    · rw [if_neg e] at hf; exact h1 i0 o' ho' hf

theorem lendC_sound (R : Rel w0 mine γ σ a w) {l : Leaf} {u : Value} (hl : RLeaf γ w l u) {K : DV → St → (Leaf → Leaf) → Prop} (h : lendC std σ l K) :
    ∃ d σ' hf γ' F, K d σ' hf ∧ Took w0 mine a w γ σ (fun l => l) F γ' σ' hf ∧ OwnT w F u d := by
  unfold lendC at h
  split at h
  · rename_i id n
    split at h
    · rename_i sz m f ho
      obtain ⟨hmn, hsz, hk⟩ := h
      have hmn : m = n := by simpa [std] using hmn
      subst hmn
      have hsz := Nat.le_of_ble_eq_true hsz
      have hown := own_obj R.st hl ho
      simp only [shF] at hown
      obtain ⟨g, A, cap, hg, hu, hle, hgn, htot, had⟩ := hl.2
      obtain ⟨g', hg', hob⟩ := R.st.objs id _ ho
      rw [hg] at hg'; cases hg'
      rcases Nat.eq_zero_or_pos g.tot with h0 | h0
      · have hcap : cap = 0 := by
          rw [h0, Nat.zero_add] at htot
          rcases Nat.mul_eq_zero.mp htot with h | h
          · exact h
          · have := hob.2.1; omega
        have hm0 : m = 0 := by omega
        have T := took_name R (o' := .lent sz m) (γ.fp id) ho hg (fun b hb => hb) ⟨hob.2.1, hob.1, by omega, fun _ => hm0, fun _ => ⟨hm0, by
          have h3 := hob.2.2
          split
          · trivial
          · rename_i b hb
            rw [hb] at h3
            obtain ⟨_, cs, t, fr, vs, G, h4, h5, h6, h7, _⟩ := h3
            exact ⟨cs, t, fr, by simpa [Ghost.grow] using h4, h5, h6, by omega⟩⟩⟩
        refine ⟨_, _, _, _, _, hk, T.mono (F' := fun _ => False) (fun b hb => hb.elim), ?_⟩
        subst hcap hm0
        rw [hu]
        exact .nl _ _ _ _
      · have T := took_name R (o' := .lent sz m) (fun _ => False) ho hg (fun b hb => hb.elim) ⟨hob.2.1, hob.1, by omega, fun hb => by have h3 := hob.2.2; rw [hb] at h3; exact h3, fun h => by omega⟩
        exact ⟨_, _, _, _, _, hk, T.mono (fun b hb => ⟨hb, fun h => h⟩), hown⟩
    · exact h.elim
  · split at h
    · rename_i d σ' hf ht
      obtain ⟨γ1, F, T, o⟩ := takeC_sound R hl ht
      exact ⟨_, _, _, _, _, h, T, o⟩
    · exact h.elim

theorem lendCs_sound : ∀ (cs : List Leaf) (us : List Value) (σ : St) (γ : Ghost) (h : Leaf → Leaf) (K : List DV → St → (Leaf → Leaf) → Prop), Rel w0 mine γ σ a w → us.length = cs.length → (∀ (j : Nat) (l : Leaf), cs[j]? = some l → ∃ u, us[j]? = some u ∧ RLeaf γ w (h l) u) →
    lendCs std cs σ h K → ∃ ds σ' h' γ' F, K ds σ' h' ∧ Took w0 mine a w γ σ h F γ' σ' h' ∧ OwnC w F ds us
  | [], us, σ, γ, h, K, R, hl, hr, hk => by
    have : us = [] := List.eq_nil_of_length_eq_zero hl
    subst this
    exact ⟨_, _, _, γ, _, hk, Took.refl R h, rfl, fun _ _ => False, fun j x hx => hx, fun j j' x hx => hx.elim, fun j d hd => by simp at hd⟩
  | l :: t, us, σ, γ, h, K, R, hl, hr, hk => by
    obtain ⟨u0, us', rfl⟩ : ∃ u0 us', us = u0 :: us' := by
      cases us with
      | nil => simp at hl
      | cons u us => exact ⟨u, us, rfl⟩
    obtain ⟨u, hu, hlu⟩ := hr 0 l rfl
    simp at hu; subst hu
    obtain ⟨d, σ1, h1, γ1, F1, hk1, T1, o1⟩ := lendC_sound R hlu hk
    obtain ⟨ds, σ2, h2, γ2, F2, hk2, T2, hlen, G, g1, g2, g3⟩ := lendCs_sound t us' σ1 γ1 _ _ T1.R (by simpa using hl) (fun j l' hj => by
      obtain ⟨u, hu, hlu⟩ := hr (j + 1) l' (by simpa using hj)
      exact ⟨u, by simpa using hu, T1.leaf _ _ hlu⟩) hk1
    refine ⟨_, _, _, γ2, _, hk2, (Took.id (h := h) T1 h).trans T2, by simp [hlen], fun j => match j with | 0 => F1 | j + 1 => G j, ?_, ?_, ?_⟩
    · intro j x hx
      cases j with
      | zero => exact .inl hx
      | succ j => exact .inr (g1 j x hx)
    · have hcross : ∀ j x, F1 x → G j x → False := fun j x hf hg => (T2.keep F1 T1.free).2 x hf (g1 j x hg)
      intro j j' x hx hx'
      cases j with
      | zero => cases j' with
        | zero => rfl
        | succ j' => exact (hcross j' x hx hx').elim
      | succ j => cases j' with
        | zero => exact (hcross j x hx' hx).elim
        | succ j' => rw [g2 j j' x hx hx']
    · intro j d' hd'
      cases j with
      | zero => simp at hd'; subst hd'; exact ⟨u0, rfl, o1⟩
      | succ j => simpa using g3 j d' (by simpa using hd')

theorem takeCs_own (R : Rel w0 mine γ σ a w) {cs : List Leaf} {us : List Value} {h : Leaf → Leaf} (hl : us.length = cs.length) (hr : ∀ (j : Nat) (l : Leaf), cs[j]? = some l → ∃ u, us[j]? = some u ∧ RLeaf γ w (h l) u) {ds : List DV} {σ' : St} {h' : Leaf → Leaf} (ht : takeCs std cs σ h = some (ds, σ', h')) :
    ∃ γ' F, Took w0 mine a w γ σ h F γ' σ' h' ∧ OwnC w F ds us := by
  obtain ⟨γ', G, T, hdl, hGd, hv⟩ := takeCs_sound cs us σ γ h ds σ' h' R hl hr ht
  exact ⟨γ', _, T, by rw [hl, hdl], G, fun j x hx => ⟨j, hx⟩, hGd, hv⟩

theorem lendV_sound (R : Rel w0 mine γ σ a w) {h : Leaf → Leaf} {v : V1} {u : Value} (hv : RV1 γ w (mapV1 h v) u) {K : DR → St → (Leaf → Leaf) → Prop} (hk : lendV std σ h v K) :
    ∃ d σ' h' γ' F, K d σ' h' ∧ Took w0 mine a w γ σ h F γ' σ' h' ∧ OwnR w F d u := by
  cases v with
  | ag cs =>
    obtain ⟨us, hu, hc⟩ := hv
    obtain ⟨ds, σ', h', γ', F, hk', T, o⟩ := lendCs_sound cs us σ γ h _ R (by simpa using hc.1) (fun j l hj => hc.2 j (h l) (by simp [hj])) hk
    exact ⟨_, _, _, γ', F, hk', T, us, hu, o⟩
  | lf l =>
    simp only [lendV] at hk
    have hvl : RLeaf γ w (h l) u := hv
    split at hk
    · rename_i id hl
      rw [hl] at hvl
      split at hk
      · rename_i cs ho
        split at hk
        · rename_i ds σ1 h1 ht
          obtain ⟨g0, hg0, b, cur, et, fr, hb, hfp, hh, hun, hbase, hct, hcs, hgz, hrc⟩ := R.st.objs id _ ho
          obtain ⟨γ1, F1, T1, o1⟩ := takeCs_own R (h := fun l => l) hrc.1 (fun j l hj => hrc.2 j l hj) ht
          split at hk
          · rename_i id2 cs1 hid ho1
            obtain ⟨he, hk⟩ := hk
            have he := Nat.eq_of_beq_eq_true he
            subst he
            obtain ⟨g00, b00, hg00, hb00, hu⟩ := hvl.2
            rw [hg0] at hg00; cases hg00
            rw [hb] at hb00; cases hb00
            have hl1 := T1.leaf (.p id2 0) u hvl
            rw [hid] at hl1
            obtain ⟨g1, b1, hg1, hb1, hu1⟩ := hl1.2
            obtain ⟨g1', hg1', b1', cur1, et1, fr1, hb1', hfp1, hh1, hun1, hbase1, hct1, hcs1, hgz1, hrc1⟩ := T1.R.st.objs id2 _ ho1
            rw [hg1] at hg1'; cases hg1'
            rw [hb1] at hb1'; cases hb1'
            have hbb : b1 = b := by
              rw [hu] at hu1
              injection hu1 with h3; injection h3 with h3; injection h3 with h3 _ _; exact h3.symm
            subst hbb
            rw [hh] at hh1; cases hh1
            have hcl : cs1.length = cs.length := by rw [← hcs1, hcs]
            have T2 := took_name T1.R (o' := .lentV cs.length) (fun _ => False) ho1 hg1 (fun b hb => hb.elim) ⟨b1, hb1, hbase1, by rw [hct1, hcl], by rw [← hcl]; exact hgz1.1, hgz1.2⟩
            have T := (Took.id (h := h) T1 h).trans (Took.id (h := h) T2 (fun l => h1 (h l)))
            obtain ⟨ol, G, g1', g2', g3'⟩ := o1
            refine ⟨_, _, _, _, _, hk, T, b1, cur, et, fr, by rw [hu, hbase], .inr ⟨hfp1, fun h => h⟩, hh, hun, ol, G, fun j x hx => ⟨.inl (g1' j x hx), fun e => ?_⟩, g2', g3'⟩
            subst e
            exact (T1.free x (g1' j x hx)).1 id2 _ ho1 hfp1
          · exact hk.elim
        · exact hk.elim
      · exact hk.elim
    · obtain ⟨d, σ1, h1, γ1, F1, hk1, T1, o1⟩ := lendC_sound R hvl hk
      exact ⟨_, _, _, γ1, F1, hk1, Took.id (h := h) T1 h, o1⟩

theorem takeV_sound (R : Rel w0 mine γ σ a w) {h : Leaf → Leaf} {v : V1} {u : Value} (hv : RV1 γ w (mapV1 h v) u) {d : DR} {σ' : St} {h' : Leaf → Leaf} (ht : takeV std σ h v = some (d, σ', h')) :
    ∃ γ' F, Took w0 mine a w γ σ h F γ' σ' h' ∧ OwnR w F d u := by
  cases v with
  | ag cs =>
    obtain ⟨us, hu, hc⟩ := hv
    simp only [takeV] at ht
    split at ht
    · rename_i ds σ1 h1 ht1
      simp only [Option.some.injEq, Prod.mk.injEq] at ht
      obtain ⟨rfl, rfl, rfl⟩ := ht
      obtain ⟨γ', F, T, o⟩ := takeCs_own R (by simpa using hc.1) (fun j l hj => hc.2 j (h l) (by simp [hj])) ht1
      exact ⟨γ', F, T, us, hu, o⟩
    · cases ht
  | lf l =>
    simp only [takeV] at ht
    have hvl : RLeaf γ w (h l) u := hv
    split at ht
    · rename_i id hl
      rw [hl] at hvl
      split at ht
      · rename_i cs ho
        split at ht
        · rename_i ds σ1 h1 ht1
          simp only [Option.some.injEq, Prod.mk.injEq] at ht
          obtain ⟨rfl, rfl, rfl⟩ := ht
          obtain ⟨g0, hg0, b, cur, et, fr, hb, hfp, hh, hun, hbase, hct, hcs, hgz, hrc⟩ := R.st.objs id _ ho
          obtain ⟨g00, b00, hg00, hb00, hu⟩ := hvl.2
          rw [hg0] at hg00; cases hg00
          rw [hb] at hb00; cases hb00
          have T0 := took_drop R ho
          obtain ⟨γ1, F1, T1, ol, G, g1', g2', g3'⟩ := takeCs_own T0.R (h := killA id) hrc.1 (fun j l hj => let ⟨x, hx, hr⟩ := hrc.2 j l hj; ⟨x, hx, T0.leaf l x hr⟩) ht1
          have T := T0.trans T1
          refine ⟨γ1, _, Took.id (h := h) T h, b, cur, et, fr, by rw [hu, hbase], .inl hfp, hh, hun, ol, G, fun j x hx => ⟨.inr (g1' j x hx), fun e => ?_⟩, g2', g3'⟩
          subst e
          exact (T1.keep _ T0.free).2 x hfp (g1' j x hx)
        · cases ht
      · cases ht
    · rename_i id off len hl
      rw [hl] at hvl
      split at ht
      · rename_i c cs ho
        split at ht
        · split at ht
          case h_2 => cases ht
          rename_i ds σ1 h1 ht1
          simp only [Option.some.injEq, Prod.mk.injEq] at ht
          obtain ⟨rfl, rfl, rfl⟩ := ht
          obtain ⟨g0, hg0, b, cur, et, fr, hb, hfp, hh, hun, hbase, hct, hcs, hgz, hrc⟩ := R.st.objs id _ ho
          obtain ⟨g00, A, cap, hg00, hu, hle, hgn, htot, had⟩ := hvl.2
          rw [hg0] at hg00; cases hg00
          obtain ⟨b', hb', hA⟩ := had (by omega)
          rw [hb] at hb'; cases hb'
          have T0 := took_drop R ho
          obtain ⟨γ1, F1, T1, ol, G, g1', g2', g3'⟩ := takeCs_own T0.R (h := killA id) hrc.1 (fun j l hj => let ⟨x, hx, hr⟩ := hrc.2 j l hj; ⟨x, hx, T0.leaf l x hr⟩) ht1
          have T := T0.trans T1
          have hgz' : g0.sz = (c :: cs).length := by
            rcases hgz.1 with h0 | h0
            · rw [h0, hct] at htot; simp at htot
            · exact h0
          have hcap : cap = 1 := by
            rw [hct, hgz', Nat.zero_add] at htot
            have hpos : 0 < (c :: cs).length := by simp
            have : cap * (c :: cs).length = 1 * (c :: cs).length := by rw [htot, Nat.one_mul]
            exact Nat.eq_of_mul_eq_mul_right hpos this
          subst hcap hu hA
          have hdl : ds.length = (c :: cs).length := by rw [← ol]; exact hrc.1
          refine ⟨γ1, _, Took.id (h := h) T h, .bl _ b _ 1 1 _ _ cur et fr (fun _ j => cur.toList.getD j undef) (fun i j => if i = 0 then G j else fun _ => False) (.inl hfp) (by simp) hh hun (Nat.le_refl _) (by rw [hbase, hcs]; simp) (fun i hi => hdl) ?_ ?_ ?_ ?_⟩
          · intro i j x hx
            split at hx
            · refine ⟨.inr (g1' j x hx), fun e => ?_⟩
              subst e
              exact (T1.keep _ T0.free).2 x hfp (g1' j x hx)
            · exact hx.elim
          · intro i j i' j' x h3 h4
            split at h3
            · split at h4
              · exact ⟨by omega, g2' _ _ x h3 h4⟩
              · exact h4.elim
            · exact h3.elim
          · intro i j d hi hd
            have : i = 0 := by omega
            subst this
            obtain ⟨v, hv, _⟩ := g3' j d hd
            rw [hbase]
            simp only [Nat.zero_mul, Nat.zero_add]
            rw [List.getD_eq_getElem?_getD, hv]
            simpa using hv
          · intro i j d hi hd
            have : i = 0 := by omega
            subst this
            obtain ⟨v, hv, ho⟩ := g3' j d hd
            rw [List.getD_eq_getElem?_getD, hv]
            simpa using ho
        · cases ht
      · split at ht
        · rename_i d1 σ1 h1 ht1
          simp only [Option.some.injEq, Prod.mk.injEq] at ht
          obtain ⟨rfl, rfl, rfl⟩ := ht
          obtain ⟨γ1, F, T, o⟩ := takeC_sound R hvl ht1
          exact ⟨γ1, F, Took.id (h := h) T h, o⟩
        · cases ht
    · split at ht
      · rename_i d1 σ1 h1 ht1
        simp only [Option.some.injEq, Prod.mk.injEq] at ht
        obtain ⟨rfl, rfl, rfl⟩ := ht
        obtain ⟨γ1, F, T, o⟩ := takeC_sound R hvl ht1
        exact ⟨γ1, F, Took.id (h := h) T h, o⟩
      · cases ht
end
end Go.AW
