/- The abstract calculus, part 25: a call, told by the callee's contract. -/
import Derived.Test.YtfidphaoddenlaaAw24
import Derived.Laws.Strings
set_option linter.unusedVariables false
set_option linter.unusedSimpArgs false
namespace Go.AW

inductive LentT (w : World) : List AM → List Value → List FP → Prop where
  | nil : LentT w [] [] []
  | r (d : DP) (u : Value) (ds : List AM) (us : List Value) (Fs : List FP) (ht : LentT w ds us Fs) : LentT w (.r d :: ds) (u :: us) Fs
  | o (F : FP) (d : DR) (u : Value) (ds : List AM) (us : List Value) (Fs : List FP) (h : OwnR w F d u) (ht : LentT w ds us Fs) : LentT w (.o d :: ds) (u :: us) (F :: Fs)
  | g (F : FP) (d : DR) (u : Value) (ds : List AM) (us : List Value) (Fs : List FP) (h : OwnR w F d u) (ht : LentT w ds us Fs) : LentT w (.g d :: ds) (u :: us) (F :: Fs)

section
variable {P : Program} {w0 w w' : World} {mine : FP} {γ γ' : Ghost} {σ : St} {a : Act} {k : V → St → Prop} {E : Env}

theorem rv_map2 {h h' : Leaf → Leaf} (hl : ∀ l u, RLeaf γ w (h l) u → RLeaf γ' w' (h' l) u) {v : V} {u : Value} (hr : RV γ w (mapV h v) u) : RV γ' w' (mapV h' v) u := by
  have h1 : ∀ (v : V1) (u : Value), RV1 γ w (mapV1 h v) u → RV1 γ' w' (mapV1 h' v) u := by
    intro v u hr
    cases v with
    | lf l => exact hl l u hr
    | ag cs =>
      obtain ⟨us, hu, hc⟩ := hr
      refine ⟨us, hu, by simpa using hc.1, fun j l hj => ?_⟩
      simp only [List.getElem?_map, Option.map_eq_some_iff] at hj
      obtain ⟨l0, hl0, rfl⟩ := hj
      obtain ⟨x, hx, hx2⟩ := hc.2 j (h l0) (by simp [hl0])
      exact ⟨x, hx, hl _ _ hx2⟩
  cases v with
  | one v => exact h1 v u hr
  | tup vs =>
    obtain ⟨us, hu, hlen, hc⟩ := hr
    refine ⟨us, hu, by simpa using hlen, fun j l hj => ?_⟩
    simp only [List.getElem?_map, Option.map_eq_some_iff] at hj
    obtain ⟨l0, hl0, rfl⟩ := hj
    obtain ⟨x, hx, hx2⟩ := hc j (mapV1 h l0) (by simp [hl0])
    exact ⟨x, hx, h1 _ _ hx2⟩
  | bad => trivial

theorem lendArgs_sound : ∀ (das : List AM) (vs : List V) (us : List Value) (σ : St) (γ : Ghost) (h : Leaf → Leaf) (K : St → (Leaf → Leaf) → Prop), Rel w0 mine γ σ a w → us.length = vs.length →
    (∀ (i : Nat) (v : V), vs[i]? = some v → ∃ u, us[i]? = some u ∧ RV γ w (mapV h v) u) → lendArgs std das vs σ h K →
    ∃ σ1 h1 γ1 Fs, K σ1 h1 ∧ Took w0 mine a w γ σ h (AnyL Fs) γ1 σ1 h1 ∧ LentT w das us Fs ∧ DisjL Fs
  | [], [], us, σ, γ, h, K, R, hl, hv, hk => by
    have : us = [] := List.eq_nil_of_length_eq_zero hl
    subst this
    exact ⟨σ, h, γ, [], hk, (Took.refl R h).mono (fun b hb => anyL_nil b hb), .nil, .nil⟩
  | d :: ds, v :: vs, us, σ, γ, h, K, R, hl, hv, hk => by
    obtain ⟨u0, us', rfl⟩ : ∃ u0 us', us = u0 :: us' := by
      cases us with
      | nil => simp at hl
      | cons u us => exact ⟨u, us, rfl⟩
    obtain ⟨u, hu, hvu⟩ := hv 0 v rfl
    simp at hu; subst hu
    have hv' : ∀ (i : Nat) (v : V), vs[i]? = some v → ∃ u, us'[i]? = some u ∧ RV γ w (mapV h v) u := fun i v hi => by simpa using hv (i + 1) v (by simpa using hi)
    have hl' : us'.length = vs.length := by simpa using hl
    have fin : ∀ {d' : DR} {σ1 : St} {h1 : Leaf → Leaf} {γ1 : Ghost} {F1 : FP}, Took w0 mine a w γ σ h F1 γ1 σ1 h1 → lendArgs std ds vs σ1 h1 K →
        ∃ σ2 h2 γ2 Fs, K σ2 h2 ∧ Took w0 mine a w γ σ h (AnyL (F1 :: Fs)) γ2 σ2 h2 ∧ LentT w ds us' Fs ∧ DisjL (F1 :: Fs) := by
      intro d' σ1 h1 γ1 F1 T1 hk1
      obtain ⟨σ2, h2, γ2, Fs, hk2, T2, hL, hD⟩ := lendArgs_sound ds vs us' σ1 γ1 h1 K T1.R hl' (fun i v hi => let ⟨u, hu, hr⟩ := hv' i v hi; ⟨u, hu, rv_map2 T1.leaf hr⟩) hk1
      exact ⟨σ2, h2, γ2, Fs, hk2, (T1.trans T2).mono (fun b hb => anyL_cons.mp hb), hL, disjL_cons.mpr ⟨(T2.keep F1 T1.free).2, hD⟩⟩
    cases d with
    | r d =>
      simp only [lendArgs] at hk
      obtain ⟨σ1, h1, γ1, Fs, hk1, T, hL, hD⟩ := lendArgs_sound ds vs us' σ γ h K R hl' hv' hk
      exact ⟨σ1, h1, γ1, Fs, hk1, T, .r _ _ _ _ _ hL, hD⟩
    | o d =>
      cases v with
      | one v =>
        simp only [lendArgs] at hk
        obtain ⟨d', σ1, h1, γ1, F1, ⟨hle, hk1⟩, T1, o1⟩ := lendV_sound R hvu hk
        obtain ⟨σ2, h2, γ2, Fs, hk2, T, hL, hD⟩ := fin (d' := d') T1 hk1
        exact ⟨σ2, h2, γ2, _, hk2, T, .o _ _ _ _ _ _ (drLe_own o1 hle) hL, hD⟩
      | tup vs => exact hk.elim
      | bad => exact hk.elim
    | g d =>
      cases v with
      | one v =>
        simp only [lendArgs] at hk
        split at hk
        · rename_i d' σ1 h1 ht
          obtain ⟨γ1, F1, T1, o1⟩ := takeV_sound R hvu ht
          obtain ⟨σ2, h2, γ2, Fs, hk2, T, hL, hD⟩ := fin (d' := d') T1 hk.2
          exact ⟨σ2, h2, γ2, _, hk2, T, .g _ _ _ _ _ _ (drLe_own o1 hk.1) hL, hD⟩
        · exact hk.elim
      | tup vs => exact hk.elim
      | bad => exact hk.elim
  | [], _ :: _, us, σ, γ, h, K, R, hl, hv, hk => hk.elim
  | d :: _, [], us, σ, γ, h, K, R, hl, hv, hk => by cases d <;> exact hk.elim

theorem ArgT.mono {F F' : FP} {d : DP} {u : Value} (h : ArgT w F d u) (hF : ∀ b, F b → F' b) : ArgT w F' d u := by
  cases d with
  | c d => exact RoT.mono h hF (Ext.refl _ _)
  | a ds =>
    obtain ⟨us, hu, hl, hv⟩ := h
    exact ⟨us, hu, hl, fun j d hd => let ⟨x, h1, h2⟩ := hv j d hd; ⟨x, h1, h2.mono hF (Ext.refl _ _)⟩⟩
  | p row => exact RRow.sub h hF
  | fr f rows =>
    obtain ⟨vs, hu, hl, hv⟩ := h
    exact ⟨vs, hu, hl, fun k row hk => let ⟨x, h1, h2⟩ := hv k row hk; ⟨x, h1, h2.sub hF⟩⟩

theorem roArgs_sound (R : RelS w0 mine γ σ.store σ.next w) {A : FP} (hA : ∀ b, Seen γ σ.store b → b < w.heap.size ∧ ¬ A b) {h : Leaf → Leaf} : ∀ (das : List AM) (vs : List V) (us : List Value) (Fs : List FP), us.length = vs.length →
    (∀ (i : Nat) (v : V), vs[i]? = some v → ∃ u, us[i]? = some u ∧ RV γ w (mapV h v) u) → LentT w das us Fs → roArgs std σ.store h das vs → InsT w A das us Fs
  | das, vs, us, Fs, hl, hv, hL, hr => by
    cases hL with
    | nil => exact .nil
    | r d u ds us Fs ht =>
      cases vs with
      | nil => simp at hl
      | cons v vs =>
        obtain ⟨u', hu, hvu⟩ := hv 0 v rfl
        simp at hu; subst hu
        simp only [roArgs] at hr
        split at hr
        · rename_i d' hd
          exact .r _ _ _ _ _ _ (dpLe_arg (roP_sound R hvu hd) hr.1) hA (roArgs_sound R hA ds vs us Fs (by simpa using hl) (fun i v hi => by simpa using hv (i + 1) v (by simpa using hi)) ht hr.2)
        · exact hr.elim
    | o F d u ds us Fs ho ht =>
      cases vs with
      | nil => simp at hl
      | cons v vs =>
        simp only [roArgs] at hr
        exact .o _ _ _ _ _ _ ho (roArgs_sound R hA ds vs us Fs (by simpa using hl) (fun i v hi => by simpa using hv (i + 1) v (by simpa using hi)) ht hr)
    | g F d u ds us Fs ho ht =>
      cases vs with
      | nil => simp at hl
      | cons v vs =>
        simp only [roArgs] at hr
        exact .g _ _ _ _ _ _ ho (roArgs_sound R hA ds vs us Fs (by simpa using hl) (fun i v hi => by simpa using hv (i + 1) v (by simpa using hi)) ht hr)

/-- A world in which only blocks of nobody's have turned. -/
theorem Rel.call (R : Rel w0 mine γ σ a w) {A : FP} (hA : Free w0 mine γ σ.store w A) (hk : Keep w A w') : Rel w0 mine γ σ a w' ∧ ∀ l u, RLeaf γ w l u → RLeaf γ w' l u := by
  have hx : ∀ (b : Nat) (o : Go.Obj), ¬ A b → w.heap[b]? = some o → w'.heap[b]? = some o := fun b o hn h => by rw [hk.old b (Array.getElem?_eq_some_iff.mp h).1 hn]; exact h
  have hfp : ∀ i o b, look σ.store i = some o → γ.fp i b → ¬ A b := fun i o b ho hb hAb => (hA b hAb).1 i o ho hb
  have S : Step γ γ w w' (fun _ => False) (fun _ => False) (fun _ => False) := ⟨fun i g h _ => h, fun i g h _ b hb => hb, fun i g h _ b o hb h' => by obtain ⟨oi, ho⟩ := R.st.dom i g h; exact hx b o (hfp i oi b ho hb) h',
    fun i g b o hg _ _ hb ho => by obtain ⟨oi, ho'⟩ := R.st.dom i g hg; exact ⟨hb, hx b o (hfp i oi b ho' hb) ho⟩, fun b hb => hb, fun b o hb h' => hx b o (fun h => (hA b h).2.1 hb) h'⟩
  have hsz := hk.size
  refine ⟨⟨R.size, fun i => RV.step0 S (R.slots i), ?_, R.st.disj, R.st.ro, R.st.lt, R.st.dom, fun i o h b hb => ⟨by have := (R.st.fp i o h b hb).1; omega, (R.st.fp i o h b hb).2⟩, fun b hb => by have := R.st.rolt b hb; omega, ?_⟩, fun l u h => h.step S ⟨by simp, by simp, by simp⟩⟩
  · intro i o h
    obtain ⟨g, hg, hr⟩ := R.st.objs i o h
    have := RObj.step S (h := fun l => l) (kills_id (by simp) (by simp) (by simp)) hg hr (fun b hb => hb) (fun b ob hb h' => hx b ob (hfp i o b h hb) h')
    rw [mapObj_id] at this
    exact ⟨g, hg, this⟩
  · have k0 := R.st.keep
    refine ⟨Nat.le_trans k0.size hsz, hk.os.trans k0.os, hk.tape.trans k0.tape, hk.output.trans k0.output, fun b hb hm => ?_⟩
    have hn : ¬ A b := fun h => by
      rcases (hA b h).2.2.2 with h | h
      · omega
      · exact hm h
    have := k0.size
    rw [hk.old b (by omega) hn]
    exact k0.old b hb hm

/-! ### What comes back -/
structure Gave (w0 : World) (mine : FP) (a : Act) (w : World) (γ : Ghost) (σ : St) (h : Leaf → Leaf) (F : FP) (γ' : Ghost) (σ' : St) (h' : Leaf → Leaf) : Prop where
  R : Rel w0 mine γ' σ' a w
  leaf : ∀ l u, RLeaf γ w (h l) u → RLeaf γ' w (h' l) u
  free : ∀ H : FP, Free w0 mine γ σ.store w H → (∀ x, H x → ¬ F x) → Free w0 mine γ' σ'.store w H

theorem Gave.refl (R : Rel w0 mine γ σ a w) (h : Leaf → Leaf) (F : FP) : Gave w0 mine a w γ σ h F γ σ h := ⟨R, fun _ _ h => h, fun _ h _ => h⟩
theorem Gave.id {σ' : St} {F : FP} {h1 : Leaf → Leaf} (T : Gave w0 mine a w γ σ (fun l => l) F γ' σ' h1) (g : Leaf → Leaf) : Gave w0 mine a w γ σ g F γ' σ' (fun l => h1 (g l)) :=
  ⟨T.R, fun l u hl => T.leaf _ _ hl, T.free⟩
theorem Gave.trans {σ' σ'' : St} {γ'' : Ghost} {h h' h'' : Leaf → Leaf} {F F' G : FP} (T : Gave w0 mine a w γ σ h F γ' σ' h') (T' : Gave w0 mine a w γ' σ' h' F' γ'' σ'' h'') (hF : ∀ x, F x → G x) (hF' : ∀ x, F' x → G x) : Gave w0 mine a w γ σ h G γ'' σ'' h'' :=
  ⟨T'.R, fun l u hl => T'.leaf l u (T.leaf l u hl), fun H hH hd => T'.free H (T.free H hH fun x hx hf => hd x hx (hF x hf)) fun x hx hf => hd x hx (hF' x hf)⟩

/-- An object gets blocks of nobody's. -/
theorem gave_write (R : Rel w0 mine γ σ a w) {id : Nat} {o o' : Obj} {g : G1} {F : FP} (rd : Nat → Prop) (h : Leaf → Leaf) (hk : Kills (fun _ => False) rd (fun i => i = id) h) (hroot : ¬ rd id → ∀ b x, g.blk = some b → w.heap[b]? = some x → (γ.fp id b ∨ F b) ∧ w.heap[b]? = some x) (ho : look σ.store id = some o) (hg : γ.g id = some g) (hF : Free w0 mine γ σ.store w F)
    (hobj : RObj (γ.grow id g (fun x => γ.fp id x ∨ F x)) w id g (mapObj h o')) : Gave w0 mine a w γ σ (fun l => l) F (γ.grow id g (fun x => γ.fp id x ∨ F x)) (mapSt h (putObj σ id o')) h := by
  have S := step_write (w' := w) R.st (g' := g) (fun _ => False) rd ho hg (fun x => γ.fp id x ∨ F x) (fun _ => rfl) hroot (fun b x _ hx => hx)
  have R' := R.write (o' := o') (g' := g) (F := fun x => γ.fp id x ∨ F x) (w' := w) (fun _ => False) rd h hk ho hg (fun _ => rfl) hroot
    (fun x hx => by
      rcases hx with hx | hx
      · exact ⟨.inl hx, R.st.fp id _ ho x hx⟩
      · obtain ⟨f1, f2, f3⟩ := hF x hx
        exact ⟨.inr ⟨f1, f2⟩, f3⟩) (fun b x _ hx => hx) (Nat.le_refl _) R.st.keep hobj
  refine ⟨R', fun l u hl => hl.kill S hk, fun H hH hd x hx => ?_⟩
  obtain ⟨h1, h3, h4⟩ := hH x hx
  refine ⟨fun i0 oi hi hf => ?_, h3, h4⟩
  simp only [mapSt, putObj, look_map, look_put, ho] at hi
  simp only [Ghost.grow] at hf
  by_cases e : i0 = id
  · rw [if_pos e] at hf
    rcases hf with hf | hf
    · exact h1 id _ ho hf
    · exact hd x hx hf
  · rw [if_neg e] at hf
    simp only [e, false_and, if_false, Option.map_eq_some_iff] at hi
    obtain ⟨o', h5, _⟩ := hi
    exact h1 i0 o' h5 hf

theorem rows_mono {F F' : FP} {b base sz n tot : Nat} {f : Nat → List DV} (h : RowsT w F b base sz n tot f) (hF : ∀ x, F x → F' x) : RowsT w F' b base sz n tot f := by
  obtain ⟨cs, t, fr, vs, G, hb, hh, hun, htot, hnt, hl, hG, hGd, hv⟩ := h
  exact ⟨cs, t, fr, vs, G, hF _ hb, hh, hun, htot, hnt, hl, fun i j x hx => ⟨hF _ (hG i j x hx).1, (hG i j x hx).2⟩, hGd, hv⟩

theorem giveC_sound (R : Rel w0 mine γ σ a w) {l : Leaf} {u : Value} (hl : RLeaf γ w l u) {d : DV} {F : FP} (hown : OwnT w F u d) (hF : Free w0 mine γ σ.store w F) {K : St → (Leaf → Leaf) → Prop} (h : giveC std σ l d K) :
    ∃ σ' h' γ', K σ' h' ∧ Gave w0 mine a w γ σ (fun l => l) F γ' σ' h' := by
  unfold giveC at h
  split at h
  · rename_i id m sz' n' f
    split at h
    · rename_i sz n ho
      obtain ⟨hnm, hz, hk⟩ := h
      have hnm : n = m := by simpa [std] using hnm
      subst hnm
      have hz := Nat.eq_of_beq_eq_true hz
      subst hz
      obtain ⟨g, A, cap, hg, hu, hle, hgn, htot, had⟩ := hl.2
      obtain ⟨g', hg', hgs, hgn', hs0, _, hz0⟩ := R.st.objs id _ ho
      rw [hg] at hg'; cases hg'
      rw [hgs, Nat.zero_add] at htot
      have hn' : n' = n := by rw [hu] at hown; cases hown <;> rfl
      subst hn'
      refine ⟨_, _, _, hk, gave_write R (fun i => i = id) (killQ id) (kills_Q id) (fun h => absurd rfl h) ho hg hF ?_⟩
      simp only [mapObj]
      rcases Nat.eq_zero_or_pos cap with h0 | h0
      · obtain ⟨hn0, hb0⟩ := hz0 (by rw [← htot, h0, Nat.zero_mul])
        subst hn0
        simp only [RObj]
        refine ⟨hgn', hgs, ?_⟩
        cases hb : g.blk with
        | none => trivial
        | some b =>
          rw [hb] at hb0
          obtain ⟨cs, t, fr, h1, h2, h3, h4⟩ := hb0
          exact ⟨hs0, cs, t, fr, fun _ _ => undef, fun _ _ _ => False, by simp [Ghost.grow, h1], h2, h3, by rw [← htot, h0]; simpa using h4, by simp, fun i hi => absurd hi (Nat.not_lt_zero i), fun i j x hx => hx.elim, fun i j i' j' x hx => hx.elim, fun i j d hi => absurd hi (Nat.not_lt_zero i)⟩
      · obtain ⟨b, hb, hA⟩ := had h0
        subst hA
        rw [hu] at hown
        rw [robj_rows hb]
        refine ⟨hgn', hgs, hs0, ?_⟩
        rcases own_rows hown with ⟨_, h1⟩ | ⟨_, _, h1⟩
        · omega
        · rw [hgs, ← htot]
          refine rows_mono (by simpa using h1) fun x hx => ?_
          simp [Ghost.grow, hx]
    · exact h.elim
  · rename_i id i j n sz' n' f'
    split at h
    · rename_i sz m F0 ho
      split at h
      · rename_i hd
        rw [nthO_getElem?] at hd
        obtain ⟨c, hat, hw⟩ := hl.2
        have : u = c := hw.1
        subst this
        obtain ⟨g, b, cs0, t0, fr0, hg, hb, hin, hfp, hh, hcell⟩ := hat
        obtain ⟨g', hg', hob⟩ := R.st.objs id _ ho
        rw [hg] at hg'; cases hg'
        rw [robj_rows hb] at hob
        obtain ⟨hgn, hgs, hs0, hrows⟩ := hob
        have hFn : ∀ x, F x → ¬ γ.fp id x := fun x hx => (hF x hx).1 id _ ho
        have hrows' := rows_sub (w' := w) (Fn := F) (d' := .l sz' n' f') hrows (by omega) hd hFn (fun Gij c' hGF hcc hOw => by
          have e := hcc _ _ _ hh
          rw [hcell] at e; cases e
          exact ⟨fun x o _ h => h, hown.mono (fun x hx => .inr hx) (Ext.refl _ _)⟩)
        refine ⟨_, _, _, h, gave_write R (fun _ => False) (killS id) (kills_S id) (fun _ b' x hb' hx => by rw [hb] at hb'; cases hb'; exact ⟨.inl hfp, hx⟩) ho hg hF ?_⟩
        simp only [mapObj]
        rw [robj_rows hb]
        exact ⟨hgn, hgs, hs0, by simpa [Ghost.grow] using hrows'⟩
      · exact h.elim
    · exact h.elim
  · exact ⟨_, _, γ, h, Gave.refl R _ _⟩
  · exact ⟨_, _, γ, h, Gave.refl R _ _⟩
  · exact h.elim

theorem giveCs_sound : ∀ (ls : List Leaf) (ds : List DV) (us : List Value) (σ : St) (γ : Ghost) (h : Leaf → Leaf) (G : Nat → FP) (K : St → (Leaf → Leaf) → Prop), Rel w0 mine γ σ a w →
    (∀ (j : Nat) (l : Leaf), ls[j]? = some l → ∃ u, us[j]? = some u ∧ RLeaf γ w (h l) u) → (∀ (j : Nat) (d : DV), ds[j]? = some d → ∃ x, us[j]? = some x ∧ OwnT w (G j) x d) → (∀ j, Free w0 mine γ σ.store w (G j)) → (∀ j j' x, G j x → G j' x → j = j') → giveCs std ls ds σ h K →
    ∃ σ' h' γ', K σ' h' ∧ Gave w0 mine a w γ σ h (fun x => ∃ j, G j x) γ' σ' h'
  | [], [], us, σ, γ, h, G, K, R, hl, hd, hF, hG, hk => ⟨_, _, γ, hk, Gave.refl R _ _⟩
  | l :: ls, d :: ds, us, σ, γ, h, G, K, R, hl, hd, hF, hG, hk => by
    simp only [giveCs] at hk
    obtain ⟨u, hu, hlu⟩ := hl 0 l rfl
    obtain ⟨x, hx, ho⟩ := hd 0 d rfl
    rw [hu] at hx; cases hx
    obtain ⟨σ1, h1, γ1, hk1, T1⟩ := giveC_sound R hlu ho (hF 0) hk
    obtain ⟨σ2, h2, γ2, hk2, T2⟩ := giveCs_sound ls ds us.tail σ1 γ1 _ (fun j => G (j + 1)) K T1.R (fun j l' hj => by
      obtain ⟨u, hu, hlu⟩ := hl (j + 1) l' (by simpa using hj)
      exact ⟨u, by rw [List.getElem?_tail]; exact hu, T1.leaf _ _ hlu⟩) (fun j d' hj => by
      obtain ⟨u, hu, hlu⟩ := hd (j + 1) d' (by simpa using hj)
      exact ⟨u, by rw [List.getElem?_tail]; exact hu, hlu⟩) (fun j => T1.free _ (hF (j + 1)) fun x h1 h2 => absurd (hG _ _ x h1 h2) (by omega)) (fun j j' x h1 h2 => by have := hG _ _ x h1 h2; omega) hk1
    exact ⟨σ2, h2, γ2, hk2, (T1.id h).trans T2 (fun x hx => ⟨0, hx⟩) (fun x ⟨j, hj⟩ => ⟨j + 1, hj⟩)⟩
  | [], _ :: _, us, σ, γ, h, G, K, R, hl, hd, hF, hG, hk => hk.elim
  | _ :: _, [], us, σ, γ, h, G, K, R, hl, hd, hF, hG, hk => hk.elim

theorem instC_sound (R : Rel w0 mine γ σ a w) {d : DV} {u : Value} {F : FP} (h : OwnT w F u d) (hF : Free w0 mine γ σ.store w F) (h0 : Leaf → Leaf) : ∃ γ', Gave w0 mine a w γ σ h0 F γ' (instC σ d).2 h0 ∧ RLeaf γ' w (instC σ d).1 u := by
  cases d with
  | s v =>
    cases h with
    | s _ _ h1 => exact ⟨γ, Gave.refl R _ _, h1, rfl⟩
  | x => exact ⟨γ, Gave.refl R _ _, h.one, trivial⟩
  | l sz n f =>
    obtain ⟨γ1, R1, l1, hl, hf⟩ := inst_deep (sz' := sz) R h (.inl rfl) hF
    exact ⟨γ1, ⟨R1, fun l u => hl _ u, hf⟩, l1⟩

theorem instCs_sound : ∀ (ds : List DV) (γ : Ghost) (σ : St) (us : List Value) (G : Nat → FP) (h0 : Leaf → Leaf), Rel w0 mine γ σ a w → us.length = ds.length → (∀ (j : Nat) (d : DV), ds[j]? = some d → ∃ x, us[j]? = some x ∧ OwnT w (G j) x d) → (∀ j, Free w0 mine γ σ.store w (G j)) → (∀ j j' x, G j x → G j' x → j = j') →
    ∃ γ', Gave w0 mine a w γ σ h0 (fun x => ∃ j, G j x) γ' (instCs σ ds).2 h0 ∧ RCells γ' w (instCs σ ds).1 us
  | [], γ, σ, us, G, h0, R, hl, hv, hF, hd => by
    have : us = [] := List.eq_nil_of_length_eq_zero hl
    subst this
    exact ⟨γ, Gave.refl R _ _, rfl, fun j l h => by simp [instCs] at h⟩
  | d :: ds, γ, σ, us, G, h0, R, hl, hv, hF, hd => by
    obtain ⟨u0, us', rfl⟩ : ∃ u0 us', us = u0 :: us' := by
      cases us with
      | nil => simp at hl
      | cons u us => exact ⟨u, us, rfl⟩
    obtain ⟨x, hx, ho⟩ := hv 0 d rfl
    simp at hx; subst hx
    obtain ⟨γ1, I1, l1⟩ := instC_sound R ho (hF 0) (fun l => l)
    obtain ⟨γ2, I2, c2⟩ := instCs_sound ds γ1 (instC σ d).2 us' (fun j => G (j + 1)) (fun l => l) I1.R (by simpa using hl) (fun j d' hj => by simpa using hv (j + 1) d' (by simpa using hj))
      (fun j => I1.free _ (hF (j + 1)) fun x h1 h2 => absurd (hd _ _ x h1 h2) (by omega)) (fun j j' x h1 h2 => by have := hd _ _ x h1 h2; omega)
    have I := I1.trans I2 (G := fun x => ∃ j, G j x) (fun x hx => ⟨0, hx⟩) (fun x ⟨j, hj⟩ => ⟨j + 1, hj⟩)
    refine ⟨γ2, I.id h0, ?_⟩
    simp only [instCs]
    refine ⟨by simp [c2.1], fun j l hj => ?_⟩
    cases j with
    | zero => simp at hj; subst hj; exact ⟨u0, rfl, I2.leaf _ _ l1⟩
    | succ j => simpa using c2.2 j l (by simpa using hj)

theorem instC_look {d : DV} {i : Nat} {o : Obj} (hi : i < σ.next) (h : look σ.store i = some o) : look (instC σ d).2.store i = some o ∧ σ.next ≤ (instC σ d).2.next := by
  cases d with
  | s v => exact ⟨h, Nat.le_refl _⟩
  | x => exact ⟨h, Nat.le_refl _⟩
  | l sz n f => exact ⟨by simp only [instC, mkObj, look_cons]; rw [if_neg (by omega)]; exact h, by simp [instC, mkObj]⟩
theorem instCs_look : ∀ (ds : List DV) (σ : St) {i : Nat} {o : Obj}, i < σ.next → look σ.store i = some o → look (instCs σ ds).2.store i = some o
  | [], σ, i, o, hi, h => h
  | d :: ds, σ, i, o, hi, h => by
    obtain ⟨h1, h2⟩ := instC_look (d := d) hi h
    exact instCs_look ds (instC σ d).2 (by omega) h1

theorem inst1_sound (R : Rel w0 mine γ σ a w) {d : DR} {u : Value} {F : FP} (h : OwnR w F d u) (hF : Free w0 mine γ σ.store w F) (h0 : Leaf → Leaf) : ∃ γ', Gave w0 mine a w γ σ h0 F γ' (inst1 σ d).2 h0 ∧ RV1 γ' w (inst1 σ d).1 u := by
  cases d with
  | c d => exact instC_sound R h hF h0
  | a ds =>
    obtain ⟨us, hu, hl, G, hGF, hGd, hv⟩ := h
    obtain ⟨γ', I, hc⟩ := instCs_sound ds γ σ us G h0 R hl hv (fun j b hb => hF b (hGF j b hb)) hGd
    exact ⟨γ', ⟨I.R, I.leaf, fun H hH hd => I.free H hH fun x hx ⟨j, hj⟩ => hd x hx (hGF j x hj)⟩, us, hu, hc⟩
  | p ds =>
    obtain ⟨b, cs, t, fr, hu, hFb, hh, hun, hl, G, hGF, hGd, hv⟩ := h
    obtain ⟨γ', I, hc⟩ := instCs_sound ds γ σ cs.toList G (fun l => l) R hl hv (fun j x hx => hF x (hGF j x hx).1) hGd
    have hfb : Free w0 mine γ' (instCs σ ds).2.store w (fun x => x = b) := I.free _ (fun x hx => by subst hx; exact hF x hFb) (fun x hx ⟨j, hj⟩ => (hGF j x hj).2 hx)
    let g : G1 := ⟨some b, 0, 0, (instCs σ ds).1.length, 1⟩
    have S := step_add (w := w) (w' := w) I.R.st.lt g (fun x => x = b) (fun b o h => h)
    have hcl : cs.size = (instCs σ ds).1.length := by have := hc.1; simpa using this
    have R2 := I.R.fresh2 (fun b o h => h) I.R.st.keep (Nat.le_refl _) g (fun x => x = b) (.vars (instCs σ ds).1) ⟨b, cs, t, fr, rfl, by simp [Ghost.add], hh, hun, rfl, rfl, hcl, ⟨.inl rfl, rfl⟩, by
      refine ⟨hc.1, fun j l hj => ?_⟩
      obtain ⟨x, hx, hr⟩ := hc.2 j l hj
      exact ⟨x, hx, hr.step S ⟨by simp, by simp, by simp⟩⟩⟩ hfb
    refine ⟨_, ⟨R2, fun l u hl => (I.leaf _ _ hl).step S ⟨by simp, by simp, by simp⟩, fun H hH hd x hx => ?_⟩, ⟨by rw [hu]; rfl, g, b, by simp [Ghost.add], rfl, hu⟩⟩
    obtain ⟨h1, h2, h3⟩ := I.free H hH (fun x hx ⟨j, hj⟩ => hd x hx (hGF j x hj).1) x hx
    refine ⟨fun i oi hi => ?_, h2, h3⟩
    have hi : look (((instCs σ ds).2.next, Obj.vars (instCs σ ds).1) :: (instCs σ ds).2.store) i = some oi := hi
    rw [look_cons] at hi
    show ¬ (if i = (instCs σ ds).2.next then fun x => x = b else γ'.fp i) x
    by_cases he : (instCs σ ds).2.next = i
    · rw [if_pos he.symm]; intro e; exact hd x hx (e ▸ hFb)
    · rw [if_neg he] at hi
      rw [if_neg (Ne.symm he)]
      exact h1 i oi hi

theorem inst1s_sound : ∀ (ds : List DR) (γ : Ghost) (σ : St) (us : List Value) (Gs : List FP), Rel w0 mine γ σ a w → OwnL w ds us Gs → Free w0 mine γ σ.store w (AnyL Gs) → DisjL Gs →
    ∃ γ', Rel w0 mine γ' (inst1s σ ds).2 a w ∧ (∀ l u, RLeaf γ w l u → RLeaf γ' w l u) ∧ us.length = (inst1s σ ds).1.length ∧ ∀ (j : Nat) (v : V1), (inst1s σ ds).1[j]? = some v → ∃ x, us[j]? = some x ∧ RV1 γ' w v x
  | ds, γ, σ, us, Gs, R, hO, hF, hD => by
    cases hO with
    | nil => exact ⟨γ, R, fun _ _ h => h, rfl, fun j v h => by simp [inst1s] at h⟩
    | cons F d u ds us Fs h ht =>
      obtain ⟨hd1, hd2⟩ := disjL_cons.mp hD
      obtain ⟨γ1, I1, l1⟩ := inst1_sound R h (fun b hb => hF b (anyL_cons.mpr (.inl hb))) (fun l => l)
      obtain ⟨γ2, R2, h2, c1, c2⟩ := inst1s_sound ds γ1 (inst1 σ d).2 us Fs I1.R ht (I1.free _ (fun b hb => hF b (anyL_cons.mpr (.inr hb))) fun x h1 h2 => hd1 x h2 h1) hd2
      refine ⟨γ2, R2, fun l u hl => h2 l u (I1.leaf l u hl), by simp [inst1s, c1], fun j l hj => ?_⟩
      simp only [inst1s] at hj
      cases j with
      | zero =>
        simp at hj; subst hj
        refine ⟨u, rfl, ?_⟩
        have e : mapV (fun l => l) (V.one (inst1 σ d).1) = V.one (inst1 σ d).1 := mapV_id _
        have h3 : RV γ1 w (mapV (fun l => l) (V.one (inst1 σ d).1)) u := by rw [e]; exact l1
        have := rv_map2 (h := fun l => l) (h' := fun l => l) (γ' := γ2) (w' := w) (fun l u hl => h2 l u hl) h3
        rw [e] at this
        exact this
      | succ j => simpa using c2 j l (by simpa using hj)

theorem giveV_sound (R : Rel w0 mine γ σ a w) {h : Leaf → Leaf} {v : V1} {u : Value} (hv : RV1 γ w (mapV1 h v) u) {d : DR} {F : FP} (hown : OwnR w F d u) (hF : Free w0 mine γ σ.store w F) {K : St → (Leaf → Leaf) → Prop} (hk : giveV std σ h v d K) :
    ∃ σ' h' γ', K σ' h' ∧ Gave w0 mine a w γ σ h F γ' σ' h' := by
  unfold giveV at hk
  split at hk
  · rename_i l d
    obtain ⟨σ1, h1, γ1, hk1, T⟩ := giveC_sound R hv hown hF hk
    exact ⟨σ1, _, γ1, hk1, T.id h⟩
  · rename_i ls ds
    obtain ⟨us, hu, hc⟩ := hv
    obtain ⟨us', hu', hl, G, hGF, hGd, hvv⟩ := hown
    have : us' = us := by
      rw [hu] at hu'
      injection hu' with e
      have := congrArg Array.toList e
      simpa using this.symm
    subst this
    obtain ⟨σ1, h1, γ1, hk1, T⟩ := giveCs_sound ls ds us' σ γ h G K R (fun j l hj => hc.2 j (h l) (by simp [hj])) hvv (fun j b hb => hF b (hGF j b hb)) hGd hk
    exact ⟨σ1, h1, γ1, hk1, T.R, T.leaf, fun H hH hd => T.free H hH fun x hx ⟨j, hj⟩ => hd x hx (hGF j x hj)⟩
  · rename_i l ds
    split at hk
    · rename_i id hl
      split at hk
      · rename_i n ho
        obtain ⟨hlen, hk⟩ := hk
        have hlen := Nat.eq_of_beq_eq_true hlen
        have hvl : RLeaf γ w (h l) u := hv
        rw [hl] at hvl
        obtain ⟨g, b0, hg, hb, hu⟩ := hvl.2
        obtain ⟨g', hg', b1, hb1, hbase, htot, hgz, hgn⟩ := R.st.objs id _ ho
        rw [hg] at hg'; cases hg'
        rw [hb] at hb1; cases hb1
        obtain ⟨b, cs, t, fr, hu', hFb, hh, hun, hol, G, hGF, hGd, hvv⟩ := hown
        have hbb : b = b0 := by
          rw [hu] at hu'
          injection hu' with h3; injection h3 with h3; injection h3 with h3 _ _; exact h3.symm
        subst hbb
        obtain ⟨γ1, I, hc⟩ := instCs_sound ds γ σ cs.toList G (fun l => l) R hol hvv (fun j x hx => hF x (hGF j x hx).1) hGd
        have hidlt : id < σ.next := R.st.lt id g hg
        have ho1 := instCs_look ds σ hidlt ho
        have hfb : Free w0 mine γ1 (instCs σ ds).2.store w (fun x => x = b) := I.free _ (fun x hx => by subst hx; exact hF x hFb) (fun x hx ⟨j, hj⟩ => (hGF j x hj).2 hx)
        have hl1 := I.leaf (.p id 0) u hvl
        obtain ⟨g1, b1, hg1, hb1, hu1⟩ := hl1.2
        obtain ⟨g1', hg1', b2, hb2, hbase1, htot1, hgz1, hgn1⟩ := I.R.st.objs id _ ho1
        rw [hg1] at hg1'; cases hg1'
        rw [hb1] at hb2; cases hb2
        have hbb : b1 = b := by
          rw [hu] at hu1
          injection hu1 with h3; injection h3 with h3; injection h3 with h3 _ _; exact h3.symm
        subst hbb
        have hcl : cs.size = (instCs σ ds).1.length := by have := hc.1; simpa using this
        have hdn : (instCs σ ds).1.length = n := by
          have h5 : cs.toList.length = ds.length := hol
          simp only [Array.length_toList] at h5
          omega
        have T2 := gave_write I.R (o' := .vars (instCs σ ds).1) (fun i => i = id) (killQ id) (kills_Q id) (fun h => absurd rfl h) ho1 hg1 hfb (by
          simp only [mapObj]
          refine ⟨b1, cs, t, fr, hb1, by simp [Ghost.grow], hh, hun, hbase1, by simp [htot1, hdn], by simp [hcl], ⟨by simpa [hdn] using hgz1, hgn1⟩, ?_⟩
          have S := step_write (w' := w) I.R.st (g' := g1) (fun _ => False) (fun i => i = id) ho1 hg1 (fun x => γ1.fp id x ∨ x = b1) (fun _ => rfl) (fun h => absurd rfl h) (fun b x _ hx => hx)
          exact hc.kill S (kills_Q id))
        have fin := ((I.trans T2 (G := F) (fun x ⟨j, hj⟩ => (hGF j x hj).1) (fun x hx => by subst hx; exact hFb)).id h)
        exact ⟨_, _, _, hk, fin⟩
      · exact hk.elim
    · exact hk.elim
  · exact hk.elim

theorem giveArgs_sound : ∀ (das : List AM) (vs : List V) (us : List Value) (outs : List DR) (Hs : List FP) (σ : St) (γ : Ghost) (h : Leaf → Leaf) (K : St → Prop), Rel w0 mine γ σ a w → us.length = vs.length →
    (∀ (i : Nat) (v : V), vs[i]? = some v → ∃ u, us[i]? = some u ∧ RV γ w (mapV h v) u) → OutsT w das us outs Hs → Free w0 mine γ σ.store w (AnyL Hs) → DisjL Hs → giveArgs std das vs outs σ h K →
    ∃ σ' γ', K σ' ∧ Rel w0 mine γ' σ' a w ∧ ∀ H : FP, Free w0 mine γ σ.store w H → (∀ x, H x → ¬ AnyL Hs x) → Free w0 mine γ' σ'.store w H
  | das, vs, us, outs, Hs, σ, γ, h, K, R, hl, hv, hO, hF, hD, hk => by
    cases hO with
    | nil =>
      cases vs with
      | nil => exact ⟨σ, γ, hk, R, fun H hH _ => hH⟩
      | cons v vs => simp at hl
    | r d u ds us rs Fs ht =>
      cases vs with
      | nil => simp at hl
      | cons v vs =>
        simp only [giveArgs] at hk
        exact giveArgs_sound ds vs us outs Hs σ γ h K R (by simpa using hl) (fun i v hi => by simpa using hv (i + 1) v (by simpa using hi)) ht hF hD hk
    | g d u ds us rs Fs ht =>
      cases vs with
      | nil => simp at hl
      | cons v vs =>
        simp only [giveArgs] at hk
        exact giveArgs_sound ds vs us outs Hs σ γ h K R (by simpa using hl) (fun i v hi => by simpa using hv (i + 1) v (by simpa using hi)) ht hF hD hk
    | o F d d' u ds us rs Fs ho ht =>
      cases vs with
      | nil => simp at hl
      | cons v vs =>
        obtain ⟨u', hu, hvu⟩ := hv 0 v rfl
        simp at hu; subst hu
        obtain ⟨hd1, hd2⟩ := disjL_cons.mp hD
        cases v with
        | one v =>
          simp only [giveArgs] at hk
          obtain ⟨σ1, h1, γ1, hk1, T⟩ := giveV_sound R hvu ho (fun b hb => hF b (anyL_cons.mpr (.inl hb))) hk
          obtain ⟨σ2, γ2, hk2, R2, hf2⟩ := giveArgs_sound ds vs us rs Fs σ1 γ1 h1 K T.R (by simpa using hl) (fun i v hi => by
            obtain ⟨u, hu, hr⟩ := hv (i + 1) v (by simpa using hi)
            exact ⟨u, by simpa using hu, rv_map2 T.leaf hr⟩) ht (T.free _ (fun b hb => hF b (anyL_cons.mpr (.inr hb))) fun x h1 h2 => hd1 x h2 h1) hd2 hk1
          exact ⟨σ2, γ2, hk2, R2, fun H hH hd => hf2 H (T.free H hH fun x hx hf => hd x hx (anyL_cons.mpr (.inl hf))) fun x hx hf => hd x hx (anyL_cons.mpr (.inr hf))⟩
        | tup vs => exact hk.elim
        | bad => exact hk.elim

theorem rv_pack {vs : List V1} {us : List Value} (hl : us.length = vs.length) (h : ∀ (j : Nat) (v : V1), vs[j]? = some v → ∃ x, us[j]? = some x ∧ RV1 γ w v x) : RV γ w (packV1 vs) (packU us) := by
  rcases vs with _ | ⟨v, _ | ⟨v', t⟩⟩
  · have : us = [] := List.eq_nil_of_length_eq_zero hl
    subst this
    exact ⟨[], rfl, rfl, fun j l h => by simp at h⟩
  · rcases us with _ | ⟨u, _ | ⟨u', t'⟩⟩
    · simp at hl
    · obtain ⟨x, hx, hr⟩ := h 0 v rfl
      simp at hx; subst hx
      exact hr
    · simp at hl
  · rcases us with _ | ⟨u, _ | ⟨u', t'⟩⟩
    · simp at hl
    · simp at hl
    · exact ⟨u :: u' :: t', rfl, hl, h⟩

theorem csem_of_pcon {f : FuncId} {das : List AM} {post : List DR → List DR → Prop} (h : PCon P f das post) {vs : List V} (hc : callP std das vs σ post k) : Csem P w0 mine f vs σ k := by
  intro γ a w args R hA
  have hid : ∀ v : V, mapV (fun l => l) v = v := fun v => mapV_id v
  obtain ⟨σ1, h1, γ1, Fs, ⟨hro, hk⟩, T, hL, hD⟩ := lendArgs_sound das vs args σ γ (fun l => l) _ R hA.1 (fun i v hi => by rw [hid]; exact hA.2 i v hi) hc
  have hv1 : ∀ (i : Nat) (v : V), vs[i]? = some v → ∃ u, args[i]? = some u ∧ RV γ1 w (mapV h1 v) u := fun i v hi => by
    obtain ⟨u, hu, hr⟩ := hA.2 i v hi
    exact ⟨u, hu, rv_map2 (h := fun l => l) T.leaf (by rw [hid]; exact hr)⟩
  have hseen : ∀ b, Seen γ1 σ1.store b → b < w.heap.size ∧ ¬ AnyL Fs b := by
    rintro b (hb | ⟨i, o, ho, hb⟩)
    · exact ⟨T.R.st.rolt b hb, fun h => (T.free b h).2.1 hb⟩
    · exact ⟨(T.R.st.fp i o ho b hb).1, fun h => (T.free b h).1 i o ho hb⟩
  have hins := roArgs_sound T.R.st hseen das vs args Fs hA.1 hv1 hL hro
  have hcall := h w args Fs hins hD (fun x hx => (T.free x hx).2.2.1)
  have fin : ∀ u w', (∃ rs outs vs Gs Hs, post rs outs ∧ u = packU vs ∧ OwnL w' rs vs Gs ∧ OutsT w' das args outs Hs ∧ DisjL (Gs ++ Hs) ∧ (∀ x, AnyL (Gs ++ Hs) x → (w.heap.size ≤ x ∨ AnyL Fs x) ∧ x < w'.heap.size) ∧ Keep w (AnyL Fs) w') → Post w0 mine a k u w' := by
    rintro u w' ⟨rs, outs, us, Gs, Hs, hp, hu, hO, hOut, hDD, hFF, hkeep⟩
    obtain ⟨R', hleaf⟩ := T.R.call T.free hkeep
    have hws := T.R.st.keep.size
    have hfree : Free w0 mine γ1 σ1.store w' (AnyL (Gs ++ Hs)) := by
      intro x hx
      obtain ⟨h1, h2⟩ := hFF x hx
      rcases h1 with h1 | h1
      · refine ⟨fun i oi hi hf => ?_, fun hr => ?_, h2, .inl (by omega)⟩
        · have := (T.R.st.fp i oi hi x hf).1; omega
        · have := T.R.st.rolt x hr; omega
      · obtain ⟨f1, f2, f3, f4⟩ := T.free x h1
        exact ⟨f1, f2, h2, f4⟩
    have hDG : DisjL Gs ∧ DisjL Hs ∧ ∀ x, AnyL Gs x → ¬ AnyL Hs x := by
      unfold DisjL at hDD
      rw [List.pairwise_append] at hDD
      exact ⟨hDD.1, hDD.2.1, fun x ⟨G, hG, hx⟩ ⟨H, hH, hx'⟩ => hDD.2.2 G hG H hH x hx hx'⟩
    have hback := hk rs outs hp
    obtain ⟨σ2, γ2, hk2, R2, hf2⟩ := giveArgs_sound das vs args outs Hs σ1 γ1 h1 _ R' hA.1 (fun i v hi => by
      obtain ⟨u, hu, hr⟩ := hv1 i v hi
      exact ⟨u, hu, rv_map2 (h := h1) (h' := h1) (fun l u hl => hleaf _ u hl) hr⟩) hOut (fun b hb => hfree b (anyL_append.mpr (.inr hb))) hDG.2.1 hback
    obtain ⟨γ3, R3, _, c1, c2⟩ := inst1s_sound rs γ2 σ2 us Gs R2 hO (hf2 _ (fun b hb => hfree b (anyL_append.mpr (.inl hb))) hDG.2.2) hDG.1
    exact ⟨_, _, γ3, hk2, R3, by rw [hu]; exact rv_pack c1 c2⟩
  rcases hcall with ⟨u, w', h1, h2⟩ | ⟨h1, h2⟩
  · exact .inl ⟨u, w', h1, fin u w' h2⟩
  · exact .inr ⟨h1, h2.mono fun e w' ⟨u, he, hp⟩ => ⟨u, he, fin u w' hp⟩⟩
end
end Go.AW
