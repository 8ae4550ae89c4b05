/- The abstract calculus, part 28: a state that tells less holds too. -/
import Derived.Test.YtfidphaoddenlaaAw27
set_option linter.unusedVariables false
set_option linter.unusedSimpArgs false
namespace Go.AW

/-- The ghost of the renamed state. -/
def Ghost.ren (γ : Ghost) (ρ : Ren) (st' : List (Nat × Obj)) : Ghost where
  g := fun i => match look st' i, look ρ i with
    | some (.deep sz' _ _), some (some id) => (γ.g id).map fun g => match g.blk with
      | none => ⟨none, g.base, sz', g.tot, g.n⟩
      | some _ => g
    | some (.deep sz' _ _), some none => some ⟨none, 0, sz', 0, 0⟩
    | some _, some (some id) => γ.g id
    | _, _ => none
  fp := fun i => match look ρ i with
    | some (some id) => γ.fp id
    | _ => fun _ => False
  ro := γ.ro

theorem look_mem {α : Type} : ∀ (st : List (Nat × α)) (i : Nat) (o : α), look st i = some o → (i, o) ∈ st
  | [], i, o, h => by simp [look] at h
  | (j, x) :: t, i, o, h => by
    simp only [look] at h
    cases hb : Nat.beq j i with
    | true =>
      rw [hb] at h
      have := Nat.eq_of_beq_eq_true hb
      simp at h
      subst this h
      simp
    | false =>
      rw [hb] at h
      exact List.mem_cons_of_mem _ (look_mem t i o (by simpa using h))

theorem stLe_get {ρ : Ren} {st : List (Nat × Obj)} {n : Nat} : ∀ (st' : List (Nat × Obj)), stLe ρ st n st' → ∀ (id' : Nat) (o' : Obj), look st' id' = some o' → id' < n ∧ (match look ρ id' with
    | some (some id) => match look st id with
      | some o => objLe ρ o o'
      | none => False
    | some none => match o' with
      | .deep _ n _ => n = 0
      | _ => False
    | none => False)
  | [], _, id', o', h => by simp [look] at h
  | (j, x) :: t, hs, id', o', h => by
    simp only [look] at h
    cases hb : Nat.beq j id' with
    | true =>
      rw [hb] at h
      have := Nat.eq_of_beq_eq_true hb
      simp at h
      subst this h
      exact ⟨hs.1, hs.2.1⟩
    | false =>
      rw [hb] at h
      exact stLe_get t hs.2.2 id' o' (by simpa using h)

/-- No two new objects are the same old one. -/
theorem renOk_inj : ∀ (ρ : Ren), renOk ρ = true → ∀ (i j id : Nat), look ρ i = some (some id) → look ρ j = some (some id) → i = j
  | [], _, i, j, id, h, _ => by simp [look] at h
  | (a, r) :: t, hk, i, j, id, h1, h2 => by
    simp only [renOk, Bool.and_eq_true] at hk
    have hno : ∀ x, r = some id → look t x = some (some id) → False := by
      intro x hr hx
      rw [hr] at hk
      have := List.all_eq_true.mp hk.1 _ (look_mem t x _ hx)
      simp at this
    simp only [look] at h1 h2
    cases hb1 : Nat.beq a i with
    | true =>
      rw [hb1] at h1
      simp at h1
      cases hb2 : Nat.beq a j with
      | true => rw [← Nat.eq_of_beq_eq_true hb1, ← Nat.eq_of_beq_eq_true hb2]
      | false => rw [hb2] at h2; exact (hno j h1 (by simpa using h2)).elim
    | false =>
      rw [hb1] at h1
      cases hb2 : Nat.beq a j with
      | true => rw [hb2] at h2; simp at h2; exact (hno i h2 (by simpa using h1)).elim
      | false => rw [hb2] at h2; exact renOk_inj t hk.2 i j id (by simpa using h1) (by simpa using h2)

section
variable {w0 w : World} {mine : FP} {γ : Ghost} {st st' : List (Nat × Obj)} {n n' : Nat} {ρ : Ren}

/-- What a renamed object is. -/
theorem ren_obj (R : RelS w0 mine γ st n w) (hst : stLe ρ st n' st') (hin : renIn st' ρ = true) {id' id : Nat} (h : renIs ρ id' id) :
    ∃ o o', look st' id' = some o' ∧ look st id = some o ∧ objLe ρ o o' ∧ id' < n' := by
  have hm := List.all_eq_true.mp hin _ (look_mem ρ id' _ h)
  simp only at hm
  split at hm
  · rename_i o' ho'
    obtain ⟨h1, h2⟩ := stLe_get st' hst id' o' ho'
    rw [h] at h2
    simp only at h2
    split at h2
    · rename_i o ho
      exact ⟨o, o', ho', ho, h2, h1⟩
    · exact h2.elim
  · cases hm

/-- Its ghost: the old one, at most its row size told anew. -/
theorem ren_g (R : RelS w0 mine γ st n w) (hst : stLe ρ st n' st') (hin : renIn st' ρ = true) {id' id : Nat} (h : renIs ρ id' id) {g : G1} (hg : γ.g id = some g) :
    ∃ g', (γ.ren ρ st').g id' = some g' ∧ g'.blk = g.blk ∧ g'.base = g.base ∧ g'.tot = g.tot ∧ g'.n = g.n ∧ (∀ b, g.blk = some b → g'.sz = g.sz) := by
  obtain ⟨o, o', ho', ho, hle, _⟩ := ren_obj R hst hin h
  have hl : look ρ id' = some (some id) := h
  cases o' with
  | deep sz' m f =>
    simp only [Ghost.ren, ho', hl, hg, Option.map_some]
    cases hb : g.blk with
    | none => exact ⟨_, rfl, rfl, rfl, rfl, rfl, fun b hb => by cases hb⟩
    | some b => exact ⟨_, rfl, hb, rfl, rfl, rfl, fun _ _ => rfl⟩
  | _ => simp only [Ghost.ren, ho', hl, hg]; exact ⟨_, rfl, rfl, rfl, rfl, rfl, fun _ _ => rfl⟩

theorem ren_fp {id' id : Nat} (h : renIs ρ id' id) : (γ.ren ρ st').fp id' = γ.fp id := by
  have hl : look ρ id' = some (some id) := h
  simp only [Ghost.ren, hl]

theorem ren_nil (hst : stLe ρ st n' st') (hin : renIn st' ρ = true) {id' : Nat} (h : look ρ id' = some none) : ∃ sz f, look st' id' = some (.deep sz 0 f) ∧ (γ.ren ρ st').g id' = some ⟨none, 0, sz, 0, 0⟩ ∧ id' < n' := by
  have hm := List.all_eq_true.mp hin _ (look_mem ρ id' _ h)
  simp only at hm
  split at hm
  · rename_i o' ho'
    obtain ⟨h1, h2⟩ := stLe_get st' hst id' o' ho'
    rw [h] at h2
    simp only at h2
    split at h2
    · rename_i sz m f
      subst h2
      exact ⟨sz, f, ho', by simp only [Ghost.ren, ho', h], h1⟩
    · exact h2.elim
  · cases hm

theorem caps_ren : ∀ {caps caps' : List (Nat × Nat)}, capsLe ρ caps caps' → caps.length = caps'.length ∧ ∀ (k : Nat) (c' : Nat × Nat), caps'[k]? = some c' → ∃ c : Nat × Nat, caps[k]? = some c ∧ renIs ρ c'.1 c.1 ∧ c.2 = c'.2
  | [], [], _ => ⟨rfl, fun k c' h => by simp at h⟩
  | c :: l, c' :: l', h => by
    obtain ⟨h1, h2, h3⟩ := h
    obtain ⟨h4, h5⟩ := caps_ren h3
    refine ⟨by simp [h4], fun k x hk => ?_⟩
    cases k with
    | zero => simp at hk; subst hk; exact ⟨c, rfl, h1, h2⟩
    | succ k => simpa using h5 k x (by simpa using hk)
  | [], _ :: _, h => h.elim
  | _ :: _, [], h => h.elim

theorem at_ren (R : RelS w0 mine γ st n w) (hst : stLe ρ st n' st') (hin : renIn st' ρ = true) {id' id i j : Nat} {c : Value} (h : renIs ρ id' id) (hc : AtCell γ w id i j c) : AtCell (γ.ren ρ st') w id' i j c := by
  obtain ⟨g, b, cs, t, fr, hg, hb, hi, hfp, hh, hcell⟩ := hc
  obtain ⟨g', hg', e1, e2, e3, e4, e5⟩ := ren_g R hst hin h hg
  exact ⟨g', b, cs, t, fr, hg', by rw [e1]; exact hb, by rw [e4]; exact hi, by rw [ren_fp h]; exact hfp, hh, by rw [e2, e5 b hb]; exact hcell⟩
theorem lf_ren (R : RelS w0 mine γ st n w) (hst : stLe ρ st n' st') (hin : renIn st' ρ = true) {l l' : Leaf} {u : Value} (hl : RLeaf γ w l u) (h : lfLe ρ l l') : RLeaf (γ.ren ρ st') w l' u := by
  obtain ⟨h1, h2⟩ := hl
  refine ⟨h1, ?_⟩
  unfold lfLe at h
  split at h <;> simp only [RLeafC] at h2 ⊢
  · rw [h2, h]
  · exact h2
  · obtain ⟨rfl, hd⟩ := h
    exact h2.deq hd
  · subst h; rw [h2]; exact .nl _ _ _ _
  · obtain ⟨hr, rfl, hd⟩ := h
    obtain ⟨⟨g, hg⟩, h3⟩ := h2
    obtain ⟨g', hg', _⟩ := ren_g R hst hin hr hg
    rw [ren_fp hr]
    exact ⟨⟨g', hg'⟩, h3.deq hd⟩
  · rename_i id' off' len' id off len
    obtain ⟨hr, rfl, rfl⟩ := h
    obtain ⟨g, A, cap, hg, hu, hle, hn, htot, had⟩ := h2
    obtain ⟨g', hg', e1, e2, e3, e4, e5⟩ := ren_g R hst hin hr hg
    refine ⟨g', A, cap, hg', hu, hle, by omega, ?_, fun hc => ?_⟩
    · cases hb : g.blk with
      | none =>
        have hc0 : cap = 0 := by
          rcases Nat.eq_zero_or_pos cap with h | h
          · exact h
          · obtain ⟨b, hb', _⟩ := had h; rw [hb] at hb'; cases hb'
        obtain ⟨o, _, _, ho, _, _⟩ := ren_obj R hst hin hr
        obtain ⟨g2, hg2, hro⟩ := R.objs _ o ho
        rw [hg] at hg2; cases hg2
        have hn0 : g.n = 0 ∨ ∃ b, g.blk = some b := by
          cases o with
          | deep sz m f => simp only [RObj, hb] at hro; exact .inl (by omega)
          | lent sz m =>
            obtain ⟨h5, h6, h7, h8, _⟩ := hro
            exact .inl (by have := h8 hb; omega)
          | lentV m => obtain ⟨b, hb', _⟩ := hro; exact .inr ⟨b, hb'⟩
          | it s pos => obtain ⟨b, hb', _⟩ := hro; exact .inr ⟨b, hb'⟩
          | mp es => obtain ⟨b, _, _, hb', _⟩ := hro; exact .inr ⟨b, hb'⟩
          | vars cs => obtain ⟨b, _, _, _, hb', _⟩ := hro; exact .inr ⟨b, hb'⟩
        rcases hn0 with h0 | ⟨b, hb'⟩
        · have hz : off + cap = 0 := by omega
          rw [hz, Nat.zero_mul] at htot
          rw [hz, Nat.zero_mul, e3, ← htot]
        · rw [hb] at hb'; cases hb'
      | some b => rw [e5 b hb, e3]; exact htot
    · obtain ⟨b, hb, hA⟩ := had hc
      exact ⟨b, by rw [e1]; exact hb, by rw [e2, e5 b hb]; exact hA⟩
  · obtain ⟨hr, rfl, rfl⟩ := h
    rw [h2]
    obtain ⟨sz, f, _, hg', _⟩ := ren_nil (γ := γ) hst hin hr
    exact ⟨⟨none, 0, sz, 0, 0⟩, none, 0, hg', rfl, Nat.le_refl _, by simp, by simp, fun h => absurd h (Nat.lt_irrefl 0)⟩
  · obtain ⟨hr, rfl⟩ := h
    obtain ⟨g, b, hg, hb, hu⟩ := h2
    obtain ⟨g', hg', e1, e2, e3, e4, e5⟩ := ren_g R hst hin hr hg
    exact ⟨g', b, hg', by rw [e1]; exact hb, by rw [e2]; exact hu⟩
  · obtain ⟨hr, rfl, rfl⟩ := h
    obtain ⟨g, b, hg, hb, hi, hu⟩ := h2
    obtain ⟨g', hg', e1, e2, e3, e4, e5⟩ := ren_g R hst hin hr hg
    exact ⟨g', b, hg', by rw [e1]; exact hb, by omega, by rw [e2, e5 b hb]; exact hu⟩
  · obtain ⟨hr, rfl, rfl, rfl, rfl⟩ := h
    obtain ⟨c, hc, h3⟩ := h2
    exact ⟨c, at_ren R hst hin hr hc, h3⟩
  · obtain ⟨hr, rfl, rfl, rfl, rfl, rfl⟩ := h
    obtain ⟨c, b, o, N, cap, hc, h3⟩ := h2
    exact ⟨c, b, o, N, cap, at_ren R hst hin hr hc, h3⟩
  · obtain ⟨g, b, hg, hb, hu⟩ := h2
    obtain ⟨g', hg', e1, e2, e3, e4, e5⟩ := ren_g R hst hin h hg
    exact ⟨g', b, hg', by rw [e1]; exact hb, hu⟩
  · rw [← h]; exact h2
  · obtain ⟨hr, rfl⟩ := h
    obtain ⟨⟨g, hg⟩, h3⟩ := h2
    obtain ⟨g', hg', _⟩ := ren_g R hst hin hr hg
    rw [ren_fp hr]
    exact ⟨⟨g', hg'⟩, h3⟩
  · obtain ⟨rfl, hc⟩ := h
    obtain ⟨vs, hu, hlen, hk⟩ := h2
    obtain ⟨h4, h5⟩ := caps_ren hc
    refine ⟨vs, hu, by rw [hlen, h4], fun k c' hc' => ?_⟩
    obtain ⟨c, hcc, hr, he⟩ := h5 k c' hc'
    obtain ⟨g, b, hg, hb, hv⟩ := hk k c hcc
    obtain ⟨g', hg', e1, e2, _⟩ := ren_g R hst hin hr hg
    exact ⟨g', b, hg', by rw [e1]; exact hb, by rw [e2, ← he]; exact hv⟩
  · obtain ⟨rfl, rfl⟩ := h
    exact h2
  · exact h.elim
theorem lfs_ren (R : RelS w0 mine γ st n w) (hst : stLe ρ st n' st') (hin : renIn st' ρ = true) : ∀ {ls ls' : List Leaf} {us : List Value}, RCells γ w ls us → lfsLe ρ ls ls' → RCells (γ.ren ρ st') w ls' us
  | [], [], us, h, _ => ⟨h.1, fun j l hj => by simp at hj⟩
  | l :: t, l' :: t', us, h, hl => by
    obtain ⟨u, us', rfl⟩ : ∃ u us', us = u :: us' := by
      cases us with
      | nil => exact absurd h.1 (by simp)
      | cons u us => exact ⟨u, us, rfl⟩
    have ih := lfs_ren R hst hin (ls := t) (ls' := t') (us := us') ⟨by simpa using h.1, fun j x hx => by simpa using h.2 (j + 1) x (by simpa using hx)⟩ hl.2
    obtain ⟨u', hu', hr⟩ := h.2 0 l rfl
    simp at hu'; subst hu'
    refine ⟨by simp [ih.1], fun j x hx => ?_⟩
    cases j with
    | zero => simp at hx; subst hx; exact ⟨u, rfl, lf_ren R hst hin hr hl.1⟩
    | succ j => simpa using ih.2 j x (by simpa using hx)
  | [], _ :: _, us, _, h => h.elim
  | _ :: _, [], us, _, h => h.elim

theorem v1_ren (R : RelS w0 mine γ st n w) (hst : stLe ρ st n' st') (hin : renIn st' ρ = true) {v v' : V1} {u : Value} (hv : RV1 γ w v u) (h : v1Le ρ v v') : RV1 (γ.ren ρ st') w v' u := by
  cases v with
  | lf l => cases v' with
    | lf l' => exact lf_ren R hst hin hv h
    | ag cs' => exact h.elim
  | ag cs => cases v' with
    | lf l' => exact h.elim
    | ag cs' =>
      obtain ⟨us, hu, hc⟩ := hv
      exact ⟨us, hu, lfs_ren R hst hin hc h⟩

theorem v1s_ren (R : RelS w0 mine γ st n w) (hst : stLe ρ st n' st') (hin : renIn st' ρ = true) : ∀ {ls ls' : List V1} {us : List Value}, us.length = ls.length → (∀ (j : Nat) (l : V1), ls[j]? = some l → ∃ u, us[j]? = some u ∧ RV1 γ w l u) → v1sLe ρ ls ls' →
    us.length = ls'.length ∧ ∀ (j : Nat) (l : V1), ls'[j]? = some l → ∃ u, us[j]? = some u ∧ RV1 (γ.ren ρ st') w l u
  | [], [], us, h1, h2, _ => ⟨h1, fun j l hj => by simp at hj⟩
  | l :: t, l' :: t', us, h1, h2, hl => by
    obtain ⟨u, us', rfl⟩ : ∃ u us', us = u :: us' := by
      cases us with
      | nil => simp at h1
      | cons u us => exact ⟨u, us, rfl⟩
    obtain ⟨i1, i2⟩ := v1s_ren R hst hin (ls := t) (ls' := t') (us := us') (by simpa using h1) (fun j x hx => by simpa using h2 (j + 1) x (by simpa using hx)) hl.2
    obtain ⟨u', hu', hr⟩ := h2 0 l rfl
    simp at hu'; subst hu'
    refine ⟨by simp [i1], fun j x hx => ?_⟩
    cases j with
    | zero => simp at hx; subst hx; exact ⟨u, rfl, v1_ren R hst hin hr hl.1⟩
    | succ j => simpa using i2 j x (by simpa using hx)
  | [], _ :: _, us, _, _, h => h.elim
  | _ :: _, [], us, _, _, h => h.elim

theorem v_ren (R : RelS w0 mine γ st n w) (hst : stLe ρ st n' st') (hin : renIn st' ρ = true) {v v' : V} {u : Value} (hv : RV γ w v u) (h : vLe ρ v v') : RV (γ.ren ρ st') w v' u := by
  unfold vLe at h
  split at h
  · trivial
  · exact v1_ren R hst hin hv h
  · obtain ⟨us, hu, hl, hj⟩ := hv
    obtain ⟨h1, h2⟩ := v1s_ren R hst hin hl hj h
    exact ⟨us, hu, h1, h2⟩
  · exact h.elim

theorem vs_get : ∀ {l l' : List V}, vsLe ρ l l' → l.length = l'.length ∧ ∀ i, vLe ρ (getN undefV l i) (getN undefV l' i)
  | [], [], _ => ⟨rfl, fun i => by simp [getN, vLe, v1sLe]⟩
  | v :: l, v' :: l', h => by
    obtain ⟨h1, h2⟩ := vs_get h.2
    refine ⟨by simp [h1], fun i => ?_⟩
    cases i with
    | zero => exact h.1
    | succ i => exact h2 i
  | [], _ :: _, h => h.elim
  | _ :: _, [], h => h.elim

theorem es_get : ∀ {l l' : List (Value × Leaf)}, esLe ρ l l' → l.length = l'.length ∧ ∀ (k : Nat) (e' : Value × Leaf), l'[k]? = some e' → ∃ e, l[k]? = some e ∧ e.1 = e'.1 ∧ lfLe ρ e.2 e'.2
  | [], [], _ => ⟨rfl, fun k e h => by simp at h⟩
  | v :: l, v' :: l', h => by
    obtain ⟨h1, h2⟩ := es_get h.2.2
    refine ⟨by simp [h1], fun k e hk => ?_⟩
    cases k with
    | zero => simp at hk; subst hk; exact ⟨v, rfl, h.1, h.2.1⟩
    | succ k => simpa using h2 k e (by simpa using hk)
  | [], _ :: _, h => h.elim
  | _ :: _, [], h => h.elim
theorem obj_ren (R : RelS w0 mine γ st n w) (hst : stLe ρ st n' st') (hin : renIn st' ρ = true) {id' id : Nat} (hr : renIs ρ id' id) {o o' : Obj} (ho : look st id = some o) (ho' : look st' id' = some o') (hle : objLe ρ o o') :
    ∃ g', (γ.ren ρ st').g id' = some g' ∧ RObj (γ.ren ρ st') w id' g' o' := by
  obtain ⟨g, hg, hro⟩ := R.objs id o ho
  have hl : look ρ id' = some (some id) := hr
  have hfp := ren_fp (γ := γ) (st' := st') hr
  unfold objLe at hle
  split at hle
  · rename_i sz' m' f' sz m f
    obtain ⟨rfl, hd⟩ := hle
    have hg' : (γ.ren ρ st').g id' = some (match g.blk with | none => ⟨none, g.base, sz', g.tot, g.n⟩ | some _ => g) := by
      simp only [Ghost.ren, ho', hl, hg, Option.map_some]
    refine ⟨_, hg', ?_⟩
    simp only [RObj] at hro ⊢
    obtain ⟨hn, hs, hb⟩ := hro
    cases hbk : g.blk with
    | none =>
      rw [hbk] at hb
      exact ⟨hn, rfl, hb⟩
    | some b =>
      rw [hbk] at hb
      simp only at hb
      obtain ⟨hs0, cs, t, fr, vs, G, h1, h2, h3, h4, h5, h6, h7, h8, h9⟩ := hb
      cases hd with
      | z => exact absurd hs0 (Nat.lt_irrefl 0)
      | l _ _ _ _ hlen hdd =>
        refine ⟨hn, hs, ?_⟩
        simp only [hbk]
        refine ⟨hs0, cs, t, fr, vs, G, by rw [hfp]; exact h1, h2, h3, h4, h5, fun i hi => by rw [← hlen i hi]; exact h6 i hi, fun i j x hx => by rw [hfp]; exact h7 i j x hx, h8, fun i j d' hi hj => ?_⟩
        obtain ⟨d, hd'⟩ := deq_get hlen hi hj
        obtain ⟨h10, h11⟩ := h9 i j d hi hd'
        exact ⟨h10, h11.deq (hdd i j d d' hi hd' hj)⟩
  · rename_i cs' cs
    have hg' : (γ.ren ρ st').g id' = some g := by simp only [Ghost.ren, ho', hl, hg]
    refine ⟨g, hg', ?_⟩
    obtain ⟨b, cur, t, fr, h1, h2, h3, h4, h5, h6, h7, h9, h8⟩ := hro
    have hlen : cs.length = cs'.length := by
      have := (lfs_ren R hst hin h8 hle).1
      have := h8.1
      omega
    exact ⟨b, cur, t, fr, h1, by rw [hfp]; exact h2, h3, h4, h5, by rw [h6, hlen], by rw [h7, hlen], by rw [← hlen]; exact h9, lfs_ren R hst hin h8 hle⟩
  · rename_i s' p' s p
    obtain ⟨rfl, rfl⟩ := hle
    refine ⟨g, by simp only [Ghost.ren, ho', hl, hg], ?_⟩
    obtain ⟨b, h1, h2, h3, h4⟩ := hro
    exact ⟨b, h1, h2, by rw [hfp]; exact h3, h4⟩
  · rename_i a' b' a b
    obtain ⟨rfl, rfl⟩ := hle
    refine ⟨g, by simp only [Ghost.ren, ho', hl, hg], ?_⟩
    obtain ⟨h1, h2, h3, h9, h4⟩ := hro
    refine ⟨h1, h2, h3, h9, fun h => ⟨(h4 h).1, ?_⟩⟩
    have h5 := (h4 h).2
    split
    · trivial
    · rename_i b hb
      rw [hb] at h5
      obtain ⟨cs, t, fr, h6, h7⟩ := h5
      exact ⟨cs, t, fr, by rw [hfp]; exact h6, h7⟩
  · rename_i a' a
    subst hle
    exact ⟨g, by simp only [Ghost.ren, ho', hl, hg], hro⟩
  · rename_i es' es
    refine ⟨g, by simp only [Ghost.ren, ho', hl, hg], ?_⟩
    obtain ⟨b, ents, clock, h1, h2, h3, h4, h5⟩ := hro
    obtain ⟨e1, e2⟩ := es_get hle
    refine ⟨b, ents, clock, h1, by rw [hfp]; exact h2, h3, by rw [h4, e1], fun k e' hk => ?_⟩
    obtain ⟨e, he, hk1, hle1⟩ := e2 k e' hk
    obtain ⟨en, h6, h7, h8⟩ := h5 k e he
    exact ⟨en, h6, by rw [h7, hk1], lf_ren R hst hin h8 hle1⟩
  · exact hle.elim
end

theorem ssem_ren {w0 : World} {mine : FP} {σ σ' : St} (ρ : Ren) (h : stateLe ρ σ σ') : Ssem w0 mine σ σ' := by
  intro γ a w R
  obtain ⟨hok, hin, hst, hvs⟩ := h
  obtain ⟨hl, hv⟩ := vs_get hvs
  have S := R.st
  have hcase : ∀ i o', look σ'.store i = some o' → i < σ'.next ∧ ((∃ id o, renIs ρ i id ∧ look σ.store id = some o ∧ objLe ρ o o') ∨ (look ρ i = some none ∧ ∃ sz f, o' = .deep sz 0 f)) := by
    intro i o' ho'
    obtain ⟨h1, h2⟩ := stLe_get _ hst i o' ho'
    refine ⟨h1, ?_⟩
    split at h2
    · rename_i id hr
      split at h2
      · rename_i o ho; exact .inl ⟨id, o, hr, ho, h2⟩
      · exact h2.elim
    · rename_i hr
      split at h2
      · rename_i sz m f; subst h2; exact .inr ⟨hr, sz, f, rfl⟩
      · exact h2.elim
    · exact h2.elim
  have hfp : ∀ i o' b, look σ'.store i = some o' → (γ.ren ρ σ'.store).fp i b → ∃ id o, renIs ρ i id ∧ look σ.store id = some o ∧ γ.fp id b := by
    intro i o' b ho' hb
    rcases (hcase i o' ho').2 with ⟨id, o, hr, ho, _⟩ | ⟨hr, _⟩
    · rw [ren_fp hr] at hb; exact ⟨id, o, hr, ho, hb⟩
    · simp only [Ghost.ren, hr] at hb
  refine ⟨γ.ren ρ σ'.store, ⟨by rw [R.size]; exact hl, fun i => v_ren S hst hin (R.slots i) (hv i), ?_, ?_, ?_, ?_, ?_, ?_, S.rolt, S.keep⟩⟩
  · intro i o' ho'
    rcases (hcase i o' ho').2 with ⟨id, o, hr, ho, hle⟩ | ⟨hr, sz, f, rfl⟩
    · exact obj_ren S hst hin hr ho ho' hle
    · obtain ⟨sz2, f2, h1, h2, _⟩ := ren_nil (γ := γ) hst hin hr
      rw [ho'] at h1; cases h1
      exact ⟨_, h2, rfl, rfl, rfl⟩
  · intro i j o1 o2 h1 h2 hne b hb1 hb2
    obtain ⟨id1, p1, r1, l1, f1⟩ := hfp i o1 b h1 hb1
    obtain ⟨id2, p2, r2, l2, f2⟩ := hfp j o2 b h2 hb2
    by_cases he : id1 = id2
    · subst he
      exact hne (renOk_inj ρ hok i j id1 r1 r2)
    · exact S.disj id1 id2 p1 p2 l1 l2 he b f1 f2
  · intro i o' h1 b hb hro
    obtain ⟨id, o, _, hlk, hf⟩ := hfp i o' b h1 hb
    exact S.ro id o hlk b hf hro
  · intro i g hg
    simp only [Ghost.ren] at hg
    cases ho : look σ'.store i with
    | none => rw [ho] at hg; simp at hg
    | some o' => exact (hcase i o' ho).1
  · intro i g hg
    simp only [Ghost.ren] at hg
    cases ho : look σ'.store i with
    | none => rw [ho] at hg; simp at hg
    | some o' => exact ⟨o', rfl⟩
  · intro i o' h1 b hb
    obtain ⟨id, o, _, hlk, hf⟩ := hfp i o' b h1 hb
    exact S.fp id o hlk b hf
end Go.AW
