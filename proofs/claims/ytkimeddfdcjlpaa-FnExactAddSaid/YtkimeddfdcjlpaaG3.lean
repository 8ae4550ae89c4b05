/- The abstract calculus, part 28: a state that tells less holds too. -/
import Derived.Test.YtkimeddfdcjlpaaG2
set_option linter.unusedVariables false
set_option linter.unusedSimpArgs false
set_option linter.unusedVariables false
set_option linter.unusedSimpArgs false
namespace Go.AW

/-- The ghost of the renamed state. -/
def Ghost.ren (γ : Ghost) (ρ : Ren) (st' : List (Nat × Obj)) : Ghost where
  g := fun i => match look st' i, look ρ i with
    | some (.deep sz' _ _), some (some id) => (γ.g id).map fun g => match g.blk with
      | none => ⟨none, g.base, sz', g.tot, g.n⟩
      | some _ => if g.sz = 0 then ⟨g.blk, g.base, sz', g.tot, g.n⟩ else g
    | some (.deep sz' _ _), some none => some ⟨none, 0, sz', 0, 0⟩
    | some _, some (some id) => γ.g id
    | _, _ => none
  fp := fun i => match look ρ i with
    | some (some id) => γ.fp id
    | _ => fun _ => False
  ro := γ.ro

theorem look_mem {α : Type} : ∀ (st : List (Nat × α)) (i : Nat) (o : α), look st i = some o → (i, o) ∈ st
  | [], i, o, h => by simp [look] at h
  | (j, x) :: t, i, o, h => by
    simp only [look] at h
    cases hb : Nat.beq j i with
    | true =>
      rw [hb] at h
      have := Nat.eq_of_beq_eq_true hb
      simp at h
      subst this h
      simp
    | false =>
      rw [hb] at h
      exact List.mem_cons_of_mem _ (look_mem t i o (by simpa using h))

theorem stLe_get {ρ : Ren} {st : List (Nat × Obj)} {n : Nat} : ∀ (st' : List (Nat × Obj)), stLe ρ st n st' → ∀ (id' : Nat) (o' : Obj), look st' id' = some o' → id' < n ∧ (match look ρ id' with
    | some (some id) => match look st id with
      | some o => objLe ρ o o'
      | none => False
    | some none => match o' with
      | .deep _ n _ => n = 0
      | _ => False
    | none => False)
  | [], _, id', o', h => by simp [look] at h
  | (j, x) :: t, hs, id', o', h => by
    simp only [look] at h
    cases hb : Nat.beq j id' with
    | true =>
      rw [hb] at h
      have := Nat.eq_of_beq_eq_true hb
      simp at h
      subst this h
      exact ⟨hs.1, hs.2.1⟩
    | false =>
      rw [hb] at h
      exact stLe_get t hs.2.2 id' o' (by simpa using h)

/-- No two new objects are the same old one. -/
theorem renOk_inj : ∀ (ρ : Ren), renOk ρ = true → ∀ (i j id : Nat), look ρ i = some (some id) → look ρ j = some (some id) → i = j
  | [], _, i, j, id, h, _ => by simp [look] at h
  | (a, r) :: t, hk, i, j, id, h1, h2 => by
    simp only [renOk, Bool.and_eq_true] at hk
    have hno : ∀ x, r = some id → look t x = some (some id) → False := by
      intro x hr hx
      rw [hr] at hk
      have := List.all_eq_true.mp hk.1 _ (look_mem t x _ hx)
      simp at this
    simp only [look] at h1 h2
    cases hb1 : Nat.beq a i with
    | true =>
      rw [hb1] at h1
      simp at h1
      cases hb2 : Nat.beq a j with
      | true => rw [← Nat.eq_of_beq_eq_true hb1, ← Nat.eq_of_beq_eq_true hb2]
      | false => rw [hb2] at h2; exact (hno j h1 (by simpa using h2)).elim
    | false =>
      rw [hb1] at h1
      cases hb2 : Nat.beq a j with
      | true => rw [hb2] at h2; simp at h2; exact (hno i h2 (by simpa using h1)).elim
      | false => rw [hb2] at h2; exact renOk_inj t hk.2 i j id (by simpa using h1) (by simpa using h2)

section
variable {w0 w : World} {mine : FP} {γ : Ghost} {st st' : List (Nat × Obj)} {n n' : Nat} {ρ : Ren}

/-- What a renamed object is. -/
theorem ren_obj (R : RelS w0 mine γ st n w) (hst : stLe ρ st n' st') (hin : renIn st' ρ = true) {id' id : Nat} (h : renIs ρ id' id) :
    ∃ o o', look st' id' = some o' ∧ look st id = some o ∧ objLe ρ o o' ∧ id' < n' := by
  have hm := List.all_eq_true.mp hin _ (look_mem ρ id' _ h)
  simp only at hm
  split at hm
  · rename_i o' ho'
    obtain ⟨h1, h2⟩ := stLe_get st' hst id' o' ho'
    rw [h] at h2
    simp only at h2
    split at h2
    · rename_i o ho
      exact ⟨o, o', ho', ho, h2, h1⟩
    · exact h2.elim
  · cases hm

/-- Its ghost: the old one, at most its row size told anew. -/
theorem ren_g (R : RelS w0 mine γ st n w) (hst : stLe ρ st n' st') (hin : renIn st' ρ = true) {id' id : Nat} (h : renIs ρ id' id) {g : G1} (hg : γ.g id = some g) :
    ∃ g', (γ.ren ρ st').g id' = some g' ∧ g'.blk = g.blk ∧ g'.base = g.base ∧ g'.tot = g.tot ∧ g'.n = g.n ∧ (∀ b, g.blk = some b → g'.sz = g.sz ∨ (g.sz = 0 ∧ g.n = 1 ∧ 0 < g.tot)) := by
  obtain ⟨o, o', ho', ho, hle, _⟩ := ren_obj R hst hin h
  have hl : look ρ id' = some (some id) := h
  cases o' with
  | deep sz' m f =>
    simp only [Ghost.ren, ho', hl, hg, Option.map_some]
    cases hb : g.blk with
    | none => exact ⟨_, rfl, rfl, rfl, rfl, rfl, fun b hb => by cases hb⟩
    | some b =>
      simp only
      by_cases hz : g.sz = 0
      · rw [if_pos hz]
        refine ⟨_, rfl, rfl, rfl, rfl, rfl, fun _ _ => .inr ⟨hz, ?_⟩⟩
        obtain ⟨g2, hg2, hro⟩ := R.objs _ o ho
        rw [hg] at hg2; cases hg2
        cases o with
        | deep sz m' f' =>
          simp only [RObj, hb] at hro
          have := hro.2.1
          have := hro.2.2.1
          omega
        | vars cs =>
          obtain ⟨b2, cur, t, fr, h1, h2, h3, h4, h5, h6, h7, h9, h8⟩ := hro
          cases cs with
          | nil => simp [objLe] at hle
          | cons l t => exact ⟨h9.2, by rw [h6]; simp⟩
        | _ => exact hle.elim
      · rw [if_neg hz]
        exact ⟨_, rfl, hb, rfl, rfl, rfl, fun _ _ => .inl rfl⟩
  | _ => simp only [Ghost.ren, ho', hl, hg]; exact ⟨_, rfl, rfl, rfl, rfl, rfl, fun _ _ => .inl rfl⟩

theorem ren_fp {id' id : Nat} (h : renIs ρ id' id) : (γ.ren ρ st').fp id' = γ.fp id := by
  have hl : look ρ id' = some (some id) := h
  simp only [Ghost.ren, hl]

theorem ren_nil (hst : stLe ρ st n' st') (hin : renIn st' ρ = true) {id' : Nat} (h : look ρ id' = some none) : ∃ sz f, look st' id' = some (.deep sz 0 f) ∧ (γ.ren ρ st').g id' = some ⟨none, 0, sz, 0, 0⟩ ∧ id' < n' := by
  have hm := List.all_eq_true.mp hin _ (look_mem ρ id' _ h)
  simp only at hm
  split at hm
  · rename_i o' ho'
    obtain ⟨h1, h2⟩ := stLe_get st' hst id' o' ho'
    rw [h] at h2
    simp only at h2
    split at h2
    · rename_i sz m f
      subst h2
      exact ⟨sz, f, ho', by simp only [Ghost.ren, ho', h], h1⟩
    · exact h2.elim
  · cases hm

theorem caps_ren : ∀ {caps caps' : List (Nat × Nat)}, capsLe ρ caps caps' → caps.length = caps'.length ∧ ∀ (k : Nat) (c' : Nat × Nat), caps'[k]? = some c' → ∃ c : Nat × Nat, caps[k]? = some c ∧ renIs ρ c'.1 c.1 ∧ c.2 = c'.2
  | [], [], _ => ⟨rfl, fun k c' h => by simp at h⟩
  | c :: l, c' :: l', h => by
    obtain ⟨h1, h2, h3⟩ := h
    obtain ⟨h4, h5⟩ := caps_ren h3
    refine ⟨by simp [h4], fun k x hk => ?_⟩
    cases k with
    | zero => simp at hk; subst hk; exact ⟨c, rfl, h1, h2⟩
    | succ k => simpa using h5 k x (by simpa using hk)
  | [], _ :: _, h => h.elim
  | _ :: _, [], h => h.elim

theorem at_ren (R : RelS w0 mine γ st n w) (hst : stLe ρ st n' st') (hin : renIn st' ρ = true) {id' id i j : Nat} {c : Value} (h : renIs ρ id' id) (hc : AtCell γ w id i j c) : AtCell (γ.ren ρ st') w id' i j c := by
  obtain ⟨g, b, cs, t, fr, hg, hb, hi, hfp, hh, hcell⟩ := hc
  obtain ⟨g', hg', e1, e2, e3, e4, e5⟩ := ren_g R hst hin h hg
  refine ⟨g', b, cs, t, fr, hg', by rw [e1]; exact hb, by rw [e4]; exact hi, by rw [ren_fp h]; exact hfp, hh, ?_⟩
  rcases e5 b hb with e5 | ⟨e5, e6, _⟩
  · rw [e2, e5]; exact hcell
  · have hi0 : i = 0 := by omega
    subst hi0
    rw [e2]
    simpa using hcell
theorem lf_ren (R : RelS w0 mine γ st n w) (hst : stLe ρ st n' st') (hin : renIn st' ρ = true) {l l' : Leaf} {u : Value} (hl : RLeaf γ w l u) (h : lfLe ρ l l') : RLeaf (γ.ren ρ st') w l' u := by
  obtain ⟨h1, h2⟩ := hl
  refine ⟨h1, ?_⟩
  unfold lfLe at h
  split at h <;> simp only [RLeafC] at h2 ⊢
  · rw [h2, h]
  · exact h2
  · obtain ⟨rfl, hd⟩ := h
    exact h2.deq hd
  · subst h; rw [h2]; exact .nl _ _ _ _
  · obtain ⟨hr, rfl, hd⟩ := h
    obtain ⟨⟨g, hg⟩, h3⟩ := h2
    obtain ⟨g', hg', _⟩ := ren_g R hst hin hr hg
    rw [ren_fp hr]
    exact ⟨⟨g', hg'⟩, h3.deq hd⟩
  · rename_i id' off' len' id off len
    obtain ⟨hr, rfl, rfl⟩ := h
    obtain ⟨g, A, cap, hg, hu, hle, hn, htot, had⟩ := h2
    obtain ⟨g', hg', e1, e2, e3, e4, e5⟩ := ren_g R hst hin hr hg
    refine ⟨g', A, cap, hg', hu, hle, by omega, ?_, fun hc => ?_⟩
    · cases hb : g.blk with
      | none =>
        have hc0 : cap = 0 := by
          rcases Nat.eq_zero_or_pos cap with h | h
          · exact h
          · obtain ⟨b, hb', _⟩ := had h; rw [hb] at hb'; cases hb'
        obtain ⟨o, _, _, ho, _, _⟩ := ren_obj R hst hin hr
        obtain ⟨g2, hg2, hro⟩ := R.objs _ o ho
        rw [hg] at hg2; cases hg2
        have hn0 : g.n = 0 ∨ ∃ b, g.blk = some b := by
          cases o with
          | deep sz m f => simp only [RObj, hb] at hro; exact .inl (by omega)
          | lent sz m =>
            obtain ⟨h5, h6, h7, h8, _⟩ := hro
            exact .inl (by have := h8 hb; omega)
          | lentV m => obtain ⟨b, hb', _⟩ := hro; exact .inr ⟨b, hb'⟩
          | it s pos => obtain ⟨b, hb', _⟩ := hro; exact .inr ⟨b, hb'⟩
          | mp es => obtain ⟨b, _, _, hb', _⟩ := hro; exact .inr ⟨b, hb'⟩
          | vars cs => obtain ⟨b, _, _, _, hb', _⟩ := hro; exact .inr ⟨b, hb'⟩
          | arr n f ws => obtain ⟨b, _, _, _, hb', _⟩ := hro; exact .inr ⟨b, hb'⟩
          | frame us vs => exact .inl hro.2.1
        rcases hn0 with h0 | ⟨b, hb'⟩
        · have hz : off + cap = 0 := by omega
          rw [hz, Nat.zero_mul] at htot
          rw [hz, Nat.zero_mul, e3, ← htot]
        · rw [hb] at hb'; cases hb'
      | some b =>
        rcases e5 b hb with e5 | ⟨e5, _, e6⟩
        · rw [e5, e3]; exact htot
        · rw [e5, Nat.mul_zero] at htot; omega
    · obtain ⟨b, hb, hA⟩ := had hc
      rcases e5 b hb with e5 | ⟨e5, _, e6⟩
      · exact ⟨b, by rw [e1]; exact hb, by rw [e2, e5]; exact hA⟩
      · rw [e5, Nat.mul_zero] at htot; omega
  · obtain ⟨hr, rfl, rfl⟩ := h
    rw [h2]
    obtain ⟨sz, f, _, hg', _⟩ := ren_nil (γ := γ) hst hin hr
    exact ⟨⟨none, 0, sz, 0, 0⟩, none, 0, hg', rfl, Nat.le_refl _, by simp, by simp, fun h => absurd h (Nat.lt_irrefl 0)⟩
  · obtain ⟨hr, rfl⟩ := h
    obtain ⟨g, b, hg, hb, hu⟩ := h2
    obtain ⟨g', hg', e1, e2, e3, e4, e5⟩ := ren_g R hst hin hr hg
    exact ⟨g', b, hg', by rw [e1]; exact hb, by rw [e2]; exact hu⟩
  · obtain ⟨hr, rfl, rfl⟩ := h
    obtain ⟨g, b, hg, hb, hi, hu⟩ := h2
    obtain ⟨g', hg', e1, e2, e3, e4, e5⟩ := ren_g R hst hin hr hg
    refine ⟨g', b, hg', by rw [e1]; exact hb, by omega, ?_⟩
    rcases e5 b hb with e5 | ⟨e5, e6, _⟩
    · rw [e2, e5]; exact hu
    · have hi1 := Nat.lt_one_iff.mp (e6 ▸ hi)
      rw [hi1, Nat.zero_mul] at hu ⊢
      rw [e2]
      exact hu
  · obtain ⟨hr, rfl, rfl, rfl, rfl⟩ := h
    obtain ⟨c, hc, h3⟩ := h2
    exact ⟨c, at_ren R hst hin hr hc, h3⟩
  · obtain ⟨hr, rfl, rfl, rfl, rfl, rfl⟩ := h
    obtain ⟨c, b, o, N, cap, hc, h3⟩ := h2
    exact ⟨c, b, o, N, cap, at_ren R hst hin hr hc, h3⟩
  · obtain ⟨g, b, hg, hb, hu⟩ := h2
    obtain ⟨g', hg', e1, e2, e3, e4, e5⟩ := ren_g R hst hin h hg
    exact ⟨g', b, hg', by rw [e1]; exact hb, hu⟩
  · rw [← h]; exact h2
  · obtain ⟨hr, rfl⟩ := h
    obtain ⟨⟨g, hg⟩, h3⟩ := h2
    obtain ⟨g', hg', _⟩ := ren_g R hst hin hr hg
    rw [ren_fp hr]
    exact ⟨⟨g', hg'⟩, h3⟩
  · obtain ⟨rfl, hc⟩ := h
    obtain ⟨vs, hu, hlen, hk⟩ := h2
    obtain ⟨h4, h5⟩ := caps_ren hc
    refine ⟨vs, hu, by rw [hlen, h4], fun k c' hc' => ?_⟩
    obtain ⟨c, hcc, hr, he⟩ := h5 k c' hc'
    obtain ⟨g, b, hg, hb, hv⟩ := hk k c hcc
    obtain ⟨g', hg', e1, e2, _⟩ := ren_g R hst hin hr hg
    exact ⟨g', b, hg', by rw [e1]; exact hb, by rw [e2, ← he]; exact hv⟩
  · obtain ⟨rfl, rfl⟩ := h
    exact h2
  · split at h
    · rename_i n hn
      subst h
      exact lnOf_sound ⟨h1, h2⟩ hn
    · exact h.elim
  · exact h.elim
theorem lfs_ren (R : RelS w0 mine γ st n w) (hst : stLe ρ st n' st') (hin : renIn st' ρ = true) : ∀ {ls ls' : List Leaf} {us : List Value}, RCells γ w ls us → lfsLe ρ ls ls' → RCells (γ.ren ρ st') w ls' us
  | [], [], us, h, _ => ⟨h.1, fun j l hj => by simp at hj⟩
  | l :: t, l' :: t', us, h, hl => by
    obtain ⟨u, us', rfl⟩ : ∃ u us', us = u :: us' := by
      cases us with
      | nil => exact absurd h.1 (by simp)
      | cons u us => exact ⟨u, us, rfl⟩
    have ih := lfs_ren R hst hin (ls := t) (ls' := t') (us := us') ⟨by simpa using h.1, fun j x hx => by simpa using h.2 (j + 1) x (by simpa using hx)⟩ hl.2
    obtain ⟨u', hu', hr⟩ := h.2 0 l rfl
    simp at hu'; subst hu'
    refine ⟨by simp [ih.1], fun j x hx => ?_⟩
    cases j with
    | zero => simp at hx; subst hx; exact ⟨u, rfl, lf_ren R hst hin hr hl.1⟩
    | succ j => simpa using ih.2 j x (by simpa using hx)
  | [], _ :: _, us, _, h => h.elim
  | _ :: _, [], us, _, h => h.elim

theorem v1_ren (R : RelS w0 mine γ st n w) (hst : stLe ρ st n' st') (hin : renIn st' ρ = true) {v v' : V1} {u : Value} (hv : RV1 γ w v u) (h : v1Le ρ v v') : RV1 (γ.ren ρ st') w v' u := by
  cases v with
  | lf l => cases v' with
    | lf l' => exact lf_ren R hst hin hv h
    | ag cs' => exact h.elim
  | ag cs => cases v' with
    | lf l' => exact h.elim
    | ag cs' =>
      obtain ⟨us, hu, hc⟩ := hv
      exact ⟨us, hu, lfs_ren R hst hin hc h⟩

theorem v1s_ren (R : RelS w0 mine γ st n w) (hst : stLe ρ st n' st') (hin : renIn st' ρ = true) : ∀ {ls ls' : List V1} {us : List Value}, us.length = ls.length → (∀ (j : Nat) (l : V1), ls[j]? = some l → ∃ u, us[j]? = some u ∧ RV1 γ w l u) → v1sLe ρ ls ls' →
    us.length = ls'.length ∧ ∀ (j : Nat) (l : V1), ls'[j]? = some l → ∃ u, us[j]? = some u ∧ RV1 (γ.ren ρ st') w l u
  | [], [], us, h1, h2, _ => ⟨h1, fun j l hj => by simp at hj⟩
  | l :: t, l' :: t', us, h1, h2, hl => by
    obtain ⟨u, us', rfl⟩ : ∃ u us', us = u :: us' := by
      cases us with
      | nil => simp at h1
      | cons u us => exact ⟨u, us, rfl⟩
    obtain ⟨i1, i2⟩ := v1s_ren R hst hin (ls := t) (ls' := t') (us := us') (by simpa using h1) (fun j x hx => by simpa using h2 (j + 1) x (by simpa using hx)) hl.2
    obtain ⟨u', hu', hr⟩ := h2 0 l rfl
    simp at hu'; subst hu'
    refine ⟨by simp [i1], fun j x hx => ?_⟩
    cases j with
    | zero => simp at hx; subst hx; exact ⟨u, rfl, v1_ren R hst hin hr hl.1⟩
    | succ j => simpa using i2 j x (by simpa using hx)
  | [], _ :: _, us, _, _, h => h.elim
  | _ :: _, [], us, _, _, h => h.elim

theorem v_ren (R : RelS w0 mine γ st n w) (hst : stLe ρ st n' st') (hin : renIn st' ρ = true) {v v' : V} {u : Value} (hv : RV γ w v u) (h : vLe ρ v v') : RV (γ.ren ρ st') w v' u := by
  unfold vLe at h
  split at h
  · trivial
  · exact v1_ren R hst hin hv h
  · obtain ⟨us, hu, hl, hj⟩ := hv
    obtain ⟨h1, h2⟩ := v1s_ren R hst hin hl hj h
    exact ⟨us, hu, h1, h2⟩
  · exact h.elim

theorem vs_get : ∀ {l l' : List V}, vsLe ρ l l' → l.length = l'.length ∧ ∀ i, vLe ρ (getN undefV l i) (getN undefV l' i)
  | [], [], _ => ⟨rfl, fun i => by simp [getN, vLe, v1sLe]⟩
  | v :: l, v' :: l', h => by
    obtain ⟨h1, h2⟩ := vs_get h.2
    refine ⟨by simp [h1], fun i => ?_⟩
    cases i with
    | zero => exact h.1
    | succ i => exact h2 i
  | [], _ :: _, h => h.elim
  | _ :: _, [], h => h.elim

theorem es_get : ∀ {l l' : List (Value × Leaf)}, esLe ρ l l' → l.length = l'.length ∧ ∀ (k : Nat) (e' : Value × Leaf), l'[k]? = some e' → ∃ e, l[k]? = some e ∧ e.1 = e'.1 ∧ lfLe ρ e.2 e'.2
  | [], [], _ => ⟨rfl, fun k e h => by simp at h⟩
  | v :: l, v' :: l', h => by
    obtain ⟨h1, h2⟩ := es_get h.2.2
    refine ⟨by simp [h1], fun k e hk => ?_⟩
    cases k with
    | zero => simp at hk; subst hk; exact ⟨v, rfl, h.1, h.2.1⟩
    | succ k => simpa using h2 k e (by simpa using hk)
  | [], _ :: _, h => h.elim
  | _ :: _, [], h => h.elim
theorem obj_ren (R : RelS w0 mine γ st n w) (hst : stLe ρ st n' st') (hin : renIn st' ρ = true) {id' id : Nat} (hr : renIs ρ id' id) {o o' : Obj} (ho : look st id = some o) (ho' : look st' id' = some o') (hle : objLe ρ o o') :
    ∃ g', (γ.ren ρ st').g id' = some g' ∧ RObj (γ.ren ρ st') w id' g' o' := by
  obtain ⟨g, hg, hro⟩ := R.objs id o ho
  have hl : look ρ id' = some (some id) := hr
  have hfp := ren_fp (γ := γ) (st' := st') hr
  unfold objLe at hle
  split at hle
  · rename_i sz' m' f' sz m f
    obtain ⟨rfl, hd⟩ := hle
    have hg' : (γ.ren ρ st').g id' = some (match g.blk with | none => ⟨none, g.base, sz', g.tot, g.n⟩ | some _ => g) := by
      simp only [Ghost.ren, ho', hl, hg, Option.map_some]
      cases hbk : g.blk with
      | none => rfl
      | some b =>
        simp only
        rw [if_neg]
        intro hz
        simp only [RObj, hbk] at hro
        have := hro.2.1
        have := hro.2.2.1
        omega
    refine ⟨_, hg', ?_⟩
    simp only [RObj] at hro ⊢
    obtain ⟨hn, hs, hb⟩ := hro
    cases hbk : g.blk with
    | none =>
      rw [hbk] at hb
      exact ⟨hn, rfl, hb⟩
    | some b =>
      rw [hbk] at hb
      simp only at hb
      obtain ⟨hs0, cs, t, fr, vs, G, h1, h2, h3, h4, h5, h6, h7, h8, h9⟩ := hb
      cases hd with
      | z => exact absurd hs0 (Nat.lt_irrefl 0)
      | l _ _ _ _ hlen hdd =>
        refine ⟨hn, hs, ?_⟩
        simp only [hbk]
        refine ⟨hs0, cs, t, fr, vs, G, by rw [hfp]; exact h1, h2, h3, h4, h5, fun i hi => by rw [← hlen i hi]; exact h6 i hi, fun i j x hx => by rw [hfp]; exact h7 i j x hx, h8, fun i j d' hi hj => ?_⟩
        obtain ⟨d, hd'⟩ := deq_get hlen hi hj
        obtain ⟨h10, h11⟩ := h9 i j d hi hd'
        exact ⟨h10, h11.deq (hdd i j d d' hi hd' hj)⟩
  · rename_i cs' cs
    have hg' : (γ.ren ρ st').g id' = some g := by simp only [Ghost.ren, ho', hl, hg]
    refine ⟨g, hg', ?_⟩
    obtain ⟨b, cur, t, fr, h1, h2, h3, h4, h5, h6, h7, h9, h8⟩ := hro
    have hlen : cs.length = cs'.length := by
      have := (lfs_ren R hst hin h8 hle).1
      have := h8.1
      omega
    exact ⟨b, cur, t, fr, h1, by rw [hfp]; exact h2, h3, h4, h5, by rw [h6, hlen], by rw [h7, hlen], by rw [← hlen]; exact h9, lfs_ren R hst hin h8 hle⟩
  · rename_i sz' n' f' l t
    obtain ⟨rfl, rfl, hle⟩ := hle
    split at hle
    · rename_i ds hds
      obtain ⟨b, cur, ty, fr, h1, h2, h3, h4, h5, h6, h7, h9, h8⟩ := hro
      obtain ⟨hdl, hdv⟩ := flatCs_sound h8 hds
      have hg' : ∃ g', (γ.ren ρ st').g id' = some g' ∧ g'.blk = some b ∧ g'.base = g.base ∧ g'.tot = g.tot ∧ g'.n = g.n ∧ g'.sz = (l :: t).length := by
        simp only [Ghost.ren, ho', hl, hg, Option.map_some, h1]
        by_cases hz : g.sz = 0
        · rw [if_pos hz]; exact ⟨_, rfl, rfl, rfl, rfl, rfl, rfl⟩
        · rw [if_neg hz]; exact ⟨_, rfl, h1, rfl, rfl, rfl, h9.1.resolve_left hz⟩
      obtain ⟨g', hg', e1, e2, e3, e4, e5⟩ := hg'
      refine ⟨g', hg', by rw [e4]; exact h9.2, e5, ?_⟩
      simp only [e1]
      have hc2 : cur.toList.length = (l :: t).length := by simpa using h7
      cases hle with
      | l _ _ _ _ hlen hdd =>
        refine ⟨by simp, cur, ty, fr, fun _ j => cur.toList.getD j undef, fun _ _ _ => False, by rw [hfp]; exact h2, h3, h4, by rw [e2, e3, h5, h6]; omega, by rw [e5, e3, h6]; simp, fun i hi => ?_, fun i j x hx => hx.elim, fun i j i' j' x hx => hx.elim, fun i j d' hi hj => ?_⟩
        · have h10 := hlen i hi
          simp only at h10
          rw [e5, ← h10, hdl]
        · obtain ⟨d, hd'⟩ := deq_get hlen hi hj
          obtain ⟨u, hu, ho⟩ := hdv j d hd'
          have hi0 : i = 0 := by omega
          subst hi0
          refine ⟨?_, ?_⟩
          · have hu2 : cur[j]? = some u := by simpa using hu
            rw [e2, h5, Nat.zero_mul, Nat.zero_add]
            simp only [List.getD_eq_getElem?_getD, hu]
            exact hu2
          · have h11 := ho.deq (hdd 0 j d d' hi hd' hj)
            simp only [List.getD_eq_getElem?_getD, hu]
            exact h11
    · exact hle.elim
  · rename_i n' f' ws' n f ws
    obtain ⟨rfl, hd, hws⟩ := hle
    have hws := wsLe_eq hws
    subst hws
    refine ⟨g, by simp only [Ghost.ren, ho', hl, hg], ?_⟩
    obtain ⟨b, cur, t, fr, h1, h2, h3, h4, h5, h6, h7, h8, h9, h10, h11⟩ := hro
    cases hd with
    | l _ _ _ _ hlen hdd =>
      refine ⟨b, cur, t, fr, h1, by rw [hfp]; exact h2, h3, h4, h5, h6, h7, h8, h9, fun i hi => ⟨by rw [← hlen i hi]; exact (h10 i hi).1, (h10 i hi).2.imp fun v hv => ⟨hv.1, fun d' hd' => ?_⟩⟩, h11⟩
      obtain ⟨d, hd2⟩ := deq_get hlen hi hd'
      exact (hv.2 d hd2).deq (hdd i 0 d d' hi hd2 hd')
  · rename_i s' p' s p
    obtain ⟨rfl, rfl⟩ := hle
    refine ⟨g, by simp only [Ghost.ren, ho', hl, hg], ?_⟩
    obtain ⟨b, h1, h2, h3, h4⟩ := hro
    exact ⟨b, h1, h2, by rw [hfp]; exact h3, h4⟩
  · rename_i a' b' a b
    obtain ⟨rfl, rfl⟩ := hle
    refine ⟨g, by simp only [Ghost.ren, ho', hl, hg], ?_⟩
    obtain ⟨h1, h2, h3, h9, h4⟩ := hro
    refine ⟨h1, h2, h3, h9, fun h => ⟨(h4 h).1, ?_⟩⟩
    have h5 := (h4 h).2
    split
    · trivial
    · rename_i b hb
      rw [hb] at h5
      obtain ⟨cs, t, fr, h6, h7⟩ := h5
      exact ⟨cs, t, fr, by rw [hfp]; exact h6, h7⟩
  · rename_i a' a
    subst hle
    exact ⟨g, by simp only [Ghost.ren, ho', hl, hg], hro⟩
  · rename_i es' es
    refine ⟨g, by simp only [Ghost.ren, ho', hl, hg], ?_⟩
    obtain ⟨b, ents, clock, h1, h2, h3, h4, h5⟩ := hro
    obtain ⟨e1, e2⟩ := es_get hle
    refine ⟨b, ents, clock, h1, by rw [hfp]; exact h2, h3, by rw [h4, e1], fun k e' hk => ?_⟩
    obtain ⟨e, he, hk1, hle1⟩ := e2 k e' hk
    obtain ⟨en, h6, h7, h8⟩ := h5 k e he
    exact ⟨en, h6, by rw [h7, hk1], lf_ren R hst hin h8 hle1⟩
  · rename_i us' vs' us vs
    refine ⟨g, by simp only [Ghost.ren, ho', hl, hg], ?_⟩
    obtain ⟨rfl, hle⟩ := hle
    obtain ⟨h1, h2, h3, h4⟩ := hro
    obtain ⟨e1, e2⟩ := vs_get hle
    exact ⟨h1, h2, by rw [h3, e1], fun i => v_ren R hst hin (h4 i) (e2 i)⟩
  · exact hle.elim
end

theorem ssem_ren {w0 : World} {mine : FP} {σ σ' : St} (ρ : Ren) (h : stateLe ρ σ σ') : Ssem w0 mine σ σ' := by
  intro γ a w R
  obtain ⟨hok, hin, hst, hvs⟩ := h
  obtain ⟨hl, hv⟩ := vs_get hvs
  have S := R.st
  have hcase : ∀ i o', look σ'.store i = some o' → i < σ'.next ∧ ((∃ id o, renIs ρ i id ∧ look σ.store id = some o ∧ objLe ρ o o') ∨ (look ρ i = some none ∧ ∃ sz f, o' = .deep sz 0 f)) := by
    intro i o' ho'
    obtain ⟨h1, h2⟩ := stLe_get _ hst i o' ho'
    refine ⟨h1, ?_⟩
    split at h2
    · rename_i id hr
      split at h2
      · rename_i o ho; exact .inl ⟨id, o, hr, ho, h2⟩
      · exact h2.elim
    · rename_i hr
      split at h2
      · rename_i sz m f; subst h2; exact .inr ⟨hr, sz, f, rfl⟩
      · exact h2.elim
    · exact h2.elim
  have hfp : ∀ i o' b, look σ'.store i = some o' → (γ.ren ρ σ'.store).fp i b → ∃ id o, renIs ρ i id ∧ look σ.store id = some o ∧ γ.fp id b := by
    intro i o' b ho' hb
    rcases (hcase i o' ho').2 with ⟨id, o, hr, ho, _⟩ | ⟨hr, _⟩
    · rw [ren_fp hr] at hb; exact ⟨id, o, hr, ho, hb⟩
    · simp only [Ghost.ren, hr] at hb
  refine ⟨γ.ren ρ σ'.store, ⟨by rw [R.size]; exact hl, fun i => v_ren S hst hin (R.slots i) (hv i), ?_, ?_, ?_, ?_, ?_, ?_, S.rolt, S.keep⟩⟩
  · intro i o' ho'
    rcases (hcase i o' ho').2 with ⟨id, o, hr, ho, hle⟩ | ⟨hr, sz, f, rfl⟩
    · exact obj_ren S hst hin hr ho ho' hle
    · obtain ⟨sz2, f2, h1, h2, _⟩ := ren_nil (γ := γ) hst hin hr
      rw [ho'] at h1; cases h1
      exact ⟨_, h2, rfl, rfl, rfl⟩
  · intro i j o1 o2 h1 h2 hne b hb1 hb2
    obtain ⟨id1, p1, r1, l1, f1⟩ := hfp i o1 b h1 hb1
    obtain ⟨id2, p2, r2, l2, f2⟩ := hfp j o2 b h2 hb2
    by_cases he : id1 = id2
    · subst he
      exact hne (renOk_inj ρ hok i j id1 r1 r2)
    · exact S.disj id1 id2 p1 p2 l1 l2 he b f1 f2
  · intro i o' h1 b hb hro
    obtain ⟨id, o, _, hlk, hf⟩ := hfp i o' b h1 hb
    exact S.ro id o hlk b hf hro
  · intro i g hg
    simp only [Ghost.ren] at hg
    cases ho : look σ'.store i with
    | none => rw [ho] at hg; simp at hg
    | some o' => exact (hcase i o' ho).1
  · intro i g hg
    simp only [Ghost.ren] at hg
    cases ho : look σ'.store i with
    | none => rw [ho] at hg; simp at hg
    | some o' => exact ⟨o', rfl⟩
  · intro i o' h1 b hb
    obtain ⟨id, o, _, hlk, hf⟩ := hfp i o' b h1 hb
    exact S.fp id o hlk b hf
end Go.AW
/- The abstract calculus, part 29: the rules that a proof uses. -/
set_option linter.unusedVariables false
set_option linter.unusedSimpArgs false
namespace Go.AW

attribute [refl] DEq.rfl'
/-! ### A table of types is as the program's -/
def eqV : Value → Value → Bool
  | .bool a, .bool b => a == b
  | .int k a, .int l b => sameK k l && a == b
  | .string a, .string b => a.toList == b.toList
  | .pointer none, .pointer none => true
  | .slice none 0 0, .slice none 0 0 => true
  | .map none, .map none => true
  | .nilFunc, .nilFunc => true
  | .nilIface, .nilIface => true
  | _, _ => false
theorem sameK_eq {k l : IntKind} (h : sameK k l = true) : k = l := by cases k <;> cases l <;> simp [sameK] at h <;> rfl
theorem eqV_eq {v u : Value} (h : eqV v u = true) : v = u := by
  unfold eqV at h
  split at h <;> try rfl
  · simp at h; rw [h]
  · simp only [Bool.and_eq_true] at h
    rw [sameK_eq h.1, eq_of_beq h.2]
  · rename_i a b
    have : a.toList = b.toList := eq_of_beq h
    have hab : a = b := by
      have h1 : a.data.toList = b.data.toList := by
        rw [ByteArray.toList_eq, ByteArray.toList_eq] at this; exact this
      cases a; cases b; simp at h1; congr
    rw [hab]
  · cases h
def eqVs : List Value → List Value → Bool
  | [], [] => true
  | a :: l, b :: m => eqV a b && eqVs l m
  | _, _ => false
theorem eqVs_eq : ∀ {l m : List Value}, eqVs l m = true → l = m
  | [], [], _ => rfl
  | a :: l, b :: m, h => by
    simp only [eqVs, Bool.and_eq_true] at h
    rw [eqV_eq h.1, eqVs_eq h.2]

def kokB (P : Program) : K → TypeDesc → Bool
  | .bool, .bool => true
  | .int k, .int k' => sameK k' k
  | .str, .string => true
  | .ptr e, .pointer e' => Nat.beq e' e
  | .sl e, .slice e' => Nat.beq e' e
  | .arr n e, .array n' e' => Nat.beq n' n && Nat.beq e' e
  | .st fs, .struct gs => go fs gs.toList
  | .fn, .func _ _ _ => true
  | .mp k e, .map k' e' => Nat.beq k' k && Nat.beq e' e
  | _, _ => false
  where
  go : List (Nat × Nat) → List Field → Bool
  | [], [] => true
  | x :: fs, g :: gs => Nat.beq g.offset x.1 && (match P.info? g.type with | some i => Nat.beq i.size x.2 | none => false) && go fs gs
  | _, _ => false
theorem kokB_go (P : Program) : ∀ (fs : List (Nat × Nat)) (gs : List Field), kokB.go P fs gs = true → gs.length = fs.length ∧ ∀ (i : Nat) (x : Nat × Nat), fs[i]? = some x → ∃ g : Field, gs[i]? = some g ∧ g.offset = x.1 ∧ (P.info? g.type).map (·.size) = some x.2
  | [], [], _ => ⟨rfl, fun i x h => by simp at h⟩
  | x :: fs, g :: gs, h => by
    simp only [kokB.go, Bool.and_eq_true] at h
    obtain ⟨⟨h1, h2⟩, h3⟩ := h
    obtain ⟨h4, h5⟩ := kokB_go P fs gs h3
    refine ⟨by simp [h4], fun i y hy => ?_⟩
    cases i with
    | zero =>
      simp at hy; subst hy
      refine ⟨g, rfl, Nat.eq_of_beq_eq_true h1, ?_⟩
      split at h2
      · rename_i i hi; rw [hi]; simp [Nat.eq_of_beq_eq_true h2]
      · cases h2
    | succ i => simpa using h5 i y (by simpa using hy)
theorem kokB_sound {P : Program} {k : K} {d : TypeDesc} (h : kokB P k d = true) : Kok P k d := by
  unfold kokB at h
  split at h <;> simp only [Kok] <;> try trivial
  · exact sameK_eq h
  · exact Nat.eq_of_beq_eq_true h
  · exact Nat.eq_of_beq_eq_true h
  · simp only [Bool.and_eq_true] at h; exact ⟨Nat.eq_of_beq_eq_true h.1, Nat.eq_of_beq_eq_true h.2⟩
  · rename_i fs gs
    obtain ⟨h1, h2⟩ := kokB_go P fs gs.toList h
    exact ⟨by simpa using h1, fun i x hx => by simpa using h2 i x hx⟩
  · simp only [Bool.and_eq_true] at h; exact ⟨Nat.eq_of_beq_eq_true h.1, Nat.eq_of_beq_eq_true h.2⟩

def tiOkB (P : Program) (t : TypeId) (i : TI) : Bool :=
  match P.underlying t, P.info? t with
  | some d, some x => kokB P i.k d && Nat.beq x.size i.size && Nat.beq x.bytes i.bytes && (match x.zero with | some z => eqVs z.cells.toList i.zero | none => false) && i.zero.all (·.oneCell') && Nat.beq i.zero.length i.size
  | _, _ => false
theorem tiOkB_sound {P : Program} {t : TypeId} {i : TI} (h : tiOkB P t i = true) : TIok P t i := by
  unfold tiOkB at h
  split at h
  · rename_i d x hd hx
    simp only [Bool.and_eq_true] at h
    obtain ⟨⟨⟨⟨⟨h1, h2⟩, h3⟩, h4⟩, h5⟩, h6⟩ := h
    split at h4
    · rename_i z hz
      exact ⟨⟨d, hd, kokB_sound h1⟩, by rw [hx]; simp [Nat.eq_of_beq_eq_true h2], by rw [hx]; simp [Nat.eq_of_beq_eq_true h3], ⟨z, by rw [hx]; simp [hz], eqVs_eq h4⟩, h5, Nat.eq_of_beq_eq_true h6⟩
    · cases h4
  · cases h
def isOther : K → Bool
  | .other => true
  | _ => false
theorem envOk_of {P : Program} {E : Env} {N : Nat} (h : (List.range N).all (fun t => isOther (E t).k || tiOkB P t (E t)) = true) (hout : ∀ t, N ≤ t → (E t).k = .other) : EnvOk P E := by
  intro t ht
  rcases Nat.lt_or_ge t N with hl | hl
  · have := List.all_eq_true.mp h t (List.mem_range.mpr hl)
    simp only [Bool.or_eq_true] at this
    rcases this with h | h
    · cases hk : (E t).k <;> rw [hk] at h <;> simp [isOther] at h
      exact absurd hk ht
    · exact tiOkB_sound h
  · exact absurd (hout t hl) ht

/-! ### Words -/
abbrev VI (n : Int) : V := .one (.lf (.s (.int .i64 n)))
abbrev VK (k : IntKind) (n : Int) : V := .one (.lf (.s (.int k n)))
abbrev VB (b : Bool) : V := .one (.lf (.s (.bool b)))
abbrev VS (s : ByteArray) : V := .one (.lf (.s (.string s)))
abbrev VO (id n : Nat) : V := .one (.lf (.o id 0 n))
abbrev VP (id : Nat) : V := .one (.lf (.p id 0))
abbrev AI (n : Int) : AM := .r (.c (.s (.int .i64 n)))
abbrev AK (k : IntKind) (n : Int) : AM := .r (.c (.s (.int k n)))
abbrev AB (b : Bool) : AM := .r (.c (.s (.bool b)))
abbrev AS (s : ByteArray) : AM := .r (.c (.s (.string s)))
abbrev RI (n : Int) : DR := .c (.s (.int .i64 n))
abbrev RK (k : IntKind) (n : Int) : DR := .c (.s (.int k n))
abbrev RB (b : Bool) : DR := .c (.s (.bool b))
abbrev RS (s : ByteArray) : DR := .c (.s (.string s))
def bodyOf (f : Func) : Code := f.body.getD .skip
theorem wrap64 (n : Int) (h : -9223372036854775808 ≤ n ∧ n ≤ 9223372036854775807) : IntKind.wrap .i64 n = n := IntWalk.i64_in n h

/-- A contract of one result. -/
def PRet (P : Program) (f : FuncId) (das : List AM) (rs outs : List DR) : Prop := PCon P f das fun x y => x = rs ∧ y = outs
theorem pret_of_awp {P : Program} {E : Env} (hE : EnvOk P E) (hm : P.follows .mixedOrders = true) {f : FuncId} {fn : Func} {c : Code} (hf : P.funcs[f]? = some fn) (hname : (fn.name == "runtime.NumGoroutine") = false) (hb : fn.body = some c) {rts : List ResultVar} (hres : fn.results.toList = rts)
    {das : List AM} (hnd : noDst (lentIx das 0) c = true) (hnt : Nat.ble das.length fn.ntmps = true) {rs outs : List DR}
    (h : ∀ (w0 : World) (mine : FP) (D : Ops) (C : CallT) (L : LoopT), D = std → C = Csem P w0 mine → L = Lsem w0 mine → AWP D E C L c (startSt fn.ntmps das) (exitP D E rts das fun x y => drsLe x rs ∧ drsLe y outs)) : PRet P f das rs outs :=
  pcon_of_awp hE hm hf hname hb rts hres hnd (Nat.le_of_ble_eq_true hnt) (fun x y => drsLe x rs ∧ drsLe y outs) (fun x y h => ⟨rs, outs, h.1, h.2, rfl, rfl⟩) h
theorem prel_of_awp {P : Program} {E : Env} (hE : EnvOk P E) (hm : P.follows .mixedOrders = true) {f : FuncId} {fn : Func} {c : Code} (hf : P.funcs[f]? = some fn) (hname : (fn.name == "runtime.NumGoroutine") = false) (hb : fn.body = some c) {rts : List ResultVar} (hres : fn.results.toList = rts)
    {das : List AM} (hnd : noDst (lentIx das 0) c = true) (hnt : Nat.ble das.length fn.ntmps = true) {post : List DR → List DR → Prop}
    (h : ∀ (w0 : World) (mine : FP) (D : Ops) (C : CallT) (L : LoopT), D = std → C = Csem P w0 mine → L = Lsem w0 mine → AWP D E C L c (startSt fn.ntmps das) (exitP D E rts das fun x y => ∃ x' y', drsLe x x' ∧ drsLe y y' ∧ post x' y')) : PCon P f das post :=
  pcon_of_awp hE hm hf hname hb rts hres hnd (Nat.le_of_ble_eq_true hnt) _ (fun x y h => h) h

def callR (D : Ops) (das : List AM) (vs : List V) (σ : St) (rs outs : List DR) (k : V → St → Prop) : Prop :=
  lendArgs D das vs σ (fun l => l) fun σ1 h => roArgs D σ1.store h das vs ∧ backP D das vs σ1 h k rs outs

section
variable {P : Program} {w0 : World} {mine : FP} {σ : St} {k : V → St → Prop} {f : FuncId} {das : List AM} {rs outs : List DR} {post : List DR → List DR → Prop} {D : Ops} {C : CallT} {vs : List V}
theorem lendC_mono {σ : St} {l : Leaf} {K K' : DV → St → (Leaf → Leaf) → Prop} (hK : ∀ d σ h, K d σ h → K' d σ h) (h : lendC D σ l K) : lendC D σ l K' := by
  unfold lendC at h ⊢
  split at h
  · split at h
    · exact ⟨h.1, h.2.1, hK _ _ _ h.2.2⟩
    · exact h.elim
  · split at h
    · exact hK _ _ _ h
    · exact h.elim
theorem lendCs_mono : ∀ (ls : List Leaf) {σ : St} {h0 : Leaf → Leaf} {K K' : List DV → St → (Leaf → Leaf) → Prop}, (∀ d σ h, K d σ h → K' d σ h) → lendCs D ls σ h0 K → lendCs D ls σ h0 K'
  | [], σ, h0, K, K', hK, h => hK _ _ _ h
  | l :: t, σ, h0, K, K', hK, h => lendC_mono (fun d σ h1 h => lendCs_mono t (fun d σ h => hK _ _ _) h) h
theorem lendV_mono {σ : St} {h0 : Leaf → Leaf} {v : V1} {K K' : DR → St → (Leaf → Leaf) → Prop} (hK : ∀ d σ h, K d σ h → K' d σ h) (h : lendV D σ h0 v K) : lendV D σ h0 v K' := by
  cases v with
  | ag cs => exact lendCs_mono cs (fun d σ h => hK _ _ _) h
  | lf l =>
    simp only [lendV] at h ⊢
    split at h
    · split at h
      · split at h
        · split at h
          · exact ⟨h.1, hK _ _ _ h.2⟩
          · exact h.elim
        · exact h.elim
      · exact h.elim
    · exact lendC_mono (fun d σ h => hK _ _ _) h
theorem lendArgs_mono : ∀ (das : List AM) (vs : List V) {σ : St} {h0 : Leaf → Leaf} {K K' : St → (Leaf → Leaf) → Prop}, (∀ σ h, K σ h → K' σ h) → lendArgs D das vs σ h0 K → lendArgs D das vs σ h0 K'
  | [], [], σ, h0, K, K', hK, h => hK _ _ h
  | .r _ :: ds, _ :: vs, σ, h0, K, K', hK, h => lendArgs_mono ds vs hK h
  | .o d :: ds, .one v :: vs, σ, h0, K, K', hK, h => lendV_mono (fun d σ h1 h => ⟨h.1, lendArgs_mono ds vs hK h.2⟩) h
  | .g d :: ds, .one v :: vs, σ, h0, K, K', hK, h => by
    simp only [lendArgs] at h ⊢
    split at h
    · exact ⟨h.1, lendArgs_mono ds vs hK h.2⟩
    · exact h.elim
  | [], _ :: _, _, _, _, _, _, h => h.elim
  | .r _ :: _, [], _, _, _, _, _, h => h.elim
  | .o _ :: _, [], _, _, _, _, _, h => h.elim
  | .g _ :: _, [], _, _, _, _, _, h => h.elim
  | .o _ :: _, .tup _ :: _, _, _, _, _, _, h => h.elim
  | .o _ :: _, .bad :: _, _, _, _, _, _, h => h.elim
  | .g _ :: _, .tup _ :: _, _, _, _, _, _, h => h.elim
  | .g _ :: _, .bad :: _, _, _, _, _, _, h => h.elim
theorem call_of (hD : D = std) (hC : C = Csem P w0 mine) (h : PRet P f das rs outs) (hk : callR D das vs σ rs outs k) : C f vs σ k := by
  subst hD hC
  exact csem_of_pcon h (lendArgs_mono das vs (fun σ h1 h2 => ⟨h2.1, fun r o ⟨e1, e2⟩ => by subst e1 e2; exact h2.2⟩) hk)
theorem call_rel (hD : D = std) (hC : C = Csem P w0 mine) (h : PCon P f das post) (hk : callP D das vs σ post k) : C f vs σ k := by
  subst hD hC
  exact csem_of_pcon h hk
end

/-! ### Loops -/
section
variable {w0 : World} {mine : FP} {L : LoopT} {c : Code} {A : St → (Exit → St → Prop) → Prop} {σ : St} {K : Exit → St → Prop}
theorem ssem_of {σ σ' : St} (h : stLe' σ σ') : Ssem w0 mine σ σ' := ssem_ren _ h
theorem loop_of (hL : L = Lsem w0 mine) {ι : Type} (vars : ι → List (Nat × V)) (over : ι → List (Nat × Obj)) (ok : ι → Prop) (μ : ι → Nat) (x0 : ι) (h0 : ok x0) (hs : stLe' σ (hav c σ (vars x0) (over x0)))
    (hb : ∀ x, ok x → A (hav c σ (vars x) (over x)) fun e σ' => match e with
      | .normal => ∃ y, ok y ∧ Ssem w0 mine σ' (hav c σ (vars y) (over y)) ∧ μ y < μ x
      | e => K e σ') : L false c A σ K := by
  subst hL
  exact ⟨ι, fun x => hav c σ (vars x) (over x), ok, μ, ⟨x0, h0, ssem_ren _ hs⟩, hb⟩
/-- A loop that counts. -/
theorem loop_nat (hL : L = Lsem w0 mine) (n : Nat) (vars : Nat → List (Nat × V)) (over : Nat → List (Nat × Obj)) (ok : Nat → Prop) (h0 : ok 0) (hs : stLe' σ (hav c σ (vars 0) (over 0)))
    (hb : ∀ k, k ≤ n ∧ ok k → A (hav c σ (vars k) (over k)) fun e σ' => match e with
      | .normal => ∃ y, (y ≤ n ∧ ok y) ∧ Ssem w0 mine σ' (hav c σ (vars y) (over y)) ∧ n - y < n - k
      | e => K e σ') : L false c A σ K :=
  loop_of hL vars over (fun k => k ≤ n ∧ ok k) (fun k => n - k) 0 ⟨Nat.zero_le _, h0⟩ hs hb
end
theorem mJ {w0 : World} {mine : FP} {L : LoopT} {c : Code} {A : St → (Exit → St → Prop) → Prop} {σ : St} {K : Exit → St → Prop} (hL : L = Lsem w0 mine) (h : A σ K) : L true c A σ K := by
  subst hL
  exact .inl h
/-- Where roads meet: a state that tells what is needed. -/
theorem meet_of {w0 : World} {mine : FP} {L : LoopT} {c : Code} {A : St → (Exit → St → Prop) → Prop} {σ : St} {K : Exit → St → Prop} (hL : L = Lsem w0 mine) {ι : Type} (vars : ι → List (Nat × V)) (over : ι → List (Nat × Obj)) (ok : ι → Prop)
    (h1 : A σ fun e σ' => match e with
      | .normal => ∃ y, ok y ∧ Ssem w0 mine σ' (hav c σ (vars y) (over y))
      | e => K e σ') (h2 : ∀ y, ok y → K .normal (hav c σ (vars y) (over y))) : L true c A σ K := by
  subst hL
  exact .inr ⟨ι, fun y => hav c σ (vars y) (over y), ok, h1, h2⟩
theorem mB {D : Ops} (hD : D = std) {A B : Unit → Prop} {c : Bool} (h1 : c = true → A ()) (h2 : c = false → B ()) : D.cnd c A B := by
  subst hD
  cases c with
  | true => exact h1 rfl
  | false => exact h2 rfl
theorem mT {D : Ops} (hD : D = std) {A B : Unit → Prop} (h : A ()) : D.cnd true A B := by
  subst hD
  exact h
theorem mF {D : Ops} (hD : D = std) {A B : Unit → Prop} (h : B ()) : D.cnd false A B := by
  subst hD
  exact h
theorem mS {D : Ops} (hD : D = std) {A : Unit → Prop} (h : A ()) : D.stp A := by
  subst hD
  exact h
theorem mK {D : Ops} (hD : D = std) {f : Unit → Bool} (h : f () = true := by kernel_rfl) : D.chk f := by
  subst hD
  exact h
theorem nc (j : Nat) : @NatCast.natCast Int instNatCastInt j = Int.ofNat j := rfl
/-- A name for a thing. -/
theorem opq {α : Sort _} (x : α) : ∃ y, y = x := ⟨x, rfl⟩
abbrev rI (k : IntKind) (g : Nat → Int) : Nat → List DV := fun i => [.s (.int k (g i))]
abbrev dI (k : IntKind) (n : Nat) (g : Nat → Int) : DV := .l 1 n (rI k g)
abbrev rS (g : Nat → ByteArray) : Nat → List DV := fun i => [.s (.string (g i))]
abbrev dS (n : Nat) (g : Nat → ByteArray) : DV := .l 1 n (rS g)
theorem deq_I {k : IntKind} {n : Nat} {g g' : Nat → Int} (h : ∀ i, i < n → g i = g' i) : DEq (.l 1 n fun i => [.s (.int k (g i))]) (.l 1 n fun i => [.s (.int k (g' i))]) :=
  deq_rows fun i hi => by rw [h i hi]
theorem deq_S {n : Nat} {g g' : Nat → ByteArray} (h : ∀ i, i < n → g i = g' i) : DEq (.l 1 n fun i => [.s (.string (g i))]) (.l 1 n fun i => [.s (.string (g' i))]) :=
  deq_rows fun i hi => by rw [h i hi]
theorem int_eq {k : IntKind} {a b : Int} (h : a = b) : Value.int k a = Value.int k b := by rw [h]
theorem wrapU8 (n : Int) (h : 0 ≤ n ∧ n ≤ 255) : IntKind.wrap .u8 n = n := by
  have : IntKind.wrap .u8 n = n % 256 := by simp [IntKind.wrap, IntKind.bits, IntKind.signed]
  omega
end Go.AW
