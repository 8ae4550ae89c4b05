/- The abstract calculus, part 18: an operation is as it is told. -/
import Derived.Test.YtfidphaoddenlaaAw17
set_option linter.unusedVariables false
set_option linter.unusedSimpArgs false
namespace Go.AW

/-- What a call of a function by its number does. -/
def CallDoes (P : Program) (w0 : World) (mine : FP) (f : FuncId) (args : Array Value) (a : Act) (w : World) (k : V → St → Prop) : Prop :=
  (∃ u w', (callFunc f args).run P w = .ok (.value u) w' ∧ Post w0 mine a k u w') ∨
  ((callFunc f args).run P w = .ok (.enter f args) w ∧ Calls P f args w fun e w' => ∃ u, e = .returned u ∧ Post w0 mine a k u w')

def ArgsOk (γ : Ghost) (w : World) (vs : List V) (args : List Value) : Prop :=
  args.length = vs.length ∧ ∀ (i : Nat) (v : V), vs[i]? = some v → ∃ u, args[i]? = some u ∧ RV γ w v u

/-- The calls' meaning. -/
def Csem (P : Program) (w0 : World) (mine : FP) : CallT := fun f vs σ k =>
  ∀ (γ : Ghost) (a : Act) (w : World) (args : List Value), Rel w0 mine γ σ a w → ArgsOk γ w vs args → CallDoes P w0 mine f args.toArray a w k

section
variable {P : Program} {w0 w w' : World} {mine : FP} {γ γ' : Ghost} {σ : St} {a : Act} {k : V → St → Prop} {E : Env}

theorem does_store (hE : EnvOk P E) (R : Rel w0 mine γ σ a w) {d ty p af g t} {x y : Operand} {l : Leaf} {cs : List Leaf} (hk : okK (E t).k = true) (hx : evA σ x = .one (.lf l)) (hy : cellsOf (evA σ y) = some cs) (hlen : cs.length = (E t).size)
    (h : storeP std σ l cs fun σ' => k undefV σ') : Does P w0 mine a w ⟨d, .store t x y, ty, p, af, g⟩ k := by
  unfold storeP at h
  split at h
  · split at h
    · rename_i ho
      split at h
      · rename_i hs
        exact does_store_p hE R hk hx hy hlen ho hs h
      · exact h.elim
    · exact h.elim
  · split at h
    · rename_i ds σ1 hf ht
      exact does_store_pr hE R hk hx hy hlen ht h
    · exact h.elim

theorem does_call (R : Rel w0 mine γ σ a w) {d ty p af gd} {f : Operand} {args : Array Operand} {ts : Array TypeId} {g : Nat} {caps : List (Nat × Nat)} (hf : evA σ f = .one (.lf (.fn g caps)))
    (h : Csem P w0 mine g ((args.map (evA σ)).toList ++ caps.map fun p => .one (.lf (.p p.1 p.2))) σ k) : Does P w0 mine a w ⟨d, .call { callee := .value f, args := args, argTypes := ts }, ty, p, af, gd⟩ k := by
  have hv := R.ev f
  rw [hf] at hv
  obtain ⟨vs, hu, hl, hc⟩ := hv.2
  have hA : ArgsOk γ w ((args.map (evA σ)).toList ++ caps.map fun p => .one (.lf (.p p.1 p.2))) ((args.map a.eval).toList ++ vs) := by
    refine ⟨by simp [hl], fun i v hv => ?_⟩
    rcases Nat.lt_or_ge i args.size with hi | hi
    · rw [List.getElem?_append_left (by simpa using hi)] at hv
      simp [hi] at hv
      subst hv
      refine ⟨a.eval args[i], ?_, R.ev _⟩
      rw [List.getElem?_append_left (by simpa using hi)]
      simp [hi]
    · rw [List.getElem?_append_right (by simpa using hi)] at hv
      simp only [List.getElem?_map, Option.map_eq_some_iff] at hv
      obtain ⟨c, hcc, rfl⟩ := hv
      obtain ⟨g', b, hg, hb, hvk⟩ := hc _ c hcc
      refine ⟨_, ?_, rfl, g', b, hg, hb, rfl⟩
      rw [List.getElem?_append_right (by simpa using hi)]
      simpa using hvk
  have hD := h γ a w _ R hA
  have he : (execOp a.eval ⟨d, .call { callee := .value f, args := args, argTypes := ts }, ty, p, af, gd⟩).run P w = (callFunc g ((args.map a.eval).toList ++ vs).toArray).run P w := by
    have e1 : ((args.map a.eval).toList ++ vs).toArray = args.map a.eval ++ vs.toArray := by
      apply Array.ext'; simp
    simp only [execOp, resolve, hu, Deferred.ofValue, Sem.run_bind, Sem.run_pure, Result.andThen_ok, invoke, e1]
    simp
  rcases hD with ⟨u, w', hr, hp⟩ | ⟨hr, hcalls⟩
  · exact .inl ⟨u, w', he.trans hr, hp⟩
  · exact .inr (.inr ⟨g, _, he.trans hr, hcalls⟩)

theorem does_callR (R : Rel w0 mine γ σ a w) {d ty p af gd} {f : Operand} {args : Array Operand} {ts : Array TypeId} {g : Nat} {rows : List (List DV)} (hf : evA σ f = .one (.lf (.fr g rows)))
    (h : Csem P w0 mine g ((args.map (evA σ)).toList ++ rows.map fun p => .one (.lf (.rp p))) σ k) : Does P w0 mine a w ⟨d, .call { callee := .value f, args := args, argTypes := ts }, ty, p, af, gd⟩ k := by
  have hv := R.ev f
  rw [hf] at hv
  obtain ⟨vs, hu, hl, hc⟩ := hv.2
  have hA : ArgsOk γ w ((args.map (evA σ)).toList ++ rows.map fun p => .one (.lf (.rp p))) ((args.map a.eval).toList ++ vs) := by
    refine ⟨by simp [hl], fun i v hv => ?_⟩
    rcases Nat.lt_or_ge i args.size with hi | hi
    · rw [List.getElem?_append_left (by simpa using hi)] at hv
      simp [hi] at hv
      subst hv
      refine ⟨a.eval args[i], ?_, R.ev _⟩
      rw [List.getElem?_append_left (by simpa using hi)]
      simp [hi]
    · rw [List.getElem?_append_right (by simpa using hi)] at hv
      simp only [List.getElem?_map, Option.map_eq_some_iff] at hv
      obtain ⟨c, hcc, rfl⟩ := hv
      obtain ⟨x, hvk, hrr⟩ := hc _ c hcc
      refine ⟨x, ?_, ?_, hrr⟩
      rotate_left
      · obtain ⟨b, off, cs, t, fr, hu, _⟩ := hrr
        rw [hu]; rfl
      rw [List.getElem?_append_right (by simpa using hi)]
      simpa using hvk
  have hD := h γ a w _ R hA
  have he : (execOp a.eval ⟨d, .call { callee := .value f, args := args, argTypes := ts }, ty, p, af, gd⟩).run P w = (callFunc g ((args.map a.eval).toList ++ vs).toArray).run P w := by
    have e1 : ((args.map a.eval).toList ++ vs).toArray = args.map a.eval ++ vs.toArray := by
      apply Array.ext'; simp
    simp only [execOp, resolve, hu, Deferred.ofValue, Sem.run_bind, Sem.run_pure, Result.andThen_ok, invoke, e1]
    simp
  rcases hD with ⟨u, w', hr, hp⟩ | ⟨hr, hcalls⟩
  · exact .inl ⟨u, w', he.trans hr, hp⟩
  · exact .inr (.inr ⟨g, _, he.trans hr, hcalls⟩)

theorem opQ_sound {C : CallT} (hE : EnvOk P E) (R : Rel w0 mine γ σ a w) (o : Oper) (hq : quietOp E o.op = true) (h : opP std E C σ o k) : DoesQ P γ σ a w o k := by
  obtain ⟨d, op, ty, p, af, gd⟩ := o
  unfold opP at h
  split at h
  · rename_i x hop; cases hop; exact does_move R h
  · rename_i x hop; cases hop; simp [quietOp] at hq
  · rename_i c x y hop; cases hop
    split at h
    · rename_i t hc; exact does_pick R hc h
    · exact h.elim
  · rename_i op xt x y yt hop; cases hop
    split at h
    · rename_i va vb h1 h2; exact does_binB hE R h1 h2 h
    · split at h
      · rename_i hy; exact does_nil hE R (.inl rfl) hy h.1 h.2 (fun b hb => hb)
      · rename_i hy; exact does_nil hE R (.inr rfl) hy h.1 h.2 (fun b hb => hb)
      · exact h.elim
  · rename_i op xt x hop; cases hop
    split at h
    · rename_i va h1; exact does_unOp R h1 h
    · exact h.elim
  · rename_i x hop; cases hop
    split at h
    all_goals first
      | exact h.elim
      | (rename_i h1; exact does_nilCheck R h1 trivial h)
  · rename_i x i hop; cases hop
    split at h
    · rename_i vs h1
      split at h
      · rename_i v h2; exact does_extract R h1 h2 h
      · exact h.elim
    · exact h.elim
  · rename_i s x f hop; cases hop
    split at h
    · rename_i fs hk
      split at h
      · rename_i off sz hf
        split at h
        · rename_i h1; exact does_fieldAddr hE R hk hf h1 (l' := .p _ _) ⟨rfl, rfl⟩ h
        · rename_i h1; exact does_fieldAddr hE R hk hf h1 (l' := .pr _ _ _) ⟨rfl, rfl, rfl⟩ h
        · rename_i h1; exact does_fieldAddr hE R hk hf h1 (l' := .qp _ _ _ _ _ _) ⟨rfl, rfl, rfl, rfl, rfl, rfl⟩ h
        · rename_i h1; exact does_fieldAddr hE R hk hf h1 (l' := .rp _) rfl h
        · rename_i h1; exact does_fieldAddr hE R hk hf h1 (l' := .sp _ _) ⟨rfl, rfl⟩ h
        · exact h.elim
      · exact h.elim
    · exact h.elim
  · rename_i t x i hop; cases hop
    split at h
    · rename_i e n hk hi
      split at h
      · rename_i hke; exact does_indexAddr hE R hk hke hi h
      · exact h.elim
    · exact h.elim
  · rename_i t x i hop; cases hop
    split at h
    · rename_i s n hk hx hi; exact does_index hE R hk hx hi h
    · exact h.elim
  · rename_i t x hop; cases hop
    split at h
    · rename_i l hk hx
      split at h
      · rename_i cs hr
        split at h
        · rename_i v hv; exact does_load hE R (okK_ne hk) hx hr hv h
        · exact h.elim
      · exact h.elim
    · exact h.elim
  · rename_i t x y hop; cases hop; simp [quietOp] at hq
  · rename_i t x lo hi hop; cases hop
    split at h
    · rename_i l hh hl hh'
      split at h
      · rename_i e hk
        split at h
        · rename_i hke; exact does_sliceP hE R hk hke hl hh' h
        · exact h.elim
      · rename_i hk
        split at h
        · rename_i s hx; exact does_sliceS hE R hk hl hh' hx h
        · exact h.elim
      · exact h.elim
    · exact h.elim
  · rename_i src dst x hop; cases hop
    unfold convP at h
    split at h
    · exact h.elim
    · rename_i hsrc
      split at h
      · rename_i hk hx; exact does_convert hE R hsrc hk hx h
      · rename_i hk hx; exact does_convSS hE R hsrc hk hx h
      · rename_i hk hx; exact does_convIS hE R hsrc hk hx h
      · rename_i hk hx
        split at h
        · rename_i e hks
          split at h
          · rename_i hke hd; exact does_convBS hE R hks hke hk hx hd h.1 h.2
          · exact h.elim
        · exact h.elim
      · rename_i e s hk hx; simp [quietOp, hk] at hq
      · exact h.elim
  · rename_i t hop; cases hop; simp [quietOp] at hq
  · rename_i t x hop; cases hop; simp [quietOp] at hq
  · rename_i t parts hop; cases hop
    split at h
    · rename_i fs ps hk hps
      split at h
      · rename_i cs hb; exact does_build hE R hk hps hb h
      · exact h.elim
    · exact h.elim
  · rename_i t len parts hop; cases hop; simp [quietOp] at hq
  · rename_i t l c hop; cases hop; simp [quietOp] at hq
  · rename_i t x hop; cases hop; simp [quietOp] at hq
  · rename_i x hop; cases hop; simp [quietOp] at hq
  · rename_i f first caps hop; cases hop
    split at h
    · rename_i cs h1 h2
      have : first = #[] := Array.eq_empty_of_size_eq_zero (by rw [← Array.length_toList, h1]; rfl)
      subst this
      exact does_makeFunc R h2 h
    · exact h.elim
  · rename_i c hop; cases hop
    obtain ⟨callee, args, ts⟩ := c
    have hlit : ∀ {α : Type} {xs : Array α} {l : List α}, xs.toList = l → xs = l.toArray := fun h => by rw [← h]
    split at h
    · rename_i f hc; cases hc; simp [quietOp] at hq
    · rename_i hc; cases hc
      split at h
      · rename_i x t h1 h2
        cases hlit h1; cases hlit h2
        split at h
        · rename_i hk; exact does_len hE R hk h
        · exact h.elim
      · exact h.elim
    · rename_i hc; cases hc; simp [quietOp] at hq
    · rename_i hc; cases hc
      split at h
      · rename_i x y h1
        cases hlit h1
        split at h
        · rename_i h2 h3; exact does_min R h2 h3 h
        · exact h.elim
      · exact h.elim
    · rename_i hc; cases hc
      split at h
      · rename_i x y h1
        cases hlit h1
        split at h
        · rename_i h2 h3; exact does_max R h2 h3 h
        · exact h.elim
      · exact h.elim
    · exact h.elim
  · exact h.elim

theorem opP_sound (hE : EnvOk P E) (R : Rel w0 mine γ σ a w) (o : Oper) (h : opP std E (Csem P w0 mine) σ o k) : Does P w0 mine a w o k := by
  cases hq : quietOp E o.op with
  | true => exact (opQ_sound hE R o hq h).does R
  | false =>
    obtain ⟨d, op, ty, p, af, gd⟩ := o
    unfold opP at h
    split at h
    · rename_i x hop; cases hop; simp [quietOp] at hq
    · rename_i x hop; cases hop; exact (does_assign R h).does R
    · rename_i c x y hop; cases hop; simp [quietOp] at hq
    · rename_i op xt x y yt hop; cases hop; simp [quietOp] at hq
    · rename_i op xt x hop; cases hop; simp [quietOp] at hq
    · rename_i x hop; cases hop; simp [quietOp] at hq
    · rename_i x i hop; cases hop; simp [quietOp] at hq
    · rename_i s x f hop; cases hop; simp [quietOp] at hq
    · rename_i t x i hop; cases hop; simp [quietOp] at hq
    · rename_i t x i hop; cases hop; simp [quietOp] at hq
    · rename_i t x hop; cases hop; simp [quietOp] at hq
    · rename_i t x y hop; cases hop
      split at h
      · rename_i l cs hk hx hy
        exact does_store hE R hk hx hy (by simpa using h.1) h.2
      · exact h.elim
    · rename_i t x lo hi hop; cases hop; simp [quietOp] at hq
    · rename_i src dst x hop; cases hop
      unfold convP at h
      split at h
      · exact h.elim
      · rename_i hsrc
        split at h
        · rename_i hk hx; simp [quietOp, hk] at hq
        · rename_i hk hx; simp [quietOp, hk] at hq
        · rename_i hk hx; simp [quietOp, hk] at hq
        · rename_i hk hx; simp [quietOp, hk] at hq
        · rename_i e s hk hx
          split at h
          · rename_i hke; exact does_bytes hE R hsrc hk hke hx h
          · exact h.elim
        · exact h.elim
    · rename_i t hop; cases hop
      exact does_alloc hE R h.1 h.2
    · rename_i t x hop; cases hop
      split at h
      · rename_i cs hx; exact does_box hE R hx h
      · exact h.elim
    · rename_i t parts hop; cases hop; simp [quietOp] at hq
    · rename_i t len parts hop; cases hop
      split at h
      · rename_i e ps hk hps
        split at h
        · rename_i hke
          obtain ⟨hpos, h⟩ := h
          have hpos : 0 < (E e).size := Nat.le_of_ble_eq_true hpos
          unfold buildSliceP at h
          split at h
          · rename_i hnr
            unfold noRow at hnr
            split at hnr
            · have := Nat.eq_of_beq_eq_true hnr
              subst this
              exact does_buildSlice0 hE R hk hke hps hpos h
            · cases hnr
          · split at h
            · rename_i cs hor
              unfold oneRow at hor
              split at hor
              · rename_i i cs1
                split at hor
                · rename_i h1 h2
                  simp at hor; subst hor
                  have e1 := Nat.eq_of_beq_eq_true h1
                  have e2 := Nat.eq_of_beq_eq_true h2
                  subst e1 e2
                  obtain ⟨hc, h⟩ := h
                  simp only [Bool.and_eq_true] at hc
                  exact does_buildSlice1 hE R hk hke hps hpos (Nat.eq_of_beq_eq_true hc.1) (Nat.le_of_ble_eq_true hc.2) h
                · cases hor
              · cases hor
            · split at h
              · rename_i cols hcols
                obtain ⟨hall, hn, h⟩ := h
                refine does_buildSliceT hE R hk hke hps hpos hcols (fun p hp => ?_) (Nat.le_of_ble_eq_true hn) h
                have := List.all_eq_true.mp hall p hp
                simp only [Bool.and_eq_true] at this
                exact ⟨by simpa using this.1, Nat.eq_of_beq_eq_true this.2⟩
              · exact h.elim
        · exact h.elim
      · exact h.elim
    · rename_i t l c hop; cases hop
      split at h
      · rename_i e n m hk hl hc
        split at h
        · rename_i hke
          obtain ⟨hpos, h0, h1, hb, hr, h⟩ := h
          have hpos : 0 < (E e).size := Nat.le_of_ble_eq_true hpos
          have hb := Nat.le_of_ble_eq_true hb
          simp only [std, decide_eq_true_eq] at h0 h1 hr
          split at h
          · rename_i ds hz
            have hm : m.toNat ≤ 140737488355328 := Nat.le_trans (Nat.le_mul_of_pos_right _ hb) hr
            exact does_makeSlice hE R hk hke hl hc hpos h0 h1 hr (by omega) hz h
          · exact h.elim
        · exact h.elim
      · exact h.elim
    · rename_i t x hop; cases hop
      split at h
      · rename_i s hk hx; exact does_range hE R hk hx h
      · exact h.elim
    · rename_i x hop; cases hop
      split at h
      · rename_i id hx
        split at h
        · rename_i s pos ho; exact does_next R hx ho h
        · exact h.elim
      · exact h.elim
    · rename_i f first caps hop; cases hop; simp [quietOp] at hq
    · rename_i c hop; cases hop
      obtain ⟨callee, args, ts⟩ := c
      have hlit : ∀ {α : Type} {xs : Array α} {l : List α}, xs.toList = l → xs = l.toArray := fun h => by rw [← h]
      split at h
      · rename_i f hc; cases hc
        split at h
        · rename_i g rows hf; exact does_callR R hf h
        · rename_i g caps hf; exact does_call R hf h
        · exact h.elim
      · rename_i hc; cases hc; simp [quietOp] at hq
      · rename_i hc; cases hc
        split at h
        · rename_i s x t t2 h1 h2
          cases hlit h1; cases hlit h2
          split at h
          · rename_i e2 hk; exact does_append hE R (.inr ⟨e2, (hE t2 (by rw [hk]; simp)).sl hk⟩) h
          · rename_i hk; exact does_append hE R (.inl ((hE t2 (by rw [hk]; simp)).str hk)) h
          · exact h.elim
        · exact h.elim
      · rename_i hc; cases hc; simp [quietOp] at hq
      · rename_i hc; cases hc; simp [quietOp] at hq
      · exact h.elim
    · exact h.elim
end
end Go.AW
