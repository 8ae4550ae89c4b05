/- The abstract calculus, part 22: the code. -/
import Derived.Test.YtfidphaoddenlaaAw21
set_option linter.unusedVariables false
set_option linter.unusedSimpArgs false
namespace Go.AW

theorem binds_any (e : Edge) : Region.binds .any e = bindsB e.ground := by
  obtain ⟨on, g⟩ := e
  cases g <;> rfl

theorem ready_iff {ops : Array Oper} {listed : Array Bool} {i : Nat} : i ∈ Region.ready .any ops listed ↔ ∃ o, ops.toList[i]? = some o ∧ listed.getD i true = false ∧ ∀ m, m ∈ afterL o → listed.getD m false = true := by
  unfold Region.ready
  simp only [List.mem_filter, List.mem_range, Bool.and_eq_true, Bool.not_eq_true']
  constructor
  · rintro ⟨hlt, h1, h2⟩
    have ho : ops[i]? = some ops[i] := Array.getElem?_eq_getElem hlt
    refine ⟨ops[i], by simp, h1, fun m hm => ?_⟩
    simp only [ho, Option.map_some, Option.getD_some, Array.all_eq_true'] at h2
    simp only [afterL, List.mem_map, List.mem_filter] at hm
    obtain ⟨e, ⟨he, hb⟩, rfl⟩ := hm
    have := h2 e (by simpa using he)
    rw [binds_any, hb] at this
    simpa using this
  · rintro ⟨o, ho, h1, h2⟩
    rw [Array.getElem?_toList] at ho
    refine ⟨(Array.getElem?_eq_some_iff.mp ho).1, h1, ?_⟩
    simp only [ho, Option.map_some, Option.getD_some, Array.all_eq_true']
    intro e he
    rw [binds_any]
    cases hb : bindsB e.ground with
    | false => rfl
    | true =>
      have := h2 e.on (by simp only [afterL, List.mem_map, List.mem_filter]; exact ⟨e, ⟨by simpa using he, hb⟩, rfl⟩)
      simp [this]

section
variable {P : Program} {w0 w w' : World} {mine : FP} {γ γ' : Ghost} {σ : St} {a : Act} {k : V → St → Prop} {E : Env}

/-- A world that differs only in what has been drawn. -/
theorem Rel.heap (R : Rel w0 mine γ σ a w) (hh : w'.heap = w.heap) (ho : w'.os = w.os) (ht : w'.tape = w.tape) (hp : w'.output = w.output) : Rel w0 mine γ σ a w' := by
  have S : Step γ γ w w' (fun _ => False) (fun _ => False) (fun _ => False) := ⟨fun i g h _ => h, fun i g h _ b hb => hb, fun i g h _ b o _ hx => by rw [hh]; exact hx, fun i g b o _ _ _ hf ho => ⟨hf, by rw [hh]; exact ho⟩, fun b hb => hb, fun b o _ hx => by rw [hh]; exact hx⟩
  refine ⟨R.size, fun i => RV.step0 S (R.slots i), ?_, R.st.disj, R.st.ro, R.st.lt, R.st.dom, fun i o h b hb => by rw [hh]; exact R.st.fp i o h b hb, fun b hb => by rw [hh]; exact R.st.rolt b hb, ?_⟩
  · intro i o h
    obtain ⟨g, hg, hr⟩ := R.st.objs i o h
    have := RObj.step S (h := fun l => l) (kills_id (by simp) (by simp) (by simp)) hg hr (fun b hb => hb) (fun b o _ hx => by rw [hh]; exact hx)
    rw [mapObj_id] at this
    exact ⟨g, hg, this⟩
  · exact ⟨by rw [hh]; exact R.st.keep.size, by rw [ho]; exact R.st.keep.os, by rw [ht]; exact R.st.keep.tape, by rw [hp]; exact R.st.keep.output, fun b hb hm => by rw [hh]; exact R.st.keep.old b hb hm⟩

def unl (listed : Array Bool) (n : Nat) : Nat := (List.range n).countP fun i => !(listed.getD i false)

theorem all_listed {ops : Array Oper} {listed : Array Bool} {N : Nat} (hself : SelfOk E ops.toList N) (hs : listed.size = ops.size) (h : Region.ready .any ops listed = []) : ∀ i, i < ops.size → listed.getD i false = true := by
  intro i
  induction i using Nat.strongRecOn with
  | _ i ih =>
    intro hi
    cases hl : listed.getD i false with
    | true => rfl
    | false =>
      exfalso
      have ho : ops.toList[i]? = some ops[i] := by simp [hi]
      have : i ∈ Region.ready .any ops listed := ready_iff.mpr ⟨_, ho, by
        have : i < listed.size := by omega
        simp only [Array.getD, this, dif_pos] at hl ⊢
        exact hl, fun m hm => ih m (hself.lt i _ ho m hm) (by have := hself.lt i _ ho m hm; omega)⟩
      rw [h] at this
      simp at this

theorem draw_end {ops : Array Oper} {Q : Exit → Act → World → Prop} {K : St → Prop} {Φ : Act → Prop} {N : Nat} (hQ : ∀ σ γ a w, K σ → Rel w0 mine γ σ a w → Φ a → Q .normal a w) {ex : Nat → Prop} {done rest q : List Nat} {γ : Ghost} {σ : St} {as a : Act} {w : World}
    (S : Sim P w0 mine E ops K Φ N ex done rest q γ σ as a w) (hall : ∀ i, i < ops.size → ex i) : Q .normal a w := by
  have hlt : ∀ j, j ∈ done ++ rest → ∀ o, ops.toList[j]? = some o → ex j := fun j hj o ho => hall j (by simpa using (List.getElem?_eq_some_iff.mp ho).1)
  have hrun := S.run
  have hrest : rest = [] := by
    cases hr : rest with
    | nil => rfl
    | cons i r =>
      rw [hr] at hrun
      simp only [opsG, nthO_getElem?] at hrun
      split at hrun
      · rename_i o ho
        exact absurd (hlt i (by simp [hr]) o ho) (S.rs i (by simp [hr]))
      · exact hrun.elim
  subst hrest
  have heq : ∀ t, a.tmps.getD t undef = as.tmps.getD t undef := fun t => by
    rcases S.eq t with h | ⟨j, oj, hj, hn, ho, _⟩
    · exact h
    · exact absurd (hlt j (by simp [S.sub.subset hj]) oj ho) hn
  refine hQ σ γ a w hrun ⟨by rw [S.sz]; exact S.R.size, fun i => by rw [heq i]; exact S.R.slots i, S.R.st⟩ S.d2

theorem draw_any (hE : EnvOk P E) {ops : Array Oper} {Q : Exit → Act → World → Prop} {K : St → Prop} {Φ : Act → Prop} {N : Nat} (hself : SelfOk E ops.toList N) (hΦ : KeepsO Φ ops.toList) (hQ : ∀ σ γ a w, K σ → Rel w0 mine γ σ a w → Φ a → Q .normal a w) :
    ∀ (fuel : Nat) (listed : Array Bool) (done rest q : List Nat) (γ : Ghost) (σ : St) (as a : Act) (w : World), listed.size = ops.size → unl listed ops.size ≤ fuel → Sim P w0 mine E ops K Φ N (fun i => listed.getD i false = true) done rest q γ σ as a w → AtLoud E ops rest →
    wpAny P .any ops Q fuel listed a w
  | 0, listed, done, rest, q, γ, σ, as, a, w, hs, hf, S, hL => by
    have hall : ∀ i, i < ops.size → listed.getD i false = true := by
      intro i hi
      have h0 : unl listed ops.size = 0 := by omega
      rw [unl, List.countP_eq_zero] at h0
      have := h0 i (List.mem_range.mpr hi)
      simpa using this
    refine ⟨?_, draw_end hQ S hall⟩
    rw [List.eq_nil_iff_forall_not_mem]
    intro i hi
    obtain ⟨o, ho, h1, _⟩ := ready_iff.mp hi
    have hlt : i < ops.size := by simpa using (List.getElem?_eq_some_iff.mp ho).1
    have := hall i hlt
    have hls : i < listed.size := by omega
    simp only [Array.getD, hls, dif_pos] at this h1
    rw [this] at h1
    cases h1
  | fuel + 1, listed, done, rest, q, γ, σ, as, a, w, hs, hf, S, hL => by
    refine ⟨fun h => draw_end hQ S (all_listed hself hs h), fun i hi => ?_⟩
    obtain ⟨o, ho, h1, h2⟩ := ready_iff.mp hi
    have hlt : i < ops.size := by simpa using (List.getElem?_eq_some_iff.mp ho).1
    have hls : i < listed.size := by omega
    have hni : ¬ (listed.getD i false = true) := by
      simp only [Array.getD, hls, dif_pos] at h1 ⊢
      rw [h1]; simp
    have hget : ∀ j, (listed.setIfInBounds i true).getD j false = true ↔ (j = i ∨ listed.getD j false = true) := by
      intro j
      simp only [Array.getD_eq_getD_getElem?, Array.getElem?_setIfInBounds]
      by_cases hj : i = j
      · subst hj; simp [hls]
      · rw [if_neg hj]
        constructor
        · exact .inr
        · rintro (h | h)
          · exact absurd h.symm hj
          · exact h
    have hfun : (fun j => j = i ∨ listed.getD j false = true) = (fun j => (listed.setIfInBounds i true).getD j false = true) := funext fun j => propext (hget j).symm
    refine sim_step hE hΦ hself S hL ho hlt hni h2 (fun done' rest' q' γ' σ' as' a' w' S' hL' => ?_)
    rw [hfun] at S'
    refine draw_any hE hself hΦ hQ fuel _ done' rest' q' γ' σ' as' a' w' (by simpa using hs) ?_ S' hL'
    -- one less
    have hc : unl (listed.setIfInBounds i true) ops.size < unl listed ops.size := by
      unfold unl
      have hnd : (List.range ops.size).Nodup := List.nodup_range
      have hmem : i ∈ List.range ops.size := List.mem_range.mpr hlt
      have : ∀ l : List Nat, i ∈ l → l.countP (fun j => !((listed.setIfInBounds i true).getD j false)) < l.countP (fun j => !(listed.getD j false)) := by
        have hle : ∀ l : List Nat, l.countP (fun j => !((listed.setIfInBounds i true).getD j false)) ≤ l.countP (fun j => !(listed.getD j false)) := fun l => List.countP_mono_left fun j _ hj => by
          simp only [Bool.not_eq_true'] at hj ⊢
          cases hx : listed.getD j false with
          | false => rfl
          | true => rw [(hget j).mpr (.inr hx)] at hj; cases hj
        intro l
        induction l with
        | nil => intro h; simp at h
        | cons x l ih =>
          intro h
          by_cases hx : x = i
          · subst hx
            have e1 : (listed.setIfInBounds x true).getD x false = true := (hget x).mpr (.inl rfl)
            have e2 : listed.getD x false = false := by simpa using hni
            rw [List.countP_cons_of_neg (by simp [e1]), List.countP_cons_of_pos (by simp [e2])]
            have := hle l
            omega
          · have hl := ih ((List.mem_cons.mp h).resolve_left (fun e => hx e.symm))
            have e : (listed.setIfInBounds i true).getD x false = listed.getD x false := by
              rw [Bool.eq_iff_iff, hget x]; simp [hx]
            simp only [List.countP_cons, e]
            omega
      exact this _ hmem
    omega

theorem draw_sound (hE : EnvOk P E) (hm : P.follows .mixedOrders = true) {ops : Array Oper} {Q : Exit → Act → World → Prop} {K : St → Prop} {Φ : Act → Prop} (hΦ : KeepsO Φ ops.toList) (hQ : ∀ σ γ a w, K σ → Rel w0 mine γ σ a w → Φ a → Q .normal a w) {id : Nat} (R : Rel w0 mine γ σ a w) (hd : Φ a)
    (h : drawP std E (Csem P w0 mine) ops.toList σ K) : (Code.region id ops true).wp P Q a w := by
  obtain ⟨hc, h⟩ := h
  simp only [Bool.and_eq_true] at hc
  obtain ⟨h1, h2, h3⟩ := hc
  have hself := SelfOk.of h2
  have hpo := pairsOk_spec _ h1
  have R1 : Rel w0 mine γ σ a { w with drawn := w.drawn + 1 } := R.heap rfl rfl rfl rfl
  refine wp_region_any hm ?_
  have hfalse : ∀ i, (Array.replicate ops.size false).getD i false = false := fun i => by
    simp only [Array.getD_eq_getD_getElem?, Array.getElem?_replicate]; split <;> rfl
  have S : Sim P w0 mine E ops K Φ σ.slots.length (fun i => (Array.replicate ops.size false).getD i false = true) [] (schedL E ops.toList ops.toList.length []) [] γ σ a a { w with drawn := w.drawn + 1 } := by
    refine ⟨R1, hd, rfl, fun t => .inl rfl, fun j oj hj => by simp at hj, h, by simpa using hpo, List.Sublist.refl _, fun i hi => by simpa using allIn_spec _ h3 i (by simpa using hi), fun j oj hj => by simp at hj, fun i hi => by simp at hi, fun i _ hi => by (rw [hfalse] at hi; exact absurd hi (by simp)), fun i o _ hi => by (rw [hfalse] at hi; exact absurd hi (by simp)), rfl⟩
  obtain ⟨done', rest', q', γ', σ', as', S', hL⟩ := settle hE hself _ _ _ _ _ _ S
  refine draw_any hE hself hΦ hQ ops.size _ done' rest' q' γ' σ' as' a _ (by simp) ?_ S' hL
  unfold unl
  have := List.countP_le_length (p := fun i => !((Array.replicate ops.size false).getD i false)) (l := List.range ops.size)
  simpa using this

/-- A step to a state that tells no more: what it means. -/
def Ssem (w0 : World) (mine : FP) : St → St → Prop := fun σ σ' => ∀ (γ : Ghost) (a : Act) (w : World), Rel w0 mine γ σ a w → ∃ γ', Rel w0 mine γ' σ' a w

/-- What a loop comes to: an invariant, a measure. -/
def Lsem (w0 : World) (mine : FP) : LoopT := fun _ A σ K => ∃ (ι : Type) (S : ι → St) (ok : ι → Prop) (μ : ι → Nat), (∃ x, ok x ∧ Ssem w0 mine σ (S x)) ∧ ∀ x, ok x → A (S x) fun e σ' => match e with
    | .normal => ∃ y, ok y ∧ Ssem w0 mine σ' (S y) ∧ μ y < μ x
    | e => K e σ'

/-- What is said of the frame stays, whatever the code does. -/
def KeepsC (Φ : Act → Prop) : Code → Prop
  | .region _ ops _ => KeepsO Φ ops.toList
  | .seq a b => KeepsC Φ a ∧ KeepsC Φ b
  | .cond _ a b => KeepsC Φ a ∧ KeepsC Φ b
  | .block _ c => KeepsC Φ c
  | .loop c => KeepsC Φ c
  | _ => True

theorem AWP_sound (hE : EnvOk P E) (hm : P.follows .mixedOrders = true) : ∀ (c : Code) (σ : St) (K : Exit → St → Prop) (Q : Exit → Act → World → Prop) (Φ : Act → Prop) (γ : Ghost) (a : Act) (w : World), KeepsC Φ c → Rel w0 mine γ σ a w → Φ a →
    (∀ e σ γ a w, K e σ → Rel w0 mine γ σ a w → Φ a → Q e a w) → AWP std E (Csem P w0 mine) (Lsem w0 mine) c σ K → c.wp P Q a w := by
  intro c
  induction c with
  | skip => intro σ K Q Φ γ a w hC R hd hQ h; exact wp_skip (hQ .normal _ _ _ _ h R hd)
  | label l => intro σ K Q Φ γ a w hC R hd hQ h; exact wp_label (hQ .normal _ _ _ _ h R hd)
  | exit id => intro σ K Q Φ γ a w hC R hd hQ h; exact wp_exit (hQ _ _ _ _ _ h R hd)
  | ret => intro σ K Q Φ γ a w hC R hd hQ h; exact wp_ret (hQ _ _ _ _ _ h R hd)
  | region id ops draw =>
    intro σ K Q Φ γ a w hC R hd hQ h
    cases draw with
    | false =>
      refine wp_region ?_
      rw [List.range_eq_range']
      exact opsP_sound hE hC (hQ .normal) ops.size 0 σ γ a w (by omega) R hd h
    | true => exact draw_sound hE hm hC (hQ .normal) R hd h
  | seq x y ihx ihy =>
    intro σ K Q Φ γ a w hC R hd hQ h
    refine wp_seq (ihx σ _ _ Φ γ a w hC.1 R hd ?_ h)
    intro e σ' γ' a' w' hk R' hd'
    cases e with
    | normal => exact ihy σ' K Q Φ γ' a' w' hC.2 R' hd' hQ hk
    | _ => exact hQ _ σ' γ' a' w' hk R' hd'
  | cond c x y ihx ihy =>
    intro σ K Q Φ γ a w hC R hd hQ h
    simp only [AWP] at h
    split at h
    · rename_i t hc
      have hv := R.scalar hc
      refine wp_cond hv ?_
      cases t with
      | true => exact ihx σ K Q Φ γ a w hC.1 R hd hQ h
      | false => exact ihy σ K Q Φ γ a w hC.2 R hd hQ h
    · exact h.elim
  | block id c ih =>
    intro σ K Q Φ γ a w hC R hd hQ h
    refine wp_block (ih σ _ _ Φ γ a w hC R hd ?_ h)
    intro e σ' γ' a' w' hk R' hd'
    cases e with
    | exit id' =>
      simp only [Exit.inBlock]
      by_cases he : id' = id
      · rw [if_pos he]
        simp only [he, Nat.beq_refl] at hk
        exact hQ _ σ' γ' a' w' hk R' hd'
      · rw [if_neg he]
        have : Nat.beq id' id = false := by
          cases hb : Nat.beq id' id with
          | false => rfl
          | true => exact absurd (Nat.eq_of_beq_eq_true hb) he
        simp only [this] at hk
        exact hQ _ σ' γ' a' w' hk R' hd'
    | _ => exact hQ _ σ' γ' a' w' hk R' hd'
  | loop c ih =>
    intro σ K Q Φ γ a w hC R hd hQ h
    simp only [AWP] at h
    obtain ⟨ι, S, ok, μ, ⟨x0, hx0, hs0⟩, hb⟩ := h
    let Pn : Nat → Act → World → Prop := fun n a w => ∃ x γ, ok x ∧ μ x = n ∧ Rel w0 mine γ (S x) a w ∧ Φ a
    have hdec : ∀ a w, (∃ n, Pn n a w) → ∃ n, Pn n a w ∧ ∀ m, m < n → ¬ Pn m a w := by
      intro a w ⟨n, hn⟩
      induction n using Nat.strongRecOn with
      | _ n ih =>
        by_cases hm : ∃ m, m < n ∧ Pn m a w
        · obtain ⟨m, hlt, hp⟩ := hm
          exact ih m hlt hp
        · exact ⟨n, hn, fun m hlt hp => hm ⟨m, hlt, hp⟩⟩
    let M : Act → World → Nat := fun a w => Classical.epsilon fun n => Pn n a w ∧ ∀ m, m < n → ¬ Pn m a w
    have hM : ∀ a w, (∃ n, Pn n a w) → Pn (M a w) a w ∧ ∀ m, m < M a w → ¬ Pn m a w := fun a w h => Classical.epsilon_spec (hdec a w h)
    refine wp_loop (fun a w => ∃ n, Pn n a w) M ?_ ?_
    · obtain ⟨γ', R'⟩ := hs0 γ a w R
      exact ⟨_, x0, γ', hx0, rfl, R', hd⟩
    · intro a w hI
      obtain ⟨⟨x, γx, hx, hmu, Rx, hdx⟩, hmin⟩ := hM a w hI
      refine ih (S x) _ _ Φ γx a w hC Rx hdx ?_ (hb x hx)
      intro e σ' γ' a' w' hk R' hd'
      cases e with
      | normal =>
        obtain ⟨y, hy, hsy, hlt⟩ := hk
        obtain ⟨γ'', R''⟩ := hsy γ' a' w' R'
        have hI' : ∃ n, Pn n a' w' := ⟨_, y, γ'', hy, rfl, R'', hd'⟩
        refine ⟨hI', ?_⟩
        have hle : M a' w' ≤ μ y := by
          rcases Nat.lt_or_ge (μ y) (M a' w') with hc | hc
          · exact absurd ⟨y, γ'', hy, rfl, R'', hd'⟩ ((hM a' w' hI').2 _ hc)
          · exact hc
        omega
      | _ => exact hQ _ σ' γ' a' w' hk R' hd'
  | _ => intro σ K Q Φ γ a w hC R hd hQ h; exact h.elim
end
end Go.AW
