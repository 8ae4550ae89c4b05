/- The abstract calculus, part 7: what stays when memory turns. -/
import Derived.Test.YtfidphaoddenlaaAw6
set_option linter.unusedVariables false
set_option linter.unusedSimpArgs false
namespace Go.AW

def leafIds : Leaf → List Nat
  | .o id _ _ | .q id _ _ _ _ | .p id _ | .pr id _ _ | .qp id _ _ _ _ _ | .m id | .sn id _ _ | .sp id _ => [id]
  | .fn _ caps => caps.map (·.1)
  | _ => []
def snIds : Leaf → List Nat
  | .sn id _ _ | .sp id _ => [id]
  | _ => []

def qIds : Leaf → List Nat
  | .q id _ _ _ _ | .qp id _ _ _ _ _ => [id]
  | _ => []

/-- How a world and its ghost go on: objects in 'dead' lie elsewhere or nowhere; of those in 'rd' the own cells, of those in 'sd' any cells may have turned. -/
structure Step (γ γ' : Ghost) (w w' : World) (dead rd sd : Nat → Prop) : Prop where
  g : ∀ id g, γ.g id = some g → ¬ dead id → γ'.g id = some g
  fp : ∀ id g, γ.g id = some g → ¬ sd id → ∀ b, γ.fp id b → γ'.fp id b
  ext : ∀ id g, γ.g id = some g → ¬ sd id → Ext (γ.fp id) w w'
  root : ∀ id g b o, γ.g id = some g → g.blk = some b → ¬ rd id → γ.fp id b → w.heap[b]? = some o → γ'.fp id b ∧ w'.heap[b]? = some o
  ro : ∀ b, γ.ro b → γ'.ro b
  rext : Ext γ.ro w w'

def Alive (dead rd sd : Nat → Prop) (l : Leaf) : Prop := (∀ id, id ∈ leafIds l → ¬ dead id) ∧ (∀ id, id ∈ qIds l → ¬ rd id) ∧ ∀ id, id ∈ snIds l → ¬ sd id

section
variable {γ γ' : Ghost} {w w' : World} {dead rd sd : Nat → Prop}
theorem RRow.mono {F F' : FP} {u : Value} {row : List DV} (h : RRow w F u row) (hF : ∀ b, F b → F' b) (hw : Ext F w w') : RRow w' F' u row := by
  obtain ⟨b, off, cs, t, fr, hu, hb, hh, hv⟩ := h
  exact ⟨b, off, cs, t, fr, hu, hF b hb, hw b _ hb hh, fun j d hd => let ⟨v, h1, h2⟩ := hv j d hd; ⟨v, h1, h2.mono hF hw⟩⟩

theorem AtCell.step (S : Step γ γ' w w' dead rd sd) {id i j : Nat} {c : Value} (h : AtCell γ w id i j c) (hd : ¬ dead id) (hr : ¬ rd id) : AtCell γ' w' id i j c := by
  obtain ⟨g, b, cs, t, fr, hg, hb, hi, hfp, hh, hc⟩ := h
  obtain ⟨h1, h2⟩ := S.root id g b _ hg hb hr hfp hh
  exact ⟨g, b, cs, t, fr, S.g id g hg hd, hb, hi, h1, h2, hc⟩
theorem RLeaf.step (S : Step γ γ' w w' dead rd sd) {l : Leaf} {u : Value} (h : RLeaf γ w l u) (ha : Alive dead rd sd l) : RLeaf γ' w' l u := by
  obtain ⟨h1, h2⟩ := h
  refine ⟨h1, ?_⟩
  obtain ⟨a1, a3, a2⟩ := ha
  cases l <;> simp only [RLeafC, leafIds, snIds, qIds] at h2 a1 a2 a3 ⊢ <;> try exact h2
  case r n f => exact h2.mono S.ro S.rext
  case sn id n f =>
    obtain ⟨⟨g, hg⟩, h2⟩ := h2
    exact ⟨⟨g, S.g id g hg (a1 id (by simp))⟩, h2.mono (S.fp id g hg (a2 id (by simp))) (S.ext id g hg (a2 id (by simp)))⟩
  case o id off len =>
    obtain ⟨g, A, cap, hg, h3⟩ := h2
    exact ⟨g, A, cap, S.g id g hg (a1 id (by simp)), h3⟩
  case p id j =>
    obtain ⟨g, b, hg, h3⟩ := h2
    exact ⟨g, b, S.g id g hg (a1 id (by simp)), h3⟩
  case pr id i j =>
    obtain ⟨g, b, hg, h3⟩ := h2
    exact ⟨g, b, S.g id g hg (a1 id (by simp)), h3⟩
  case q id i j v n =>
    obtain ⟨c, hc, h3⟩ := h2
    exact ⟨c, hc.step S (a1 id (by simp)) (a3 id (by simp)), h3⟩
  case qp id i j kk l sz =>
    obtain ⟨c, b, o, N, cap, hc, h3⟩ := h2
    exact ⟨c, b, o, N, cap, hc.step S (a1 id (by simp)) (a3 id (by simp)), h3⟩
  case m id =>
    obtain ⟨g, b, hg, h3⟩ := h2
    exact ⟨g, b, S.g id g hg (a1 id (by simp)), h3⟩
  case rp row => exact h2.mono S.ro S.rext
  case sp id row =>
    obtain ⟨⟨g, hg⟩, h2⟩ := h2
    exact ⟨⟨g, S.g id g hg (a1 id (by simp))⟩, h2.mono (S.fp id g hg (a2 id (by simp))) (S.ext id g hg (a2 id (by simp)))⟩
  case fr f rows =>
    obtain ⟨vs, hu, hl, hk⟩ := h2
    exact ⟨vs, hu, hl, fun k row hr => let ⟨v, h3, h4⟩ := hk k row hr; ⟨v, h3, h4.mono S.ro S.rext⟩⟩
  case fn f caps =>
    obtain ⟨vs, hu, hl, hk⟩ := h2
    refine ⟨vs, hu, hl, fun k c hc => ?_⟩
    obtain ⟨g, b, hg, h3⟩ := hk k c hc
    exact ⟨g, b, S.g c.1 g hg (a1 c.1 (List.mem_map.mpr ⟨c, List.mem_of_getElem? hc, rfl⟩)), h3⟩

/-- A leaf's change that forgets what has died. -/
def Kills (dead rd sd : Nat → Prop) (h : Leaf → Leaf) : Prop := ∀ l, h l = .un ∨ (h l = l ∧ Alive dead rd sd l)

theorem RLeaf.kill (S : Step γ γ' w w' dead rd sd) {h : Leaf → Leaf} (hk : Kills dead rd sd h) {l : Leaf} {u : Value} (hr : RLeaf γ w l u) : RLeaf γ' w' (h l) u := by
  rcases hk l with e | ⟨e, ha⟩
  · rw [e]; exact ⟨hr.1, trivial⟩
  · rw [e]; exact hr.step S ha
theorem RCells.kill (S : Step γ γ' w w' dead rd sd) {h : Leaf → Leaf} (hk : Kills dead rd sd h) {cs : List Leaf} {us : List Value} (hr : RCells γ w cs us) : RCells γ' w' (cs.map h) us := by
  refine ⟨by simp [hr.1], fun j l hl => ?_⟩
  simp only [List.getElem?_map, Option.map_eq_some_iff] at hl
  obtain ⟨l0, hl0, rfl⟩ := hl
  obtain ⟨u, hu, hru⟩ := hr.2 j l0 hl0
  exact ⟨u, hu, hru.kill S hk⟩
theorem RV1.kill (S : Step γ γ' w w' dead rd sd) {h : Leaf → Leaf} (hk : Kills dead rd sd h) {v : V1} {u : Value} (hr : RV1 γ w v u) : RV1 γ' w' (mapV1 h v) u := by
  cases v with
  | lf l => exact RLeaf.kill S hk hr
  | ag cs =>
    obtain ⟨us, hu, hc⟩ := hr
    exact ⟨us, hu, hc.kill S hk⟩
theorem RV.kill (S : Step γ γ' w w' dead rd sd) {h : Leaf → Leaf} (hk : Kills dead rd sd h) {v : V} {u : Value} (hr : RV γ w v u) : RV γ' w' (mapV h v) u := by
  cases v with
  | one v => exact RV1.kill S hk hr
  | tup vs =>
    obtain ⟨us, hu, hl, hc⟩ := hr
    refine ⟨us, hu, by simp [hl], fun j l hj => ?_⟩
    simp only [List.getElem?_map, Option.map_eq_some_iff] at hj
    obtain ⟨l0, hl0, rfl⟩ := hj
    obtain ⟨u, hu, hru⟩ := hc j l0 hl0
    exact ⟨u, hu, RV1.kill S hk hru⟩
  | bad => trivial

theorem kills_id (h : ∀ id, ¬ dead id) (h1 : ∀ id, ¬ rd id) (h' : ∀ id, ¬ sd id) : Kills dead rd sd id := fun l => .inr ⟨rfl, fun id _ => h id, fun id _ => h1 id, fun id _ => h' id⟩
theorem mapV1_id (v : V1) : mapV1 id v = v := by cases v <;> simp [mapV1]
theorem mapV_id (v : V) : mapV id v = v := by cases v <;> simp [mapV, mapV1_id, funext mapV1_id]
theorem RV.step0 (S : Step γ γ' w w' (fun _ => False) (fun _ => False) (fun _ => False)) {v : V} {u : Value} (hr : RV γ w v u) : RV γ' w' v u := by
  have := RV.kill S (h := id) (kills_id (by simp) (by simp) (by simp)) hr
  rwa [mapV_id] at this

theorem kill_ite (i id : Nat) (l : Leaf) (h : i ≠ id → Alive dead rd sd l) : (bif Nat.beq i id then Leaf.un else l) = .un ∨ ((bif Nat.beq i id then Leaf.un else l) = l ∧ Alive dead rd sd l) := by
  cases hb : Nat.beq i id with
  | true => exact .inl rfl
  | false => exact .inr ⟨rfl, h (Nat.ne_of_beq_eq_false hb)⟩
theorem kills_S (id : Nat) : Kills (fun _ => False) (fun _ => False) (fun i => i = id) (killS id) := by
  intro l
  cases l <;> simp only [killS]
  case sn i n f => exact kill_ite i id _ fun h => ⟨by simp, by simp, by simpa [snIds] using h⟩
  case sp i row => exact kill_ite i id _ fun h => ⟨by simp, by simp, by simpa [snIds] using h⟩
  all_goals exact .inr ⟨by first | rfl | trivial, by simp, by simp, by simp [snIds]⟩
theorem kills_Q (id : Nat) : Kills (fun _ => False) (fun i => i = id) (fun i => i = id) (killQ id) := by
  intro l
  cases l <;> simp only [killQ]
  case sn i n f => exact kill_ite i id _ fun h => ⟨by simp, by simp [qIds], by simpa [snIds] using h⟩
  case sp i row => exact kill_ite i id _ fun h => ⟨by simp, by simp [qIds], by simpa [snIds] using h⟩
  case q i a b c d => exact kill_ite i id _ fun h => ⟨by simp, by simpa [qIds] using h, by simp [snIds]⟩
  case qp i a b c d e => exact kill_ite i id _ fun h => ⟨by simp, by simpa [qIds] using h, by simp [snIds]⟩
  all_goals exact .inr ⟨by first | rfl | trivial, by simp, by simp [qIds], by simp [snIds]⟩

/-- An object as it lies, its own cells unturned. -/
theorem RObj.step (S : Step γ γ' w w' dead rd sd) {h : Leaf → Leaf} (hk : Kills dead rd sd h) {id : Nat} {g : G1} {o : Obj} (hg : γ.g id = some g) (hr : RObj γ w id g o) (hfp : ∀ b, γ.fp id b → γ'.fp id b) (hext : Ext (γ.fp id) w w') : RObj γ' w' id g (mapObj h o) := by
  cases o with
  | deep sz n f =>
    simp only [RObj, mapObj] at hr ⊢
    obtain ⟨hn, hz, hr⟩ := hr
    refine ⟨hn, hz, ?_⟩
    split at hr
    · exact hr
    · obtain ⟨h0, cs, t, fr, vs, G, h1, h2, h3, h4, h5, h6, h7, h8, h9⟩ := hr
      exact ⟨h0, cs, t, fr, vs, G, hfp _ h1, hext _ _ h1 h2, h3, h4, h5, h6, fun i j x hx => ⟨hfp _ (h7 i j x hx).1, (h7 i j x hx).2⟩, h8,
        fun i j d hi hj => ⟨(h9 i j d hi hj).1, (h9 i j d hi hj).2.mono (fun _ hb => hb) (hext.sub fun b hb => (h7 i j b hb).1)⟩⟩
  | lent sz n =>
    obtain ⟨h1, h2, h4, h9, h3⟩ := hr
    refine ⟨h1, h2, h4, h9, fun h => ⟨(h3 h).1, ?_⟩⟩
    have h5 := (h3 h).2
    split
    · trivial
    · rename_i b hb
      rw [hb] at h5
      obtain ⟨cs, t, fr, h6, h7, h8⟩ := h5
      exact ⟨cs, t, fr, hfp _ h6, hext _ _ h6 h7, h8⟩
  | lentV n => exact hr
  | it s pos =>
    obtain ⟨b, h1, h2, h3, h4⟩ := hr
    exact ⟨b, h1, h2, hfp _ h3, hext _ _ h3 h4⟩
  | mp es =>
    obtain ⟨b, ents, clock, h1, h2, h3, h4, h5⟩ := hr
    refine ⟨b, ents, clock, h1, hfp _ h2, hext _ _ h2 h3, by simp [h4], fun k e hk' => ?_⟩
    simp only [List.getElem?_map, Option.map_eq_some_iff] at hk'
    obtain ⟨e0, he0, rfl⟩ := hk'
    obtain ⟨en, h6, h7, h8⟩ := h5 k e0 he0
    exact ⟨en, h6, h7, h8.kill S hk⟩
  | vars cells =>
    obtain ⟨b, cs, t, fr, h1, h2, h3, h4, h5, h6, h7, h9, h8⟩ := hr
    exact ⟨b, cs, t, fr, h1, hfp _ h2, hext _ _ h2 h3, h4, h5, by simp [h6], by simp [h7], by simpa using h9, h8.kill S hk⟩
end

theorem look_map {α β : Type} (h : α → β) : ∀ (st : List (Nat × α)) (id : Nat), look (st.map fun x => (x.1, h x.2)) id = (look st id).map h
  | [], id => rfl
  | (i, o) :: t, id => by
    simp only [List.map_cons, look]
    cases Nat.beq i id with
    | true => rfl
    | false => exact look_map h t id
theorem look_cons {α : Type} (i : Nat) (o : α) (t : List (Nat × α)) (j : Nat) : look ((i, o) :: t) j = if i = j then some o else look t j := by
  simp only [look]
  by_cases h : i = j
  · subst h; simp
  · have : Nat.beq i j = false := by
      cases hb : Nat.beq i j with
      | false => rfl
      | true => exact absurd (Nat.eq_of_beq_eq_true hb) h
    simp [this, h]
theorem look_put {α : Type} (v : α) : ∀ (st : List (Nat × α)) (i j : Nat), look (put st i v) j = if j = i ∧ (look st i).isSome then some v else look st j
  | [], i, j => by simp [put, look]
  | (k, o) :: t, i, j => by
    simp only [put]
    cases hb : Nat.beq k i with
    | true =>
      have hk := Nat.eq_of_beq_eq_true hb
      subst hk
      simp only [cond_true, look_cons]
      by_cases h : j = k
      · subst h; simp
      · have h' : ¬ k = j := fun e => h e.symm
        simp [h, h']
    | false =>
      have hk := Nat.ne_of_beq_eq_false hb
      simp only [cond_false, look_cons, look_put v t i j, hk, if_false]
      by_cases h : k = j
      · subst h; simp [hk]
      · simp [h]
theorem look_drop {α : Type} : ∀ (st : List (Nat × α)) (i j : Nat), look (drop st i) j = if j = i then none else look st j
  | [], i, j => by simp [drop, look]
  | (k, o) :: t, i, j => by
    simp only [drop]
    cases hb : Nat.beq k i with
    | true =>
      have hk := Nat.eq_of_beq_eq_true hb
      subst hk
      simp only [cond_true, look_drop t k j, look_cons]
      by_cases h : j = k
      · simp [h]
      · have h' : ¬ k = j := fun e => h e.symm
        simp [h, h']
    | false =>
      have hk := Nat.ne_of_beq_eq_false hb
      simp only [cond_false, look_cons, look_drop t i j]
      by_cases h : k = j
      · subst h; simp [hk]
      · simp [h]

theorem getN_map {α β : Type} (h : α → β) (d : α) (d' : β) (hd : h d = d') : ∀ (l : List α) (i : Nat), getN d' (l.map h) i = h (getN d l i)
  | [], i => by simp [getN, hd]
  | a :: l, 0 => by simp [getN]
  | a :: l, n + 1 => by simp [getN, getN_map h d d' hd l n]

end Go.AW
