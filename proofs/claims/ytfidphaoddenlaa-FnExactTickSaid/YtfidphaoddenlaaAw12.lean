/- The abstract calculus, part 12: append. -/
import Derived.Test.YtfidphaoddenlaaAw11
import Derived.Laws.Append
set_option linter.unusedVariables false
set_option linter.unusedSimpArgs false
namespace Go.AW

theorem cat_rows {w' : World} {F : FP} {b : Nat} {cs : Array Value} {base sz len m : Nat} {f g : Nat → List DV} {G1 G2 : Nat → Nat → FP}
    (l1 : ∀ i, i < len → (f i).length = sz) (l2 : ∀ i, i < m → (g i).length = sz) (hG1 : ∀ i j x, G1 i j x → F x ∧ x ≠ b) (hG2 : ∀ i j x, G2 i j x → F x ∧ x ≠ b)
    (d1 : ∀ i j i' j' x, G1 i j x → G1 i' j' x → i = i' ∧ j = j') (d2 : ∀ i j i' j' x, G2 i j x → G2 i' j' x → i = i' ∧ j = j') (cross : ∀ i j i' j' x, G1 i j x → G2 i' j' x → False)
    (v1 : ∀ i j d, i < len → (f i)[j]? = some d → ∃ v, cs[base + i * sz + j]? = some v ∧ OwnT w' (G1 i j) v d)
    (v2 : ∀ i j d, i < m → (g i)[j]? = some d → ∃ v, cs[base + (len + i) * sz + j]? = some v ∧ OwnT w' (G2 i j) v d) :
    (∀ i, i < len + m → (std.catF len f m g i).length = sz) ∧ ∃ (vs : Nat → Nat → Value) (G : Nat → Nat → FP), (∀ i j x, G i j x → F x ∧ x ≠ b) ∧ (∀ i j i' j' x, G i j x → G i' j' x → i = i' ∧ j = j') ∧
      ∀ i j d, i < len + m → (std.catF len f m g i)[j]? = some d → cs[base + i * sz + j]? = some (vs i j) ∧ OwnT w' (G i j) (vs i j) d := by
  have e1 : ∀ i, i < len → std.catF len f m g i = f i := fun i hi => by simp only [std]; rw [if_neg (by omega)]
  have e2 : ∀ i, len ≤ i → i < len + m → std.catF len f m g i = g (i - len) := fun i h1 h2 => by simp only [std]; rw [if_pos ⟨h1, h2⟩]
  refine ⟨fun i hi => ?_, fun i j => cs.toList.getD (base + i * sz + j) undef, fun i j => if i < len then G1 i j else G2 (i - len) j, ?_, ?_, ?_⟩
  · rcases Nat.lt_or_ge i len with h | h
    · rw [e1 i h]; exact l1 i h
    · rw [e2 i h hi]; exact l2 _ (by omega)
  · intro i j x hx
    split at hx
    · exact hG1 i j x hx
    · exact hG2 _ j x hx
  · intro i j i' j' x hx hx'
    split at hx
    · split at hx'
      · exact d1 _ _ _ _ x hx hx'
      · exact (cross _ _ _ _ x hx hx').elim
    · split at hx'
      · exact (cross _ _ _ _ x hx' hx).elim
      · have := d2 _ _ _ _ x hx hx'
        omega
  · intro i j d hi hd
    dsimp only
    have fin : ∀ {G : FP} {v : Value}, cs[base + i * sz + j]? = some v → OwnT w' G v d → cs[base + i * sz + j]? = some (cs.toList.getD (base + i * sz + j) undef) ∧ OwnT w' G (cs.toList.getD (base + i * sz + j) undef) d := by
      intro G v h1 h2
      have : cs.toList.getD (base + i * sz + j) undef = v := by simp [List.getD, h1]
      rw [this]; exact ⟨h1, h2⟩
    rcases Nat.lt_or_ge i len with h | h
    · rw [if_pos h]
      rw [e1 i h] at hd
      obtain ⟨v, h1, h2⟩ := v1 i j d h hd
      exact fin h1 h2
    · rw [if_neg (by omega)]
      rw [e2 i h hi] at hd
      obtain ⟨v, h1, h2⟩ := v2 _ j d (by omega) hd
      rw [show len + (i - len) = i by omega] at h1
      exact fin h1 h2

/-- What a source of rows is good for: its cells are read, and can be owned behind. -/
structure Src (P : Program) (w : World) (sz m : Nat) (g : Nat → List DV) (u : Value) (new : List Value) (G : Nat → Nat → FP) : Prop where
  len : (Builtin.lenOf u).run P w = .ok m w
  run : ∀ w1 : World, w1.heap = w.heap → (Builtin.firstCells sz m u).run P w1 = .ok new.toArray w1
  nlen : new.length = m * sz
  one : new.all (·.oneCell') = true
  rlen : ∀ i, i < m → (g i).length = sz
  val : ∀ i j d, i < m → (g i)[j]? = some d → ∃ v, new[i * sz + j]? = some v ∧ OwnT w (G i j) v d
  disj : ∀ i j i' j' x, G i j x → G i' j' x → i = i' ∧ j = j'

section
variable {P : Program} {w0 w w' : World} {mine : FP} {γ γ' : Ghost} {σ : St} {a : Act} {k : V → St → Prop} {E : Env}

theorem cell_heap {w w1 : World} (h : w1.heap = w.heap) (a : Addr) : w1.cell? a = w.cell? a := by simp [World.cell?, h]

theorem divmod {i sz j : Nat} (hj : j < sz) : (i * sz + j) / sz = i ∧ (i * sz + j) % sz = j := by
  constructor
  · rw [Nat.add_comm, Nat.add_mul_div_right _ _ (by omega), Nat.div_eq_of_lt hj]; omega
  · rw [Nat.add_comm, Nat.add_mul_mod_self_right]; exact Nat.mod_eq_of_lt hj

theorem RoT.s_inv {F : FP} {u v : Value} (h : RoT w F u (.s v)) : u = v ∧ u.oneCell' = true := by
  cases h with
  | s v h1 => exact ⟨rfl, h1⟩

theorem Rel.fresh2 (R : Rel w0 mine γ σ a w) (hext : WExt w w') (hk : Keep w0 mine w') (hs : w.heap.size ≤ w'.heap.size) (g : G1) (F : FP) (o : Obj)
    (hobj : RObj (γ.add σ.next g F) w' σ.next g o) (hF : ∀ b, F b → (∀ i oi, look σ.store i = some oi → ¬ γ.fp i b) ∧ ¬ γ.ro b ∧ b < w'.heap.size ∧ (w0.heap.size ≤ b ∨ mine b)) :
    Rel w0 mine (γ.add σ.next g F) (mkObj σ o) a w' := by
  have S := step_add (w := w) (w' := w') R.st.lt g F hext
  have hne : ∀ id o', look σ.store id = some o' → id ≠ σ.next := fun id o' h => by
    obtain ⟨g', hg', _⟩ := R.st.objs id o' h
    exact Nat.ne_of_lt (R.st.lt id g' hg')
  have hfp : ∀ id, id ≠ σ.next → (γ.add σ.next g F).fp id = γ.fp id := fun id h => by simp [Ghost.add, h]
  have hfpn : (γ.add σ.next g F).fp σ.next = F := by simp [Ghost.add]
  have hsz := R.st.keep.size
  refine ⟨R.size, fun i => RV.step0 S (R.slots i), ?_, ?_, ?_, ?_, ?_, ?_, ?_, hk⟩
  · intro id o' h
    simp only [mkObj, look_cons] at h
    by_cases hid : σ.next = id
    · rw [if_pos hid] at h
      cases h
      subst hid
      exact ⟨g, by simp [Ghost.add], hobj⟩
    · rw [if_neg hid] at h
      obtain ⟨g', hg', ho⟩ := R.st.objs id o' h
      have := RObj.step S (h := fun l => l) (kills_id (by simp) (by simp) (by simp)) hg' ho (fun b hb => by rw [hfp _ (Ne.symm hid)]; exact hb) (fun b o _ ho => hext b o ho)
      rw [mapObj_id] at this
      exact ⟨g', by simp [Ghost.add, Ne.symm hid, hg'], this⟩
  · intro id id' o1 o2 h1 h2 hne' b hb hb'
    simp only [mkObj, look_cons] at h1 h2
    by_cases e1 : σ.next = id
    · subst e1
      rw [if_neg hne'] at h2
      rw [hfpn] at hb
      rw [hfp _ (Ne.symm hne')] at hb'
      exact (hF b hb).1 id' o2 h2 hb'
    · rw [if_neg e1] at h1
      rw [hfp _ (Ne.symm e1)] at hb
      by_cases e2 : σ.next = id'
      · subst e2
        rw [hfpn] at hb'
        exact (hF b hb').1 id o1 h1 hb
      · rw [if_neg e2] at h2
        rw [hfp _ (Ne.symm e2)] at hb'
        exact R.st.disj id id' o1 o2 h1 h2 hne' b hb hb'
  · intro id o' h b hb hro
    simp only [mkObj, look_cons] at h
    by_cases hid : σ.next = id
    · subst hid
      rw [hfpn] at hb
      exact (hF b hb).2.1 hro
    · rw [if_neg hid] at h
      rw [hfp _ (Ne.symm hid)] at hb
      exact R.st.ro id o' h b hb hro
  · intro id g' h
    show id < σ.next + 1
    simp only [Ghost.add] at h
    by_cases hid : id = σ.next
    · omega
    · rw [if_neg hid] at h
      have := R.st.lt id g' h
      omega
  · intro id g' h
    show ∃ o', look ((σ.next, o) :: σ.store) id = some o'
    simp only [Ghost.add] at h
    rw [look_cons]
    by_cases hid : id = σ.next
    · rw [if_pos hid.symm]; exact ⟨_, rfl⟩
    · rw [if_neg hid] at h
      rw [if_neg (Ne.symm hid)]
      exact R.st.dom id g' h
  · intro id o' h b hb
    simp only [mkObj, look_cons] at h
    by_cases hid : σ.next = id
    · subst hid
      rw [hfpn] at hb
      exact (hF b hb).2.2
    · rw [if_neg hid] at h
      rw [hfp _ (Ne.symm hid)] at hb
      have := R.st.fp id o' h b hb
      exact ⟨by omega, this.2⟩
  · intro b hb
    have := R.st.rolt b hb
    omega

theorem src_flat {F : FP} {n sz : Nat} {f : Nat → List DV} {u : Value} {z : Nat} (h : RoT w F u (.l z n f)) (hs : 0 < sz) (hf : std.FlatRows n f sz) :
    ∃ new, Src P w sz n f u new (fun _ _ _ => False) := by
  simp only [std] at hf
  cases h with
  | nl z A cap g =>
    refine ⟨[], ⟨rfl, ?_, by simp, rfl, fun i hi => absurd hi (Nat.not_lt_zero i), fun i j d hi => absurd hi (Nat.not_lt_zero i), fun i j i' j' x hx => hx.elim⟩⟩
    intro w1 hw1
    cases A with
    | none => simp [Builtin.firstCells]
    | some ad =>
      have := run_loadCells_list (P := P) w1 ad [] (by simp)
      simpa [Builtin.firstCells] using this
  | bl z b off n cap sz' g cs t fr vs hF hb hn hsz hv hd =>
    rcases Nat.eq_zero_or_pos n with h0 | h0
    · subst h0
      refine ⟨[], ⟨rfl, ?_, by simp, rfl, fun i hi => absurd hi (Nat.not_lt_zero i), fun i j d hi => absurd hi (Nat.not_lt_zero i), fun i j i' j' x hx => hx.elim⟩⟩
      intro w1 hw1
      have := run_loadCells_list (P := P) w1 ⟨b, off, none⟩ [] (by simp)
      simpa [Builtin.firstCells] using this
    · have hse : sz' = sz := by rw [← hsz 0 h0]; exact (hf 0 h0).1
      subst hse
      let new := (List.range (n * sz')).map fun q => vs (q / sz') (q % sz')
      have hnew : ∀ i j, i < n → j < sz' → new[i * sz' + j]? = some (vs i j) := by
        intro i j hi hj
        have hlt : i * sz' + j < n * sz' := by
          have : i * sz' + sz' ≤ n * sz' := by rw [← Nat.succ_mul]; exact Nat.mul_le_mul_right _ hi
          omega
        simp only [new, List.getElem?_map, List.getElem?_range hlt, Option.map_some, (divmod hj).1, (divmod hj).2]
      have hrow : ∀ i j, i < n → j < sz' → ∃ d, (f i)[j]? = some d := fun i j hi hj => ⟨_, List.getElem?_eq_getElem (by rw [hsz i hi]; exact hj)⟩
      refine ⟨new, ⟨rfl, ?_, by simp [new], ?_, hsz, ?_, fun i j i' j' x hx => hx.elim⟩⟩
      · intro w1 hw1
        have hl := run_loadCells_list (P := P) w1 ⟨b, off, none⟩ new (by
          intro q v hq
          have hq' : q < n * sz' := by have := (List.getElem?_eq_some_iff.mp hq).1; simpa [new] using this
          have hqi : q / sz' < n := (Nat.div_lt_iff_lt_mul hs).mpr hq'
          have hqj : q % sz' < sz' := Nat.mod_lt _ hs
          have hqe : q / sz' * sz' + q % sz' = q := Nat.div_add_mod' q sz'
          obtain ⟨d, hd'⟩ := hrow _ _ hqi hqj
          have h1 := hv _ _ d hqi hd'
          have h2 := hnew _ _ hqi hqj
          rw [hqe, hq] at h2
          cases h2
          rw [add_at, cell_heap hw1, cell_at hb, ← h1]
          congr 1
          omega)
        have hlen : new.length = n * sz' := by simp [new]
        rw [hlen] at hl
        simpa [Builtin.firstCells] using hl
      · rw [List.all_eq_true]
        intro v hv'
        obtain ⟨q, hq⟩ := List.mem_iff_getElem?.mp hv'
        have hq' : q < n * sz' := by have := (List.getElem?_eq_some_iff.mp hq).1; simpa [new] using this
        have hqi : q / sz' < n := (Nat.div_lt_iff_lt_mul hs).mpr hq'
        have hqj : q % sz' < sz' := Nat.mod_lt _ hs
        have hqe : q / sz' * sz' + q % sz' = q := Nat.div_add_mod' q sz'
        obtain ⟨d, hd'⟩ := hrow _ _ hqi hqj
        have h2 := hnew _ _ hqi hqj
        rw [hqe, hq] at h2
        cases h2
        exact (hd _ _ d hqi hd').one
      · intro i j d hi hj
        have hjlt : j < sz' := by rw [← hsz i hi]; exact (List.getElem?_eq_some_iff.mp hj).1
        refine ⟨_, hnew i j hi hjlt, ?_⟩
        obtain ⟨v, hv'⟩ := (hf i hi).2 d (List.mem_of_getElem? hj)
        subst hv'
        obtain ⟨e, h1⟩ := (hd i j _ hi hj).s_inv
        rw [e] at h1 ⊢
        exact .s _ _ h1


theorem src_own {F : FP} {n sz : Nat} {f : Nat → List DV} {u : Value} (h : OwnT w F u (.l sz n f)) : ∃ new G, Src P w sz n f u new G ∧ ∀ i j x, G i j x → F x := by
  have empty : ∀ (A : Option Addr), ∃ new G, Src P w sz 0 f (.slice A 0 0) new G ∧ ∀ i j x, G i j x → F x := by
    intro A
    refine ⟨[], fun _ _ _ => False, ⟨rfl, ?_, by simp, rfl, fun i hi => absurd hi (Nat.not_lt_zero i), fun i j d hi => absurd hi (Nat.not_lt_zero i), fun i j i' j' x hx => hx.elim⟩, fun i j x hx => hx.elim⟩
    intro w1 hw1
    cases A with
    | none => simp [Builtin.firstCells]
    | some ad =>
      have := run_loadCells_list (P := P) w1 ad [] (by simp)
      simpa [Builtin.firstCells] using this
  cases h with
  | nl => exact empty _
  | bl _ b off n cap sz g cs t fr vs G hF hs hb hu hn htot hsz hG hGd hv hd =>
      let new := (List.range (n * sz)).map fun q => vs (q / sz) (q % sz)
      have hnew : ∀ i j, i < n → j < sz → new[i * sz + j]? = some (vs i j) := by
        intro i j hi hj
        have hlt : i * sz + j < n * sz := by
          have : i * sz + sz ≤ n * sz := by rw [← Nat.succ_mul]; exact Nat.mul_le_mul_right _ hi
          omega
        simp only [new, List.getElem?_map, List.getElem?_range hlt, Option.map_some, (divmod hj).1, (divmod hj).2]
      have hrow : ∀ i j, i < n → j < sz → ∃ d, (f i)[j]? = some d := fun i j hi hj => ⟨_, List.getElem?_eq_getElem (by rw [hsz i hi]; exact hj)⟩
      have hq : ∀ q v, new[q]? = some v → q / sz < n ∧ q % sz < sz ∧ q / sz * sz + q % sz = q ∧ v = vs (q / sz) (q % sz) := by
        intro q v hq
        have hq' : q < n * sz := by have := (List.getElem?_eq_some_iff.mp hq).1; simpa [new] using this
        have hqi : q / sz < n := (Nat.div_lt_iff_lt_mul hs).mpr hq'
        have hqj : q % sz < sz := Nat.mod_lt _ hs
        have hqe : q / sz * sz + q % sz = q := Nat.div_add_mod' q sz
        refine ⟨hqi, hqj, hqe, ?_⟩
        have h2 := hnew _ _ hqi hqj
        rw [hqe, hq] at h2
        exact Option.some.inj h2
      refine ⟨new, fun i j x => i < n ∧ j < sz ∧ G i j x, ⟨rfl, ?_, by simp [new], ?_, hsz, ?_, fun i j i' j' x h1 h2 => hGd _ _ _ _ x h1.2.2 h2.2.2⟩, fun i j x hx => (hG i j x hx.2.2).1⟩
      · intro w1 hw1
        have hl := run_loadCells_list (P := P) w1 ⟨b, off, none⟩ new (by
          intro q v hqv
          obtain ⟨hqi, hqj, hqe, rfl⟩ := hq q v hqv
          obtain ⟨d, hd'⟩ := hrow _ _ hqi hqj
          have h1 := hv _ _ d hqi hd'
          rw [add_at, cell_heap hw1, cell_at hb, ← h1]
          congr 1
          omega)
        have hlen : new.length = n * sz := by simp [new]
        rw [hlen] at hl
        simpa [Builtin.firstCells] using hl
      · rw [List.all_eq_true]
        intro v hv'
        obtain ⟨q, hqv⟩ := List.mem_iff_getElem?.mp hv'
        obtain ⟨hqi, hqj, hqe, rfl⟩ := hq q v hqv
        obtain ⟨d, hd'⟩ := hrow _ _ hqi hqj
        exact (hd _ _ d hqi hd').one
      · intro i j d hi hj
        have hjlt : j < sz := by rw [← hsz i hi]; exact (List.getElem?_eq_some_iff.mp hj).1
        exact ⟨_, hnew i j hi hjlt, (hd i j d hi hj).mono (fun x hx => ⟨hi, hjlt, hx⟩) (Ext.refl _ _)⟩

theorem see_sound (R : RelS w0 mine γ σ.store σ.next w) {l : Leaf} {u : Value} (hl : RLeaf γ w l u) : RLeaf γ w (see std σ.store l) u := by
  have un : RLeaf γ w .un u := ⟨hl.1, trivial⟩
  cases l <;> simp only [see] <;> try exact hl
  case q id i j v n =>
    split
    · rename_i sz m F ho
      split
      · rename_i sz' n' f hd
        rw [nthO_getElem?] at hd
        obtain ⟨c, hc, hw⟩ := hl.2
        obtain ⟨G, hG, hGs⟩ := at_own R ho hc hd
        obtain ⟨g, b, _, _, _, hg, _⟩ := hc
        have hro : RoT w (γ.fp id) c (.l sz' n' f) := hG.ro.mono hGs (Ext.refl _ _)
        cases v with
        | none =>
          obtain ⟨rfl, A, cap, he, hn, _⟩ := hw
          have : n' = n := by
            rw [he] at hro
            cases hro <;> rfl
          subst this
          exact ⟨hl.1, ⟨g, hg⟩, hro.resz 0⟩
        | some ov =>
          obtain ⟨off, sz⟩ := ov
          dsimp only
          split
          · rename_i hz
            have hz := Nat.eq_of_beq_eq_true hz
            subst hz
            refine ⟨hl.1, ⟨g, hg⟩, ?_⟩
            rw [shF_std]
            rcases hw with ⟨rfl, A, cap, he⟩ | ⟨b2, o2, N, cap, cap', h1, h2, h3, h4⟩
            · rw [he]; exact .nl _ _ _ _
            · rw [h1] at hro
              rw [h2]
              cases hro with
              | nl => have : n = 0 := by omega
                      subst this
                      exact .nl _ _ _ _
              | bl z bb off' nn cc sz2 g2 cs t fr vs hF hb hn hsz hv hd' =>
                refine .bl _ b2 _ n cap' sz2 _ cs t fr (fun i j => vs (off + i) j) hF hb h3 (fun i hi => hsz _ (by omega)) (fun i j d hi hj => ?_) (fun i j d hi hj => hd' _ j d (by omega) hj)
                have hs2 : sz' = sz2 := by
                  have h5 := hsz (off + i) (by omega)
                  cases hG with
                  | nl => omega
                  | bl _ _ _ _ _ _ _ _ _ _ _ _ _ _ _ _ _ _ hsz3 => rw [← hsz3 (off + i) (by omega), h5]
                subst hs2
                rw [show o2 + off * sz' + i * sz' + j = o2 + (off + i) * sz' + j by rw [Nat.add_mul]; omega]
                exact hv _ j d (by omega) hj
          · exact un
      · exact un
    · exact un

theorem rowsIn_sound (R : Rel w0 mine γ σ a w) {fl : Bool} {sz : Nat} (hs : 0 < sz) {x : V} {u : Value} (hx : RV γ w x u) {K : Nat → (Nat → List DV) → St → (Leaf → Leaf) → Prop} (h : rowsIn std fl sz σ x K) :
    ∃ m g σ1 hf γ1 new G, K m g σ1 hf ∧ Took w0 mine a w γ σ (fun l => l) (fun x => ∃ i j, G i j x) γ1 σ1 hf ∧ Src P w sz m g u new G := by
  have copy : ∀ {n : Nat} {f : Nat → List DV} {z : Nat} {F : FP}, RoT w F u (.l z n f) → std.FlatRows n f sz → K n f σ (fun l => l) →
      ∃ m g σ1 hf γ1 new G, K m g σ1 hf ∧ Took w0 mine a w γ σ (fun l => l) (fun x => ∃ i j, G i j x) γ1 σ1 hf ∧ Src P w sz m g u new G := by
    intro n f z F hr hf hk
    obtain ⟨new, hn⟩ := src_flat (P := P) hr hs hf
    exact ⟨n, f, σ, _, γ, new, _, hk, (Took.refl R _).mono (fun b ⟨_, _, hb⟩ => hb), hn⟩
  have moved : ∀ {l : Leaf} {sz' n : Nat} {f : Nat → List DV} {σ' : St} {hf : Leaf → Leaf}, RLeaf γ w l u → takeC std σ l = some (.l sz' n f, σ', hf) → sz' = sz → K n f σ' hf →
      ∃ m g σ1 hf γ1 new G, K m g σ1 hf ∧ Took w0 mine a w γ σ (fun l => l) (fun x => ∃ i j, G i j x) γ1 σ1 hf ∧ Src P w sz m g u new G := by
    intro l sz' n f σ' hf hl ht he hk
    subst he
    obtain ⟨γ1, F, T, o⟩ := takeC_sound R hl ht
    obtain ⟨new, G, hS, hG⟩ := src_own (P := P) o
    exact ⟨n, f, σ', hf, γ1, new, G, hk, T.mono (fun b ⟨i, j, hb⟩ => hG i j b hb), hS⟩
  have plain : ∀ {l : Leaf}, RLeaf γ w l u → (match see std σ.store l with
      | .nil => K 0 (fun _ => []) σ (fun l => l)
      | .r n f => std.FlatRows n f sz ∧ K n f σ (fun l => l)
      | .sn _ n f => std.FlatRows n f sz ∧ K n f σ (fun l => l)
      | .s (.string s) => need (Nat.beq sz 1) (K (std.lenS s) (fun i => [.s (.int .u8 (std.byteS s i))]) σ (fun l => l))
      | _ => False) → ∃ m g σ1 hf γ1 new G, K m g σ1 hf ∧ Took w0 mine a w γ σ (fun l => l) (fun x => ∃ i j, G i j x) γ1 σ1 hf ∧ Src P w sz m g u new G := by
    intro l hl h
    have hl := see_sound R.st hl
    revert hl h
    generalize see std σ.store l = l'
    intro h hl
    split at h
    · have hu : u = .slice none 0 0 := hl.2
      exact copy (z := 0) (F := fun _ => False) (by rw [hu]; exact .nl _ _ _ _) (fun i hi => absurd hi (Nat.not_lt_zero i)) h
    · exact copy hl.2 h.1 h.2
    · exact copy hl.2.2 h.1 h.2
    · rename_i s
      have hu : u = .string s := hl.2
      subst hu
      have hsz : sz = 1 := Nat.eq_of_beq_eq_true h.1
      subst hsz
      refine ⟨s.size, _, σ, _, γ, s.data.toList.map fun b => .int .u8 b.toNat, fun _ _ _ => False, h.2, (Took.refl R _).mono (fun b ⟨_, _, hb⟩ => hb), rfl, ?_, by simp, ?_, fun i hi => rfl, ?_, fun i j i' j' x hx => hx.elim⟩
      · intro w1 hw1
        simp only [Builtin.firstCells, Sem.run_pure]
        congr 1
        apply Array.ext'
        have : s.extract 0 s.size = s := by simp
        rw [this]
        simp
      · rw [List.all_eq_true]
        intro v hv
        obtain ⟨b, _, rfl⟩ := List.mem_map.mp hv
        rfl
      · intro i j d hi hj
        cases j with
        | succ j => simp at hj
        | zero =>
          simp at hj; subst hj
          have hi' : i < s.data.toList.length := by simpa using hi
          refine ⟨.int .u8 (std.byteS s i), ?_, .s _ _ rfl⟩
          simp only [Nat.mul_one, Nat.add_zero, List.getElem?_map, List.getElem?_eq_getElem hi', Option.map_some, std]
          rw [List.getD_eq_getElem?_getD, List.getElem?_eq_getElem hi']
          rfl
    · exact h.elim
  unfold rowsIn at h
  split at h
  · split at h
    · rename_i id off len
      split at h
      · rename_i z n f hst
        obtain ⟨γ1, F, T, o⟩ := takeC_sound R (l := .o id off len) (d := .l z len (shF std off f)) (σ' := forget1 σ id) (hf := killA id) hx (by simp [takeC, hst])
        exact copy o.ro h.1 h.2
      · split at h
        · rename_i sz' n f σ' hf ht
          exact moved (l := .o id off len) hx ht (Nat.eq_of_beq_eq_true h.1) h.2
        · exact h.elim
      · rename_i cs hst
        split at h
        · obtain ⟨hlen, h⟩ := h
          have hlen := Nat.eq_of_beq_eq_true hlen
          split at h
          · rename_i ds σ' hf ht
            obtain ⟨g1, A, cap, hg, hu, hle, hgn, htot, had⟩ := hx.2
            obtain ⟨b, hb, hA⟩ := had (by omega)
            subst hA
            obtain ⟨g1', hg', b', cur, et, fr, hb', hfp, hh, hun, hbase, htot', hsz', hgz, hcells⟩ := R.st.objs id _ hst
            rw [hg] at hg'; cases hg'
            rw [hb] at hb'; cases hb'
            have T0 := took_drop R hst
            obtain ⟨γ1, Gn, T1, hdl, hGnd, hvn⟩ := takeCs_sound cs cur.toList (forget1 σ id) (γ.del id) (killA id) ds σ' hf T0.R hcells.1 (fun j l hj => let ⟨u, hu, hl⟩ := hcells.2 j l hj; ⟨u, hu, T0.leaf l u hl⟩) ht
            have hcl : cur.toList.length = sz := by rw [hcells.1, hlen]
            have hu' : u = .slice (some ⟨b, 0, none⟩) 1 cap := by rw [hu, hbase]; simp
            refine ⟨1, _, σ', hf, γ1, cur.toList, fun i j => if i = 0 then Gn j else fun _ => False, h, (T0.trans T1).mono (fun b hb => ?_), by rw [hu']; rfl, ?_, by rw [hcl, Nat.one_mul], ?_, fun i hi => by rw [hdl, hlen], ?_, ?_⟩
            · obtain ⟨i, j, hb⟩ := hb
              split at hb
              · exact .inr ⟨j, hb⟩
              · exact hb.elim
            · intro w1 hw1
              have := run_loadCells_list (P := P) w1 ⟨b, 0, none⟩ cur.toList (fun q v hq => by rw [add_at, cell_heap hw1, cell_at hh, Nat.zero_add]; simpa using hq)
              rw [hcl] at this
              rw [hu']
              simpa [Builtin.firstCells] using this
            · rw [List.all_eq_true]
              intro v hv
              obtain ⟨q, hq⟩ := List.mem_iff_getElem?.mp hv
              have hqlt : q < cs.length := by rw [← hcells.1]; exact (List.getElem?_eq_some_iff.mp hq).1
              obtain ⟨v', hv', hl⟩ := hcells.2 q _ (List.getElem?_eq_getElem hqlt)
              rw [hq] at hv'; cases hv'
              exact hl.1
            · intro i j d hi hj
              have hi0 : i = 0 := by omega
              subst hi0
              obtain ⟨v, hv, ho⟩ := hvn j d hj
              exact ⟨v, by simpa using hv, by simpa using ho⟩
            · intro i j i' j' x hx hx'
              split at hx
              · split at hx'
                · exact ⟨by omega, hGnd _ _ x hx hx'⟩
                · exact hx'.elim
              · exact hx.elim
          · exact h.elim
        · exact h.elim
      · exact h.elim
    · split at h
      · rename_i sz' n f σ' hf ht
        exact moved hx ht (Nat.eq_of_beq_eq_true h.1) h.2
      · exact h.elim
    · exact plain hx h
  · exact h.elim

/-- An owned slice becomes an object. -/
theorem inst_deep (R : Rel w0 mine γ σ a w) {sz sz' n : Nat} {f : Nat → List DV} {u : Value} {F : FP} (h : OwnT w F u (.l sz n f)) (hz : sz' = sz ∨ sz = 0) (hF : Free w0 mine γ σ.store w F) :
    ∃ γ', Rel w0 mine γ' (mkObj σ (.deep sz' n f)) a w ∧ RLeaf γ' w (.o σ.next 0 n) u ∧ (∀ l u, RLeaf γ w l u → RLeaf γ' w l u) ∧ ∀ H : FP, Free w0 mine γ σ.store w H → (∀ x, H x → ¬ F x) → Free w0 mine γ' (mkObj σ (.deep sz' n f)).store w H := by
  have key : ∀ (g : G1), RObj (γ.add σ.next g F) w σ.next g (.deep sz' n f) → RLeaf (γ.add σ.next g F) w (.o σ.next 0 n) u →
      ∃ γ', Rel w0 mine γ' (mkObj σ (.deep sz' n f)) a w ∧ RLeaf γ' w (.o σ.next 0 n) u ∧ (∀ l u, RLeaf γ w l u → RLeaf γ' w l u) ∧ ∀ H : FP, Free w0 mine γ σ.store w H → (∀ x, H x → ¬ F x) → Free w0 mine γ' (mkObj σ (.deep sz' n f)).store w H := by
    intro g ho hl
    have S := step_add (w := w) (w' := w) R.st.lt g F (fun b o h => h)
    refine ⟨γ.add σ.next g F, R.fresh2 (fun b o h => h) R.st.keep (Nat.le_refl _) g F _ ho hF, hl, fun l u hl => hl.step S ⟨by simp, by simp, by simp⟩, fun H hH hd b hb => ?_⟩
    obtain ⟨h1, h2, h3⟩ := hH b hb
    refine ⟨fun i oi hi => ?_, h2, h3⟩
    simp only [mkObj, look_cons] at hi
    simp only [Ghost.add]
    by_cases he : σ.next = i
    · rw [if_pos he.symm]; exact hd b hb
    · rw [if_neg he] at hi
      rw [if_neg (Ne.symm he)]
      exact h1 i oi hi
  cases h with
  | nl _ _ A _ => exact key ⟨none, 0, sz', 0, 0⟩ ⟨rfl, rfl, rfl⟩ ⟨rfl, ⟨none, 0, sz', 0, 0⟩, A, 0, by simp [Ghost.add], rfl, Nat.le_refl _, by simp, by simp, fun h => absurd h (Nat.lt_irrefl 0)⟩
  | bl _ b off _ cap _ _ cs t fr vs G hFb hs hb hu hn htot hsz hG hGd hv hd =>
    have hz' : sz' = sz := by omega
    subst hz'
    refine key ⟨some b, off, sz', cap * sz', n⟩ ⟨rfl, rfl, hs, cs, t, fr, vs, G, by simp [Ghost.add, hFb], hb, hu, htot, Nat.mul_le_mul_right _ hn, hsz, fun i j x hx => by simpa [Ghost.add] using hG i j x hx, hGd, fun i j d hi hj => ⟨hv i j d hi hj, hd i j d hi hj⟩⟩
      ⟨rfl, ⟨some b, off, sz', cap * sz', n⟩, _, cap, by simp [Ghost.add], rfl, hn, by simp, by simp, fun _ => ⟨b, rfl, by simp⟩⟩

theorem onto_sound (R : Rel w0 mine γ σ a w) {sz : Nat} {s : V} {u : Value} (hs : RV γ w s u) {K : Leaf → St → Prop} (h : ontoP std sz σ s K) :
    ∃ l σ' γ', K l σ' ∧ Rel w0 mine γ' σ' a w ∧ RLeaf γ' w l u ∧ ∀ H : FP, Free w0 mine γ σ.store w H → Free w0 mine γ' σ'.store w H := by
  unfold ontoP at h
  split at h
  · exact ⟨_, σ, γ, h, R, hs, fun H hH => hH⟩
  · rename_i id off len
    split at h
    · rename_i l t ho
      split at h
      · rename_i ds hds
        obtain ⟨g, A, cap, hg, hu, hle, hgn, htot, had⟩ := hs.2
        obtain ⟨b, hb, hA⟩ := had (by omega)
        obtain ⟨g', hg', b', cur, et, fr, hb', hfp, hh, hun, hbase, hct, hcs, hgz, hrc⟩ := R.st.objs id _ ho
        rw [hg] at hg'; cases hg'
        rw [hb] at hb'; cases hb'
        obtain ⟨hdl, hdv⟩ := flatCs_sound hrc hds
        have hgz' : g.sz = (l :: t).length := by
          rcases hgz.1 with h0 | h0
          · rw [h0, hct] at htot; simp at htot
          · exact h0
        have S := step_write (w' := w) R.st (g' := g) (fun _ => False) (fun i => i = id) ho hg (γ.fp id) (fun _ => rfl) (fun h => absurd rfl h) (fun b x _ hx => hx)
        have R' := R.write (o' := .deep (l :: t).length 1 (fun _ => ds)) (g' := g) (F := γ.fp id) (w' := w) (fun _ => False) (fun i => i = id) (killQ id) (kills_Q id) ho hg (fun _ => rfl) (fun h => absurd rfl h)
          (fun x hx => ⟨.inl hx, R.st.fp id _ ho x hx⟩) (fun b x _ hx => hx) (Nat.le_refl _) R.st.keep (by
            simp only [mapObj]
            rw [robj_rows hb]
            refine ⟨hgz.2, hgz', by simp, cur, et, fr, fun _ j => cur.toList.getD j undef, fun _ _ _ => False, by simpa [Ghost.grow] using hfp, hh, hun, by rw [hbase, hct, hcs]; simp, by rw [hgz', hct]; simp, fun i hi => by rw [hdl, hgz'], fun i j x hx => hx.elim, fun i j i' j' x hx => hx.elim, ?_⟩
            intro i j d hi hd
            have : i = 0 := by omega
            subst this
            obtain ⟨v, hv, ho'⟩ := hdv j d hd
            rw [hbase]
            simp only [Nat.zero_mul, Nat.zero_add]
            rw [List.getD_eq_getElem?_getD, hv]
            exact ⟨by simpa using hv, ho'⟩)
        refine ⟨_, _, _, h, R', (hs.kill S (kills_Q id) : RLeaf _ _ (killQ id (.o id 0 1)) u), fun H hH x hx => ?_⟩
        obtain ⟨h1, h2, h3⟩ := hH x hx
        refine ⟨fun i oi hi hf => ?_, h2, h3⟩
        simp only [mapSt, putObj, look_map, look_put, ho] at hi
        simp only [Ghost.grow] at hf
        by_cases e : i = id
        · rw [if_pos e] at hf; exact h1 id _ ho hf
        · rw [if_neg e] at hf
          simp only [e, false_and, if_false, Option.map_eq_some_iff] at hi
          obtain ⟨o', h4, _⟩ := hi
          exact h1 i o' h4 hf
      · exact h.elim
    · exact ⟨_, σ, γ, h, R, hs, fun H hH => hH⟩
  · rename_i id i j n
    split at h
    · rename_i sz' n' f σ1 hf ht
      obtain ⟨γ1, F, T, o⟩ := takeC_sound R (l := .q id i j none n) hs ht
      obtain ⟨γ2, R2, l2, _, hfree⟩ := inst_deep (sz' := fixSz sz sz') T.R o (by cases sz' <;> simp [fixSz]) T.free
      exact ⟨_, _, γ2, h, R2, l2, fun H hH => hfree H (T.keep H hH).1 (T.keep H hH).2⟩
    · exact h.elim
  · exact h.elim
end
end Go.AW
