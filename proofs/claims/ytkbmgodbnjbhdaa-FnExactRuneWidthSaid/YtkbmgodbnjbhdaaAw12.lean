/- The abstract calculus, part 12: append. -/
import Derived.Test.YtkbmgodbnjbhdaaAw11
import Derived.Laws.Append
set_option linter.unusedVariables false
set_option linter.unusedSimpArgs false
namespace Go.AW

theorem cat_rows {w' : World} {F : FP} {b : Nat} {cs : Array Value} {base sz len m : Nat} {f g : Nat → List DV} {G1 G2 : Nat → Nat → FP}
    (l1 : ∀ i, i < len → (f i).length = sz) (l2 : ∀ i, i < m → (g i).length = sz) (hG1 : ∀ i j x, G1 i j x → F x ∧ x ≠ b) (hG2 : ∀ i j x, G2 i j x → F x ∧ x ≠ b)
    (d1 : ∀ i j i' j' x, G1 i j x → G1 i' j' x → i = i' ∧ j = j') (d2 : ∀ i j i' j' x, G2 i j x → G2 i' j' x → i = i' ∧ j = j') (cross : ∀ i j i' j' x, G1 i j x → G2 i' j' x → False)
    (v1 : ∀ i j d, i < len → (f i)[j]? = some d → ∃ v, cs[base + i * sz + j]? = some v ∧ OwnT w' (G1 i j) v d)
    (v2 : ∀ i j d, i < m → (g i)[j]? = some d → ∃ v, cs[base + (len + i) * sz + j]? = some v ∧ OwnT w' (G2 i j) v d) :
    (∀ i, i < len + m → (std.catF len f m g i).length = sz) ∧ ∃ (vs : Nat → Nat → Value) (G : Nat → Nat → FP), (∀ i j x, G i j x → F x ∧ x ≠ b) ∧ (∀ i j i' j' x, G i j x → G i' j' x → i = i' ∧ j = j') ∧
      ∀ i j d, i < len + m → (std.catF len f m g i)[j]? = some d → cs[base + i * sz + j]? = some (vs i j) ∧ OwnT w' (G i j) (vs i j) d := by
  have e1 : ∀ i, i < len → std.catF len f m g i = f i := fun i hi => by simp only [std]; rw [if_neg (by omega)]
  have e2 : ∀ i, len ≤ i → i < len + m → std.catF len f m g i = g (i - len) := fun i h1 h2 => by simp only [std]; rw [if_pos ⟨h1, h2⟩]
  refine ⟨fun i hi => ?_, fun i j => cs.toList.getD (base + i * sz + j) undef, fun i j => if i < len then G1 i j else G2 (i - len) j, ?_, ?_, ?_⟩
  · rcases Nat.lt_or_ge i len with h | h
    · rw [e1 i h]; exact l1 i h
    · rw [e2 i h hi]; exact l2 _ (by omega)
  · intro i j x hx
    split at hx
    · exact hG1 i j x hx
    · exact hG2 _ j x hx
  · intro i j i' j' x hx hx'
    split at hx
    · split at hx'
      · exact d1 _ _ _ _ x hx hx'
      · exact (cross _ _ _ _ x hx hx').elim
    · split at hx'
      · exact (cross _ _ _ _ x hx' hx).elim
      · have := d2 _ _ _ _ x hx hx'
        omega
  · intro i j d hi hd
    dsimp only
    have fin : ∀ {G : FP} {v : Value}, cs[base + i * sz + j]? = some v → OwnT w' G v d → cs[base + i * sz + j]? = some (cs.toList.getD (base + i * sz + j) undef) ∧ OwnT w' G (cs.toList.getD (base + i * sz + j) undef) d := by
      intro G v h1 h2
      have : cs.toList.getD (base + i * sz + j) undef = v := by simp [List.getD, h1]
      rw [this]; exact ⟨h1, h2⟩
    rcases Nat.lt_or_ge i len with h | h
    · rw [if_pos h]
      rw [e1 i h] at hd
      obtain ⟨v, h1, h2⟩ := v1 i j d h hd
      exact fin h1 h2
    · rw [if_neg (by omega)]
      rw [e2 i h hi] at hd
      obtain ⟨v, h1, h2⟩ := v2 _ j d (by omega) hd
      rw [show len + (i - len) = i by omega] at h1
      exact fin h1 h2

section
variable {P : Program} {w0 w w' : World} {mine : FP} {γ γ' : Ghost} {σ : St} {a : Act} {k : V → St → Prop} {E : Env}

/-- What a source of rows is good for: its cells are read, and can be owned behind. -/
structure Src (P : Program) (γ : Ghost) (st : List (Nat × Obj)) (w : World) (sz m : Nat) (g : Nat → List DV) (ids : List Nat) (u : Value) (new : List Value) (G : Nat → Nat → FP) : Prop where
  len : (Builtin.lenOf u).run P w = .ok m w
  run : ∀ w1 : World, w1.heap = w.heap → (Builtin.firstCells sz m u).run P w1 = .ok new.toArray w1
  nlen : new.length = m * sz
  one : new.all (·.oneCell') = true
  rlen : ∀ i, i < m → (g i).length = sz
  val : ∀ i j d, i < m → (g i)[j]? = some d → ∃ v, new[i * sz + j]? = some v ∧ OwnT w (G i j) v d
  fp : ∀ i j x, G i j x → ∃ id, id ∈ ids ∧ γ.fp id x
  disj : ∀ i j i' j' x, G i j x → G i' j' x → i = i' ∧ j = j'
  ids : ∀ i, i ∈ ids → ∃ o, look st i = some o

theorem cell_heap {w w1 : World} (h : w1.heap = w.heap) (a : Addr) : w1.cell? a = w.cell? a := by simp [World.cell?, h]

theorem divmod {i sz j : Nat} (hj : j < sz) : (i * sz + j) / sz = i ∧ (i * sz + j) % sz = j := by
  constructor
  · rw [Nat.add_comm, Nat.add_mul_div_right _ _ (by omega), Nat.div_eq_of_lt hj]; omega
  · rw [Nat.add_comm, Nat.add_mul_mod_self_right]; exact Nat.mod_eq_of_lt hj

theorem RoT.s_inv {F : FP} {u v : Value} (h : RoT w F u (.s v)) : u = v ∧ u.oneCell' = true := by
  cases h with
  | s v h1 => exact ⟨rfl, h1⟩

theorem src_flat {F : FP} {n sz : Nat} {f : Nat → List DV} {u : Value} {z : Nat} (h : RoT w F u (.l z n f)) (hs : 0 < sz) (hf : std.FlatRows n f sz) (st : List (Nat × Obj)) :
    ∃ new, Src P γ st w sz n f [] u new (fun _ _ _ => False) := by
  simp only [std] at hf
  cases h with
  | nl z A cap g =>
    refine ⟨[], ⟨rfl, ?_, by simp, rfl, fun i hi => absurd hi (Nat.not_lt_zero i), fun i j d hi => absurd hi (Nat.not_lt_zero i), fun i j x hx => hx.elim, fun i j i' j' x hx => hx.elim, by simp⟩⟩
    intro w1 hw1
    cases A with
    | none => simp [Builtin.firstCells]
    | some ad =>
      have := run_loadCells_list (P := P) w1 ad [] (by simp)
      simpa [Builtin.firstCells] using this
  | bl z b off n cap sz' g cs t fr vs hF hb hn hsz hv hd =>
    rcases Nat.eq_zero_or_pos n with h0 | h0
    · subst h0
      refine ⟨[], ⟨rfl, ?_, by simp, rfl, fun i hi => absurd hi (Nat.not_lt_zero i), fun i j d hi => absurd hi (Nat.not_lt_zero i), fun i j x hx => hx.elim, fun i j i' j' x hx => hx.elim, by simp⟩⟩
      intro w1 hw1
      have := run_loadCells_list (P := P) w1 ⟨b, off, none⟩ [] (by simp)
      simpa [Builtin.firstCells] using this
    · have hse : sz' = sz := by rw [← hsz 0 h0]; exact (hf 0 h0).1
      subst hse
      let new := (List.range (n * sz')).map fun q => vs (q / sz') (q % sz')
      have hnew : ∀ i j, i < n → j < sz' → new[i * sz' + j]? = some (vs i j) := by
        intro i j hi hj
        have hlt : i * sz' + j < n * sz' := by
          have : i * sz' + sz' ≤ n * sz' := by rw [← Nat.succ_mul]; exact Nat.mul_le_mul_right _ hi
          omega
        simp only [new, List.getElem?_map, List.getElem?_range hlt, Option.map_some, (divmod hj).1, (divmod hj).2]
      have hrow : ∀ i j, i < n → j < sz' → ∃ d, (f i)[j]? = some d := fun i j hi hj => ⟨_, List.getElem?_eq_getElem (by rw [hsz i hi]; exact hj)⟩
      refine ⟨new, ⟨rfl, ?_, by simp [new], ?_, hsz, ?_, fun i j x hx => hx.elim, fun i j i' j' x hx => hx.elim, by simp⟩⟩
      · intro w1 hw1
        have hl := run_loadCells_list (P := P) w1 ⟨b, off, none⟩ new (by
          intro q v hq
          have hq' : q < n * sz' := by have := (List.getElem?_eq_some_iff.mp hq).1; simpa [new] using this
          have hqi : q / sz' < n := (Nat.div_lt_iff_lt_mul hs).mpr hq'
          have hqj : q % sz' < sz' := Nat.mod_lt _ hs
          have hqe : q / sz' * sz' + q % sz' = q := Nat.div_add_mod' q sz'
          obtain ⟨d, hd'⟩ := hrow _ _ hqi hqj
          have h1 := hv _ _ d hqi hd'
          have h2 := hnew _ _ hqi hqj
          rw [hqe, hq] at h2
          cases h2
          rw [add_at, cell_heap hw1, cell_at hb, ← h1]
          congr 1
          omega)
        have hlen : new.length = n * sz' := by simp [new]
        rw [hlen] at hl
        simpa [Builtin.firstCells] using hl
      · rw [List.all_eq_true]
        intro v hv'
        obtain ⟨q, hq⟩ := List.mem_iff_getElem?.mp hv'
        have hq' : q < n * sz' := by have := (List.getElem?_eq_some_iff.mp hq).1; simpa [new] using this
        have hqi : q / sz' < n := (Nat.div_lt_iff_lt_mul hs).mpr hq'
        have hqj : q % sz' < sz' := Nat.mod_lt _ hs
        have hqe : q / sz' * sz' + q % sz' = q := Nat.div_add_mod' q sz'
        obtain ⟨d, hd'⟩ := hrow _ _ hqi hqj
        have h2 := hnew _ _ hqi hqj
        rw [hqe, hq] at h2
        cases h2
        exact (hd _ _ d hqi hd').one
      · intro i j d hi hj
        have hjlt : j < sz' := by rw [← hsz i hi]; exact (List.getElem?_eq_some_iff.mp hj).1
        refine ⟨_, hnew i j hi hjlt, ?_⟩
        obtain ⟨v, hv'⟩ := (hf i hi).2 d (List.mem_of_getElem? hj)
        subst hv'
        obtain ⟨e, h1⟩ := (hd i j _ hi hj).s_inv
        rw [e] at h1 ⊢
        exact .s _ _ h1

theorem rowsIn_sound (R : Rel w0 mine γ σ a w) {sz : Nat} (hs : 0 < sz) {x : V} {u : Value} (hx : RV γ w x u) {K : Nat → (Nat → List DV) → List Nat → Prop} (h : rowsIn std sz σ x K) :
    ∃ m g ids new G, K m g ids ∧ Src P γ σ.store w sz m g ids u new G := by
  unfold rowsIn at h
  split at h
  · have hu : u = .slice none 0 0 := hx.2
    subst hu
    exact ⟨0, _, [], [], fun _ _ _ => False, h, rfl, fun _ _ => by simp [Builtin.firstCells], by simp, rfl, fun i hi => absurd hi (Nat.not_lt_zero i), fun i j d hi => absurd hi (Nat.not_lt_zero i), fun i j x hx => hx.elim, fun i j i' j' x hx => hx.elim, by simp⟩
  · rename_i n f
    obtain ⟨new, hn⟩ := src_flat (P := P) (γ := γ) hx.2 hs h.1 σ.store
    exact ⟨n, f, [], new, _, h.2, hn⟩
  · rename_i id n f
    obtain ⟨new, hn⟩ := src_flat (P := P) (γ := γ) hx.2.2 hs h.1 σ.store
    exact ⟨n, f, [], new, _, h.2, hn⟩
  · rename_i s
    have hu : u = .string s := hx.2
    subst hu
    have hsz : sz = 1 := Nat.eq_of_beq_eq_true h.1
    subst hsz
    refine ⟨s.size, _, [], s.data.toList.map fun b => .int .u8 b.toNat, fun _ _ _ => False, h.2, rfl, ?_, by simp, ?_, fun i hi => rfl, ?_, fun i j x hx => hx.elim, fun i j i' j' x hx => hx.elim, by simp⟩
    · intro w1 hw1
      simp only [Builtin.firstCells, Sem.run_pure]
      congr 1
      apply Array.ext'
      have : s.extract 0 s.size = s := by simp
      rw [this]
      simp
    · rw [List.all_eq_true]
      intro v hv
      obtain ⟨b, _, rfl⟩ := List.mem_map.mp hv
      rfl
    · intro i j d hi hj
      cases j with
      | succ j => simp at hj
      | zero =>
        simp at hj; subst hj
        have hi' : i < s.data.toList.length := by simpa using hi
        refine ⟨.int .u8 (std.byteS s i), ?_, .s _ _ rfl⟩
        simp only [Nat.mul_one, Nat.add_zero, List.getElem?_map, List.getElem?_eq_getElem hi', Option.map_some, std]
        rw [List.getD_eq_getElem?_getD, List.getElem?_eq_getElem hi']
        rfl
  · rename_i id off len
    split at h
    · rename_i z n f hst
      obtain ⟨F, hF, _, _⟩ := ownC_sound R.st (l := .o id off len) (d := .l z len (shF std off f)) (ids := [id]) hx (by simp [ownC, hst])
      obtain ⟨new, hn⟩ := src_flat (P := P) (γ := γ) hF.ro hs h.1 σ.store
      exact ⟨len, _, [], new, _, h.2, hn⟩
    · rename_i cs hst
      split at h
      · obtain ⟨hlen, h⟩ := h
        have hlen := Nat.eq_of_beq_eq_true hlen
        split at h
        · rename_i ds ids hown
          obtain ⟨g1, A, cap, hg, hu, hle, hgn, htot, had⟩ := hx.2
          obtain ⟨b, hb, hA⟩ := had (by omega)
          subst hA
          obtain ⟨g1', hg', b', cur, et, fr, hb', hfp, hh, hun, hbase, htot', hsz', hcells⟩ := R.st.objs id _ hst
          rw [hg] at hg'; cases hg'
          rw [hb] at hb'; cases hb'
          have hst0 : ∀ i o, look (drop σ.store id) i = some o → look σ.store i = some o := fun i o hi => by
            rw [look_drop] at hi
            split at hi
            · cases hi
            · exact hi
          obtain ⟨hdl, hids, Gn, hGn, hGnd, hvn⟩ := ownCs_sound R.st cs _ _ ds ids hst0 hcells hown
          have hcl : cur.toList.length = sz := by rw [hcells.1, hlen]
          have hu' : u = .slice (some ⟨b, 0, none⟩) 1 cap := by rw [hu, hbase]; simp
          refine ⟨1, _, ids, cur.toList, fun i j => if i = 0 then Gn j else fun _ => False, h, by rw [hu']; rfl, ?_, by rw [hcl, Nat.one_mul], ?_, fun i hi => by rw [hdl, hlen], ?_, ?_, ?_, fun i hi => let ⟨o, ho⟩ := hids i hi; ⟨o, hst0 i o ho⟩⟩
          · intro w1 hw1
            have := run_loadCells_list (P := P) w1 ⟨b, 0, none⟩ cur.toList (fun q v hq => by rw [add_at, cell_heap hw1, cell_at hh, Nat.zero_add]; simpa using hq)
            rw [hcl] at this
            rw [hu']
            simpa [Builtin.firstCells] using this
          · rw [List.all_eq_true]
            intro v hv
            obtain ⟨q, hq⟩ := List.mem_iff_getElem?.mp hv
            have hqlt : q < cs.length := by rw [← hcells.1]; exact (List.getElem?_eq_some_iff.mp hq).1
            obtain ⟨v', hv', hl⟩ := hcells.2 q _ (List.getElem?_eq_getElem hqlt)
            rw [hq] at hv'; cases hv'
            exact hl.1
          · intro i j d hi hj
            have hi0 : i = 0 := by omega
            subst hi0
            obtain ⟨v, hv, ho⟩ := hvn j d hj
            exact ⟨v, by simpa using hv, by simpa using ho⟩
          · intro i j x hx
            split at hx
            · exact hGn j x hx
            · exact hx.elim
          · intro i j i' j' x hx hx'
            split at hx
            · split at hx'
              · exact ⟨by omega, hGnd _ _ x hx hx'⟩
              · exact hx'.elim
            · exact hx.elim
        · exact h.elim
      · exact h.elim
    · exact h.elim
  · exact h.elim
end
end Go.AW
