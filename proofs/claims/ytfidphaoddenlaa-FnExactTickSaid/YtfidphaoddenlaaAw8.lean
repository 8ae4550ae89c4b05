/- The abstract calculus, part 8: new objects. -/
import Derived.Test.YtfidphaoddenlaaAw7
set_option linter.unusedVariables false
set_option linter.unusedSimpArgs false
namespace Go.AW

def Ghost.add (γ : Ghost) (id : Nat) (g : G1) (F : FP) : Ghost :=
  { g := fun i => if i = id then some g else γ.g i, fp := fun i => if i = id then F else γ.fp i, ro := γ.ro }

def WExt (w w' : World) : Prop := ∀ (b : Nat) (o : Go.Obj), w.heap[b]? = some o → w'.heap[b]? = some o
theorem mapObj_id (o : Obj) : mapObj (fun l => l) o = o := by cases o <;> simp [mapObj]

section
variable {P : Program} {w0 w w' : World} {mine : FP} {γ : Ghost} {σ : St} {a : Act} {k : V → St → Prop} {E : Env}

theorem Keep.later (h : Keep w0 mine w) (hs : w.heap.size ≤ w'.heap.size) (hos : w'.os = w.os) (ht : w'.tape = w.tape) (ho : w'.output = w.output) (hb : ∀ b, b < w.heap.size → w'.heap[b]? = w.heap[b]?) : Keep w0 mine w' :=
  ⟨Nat.le_trans h.size hs, hos.trans h.os, ht.trans h.tape, ho.trans h.output, fun b hb' hm => (hb b (Nat.lt_of_lt_of_le hb' h.size)).trans (h.old b hb' hm)⟩

theorem step_add {n : Nat} (lt : ∀ id g, γ.g id = some g → id < n) (g : G1) (F : FP) (hext : WExt w w') : Step γ (γ.add n g F) w w' (fun _ => False) (fun _ => False) (fun _ => False) where
  root := fun id g' b o h _ _ hb ho => ⟨by simp only [Ghost.add]; rw [if_neg (Nat.ne_of_lt (lt id g' h))]; exact hb, hext b o ho⟩
  g := fun id g' h _ => by simp only [Ghost.add]; rw [if_neg (Nat.ne_of_lt (lt id g' h))]; exact h
  fp := fun id g' h _ b hb => by simp only [Ghost.add]; rw [if_neg (Nat.ne_of_lt (lt id g' h))]; exact hb
  ext := fun id g' h _ b o _ ho => hext b o ho
  ro := fun b hb => hb
  rext := fun b o _ ho => hext b o ho

theorem Rel.fresh (R : Rel w0 mine γ σ a w) (hext : WExt w w') (hk : Keep w0 mine w') (hs : w.heap.size ≤ w'.heap.size) (g : G1) (F : FP) (o : Obj)
    (hobj : RObj (γ.add σ.next g F) w' σ.next g o) (hF : ∀ b, F b → w.heap.size ≤ b ∧ b < w'.heap.size) : Rel w0 mine (γ.add σ.next g F) (mkObj σ o) a w' := by
  have S := step_add (w := w) (w' := w') R.st.lt g F hext
  have hne : ∀ id o', look σ.store id = some o' → id ≠ σ.next := fun id o' h => by
    obtain ⟨g', hg', _⟩ := R.st.objs id o' h
    exact Nat.ne_of_lt (R.st.lt id g' hg')
  have hfp : ∀ id, id ≠ σ.next → (γ.add σ.next g F).fp id = γ.fp id := fun id h => by simp [Ghost.add, h]
  have hfpn : (γ.add σ.next g F).fp σ.next = F := by simp [Ghost.add]
  have hsz := R.st.keep.size
  refine ⟨R.size, fun i => RV.step0 S (R.slots i), ?_, ?_, ?_, ?_, ?_, ?_, ?_, hk⟩
  · intro id o' h
    simp only [mkObj, look_cons] at h
    by_cases hid : σ.next = id
    · rw [if_pos hid] at h
      cases h
      subst hid
      exact ⟨g, by simp [Ghost.add], hobj⟩
    · rw [if_neg hid] at h
      obtain ⟨g', hg', ho⟩ := R.st.objs id o' h
      have := RObj.step S (h := fun l => l) (kills_id (by simp) (by simp) (by simp)) hg' ho (fun b hb => by rw [hfp _ (Ne.symm hid)]; exact hb) (fun b o _ ho => hext b o ho)
      rw [mapObj_id] at this
      exact ⟨g', by simp [Ghost.add, Ne.symm hid, hg'], this⟩
  · intro id id' o1 o2 h1 h2 hne' b hb hb'
    simp only [mkObj, look_cons] at h1 h2
    by_cases e1 : σ.next = id
    · subst e1
      rw [if_neg hne'] at h2
      rw [hfpn] at hb
      rw [hfp _ (Ne.symm hne')] at hb'
      have := (R.st.fp id' o2 h2 b hb').1
      have := (hF b hb).1
      omega
    · rw [if_neg e1] at h1
      rw [hfp _ (Ne.symm e1)] at hb
      by_cases e2 : σ.next = id'
      · subst e2
        rw [hfpn] at hb'
        have := (R.st.fp id o1 h1 b hb).1
        have := (hF b hb').1
        omega
      · rw [if_neg e2] at h2
        rw [hfp _ (Ne.symm e2)] at hb'
        exact R.st.disj id id' o1 o2 h1 h2 hne' b hb hb'
  · intro id o' h b hb hro
    simp only [mkObj, look_cons] at h
    by_cases hid : σ.next = id
    · subst hid
      rw [hfpn] at hb
      have := (hF b hb).1
      have := R.st.rolt b hro
      omega
    · rw [if_neg hid] at h
      rw [hfp _ (Ne.symm hid)] at hb
      exact R.st.ro id o' h b hb hro
  · intro id g' h
    show id < σ.next + 1
    simp only [Ghost.add] at h
    by_cases hid : id = σ.next
    · omega
    · rw [if_neg hid] at h
      have := R.st.lt id g' h
      omega
  · intro id g' h
    show ∃ o', look ((σ.next, o) :: σ.store) id = some o'
    simp only [Ghost.add] at h
    rw [look_cons]
    by_cases hid : id = σ.next
    · rw [if_pos hid.symm]; exact ⟨_, rfl⟩
    · rw [if_neg hid] at h
      rw [if_neg (Ne.symm hid)]
      exact R.st.dom id g' h
  · intro id o' h b hb
    simp only [mkObj, look_cons] at h
    by_cases hid : σ.next = id
    · subst hid
      rw [hfpn] at hb
      have := hF b hb
      exact ⟨this.2, .inl (by omega)⟩
    · rw [if_neg hid] at h
      rw [hfp _ (Ne.symm hid)] at hb
      have := R.st.fp id o' h b hb
      exact ⟨by omega, this.2⟩
  · intro b hb
    have := R.st.rolt b hb
    omega

/-- A block laid behind the others. -/
theorem wext_push (w : World) (o : Go.Obj) : WExt w { w with heap := w.heap.push o } := by
  intro b x h
  have hb : b < w.heap.size := (Array.getElem?_eq_some_iff.mp h).1
  show (w.heap.push o)[b]? = some x
  rw [Array.getElem?_push, if_neg (by omega)]
  exact h
theorem keep_push (h : Keep w0 mine w) (o : Go.Obj) : Keep w0 mine { w with heap := w.heap.push o } :=
  h.later (by simp) rfl rfl rfl (fun b hb => by show (w.heap.push o)[b]? = _; rw [Array.getElem?_push, if_neg (by omega)])

theorem rcells_fresh (R : RelS w0 mine γ σ.store σ.next w) {g : G1} {F : FP} (hext : WExt w w') {cs : List Leaf} {us : List Value} (h : RCells γ w cs us) : RCells (γ.add σ.next g F) w' cs us := by
  have := RCells.kill (step_add (w := w) (w' := w') R.lt g F hext) (h := fun l => l) (kills_id (by simp) (by simp) (by simp)) h
  simpa using this

/-- A variable's cells, laid anew. -/
theorem Rel.newVars (R : Rel w0 mine γ σ a w) {cs : List Leaf} {us : List Value} (t : TypeId) (sz : Nat) (hz : sz = 0 ∨ sz = cs.length) (hc : RCells γ w cs us) :
    Rel w0 mine (γ.add σ.next ⟨some w.heap.size, 0, sz, cs.length, 1⟩ (fun b => b = w.heap.size)) (mkObj σ (.vars cs)) a { w with heap := w.heap.push (.cells us.toArray t) } := by
  refine R.fresh (wext_push w _) (keep_push R.st.keep _) (by simp) _ _ _ ?_ (fun b hb => by subst hb; simp)
  refine ⟨w.heap.size, us.toArray, t, (0, 0), rfl, by simp [Ghost.add], by simp, .inl (Nat.le_refl _), rfl, rfl, by simp [hc.1], ⟨hz, rfl⟩, ?_⟩
  simpa using rcells_fresh R.st (wext_push w _) hc

theorem cellsOf_sound {v : V} {u : Value} {cs : List Leaf} (h : RV γ w v u) (hc : cellsOf v = some cs) : RCells γ w cs u.cells.toList ∧ u.cells.toList.all (·.oneCell') = true := by
  unfold cellsOf at hc
  split at hc
  · rename_i l
    simp at hc; subst hc
    have h1 : RLeaf γ w l u := h
    have hu : u.cells = #[u] := by
      have := h1.1
      cases u <;> simp_all [Value.cells, Value.oneCell']
    rw [hu]
    exact ⟨⟨rfl, fun j x hj => by
      cases j with
      | zero => simp at hj; subst hj; exact ⟨u, rfl, h1⟩
      | succ j => simp at hj⟩, by simp [h1.1]⟩
  · rename_i cs'
    simp at hc; subst hc
    obtain ⟨us, hu, hr⟩ := h
    subst hu
    have e : (Value.agg us.toArray).cells.toList = us := by simp [Value.cells]
    rw [e]
    refine ⟨hr, ?_⟩
    rw [List.all_eq_true]
    intro x hx
    obtain ⟨j, hj⟩ := List.mem_iff_getElem?.mp hx
    have hlt : j < cs'.length := by rw [← hr.1]; exact (List.getElem?_eq_some_iff.mp hj).1
    obtain ⟨v, hv, hl⟩ := hr.2 j _ (List.getElem?_eq_getElem hlt)
    rw [hj] at hv
    cases hv
    exact hl.1
  · simp at hc

theorem does_box (hE : EnvOk P E) (R : Rel w0 mine γ σ a w) {d t p af g bt} {x : Operand} {cs : List Leaf} (hx : cellsOf (evA σ x) = some cs)
    (h : k (.one (.lf (.p σ.next 0))) (mkObj σ (.vars cs))) : Does P w0 mine a w ⟨d, .box bt x, t, p, af, g⟩ k := by
  obtain ⟨hc, _⟩ := cellsOf_sound (R.ev x) hx
  have R' := R.newVars bt 0 (.inl rfl) hc
  refine .inl ⟨.pointer (some ⟨w.heap.size, 0, none⟩), _, ?_, _, _, _, h, R', ⟨rfl, ⟨some w.heap.size, 0, 0, cs.length, 1⟩, w.heap.size, by simp [Ghost.add], rfl, rfl⟩⟩
  simp [execOp, Instr.box, newVar, newRow]

theorem rcells_zero {γ : Ghost} {w : World} {l : List Value} (h : l.all (·.oneCell') = true) : RCells γ w (l.map leafOfValue) l := by
  refine ⟨by simp, fun j x hj => ?_⟩
  simp only [List.getElem?_map, Option.map_eq_some_iff] at hj
  obtain ⟨u, hu, rfl⟩ := hj
  exact ⟨u, hu, rleaf_ofValue γ w u (List.all_eq_true.mp h u (List.mem_of_getElem? hu))⟩

theorem TIok.run_zero {t : TypeId} {i : TI} (h : TIok P t i) : ∃ z : Value, (zeroValue t).run P w = .ok z w ∧ z.cells.toList = i.zero := by
  obtain ⟨x, hx, _, _, z, hz, hc⟩ := h.run_info
  exact ⟨z, by simp [zeroValue, typeInfo, hx, hz], hc⟩

theorem does_alloc (hE : EnvOk P E) (R : Rel w0 mine γ σ a w) {d t p af g bt} (hk : okK (E bt).k = true)
    (h : k (.one (.lf (.p σ.next 0))) (mkObj σ (.vars ((E bt).zero.map leafOfValue)))) : Does P w0 mine a w ⟨d, .alloc bt, t, p, af, g⟩ k := by
  have hT := hE bt (okK_ne hk)
  obtain ⟨z, hz, hc⟩ := hT.run_zero (w := w)
  have R' := R.newVars bt 0 (.inl rfl) (rcells_zero (γ := γ) (w := w) hT.one)
  refine .inl ⟨.pointer (some ⟨w.heap.size, 0, none⟩), _, ?_, _, _, _, h, R', ⟨rfl, ⟨some w.heap.size, 0, 0, _, 1⟩, w.heap.size, by simp [Ghost.add]; rfl, rfl, rfl⟩⟩
  simp [execOp, Instr.alloc, hz, newVar, newRow, ← hc]

/-- An owned slice, laid anew: its rows are scalars that lie in a block of their own. -/
theorem Rel.newDeep (R : Rel w0 mine γ σ a w) {n sz cap : Nat} {f : Nat → List DV} {vs : Nat → Nat → Value} {cs : Array Value} {t : TypeId} {fr : Nat × Nat} {w' : World} (hext : WExt w w') (hk : Keep w0 mine w') (hs : w'.heap.size = w.heap.size + 1)
    (hb : w'.heap[w.heap.size]? = some (.cells cs t fr)) (hu : Unfrozen fr cs.size) (hs0 : 0 < sz) (hn : n ≤ cap) (htot : cap * sz ≤ cs.size) (hlen : ∀ i, i < n → (f i).length = sz)
    (hv : ∀ i j d, i < n → (f i)[j]? = some d → cs[i * sz + j]? = some (vs i j) ∧ OwnT w' (fun _ => False) (vs i j) d) :
    Rel w0 mine (γ.add σ.next ⟨some w.heap.size, 0, sz, cap * sz, n⟩ (fun b => b = w.heap.size)) (mkObj σ (.deep sz n f)) a w' ∧
      RV (γ.add σ.next ⟨some w.heap.size, 0, sz, cap * sz, n⟩ (fun b => b = w.heap.size)) w' (.one (.lf (.o σ.next 0 n))) (.slice (some ⟨w.heap.size, 0, none⟩) n cap) := by
  constructor
  · refine R.fresh hext hk (by omega) _ _ _ ?_ (fun b hb => by subst hb; omega)
    simp only [RObj]
    exact ⟨trivial, trivial, hs0, cs, t, fr, vs, fun _ _ _ => False, by simp [Ghost.add], hb, hu, by simpa using htot, Nat.mul_le_mul_right _ hn, hlen, fun i j x hx => hx.elim, fun i j i' j' x hx => hx.elim,
      fun i j d hi hj => by have := hv i j d hi hj; simpa using this⟩
  · exact ⟨rfl, ⟨some w.heap.size, 0, sz, cap * sz, n⟩, _, cap, by simp [Ghost.add], rfl, hn, by simp, by simp, fun _ => ⟨w.heap.size, rfl, by simp⟩⟩

theorem does_bytes (hE : EnvOk P E) (R : Rel w0 mine γ σ a w) {d t p af g src dst e} {x : Operand} {s : ByteArray} (hsrc : okK (E src).k = true) (hk : (E dst).k = .sl e) (hke : (E e).k = .int .u8) (hx : evA σ x = .one (.lf (.s (.string s))))
    (h : k (.one (.lf (.o σ.next 0 (std.lenS s)))) (mkObj σ (.deep 1 (std.lenS s) (fun i => [.s (.int .u8 (std.byteS s i))])))) : Does P w0 mine a w ⟨d, .convert src dst x, t, p, af, g⟩ k := by
  have hT := hE dst (by rw [hk]; simp)
  obtain ⟨ds, hds, _⟩ := (hE src (okK_ne hsrc)).und
  have hTe := hE e (by rw [hke]; simp)
  have hxv := R.ev x
  rw [hx] at hxv
  have hx2 : a.eval x = .string s := hxv.2
  -- the new block's capacity
  obtain ⟨cap, w1, hch, hcap, hw1⟩ : ∃ cap w1, (choose (.appendCap s.size 0 e)).run P w = .ok cap w1 ∧ s.size ≤ cap ∧ w1 = { w with drawn := w.drawn + 1 } := by
    refine ⟨_, _, by rw [run_choose]; simp only [Question.forced]; rfl, ?_, rfl⟩
    simp only [Question.cut]
    omega
  let cs : Array Value := (s.data.map fun b => Value.int .u8 b.toNat) ++ Array.replicate (cap - s.size) (.int .u8 0)
  have hcs : cs.size = cap := by
    simp only [cs, Array.size_append, Array.size_map, Array.size_replicate]
    have : s.data.size = s.size := rfl
    omega
  let w2 : World := { w1 with heap := w1.heap.push (.cells cs e) }
  let w' : World := w2.freeze ⟨w1.heap.size, cs.size, none⟩ 1
  have hrun : (execOp a.eval ⟨d, .convert src dst x, t, p, af, g⟩).run P w = .ok (.value (.slice (some ⟨w1.heap.size, 0, none⟩) s.size cap)) w' := by
    have hsh : w2.shape? w1.heap.size = some (e, cs.size) := by simp [w2, World.shape?]
    simp only [execOp, convert, hx2, Sem.run_bind, run_underlying hds, run_underlying (hT.sl hk), Result.andThen_ok]
    cases ds <;> simp only [run_underlying (hTe.int hke), Sem.run_bind, Result.andThen_ok, Conv.stringToBytes, hch, newRow, run_newObj, Sem.run_pure, markStringish, run_shape]
    all_goals (simp only [w2, cs] at hsh; rw [hsh]; rfl)
  have hheap : w'.heap[w.heap.size]? = some (.cells cs e (cs.size, cs.size + 1)) := by
    simp only [w', World.freeze, w2, hw1]
    rw [if_neg (by omega), Array.getElem?_modify, if_pos rfl, Array.getElem?_push, if_pos rfl]
    simp
  have hold : ∀ b, b < w.heap.size → w'.heap[b]? = w.heap[b]? := by
    intro b hb
    simp only [w', World.freeze, w2, hw1]
    rw [if_neg (by omega)]
    simp only [Array.getElem?_modify]
    rw [if_neg (by omega), Array.getElem?_push, if_neg (by omega)]
  have hsz : w'.heap.size = w.heap.size + 1 := by
    simp only [w', World.freeze, w2, hw1]
    rw [if_neg (by omega)]
    simp
  have hos : w'.os = w.os ∧ w'.tape = w.tape ∧ w'.output = w.output := by
    simp only [w', World.freeze, w2, hw1]
    rw [if_neg (by omega)]
    exact ⟨rfl, rfl, rfl⟩
  have hext : WExt w w' := fun b o ho => by
    have hb : b < w.heap.size := (Array.getElem?_eq_some_iff.mp ho).1
    rw [hold b hb]; exact ho
  obtain ⟨R', hv⟩ := R.newDeep (n := s.size) (sz := 1) (cap := cap) (f := fun i => [.s (.int .u8 (std.byteS s i))]) (vs := fun i _ => .int .u8 (std.byteS s i)) (w' := w') hext
    (R.st.keep.later (by omega) hos.1 hos.2.1 hos.2.2 hold) hsz hheap (.inr (Nat.le_refl _)) (by omega) hcap (by omega) (fun i hi => rfl) (by
      intro i j d hi hj
      cases j with
      | succ j => simp at hj
      | zero =>
        simp at hj
        subst hj
        refine ⟨?_, .s _ _ rfl⟩
        have hi' : i < s.data.size := hi
        simp only [cs, Nat.mul_one, Nat.add_zero]
        rw [Array.getElem?_append_left (by simpa using hi')]
        simp [std, hi', List.getD, Array.getElem?_eq_getElem hi'])
  exact .inl ⟨_, _, hrun, _, _, _, h, R', by have : w1.heap.size = w.heap.size := by rw [hw1]
                                             rw [this]; exact hv⟩
end
end Go.AW
