/- The abstract calculus, part 13: append. -/
import Derived.Test.YtkbmgodbnjbhdaaAw12
set_option linter.unusedVariables false
set_option linter.unusedSimpArgs false
namespace Go.AW

section
variable {P : Program} {w0 w w' : World} {mine : FP} {γ γ' : Ghost} {σ : St} {a : Act} {k : V → St → Prop} {E : Env}

theorem Rel.fresh2 (R : Rel w0 mine γ σ a w) (hext : WExt w w') (hk : Keep w0 mine w') (hs : w.heap.size ≤ w'.heap.size) (g : G1) (F : FP) (o : Obj)
    (hobj : RObj (γ.add σ.next g F) w' σ.next g o) (hF : ∀ b, F b → (∀ i oi, look σ.store i = some oi → ¬ γ.fp i b) ∧ ¬ γ.ro b ∧ b < w'.heap.size ∧ (w0.heap.size ≤ b ∨ mine b)) :
    Rel w0 mine (γ.add σ.next g F) (mkObj σ o) a w' := by
  have S := step_add (w := w) (w' := w') R.st.lt g F hext
  have hne : ∀ id o', look σ.store id = some o' → id ≠ σ.next := fun id o' h => by
    obtain ⟨g', hg', _⟩ := R.st.objs id o' h
    exact Nat.ne_of_lt (R.st.lt id g' hg')
  have hfp : ∀ id, id ≠ σ.next → (γ.add σ.next g F).fp id = γ.fp id := fun id h => by simp [Ghost.add, h]
  have hfpn : (γ.add σ.next g F).fp σ.next = F := by simp [Ghost.add]
  have hsz := R.st.keep.size
  refine ⟨R.size, fun i => RV.step0 S (R.slots i), ?_, ?_, ?_, ?_, ?_, ?_, ?_, hk⟩
  · intro id o' h
    simp only [mkObj, look_cons] at h
    by_cases hid : σ.next = id
    · rw [if_pos hid] at h
      cases h
      subst hid
      exact ⟨g, by simp [Ghost.add], hobj⟩
    · rw [if_neg hid] at h
      obtain ⟨g', hg', ho⟩ := R.st.objs id o' h
      have := RObj.step S (h := fun l => l) (kills_id (by simp) (by simp)) hg' ho (fun b hb => by rw [hfp _ (Ne.symm hid)]; exact hb) (fun b o _ ho => hext b o ho)
      rw [mapObj_id] at this
      exact ⟨g', by simp [Ghost.add, Ne.symm hid, hg'], this⟩
  · intro id id' o1 o2 h1 h2 hne' b hb hb'
    simp only [mkObj, look_cons] at h1 h2
    by_cases e1 : σ.next = id
    · subst e1
      rw [if_neg hne'] at h2
      rw [hfpn] at hb
      rw [hfp _ (Ne.symm hne')] at hb'
      exact (hF b hb).1 id' o2 h2 hb'
    · rw [if_neg e1] at h1
      rw [hfp _ (Ne.symm e1)] at hb
      by_cases e2 : σ.next = id'
      · subst e2
        rw [hfpn] at hb'
        exact (hF b hb').1 id o1 h1 hb
      · rw [if_neg e2] at h2
        rw [hfp _ (Ne.symm e2)] at hb'
        exact R.st.disj id id' o1 o2 h1 h2 hne' b hb hb'
  · intro id o' h b hb hro
    simp only [mkObj, look_cons] at h
    by_cases hid : σ.next = id
    · subst hid
      rw [hfpn] at hb
      exact (hF b hb).2.1 hro
    · rw [if_neg hid] at h
      rw [hfp _ (Ne.symm hid)] at hb
      exact R.st.ro id o' h b hb hro
  · intro id g' h
    show id < σ.next + 1
    simp only [Ghost.add] at h
    by_cases hid : id = σ.next
    · omega
    · rw [if_neg hid] at h
      have := R.st.lt id g' h
      omega
  · intro id g' h
    show ∃ o', look ((σ.next, o) :: σ.store) id = some o'
    simp only [Ghost.add] at h
    rw [look_cons]
    by_cases hid : id = σ.next
    · rw [if_pos hid.symm]; exact ⟨_, rfl⟩
    · rw [if_neg hid] at h
      rw [if_neg (Ne.symm hid)]
      exact R.st.dom id g' h
  · intro id o' h b hb
    simp only [mkObj, look_cons] at h
    by_cases hid : σ.next = id
    · subst hid
      rw [hfpn] at hb
      exact (hF b hb).2.2
    · rw [if_neg hid] at h
      rw [hfp _ (Ne.symm hid)] at hb
      have := R.st.fp id o' h b hb
      exact ⟨by omega, this.2⟩
  · intro b hb
    have := R.st.rolt b hb
    omega

/-- append where there is room. -/
theorem run_append_in (t t2 ty e : TypeId) (sz : Nat) (A : Option Addr) (n c m : Nat) (x : Value) (new : List Value) (ht : P.underlying t = some (.slice e)) (h2 : P.underlying t2 = some .string ∨ ∃ e2, P.underlying t2 = some (.slice e2)) (hsz : (sizeOf e).run P w = .ok sz w)
    (hl : (Builtin.lenOf x).run P w = .ok m w) (hf : (Builtin.firstCells sz m x).run P w = .ok new.toArray w) (hle : n + m ≤ c) (w2 : World)
    (hst : ∀ ad, A = some ad → (storeCells (ad.add (n * sz)) new).run P w = .ok () w2) (hno : A = none → w2 = w) :
    (Builtin.append_ #[t, t2] ty #[.slice A n c, x]).run P w = .ok (.slice A (n + m) c) w2 := by
  cases A with
  | none =>
    cases hno rfl
    rcases h2 with h2 | ⟨e2, h2⟩ <;> simp [Builtin.append_, run_underlying ht, run_underlying h2, hsz, hl, hf, hle]
  | some ad =>
    have hs := hst ad rfl
    rcases h2 with h2 | ⟨e2, h2⟩ <;> simp [Builtin.append_, run_underlying ht, run_underlying h2, hsz, hl, hf, hle, hs]

/-- append where there is none. -/
theorem run_append_new (t t2 ty e : TypeId) (i : TypeInfo) (z : Value) (A : Option Addr) (n c m : Nat) (x : Value) (old new : List Value) (ht : P.underlying t = some (.slice e)) (h2 : P.underlying t2 = some .string ∨ ∃ e2, P.underlying t2 = some (.slice e2))
    (hi : P.info? e = some i) (hz : i.zero = some z)
    (hl : (Builtin.lenOf x).run P w = .ok m w) (hf : ∀ w1 : World, w1.heap = w.heap → (Builtin.firstCells i.size m x).run P w1 = .ok new.toArray w1)
    (hfo : ∀ w1 : World, w1.heap = w.heap → (Builtin.firstCells i.size n (.slice A n c)).run P w1 = .ok old.toArray w1) (hle : c < n + m) (hb : 1 ≤ i.bytes) (hroom : (n + m) * i.bytes ≤ 140737488355328) :
    ∃ cap rest, n + m ≤ cap ∧ rest = Builtin.zeroCells z.cells (cap - (n + m)) ∧ (Builtin.append_ #[t, t2] ty #[.slice A n c, x]).run P w = .ok (.slice (some ⟨w.heap.size, 0, none⟩) (n + m) cap) (w.drew.alloc (.cells ((old ++ new).toArray ++ rest) e)) := by
  have hn : ¬ (n + m ≤ c) := by omega
  have hnm : n + m ≤ 140737488355328 := Nat.le_trans (Nat.le_mul_of_pos_right _ hb) hroom
  have h63 : ¬ (9223372036854775807 < ((n : Int) + (m : Int))) := by omega
  have hfit := growslice_fits hle hroom
  have h48 : ¬ (281474976710656 < Builtin.nextslicecap (n + m) c * i.bytes) := by omega
  have hi0 : i.bytes ≠ 0 := by omega
  refine ⟨grownCap w (n + m) c e, _, ?_, rfl, ?_⟩
  · simp only [grownCap, Question.cut]; omega
  · rcases h2 with h2 | ⟨e2, h2⟩ <;> simp [Builtin.append_, run_underlying ht, run_underlying h2, hl, hn, h63, h48, hi0, hi, hz, Question.forced, hf w.drew rfl, hfo w.drew rfl, newRow, grownCap, typeInfo, zeroValue, sizeOf] <;> (congr 2; apply Array.ext'; simp)

theorem unforgot {ids : List Nat} {id sz n : Nat} {f : Nat → List DV} (h : look (forget σ ids).store id = some (.deep sz n f)) : id ∉ ids ∧ look σ.store id = some (.deep sz n f) := by
  rw [look_forget] at h
  by_cases hi : id ∈ ids
  · rw [if_pos hi] at h; cases h
  · rw [if_neg hi] at h
    refine ⟨hi, ?_⟩
    cases ho : look σ.store id with
    | none => rw [ho] at h; cases h
    | some o =>
      rw [ho] at h
      simp only [Option.map_some, Option.some.injEq] at h
      cases o <;> simp [mapObj] at h ⊢
      exact h

/-- The world behind the taking of a new row. -/
theorem drew_alloc (w : World) (o : Go.Obj) : WExt w (w.drew.alloc o) ∧ (w.drew.alloc o).heap.size = w.heap.size + 1 ∧ (w.drew.alloc o).heap[w.heap.size]? = some o ∧ (w.drew.alloc o).os = w.os ∧ (w.drew.alloc o).tape = w.tape ∧ (w.drew.alloc o).output = w.output ∧ ∀ b, b < w.heap.size → (w.drew.alloc o).heap[b]? = w.heap[b]? := by
  have hh : (w.drew.alloc o).heap = w.heap.push o := rfl
  refine ⟨fun b x hb => ?_, by simp [hh], by simp [hh], rfl, rfl, rfl, fun b hb => ?_⟩
  · rw [hh, Array.getElem?_push]
    have : b < w.heap.size := (Array.getElem?_eq_some_iff.mp hb).1
    rw [if_neg (by omega)]; exact hb
  · rw [hh, Array.getElem?_push, if_neg (by omega)]
end
end Go.AW
