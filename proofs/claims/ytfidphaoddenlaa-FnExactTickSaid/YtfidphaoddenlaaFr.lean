/- Arguments of a row, read as data. -/
import Derived.Test.YtfidphaoddenlaaAw29
import Derived.ProofKit
import Derived.OpenShut
import Derived.ShutString
import Derived.ChangeOld
import Derived.SizedLaws
import Derived.Carry
set_option linter.unusedVariables false
set_option linter.unusedSimpArgs false
namespace Go.AW
/-- Cells of type t, trod, read as data of the form mk x with Q x. -/
def Rd (P : Program) (t : TypeId) {α : Type} (Q : α → Prop) (mk : α → List DV) : Prop :=
  ∀ (H : Type) (enc : TypeId × Value → H) (w : World) (fuel : Nat) (cs : List Value) (d : DataW H) (ps : List MemPlace), DataW.trod enc P w 0 (fun _ => true) true fuel t cs = some (d, ps) → (∀ n ∈ d.weights P t, n ≤ reachBytes) →
    ∃ x, Q x ∧ cs.length = (mk x).length ∧ ∀ (j : Nat) (y : DV), (mk x)[j]? = some y → ∃ u, cs[j]? = some u ∧ RoT w (fun b => b < w.heap.size) u y
section
variable {P : Program} {t e : TypeId}
theorem rd_one {w : World} {F : FP} {u : Value} {d : DV} (h : RoT w F u d) : ∀ (j : Nat) (y : DV), ([d] : List DV)[j]? = some y → ∃ v, ([u] : List Value)[j]? = some v ∧ RoT w F v y
  | 0, y, hy => by simp at hy; subst hy; exact ⟨u, rfl, h⟩
  | j + 1, y, hy => by simp at hy
theorem wf_range {k : IntKind} {n : Int} (h : (Lit.int k n).wf = true) : k.min ≤ n ∧ n ≤ k.max := by
  simpa [Lit.wf] using h
theorem rd_int {k : IntKind} (ht : P.underlying t = some (.int k)) : Rd P t (fun n : Int => k.min ≤ n ∧ n ≤ k.max) (fun n => [.s (.int k n)]) := by
  intro H enc w fuel cs d ps h _
  obtain ⟨n, rfl, _, hw⟩ := DataW.trod_int ht h
  exact ⟨n, wf_range hw, rfl, rd_one (.s _ rfl)⟩
theorem rd_bool (ht : P.underlying t = some .bool) : Rd P t (fun _ : Bool => True) (fun b => [.s (.bool b)]) := by
  intro H enc w fuel cs d ps h _
  obtain ⟨b, rfl, _⟩ := DataW.trod_bool ht h
  exact ⟨b, trivial, rfl, rd_one (.s _ rfl)⟩
theorem rd_string (ht : P.underlying t = some .string) : Rd P t (fun s : ByteArray => s.size ≤ 140737488351232) (fun s => [.s (.string s)]) := by
  intro H enc w fuel cs d ps h hw
  obtain ⟨s, rfl, he, _⟩ := DataW.trod_string ht h
  cases he
  have := hw s.data.toList.length (by simp [DataW.weights])
  exact ⟨s, by simpa [reachBytes] using this, rfl, rd_one (.s _ rfl)⟩
theorem mem_weightsAll {H : Type} {e : TypeId} : ∀ {ds : List (DataW H)} {d : DataW H}, d ∈ ds → ∀ n ∈ d.weights P e, n ∈ DataW.weightsAll P e ds
  | d0 :: ds, d, hd, n, hn => by
    simp only [DataW.weightsAll, List.mem_append]
    rcases List.mem_cons.mp hd with rfl | hd
    · exact .inl hn
    · exact .inr (mem_weightsAll hd n hn)
theorem rd_slice {sz by' : Nat} (ht : P.underlying t = some (.slice e)) (hsz : P.cellsOf e = sz) (hpos : 0 < sz) (hby : P.bytesOf e = by') {α : Type} [Inhabited α] {Q : α → Prop} {mk : α → List DV} (hmk : ∀ x, (mk x).length = sz) (he : Rd P e Q mk) :
    Rd P t (fun x : Nat × (Nat → α) => x.1 * by' ≤ 140737488351232 ∧ ∀ i, i < x.1 → Q (x.2 i)) (fun x => [.l sz x.1 (fun i => mk (x.2 i))]) := by
  intro H enc w fuel cs d ps h hw
  rcases DataW.trod_slice ht h with ⟨rfl, _⟩ | ⟨a, len, cap, elems, rest, n, _, rfl, hx, _, hl, _, hlen, hel, _, _⟩
  · exact ⟨(0, fun _ => default), ⟨by simp, fun i hi => absurd hi (Nat.not_lt_zero i)⟩, rfl, rd_one (.nl _ _ _ _)⟩
  · cases hx
    have hbound : len * by' ≤ 140737488351232 := by
      have h1 : (elems.length + rest.length) * by' ≤ 140737488351232 := by
        have := hw ((elems.length + rest.length) * P.bytesOf e) (by simp [DataW.weights, ht])
        rw [hby] at this
        simpa [reachBytes] using this
      rw [hlen] at h1
      exact Nat.le_trans (Nat.mul_le_mul_right _ (Nat.le_add_right _ _)) h1
    have hall : ∀ i : Nat, ∃ x : α, i < len → ∃ cs', w.cells? 0 (a.add (i * sz)) sz = some cs' ∧ Q x ∧ cs'.length = (mk x).length ∧ ∀ (j : Nat) (y : DV), (mk x)[j]? = some y → ∃ u, cs'[j]? = some u ∧ RoT w (fun b => b < w.heap.size) u y := by
      intro i
      by_cases hi : i < len
      · have h1 := hel i hi
        rw [hsz, List.getElem?_eq_getElem (by omega), Option.bind_eq_some_iff] at h1
        obtain ⟨cs', hc, h2⟩ := h1
        have hm : elems[i] ∈ elems := List.getElem_mem (by omega)
        obtain ⟨x, q1, q2, q3⟩ := he H enc w n cs' _ _ h2 (fun m hm' => hw m (by
          simp only [DataW.weights, ht, List.mem_cons, List.mem_append]
          exact .inr (.inl (mem_weightsAll (List.mem_map.mpr ⟨_, hm, rfl⟩) m hm'))))
        exact ⟨x, fun _ => ⟨cs', hc, q1, q2, q3⟩⟩
      · exact ⟨default, fun h => absurd h hi⟩
    obtain ⟨X, hX⟩ := Classical.axiomOfChoice hall
    refine ⟨(len, X), ⟨hbound, fun i hi => (hX i hi).choose_spec.2.1⟩, rfl, rd_one ?_⟩
    rcases Nat.eq_zero_or_pos len with h0 | h0
    · subst h0; exact .nl _ _ _ _
    · obtain ⟨cs0, hc0, _, hlen0, _⟩ := hX 0 h0
      obtain ⟨_, hl0, hg0⟩ := World.cells?_some hc0
      have hg1 := hg0 0 hpos
      have hcell : ∃ c t' fr, w.heap[a.block]? = some (.cells c t' fr) ∧ a.spot = none := by
        obtain ⟨c0, hc0'⟩ : ∃ c0, cs0[0]? = some c0 := ⟨cs0[0]'(by omega), List.getElem?_eq_getElem (by omega)⟩
        have hz : (a.add (0 * sz)).add 0 = a := by simp [Addr.add]
        rw [hz, hc0'] at hg1
        unfold World.cell? at hg1
        split at hg1
        · rename_i c t' fr hb
          refine ⟨c, t', fr, hb, ?_⟩
          split at hg1
          · cases hg1
          · rename_i hs
            cases hsp : a.spot with
            | none => rfl
            | some z => rw [hsp] at hs; simp at hs
        · cases hg1
      obtain ⟨c, t', fr, hb, hsp⟩ := hcell
      obtain ⟨b, off, spot⟩ := a
      simp at hb hsp
      subst hsp
      have hlt : b < w.heap.size := by
        rcases Nat.lt_or_ge b w.heap.size with h1 | h1
        · exact h1
        · rw [Array.getElem?_eq_none h1] at hb; cases hb
      have hcellAt : ∀ i j : Nat, i < len → j < sz → ∀ u, (hX' : ∃ cs', w.cells? 0 ((⟨b, off, none⟩ : Addr).add (i * sz)) sz = some cs' ∧ cs'[j]? = some u) → c[off + i * sz + j]? = some u := by
        intro i j hi hj u ⟨cs', hc', hu⟩
        obtain ⟨_, _, hg⟩ := World.cells?_some hc'
        have := hg j hj
        rw [hu] at this
        have e1 : ((⟨b, off, none⟩ : Addr).add (i * sz)).add j = ⟨b, off + i * sz + j, none⟩ := by
          unfold Addr.add
          split <;> split <;> simp_all
        rw [e1] at this
        unfold World.cell? at this
        simp only [hb] at this
        simpa using this
      have hvs : ∀ i j : Nat, ∃ v : Value, ∀ y, i < len → (mk (X i))[j]? = some y → c[off + i * sz + j]? = some v ∧ RoT w (fun b => b < w.heap.size) v y := by
        intro i j
        by_cases hi : i < len
        · obtain ⟨cs', hc', _, hl', hr⟩ := hX i hi
          cases hy : (mk (X i))[j]? with
          | none => exact ⟨.bool true, fun y _ h => by cases h⟩
          | some y =>
            obtain ⟨u, hu, hr'⟩ := hr j y hy
            have hj : j < sz := by
              have := (List.getElem?_eq_some_iff.mp hy).1
              rw [hmk] at this; exact this
            exact ⟨u, fun y' _ h => by cases h; exact ⟨hcellAt i j hi hj u ⟨cs', hc', hu⟩, hr'⟩⟩
        · exact ⟨.bool true, fun y h => absurd h hi⟩
      have hvs2 : ∀ i : Nat, ∃ v : Nat → Value, ∀ j y, i < len → (mk (X i))[j]? = some y → c[off + i * sz + j]? = some (v j) ∧ RoT w (fun b => b < w.heap.size) (v j) y := fun i => Classical.axiomOfChoice (hvs i)
      obtain ⟨vs, hvs3⟩ := Classical.axiomOfChoice hvs2
      exact .bl _ b off len cap sz _ c t' fr vs hlt hb hl (fun i _ => hmk _) (fun i j y hi hj => (hvs3 i j y hi hj).1) (fun i j y hi hj => (hvs3 i j y hi hj).2)

/-- Fields from a place on. -/
def RdF (P : Program) (fs : List Field) (off tot : Nat) {α : Type} (Q : α → Prop) (mk : α → List DV) : Prop :=
  ∀ (H : Type) (enc : TypeId × Value → H) (w : World) (n : Nat) (cs : List Value) (xs : List (DataW H × List MemPlace)), cs.length = tot → xs.length = fs.length →
    (∀ (i : Nat) (f : Field), fs[i]? = some f → DataW.trod enc P w 0 (fun _ => true) true n f.type ((cs.drop f.offset).take (P.cellsOf f.type)) = xs[i]?) →
    (∀ m ∈ DataW.weightsEach P (fs.map (·.type)) (xs.map (·.1)), m ≤ reachBytes) →
    ∃ x, Q x ∧ (cs.drop off).length = (mk x).length ∧ ∀ (j : Nat) (y : DV), (mk x)[j]? = some y → ∃ u, (cs.drop off)[j]? = some u ∧ RoT w (fun b => b < w.heap.size) u y
theorem rdF_nil {tot : Nat} : RdF P [] tot tot (fun _ : Unit => True) (fun _ => []) := by
  intro H enc w n cs xs hl _ _ _
  exact ⟨(), trivial, by simp [hl], fun j y h => by simp at h⟩
theorem rdF_cons {f : Field} {fs : List Field} {off tot c : Nat} {α β : Type} {Q : α → Prop} {mk : α → List DV} {Q' : β → Prop} {mk' : β → List DV} (ho : f.offset = off) (hc : P.cellsOf f.type = c) (hle : off + c ≤ tot)
    (h : Rd P f.type Q mk) (hf : RdF P fs (off + c) tot Q' mk') : RdF P (f :: fs) off tot (fun x : α × β => Q x.1 ∧ Q' x.2) (fun x => mk x.1 ++ mk' x.2) := by
  intro H enc w n cs xs hl hxl hx hw
  cases xs with
  | nil => simp at hxl
  | cons x0 xs =>
    have h0 := hx 0 f rfl
    rw [ho, hc] at h0
    simp only [List.getElem?_cons_zero] at h0
    simp only [List.map_cons, DataW.weightsEach, List.mem_append] at hw
    obtain ⟨a, q1, l1, r1⟩ := h H enc w n _ _ _ h0 (fun m hm => hw m (.inl hm))
    obtain ⟨b, q2, l2, r2⟩ := hf H enc w n cs xs hl (by simpa using hxl) (fun i g hg => by simpa using hx (i + 1) g (by simpa using hg)) (fun m hm => hw m (.inr hm))
    have hlen : ((cs.drop off).take c).length = c := by simp; omega
    have hdrop : cs.drop off = (cs.drop off).take c ++ cs.drop (off + c) := by rw [← List.drop_drop, List.take_append_drop]
    refine ⟨(a, b), ⟨q1, q2⟩, ?_, fun j y hy => ?_⟩
    · rw [hdrop, List.length_append, List.length_append, l1, l2]
    · rw [hdrop]
      rcases Nat.lt_or_ge j (mk a).length with hj | hj
      · rw [List.getElem?_append_left hj] at hy
        obtain ⟨u, hu, hr⟩ := r1 j y hy
        exact ⟨u, by rw [List.getElem?_append_left (by rw [l1]; exact hj)]; exact hu, hr⟩
      · rw [List.getElem?_append_right hj] at hy
        obtain ⟨u, hu, hr⟩ := r2 _ y hy
        exact ⟨u, by rw [List.getElem?_append_right (by rw [l1]; exact hj), l1]; exact hu, hr⟩
theorem rd_struct {fs : Array Field} {tot : Nat} (ht : P.underlying t = some (.struct fs)) (hc : P.cellsOf t = tot) {α : Type} {Q : α → Prop} {mk : α → List DV} (h : RdF P fs.toList 0 tot Q mk) : Rd P t Q mk := by
  intro H enc w fuel cs d ps hd hw
  obtain ⟨xs, n, _, hx, hl, hxl, hf⟩ := DataW.trod_struct ht hd
  cases hx
  obtain ⟨x, q, l, r⟩ := h H enc w n cs xs (by rw [hl, hc]) (by simpa using hxl) (fun i f hi => hf i f (by simpa using hi)) (fun m hm => hw m (by simpa [DataW.weights, ht] using hm))
  exact ⟨x, q, by simpa using l, fun j y hy => by simpa using r j y hy⟩
/-- The same, told in other words. -/
theorem rd_as {α β : Type} {Q : α → Prop} {mk : α → List DV} {Q' : β → Prop} {mk' : β → List DV} (h : Rd P t Q mk) (f : α → β) (hq : ∀ x, Q x → Q' (f x)) (hm : ∀ x, mk' (f x) = mk x) : Rd P t Q' mk' := by
  intro H enc w fuel cs d ps hd hw
  obtain ⟨x, q, l, r⟩ := h H enc w fuel cs d ps hd hw
  exact ⟨f x, hq x q, by rw [hm]; exact l, fun j y hy => r j y (by rw [← hm]; exact hy)⟩
end

/-! ### A law's call -/
section
variable {P : Program} {f : FuncId} {fn : Func} {c : Code}
/-- A contract's call, in the world's words: a law that answers true and changes nothing. -/
theorem below_of_pret {das : List DP} (hf : P.funcs[f]? = some fn) (hname : (fn.name == "runtime.NumGoroutine") = false) (hb : fn.body = some c) (h : PRet P f (das.map AM.r) [.c (.s (.bool true))] []) (w : World) (us : List Value)
    (hl : us.length = das.length) (ha : ∀ (i : Nat) (d : DP), das[i]? = some d → ∃ u, us[i]? = some u ∧ ArgT w (fun b => b < w.heap.size) d u) : Calls P f us.toArray w fun e w' => e = .returned (.bool true) ∧ Go.RowKit.Below w.heap.size w w' := by
  have hins : ∀ (das : List DP) (us : List Value), us.length = das.length → (∀ (i : Nat) (d : DP), das[i]? = some d → ∃ u, us[i]? = some u ∧ ArgT w (fun b => b < w.heap.size) d u) → InsT w (AnyL []) (das.map AM.r) us [] := by
    intro das
    induction das with
    | nil => intro us hl _; cases us with
      | nil => exact .nil
      | cons u us => simp at hl
    | cons d das ih => intro us hl ha; cases us with
      | nil => simp at hl
      | cons u us =>
        obtain ⟨u', hu, ha0⟩ := ha 0 d rfl
        simp at hu; subst hu
        exact .r _ d u _ us [] ha0 (fun b hb => ⟨hb, anyL_nil b⟩) (ih us (by simpa using hl) fun i d' hd => by simpa using ha (i + 1) d' (by simpa using hd))
  rcases h w us [] (hins das us hl ha) List.Pairwise.nil (fun x hx => absurd hx (anyL_nil x)) with ⟨u, w', h1, _⟩ | ⟨_, h2⟩
  · rw [run_callFunc hf hname hb] at h1
    cases h1
  · refine h2.mono fun e w' ⟨u, he, rs, outs, vs, Gs, Hs, ⟨hr1, hr2⟩, hu, hown, _, _, _, hk⟩ => ?_
    subst hr1
    have hu' : u = .bool true := by
      cases hown with
      | cons F d v ds us Fs h ht =>
        cases ht
        rw [hu]
        cases h
        rfl
    rw [he, hu']
    exact ⟨rfl, hk.os, hk.tape, hk.output, hk.size, fun b hb => hk.old b hb (fun h => absurd h (anyL_nil b))⟩
end
end Go.AW
