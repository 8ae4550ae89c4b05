/- The abstract calculus, part 13: append. -/
import Derived.Laws.Slices
import Derived.Laws.BytesString
import Derived.Laws.BytesArg
import Derived.WalkSpells
import Derived.Laws.Small
import Derived.LaidEqlPtr
import Derived.Lib.Builder
import Derived.Laws.Pointers
import Derived.Orders
import Derived.Laws.Strings
import Derived.Test.YtjnjmbenbbcdjaaDoorG1
set_option linter.unusedVariables false
set_option linter.unusedSimpArgs false
set_option linter.unusedVariables false
set_option linter.unusedSimpArgs false
namespace Go.AW

section
variable {P : Program} {w0 w w' : World} {mine : FP} {γ γ' : Ghost} {σ : St} {a : Act} {k : V → St → Prop} {E : Env}

/-- append where there is room. -/
theorem run_append_in (t t2 ty e : TypeId) (sz : Nat) (A : Option Addr) (n c m : Nat) (x : Value) (new : List Value) (ht : P.underlying t = some (.slice e)) (h2 : P.underlying t2 = some .string ∨ ∃ e2, P.underlying t2 = some (.slice e2)) (hsz : (sizeOf e).run P w = .ok sz w)
    (hl : (Builtin.lenOf x).run P w = .ok m w) (hf : (Builtin.firstCells sz m x).run P w = .ok new.toArray w) (hle : n + m ≤ c) (w2 : World)
    (hst : ∀ ad, A = some ad → (storeCells (ad.add (n * sz)) new).run P w = .ok () w2) (hno : A = none → w2 = w) :
    (Builtin.append_ #[t, t2] ty #[.slice A n c, x]).run P w = .ok (.slice A (n + m) c) w2 := by
  cases A with
  | none =>
    cases hno rfl
    rcases h2 with h2 | ⟨e2, h2⟩ <;> simp [Builtin.append_, run_underlying ht, run_underlying h2, hsz, hl, hf, hle]
  | some ad =>
    have hs := hst ad rfl
    rcases h2 with h2 | ⟨e2, h2⟩ <;> simp [Builtin.append_, run_underlying ht, run_underlying h2, hsz, hl, hf, hle, hs]

/-- append where there is none. -/
theorem run_append_new (t t2 ty e : TypeId) (i : TypeInfo) (z : Value) (A : Option Addr) (n c m : Nat) (x : Value) (old new : List Value) (ht : P.underlying t = some (.slice e)) (h2 : P.underlying t2 = some .string ∨ ∃ e2, P.underlying t2 = some (.slice e2))
    (hi : P.info? e = some i) (hz : i.zero = some z)
    (hl : (Builtin.lenOf x).run P w = .ok m w) (hf : ∀ w1 : World, w1.heap = w.heap → (Builtin.firstCells i.size m x).run P w1 = .ok new.toArray w1)
    (hfo : ∀ w1 : World, w1.heap = w.heap → (Builtin.firstCells i.size n (.slice A n c)).run P w1 = .ok old.toArray w1) (hle : c < n + m) (hb : 1 ≤ i.bytes) (hroom : (n + m) * i.bytes ≤ 140737488355328) :
    ∃ cap rest, n + m ≤ cap ∧ rest = Builtin.zeroCells z.cells (cap - (n + m)) ∧ (Builtin.append_ #[t, t2] ty #[.slice A n c, x]).run P w = .ok (.slice (some ⟨w.heap.size, 0, none⟩) (n + m) cap) (w.drew.alloc (.cells ((old ++ new).toArray ++ rest) e)) := by
  have hn : ¬ (n + m ≤ c) := by omega
  have hnm : n + m ≤ 140737488355328 := Nat.le_trans (Nat.le_mul_of_pos_right _ hb) hroom
  have h63 : ¬ (9223372036854775807 < ((n : Int) + (m : Int))) := by omega
  have hfit := growslice_fits hle hroom
  have h48 : ¬ (281474976710656 < Builtin.nextslicecap (n + m) c * i.bytes) := by omega
  have hi0 : i.bytes ≠ 0 := by omega
  refine ⟨grownCap w (n + m) c e, _, ?_, rfl, ?_⟩
  · simp only [grownCap, Question.cut]; omega
  · rcases h2 with h2 | ⟨e2, h2⟩ <;> simp [Builtin.append_, run_underlying ht, run_underlying h2, hl, hn, h63, h48, hi0, hi, hz, Question.forced, hf w.drew rfl, hfo w.drew rfl, newRow, grownCap, typeInfo, zeroValue, sizeOf] <;> (congr 2; apply Array.ext'; simp)

/-- append of a number of zero rows to a nil slice. -/
theorem run_append_make (t t2 ty e : TypeId) (i : TypeInfo) (z : Value) (kk kn : IntKind) (n : Int) (ht : P.underlying t = some (.slice e)) (h2 : P.underlying t2 = some (.int kk)) (hi : P.info? e = some i) (hz : i.zero = some z) (hs : 1 ≤ i.size) (h0 : 0 ≤ n) (hb : 1 ≤ i.bytes) (hroom : n.toNat * i.bytes ≤ 140737488355328) :
    (n = 0 → (Builtin.append_ #[t, t2] ty #[.slice none 0 0, .int kn n]).run P w = .ok (.slice none 0 0) w) ∧
    (0 < n → ∃ cap rest, n.toNat ≤ cap ∧ rest = Builtin.zeroCells z.cells (cap - n.toNat) ∧ (Builtin.append_ #[t, t2] ty #[.slice none 0 0, .int kn n]).run P w = .ok (.slice (some ⟨w.heap.size, 0, none⟩) n.toNat cap) (w.drew.alloc (.cells (Builtin.zeroCells z.cells n.toNat ++ rest) e))) := by
  have hle : n.toNat ≤ 140737488355328 := Nat.le_trans (Nat.le_mul_of_pos_right _ hb) hroom
  have wn : IntKind.wrap .i64 n = n := IntWalk.i64_in n (by omega)
  have hneg : ¬ n < 0 := by omega
  have hmul : ¬ (281474976710656 < n * (i.bytes : Int)) := by
    have h3 : (n.toNat : Int) = n := by omega
    rw [← h3, ← Int.natCast_mul]
    omega
  constructor
  · rintro rfl
    simp [Builtin.append_, run_underlying ht, run_underlying h2, hi, hz, typeInfo, sizeOf, asInt, asIntOf, wn, zeroValue]
  · intro hp
    have hfit := growslice_fits (need := n.toNat) (old := 0) (by omega) hroom
    have h48 : ¬ (281474976710656 < Builtin.nextslicecap n.toNat 0 * i.bytes) := by omega
    have h63 : ¬ (9223372036854775807 < (n.toNat : Int)) := by omega
    have hns : ¬ (n.toNat * i.size = 0) := by
      have : 0 < n.toNat * i.size := Nat.mul_pos (by omega) hs
      omega
    have hn0 : ¬ (n.toNat = 0) := by omega
    have hs0 : ¬ (i.size = 0) := by omega
    have hi0 : i.bytes ≠ 0 := by omega
    have hnle : ¬ (n ≤ 0) := by omega
    have hmx : ¬ (9223372036854775807 < max n 0) := by omega
    refine ⟨grownCap w n.toNat 0 e, _, ?_, rfl, ?_⟩
    · simp only [grownCap, Question.cut]; omega
    · simp [Builtin.append_, run_underlying ht, run_underlying h2, hi, hz, typeInfo, sizeOf, asInt, asIntOf, wn, zeroValue, hneg, hmul, hns, hn0, hs0, h48, h63, hi0, hnle, Question.forced, newRow, grownCap, Builtin.firstCells, hmx]
/-- The world behind the taking of a new row. -/
theorem drew_alloc (w : World) (o : Go.Obj) : WExt w (w.drew.alloc o) ∧ (w.drew.alloc o).heap.size = w.heap.size + 1 ∧ (w.drew.alloc o).heap[w.heap.size]? = some o ∧ (w.drew.alloc o).os = w.os ∧ (w.drew.alloc o).tape = w.tape ∧ (w.drew.alloc o).output = w.output ∧ ∀ b, b < w.heap.size → (w.drew.alloc o).heap[b]? = w.heap[b]? := by
  have hh : (w.drew.alloc o).heap = w.heap.push o := rfl
  refine ⟨fun b x hb => ?_, by simp [hh], by simp [hh], rfl, rfl, rfl, fun b hb => ?_⟩
  · rw [hh, Array.getElem?_push]
    have : b < w.heap.size := (Array.getElem?_eq_some_iff.mp hb).1
    rw [if_neg (by omega)]; exact hb
  · rw [hh, Array.getElem?_push, if_neg (by omega)]
end
end Go.AW
/- The abstract calculus, part 14: append, its soundness. -/
set_option linter.unusedVariables false
set_option linter.unusedSimpArgs false
namespace Go.AW

section
variable {P : Program} {w0 w w' : World} {mine : FP} {γ γ' : Ghost} {σ : St} {a : Act} {k : V → St → Prop} {E : Env}

theorem rv_map {γ γ' : Ghost} {w : World} {h : Leaf → Leaf} (hl : ∀ l u, RLeaf γ w l u → RLeaf γ' w (h l) u) {v : V} {u : Value} (hr : RV γ w v u) : RV γ' w (mapV h v) u := by
  have h1 : ∀ (v : V1) (u : Value), RV1 γ w v u → RV1 γ' w (mapV1 h v) u := by
    intro v u hr
    cases v with
    | lf l => exact hl l u hr
    | ag cs =>
      obtain ⟨us, hu, hc⟩ := hr
      refine ⟨us, hu, by simp [hc.1], fun j l hj => ?_⟩
      simp only [List.getElem?_map, Option.map_eq_some_iff] at hj
      obtain ⟨l0, hl0, rfl⟩ := hj
      obtain ⟨x, hx, hx2⟩ := hc.2 j l0 hl0
      exact ⟨x, hx, hl _ _ hx2⟩
  cases v with
  | one v => exact h1 v u hr
  | tup vs =>
    obtain ⟨us, hu, hlen, hc⟩ := hr
    refine ⟨us, hu, by simp [hlen], fun j l hj => ?_⟩
    simp only [List.getElem?_map, Option.map_eq_some_iff] at hj
    obtain ⟨l0, hl0, rfl⟩ := hj
    obtain ⟨x, hx, hx2⟩ := hc j l0 hl0
    exact ⟨x, hx, h1 _ _ hx2⟩
  | bad => trivial
theorem zeroCells_size (z : Array Value) (n : Nat) : (Builtin.zeroCells z n).size = n * z.size := by simp [Builtin.zeroCells]

theorem cat_get {old new : List Value} {rest : Array Value} {j : Nat} (h : j < old.length + new.length) : ((old ++ new).toArray ++ rest)[j]? = (old ++ new)[j]? := by
  rw [Array.getElem?_append_left (by simpa using h)]
  simp

theorem row_lt {i n sz j : Nat} (hi : i < n) (hj : j < sz) : i * sz + j < n * sz := by
  have : i * sz + sz ≤ n * sz := by rw [← Nat.succ_mul]; exact Nat.mul_le_mul_right _ hi
  omega

theorem app_fin {d t p af g} {s x : Operand} {t1 t2 : TypeId} {v : Value} (hr : (Builtin.append_ #[t1, t2] t #[a.eval s, a.eval x]).run P w = .ok v w') {V : V} {σ' : St} {γ' : Ghost} (hk : k V σ') (hR : Rel w0 mine γ' σ' a w') (hv : RV γ' w' V v) :
    Does P w0 mine a w ⟨d, .call { callee := .builtin .append, args := #[s, x], argTypes := #[t1, t2] }, t, p, af, g⟩ k := by
  refine .inl ⟨v, w', ?_, V, σ', γ', hk, hR, hv⟩
  simp [execOp, resolve, invoke, builtin, hr]

theorem does_append (hE : EnvOk P E) (R : Rel w0 mine γ σ a w) {d ty p af gd t t2} {s x : Operand} (h2 : P.underlying t2 = some .string ∨ ∃ e2, P.underlying t2 = some (.slice e2))
    (h : appendP std E σ t (evA σ s) (evA σ x) k) : Does P w0 mine a w ⟨d, .call { callee := .builtin .append, args := #[s, x], argTypes := #[t, t2] }, ty, p, af, gd⟩ k := by
  unfold appendP at h
  split at h
  case h_2 => exact h.elim
  rename_i e hk
  split at h
  case h_2 => exact h.elim
  rename_i sz hke hsz
  change (E e).size = sz + 1 at hsz
  obtain ⟨hby, h⟩ := h
  have hby := Nat.le_of_ble_eq_true hby
  have hT := hE t (by rw [hk]; simp)
  have hTe := hE e (okK_ne hke)
  obtain ⟨i, hi, hisz, hib, z, hz, hzc⟩ := hTe.run_info
  rw [hsz] at hisz
  have hzs : z.cells.size = sz + 1 := by rw [← hsz, ← hTe.len, ← hzc]; simp
  obtain ⟨m, g, σ1, hf, γ1, new, G, hK, T, S⟩ := rowsIn_sound (P := P) (sz := sz + 1) R (Nat.succ_pos sz) (R.ev x) h
  obtain ⟨ls, σ2, γ2, hK, R1, hls, hfree⟩ := onto_sound T.R (rv_map (fun l u hl => T.leaf l u hl) (R.ev s)) hK
  have hF2 := hfree _ T.free
  have hGf : ∀ i j x, G i j x → (∀ i' oi, look σ2.store i' = some oi → ¬ γ2.fp i' x) ∧ ¬ γ2.ro x ∧ x < w.heap.size ∧ (w0.heap.size ≤ x ∨ mine x) := fun i j x hx => hF2 x ⟨i, j, hx⟩
  have hrow : ∀ i0 j0 (d0 : DV), i0 < m → (g i0)[j0]? = some d0 → i0 * (sz + 1) + j0 < m * (sz + 1) := fun i0 j0 d0 h1 h2 => row_lt h1 (by rw [← S.rlen i0 h1]; exact (List.getElem?_eq_some_iff.mp h2).1)
  split at hK
  · -- a nil slice
    have hsv : a.eval s = .slice none 0 0 := hls.2
    obtain ⟨hroom, hK⟩ := hK
    have hroom : m * (E e).bytes ≤ 140737488355328 := by simpa [std] using hroom
    rcases Nat.eq_zero_or_pos m with h0 | h0
    · subst h0
      have hnew : new = [] := List.eq_nil_of_length_eq_zero (by rw [S.nlen]; simp)
      have hrun := run_append_in (P := P) (w := w) t t2 ty e (sz + 1) none 0 0 0 (a.eval x) new (hT.sl hk) h2 (hsz ▸ hTe.run_size w) S.len (S.run w rfl) (by omega) w (by simp) (fun _ => rfl)
      refine app_fin (by rw [hsv]; exact hrun) hK (R1.fresh2 (fun b o h => h) R1.st.keep (Nat.le_refl _) ⟨none, 0, sz + 1, 0, 0⟩ (fun _ => False) _ ⟨rfl, rfl, rfl⟩ (fun b hb => hb.elim)) ?_
      exact ⟨rfl, ⟨none, 0, sz + 1, 0, 0⟩, none, 0, by simp [Ghost.add], rfl, Nat.le_refl _, by simp, by simp, fun h => absurd h (Nat.lt_irrefl 0)⟩
    · obtain ⟨cap, rest, hcap, hrest, hrun⟩ := run_append_new (P := P) (w := w) t t2 ty e i z none 0 0 m (a.eval x) [] new (hT.sl hk) h2 hi hz S.len (by rw [hisz]; exact S.run) (fun w1 _ => by simp [Builtin.firstCells]) (by omega) (by omega) (by rw [hib]; simpa using hroom)
      simp only [Nat.zero_add, List.nil_append] at hrun hcap hrest
      obtain ⟨hx1, hx2, hx3, hx4, hx5, hx6, hx7⟩ := drew_alloc w (.cells (new.toArray ++ rest) e)
      have hsize : (new.toArray ++ rest).size = cap * (sz + 1) := by
        rw [Array.size_append, hrest, zeroCells_size, hzs]
        have : new.toArray.size = m * (sz + 1) := by simpa using S.nlen
        rw [this, ← Nat.add_mul]
        congr 1
        omega
      let γ' := γ2.add σ2.next ⟨some w.heap.size, 0, sz + 1, cap * (sz + 1), m⟩ (fun b => b = w.heap.size ∨ ∃ i j, G i j b)
      have hR : Rel w0 mine γ' (mkObj σ2 (.deep (sz + 1) m g)) a (w.drew.alloc (.cells (new.toArray ++ rest) e)) := by
        refine R1.fresh2 hx1 (R1.st.keep.later (by omega) hx4 hx5 hx6 hx7) (by omega) _ _ _ ?_ ?_
        · refine ⟨rfl, rfl, Nat.succ_pos _, new.toArray ++ rest, e, (0, 0), fun i0 j0 => new.getD (i0 * (sz + 1) + j0) undef, G, by simp [Ghost.add], hx3, .inl (Nat.le_refl _), by rw [hsize]; simp, Nat.mul_le_mul_right _ hcap, S.rlen, ?_, S.disj, ?_⟩
          · intro i0 j0 x0 hx0
            have := (hGf i0 j0 x0 hx0).2.2.1
            exact ⟨by simp only [Ghost.add, if_true]; exact .inr ⟨i0, j0, hx0⟩, by omega⟩
          · intro i0 j0 d0 hi0 hd0
            obtain ⟨v, hv, ho⟩ := S.val i0 j0 d0 hi0 hd0
            have hlt := hrow i0 j0 d0 hi0 hd0
            have e1 : new.getD (i0 * (sz + 1) + j0) undef = v := by rw [List.getD_eq_getElem?_getD, hv]; rfl
            dsimp only
            rw [e1]
            refine ⟨?_, ho.mono (fun _ hb => hb) (fun b o _ hb => hx1 b o hb)⟩
            rw [Array.getElem?_append_left (by simp [S.nlen]; omega)]
            simpa using hv
        · intro b hb
          rcases hb with rfl | ⟨i, j, hf⟩
          · refine ⟨fun i' oi hi' hf => ?_, fun hro => ?_, by omega, .inl R.st.keep.size⟩
            · have := (R1.st.fp i' oi hi' _ hf).1
              omega
            · have := R1.st.rolt _ hro
              omega
          · have := hGf i j b hf
            exact ⟨this.1, this.2.1, by have := this.2.2.1; omega, this.2.2.2⟩
      refine app_fin (by rw [hsv]; exact hrun) hK hR ?_
      exact ⟨rfl, ⟨some w.heap.size, 0, sz + 1, cap * (sz + 1), m⟩, _, cap, by simp [γ', Ghost.add], rfl, hcap, by simp, by simp, fun _ => ⟨w.heap.size, rfl, by simp⟩⟩
  · -- an own slice
    rename_i id off len
    split at hK
    case h_2 => exact hK.elim
    rename_i sz' n f hst
    obtain ⟨hze, hend, hroom, hK⟩ := hK
    have hze := Nat.eq_of_beq_eq_true hze
    subst hze
    have hend : off + len ≤ n := by simpa [std] using hend
    have hroom : (len + m) * (E e).bytes ≤ 140737488355328 := by simpa [std] using hroom
    obtain ⟨g1, A, cap, hg, hsv, hle, hgn, htot, had⟩ := hls.2
    obtain ⟨g1', hg', ho⟩ := R1.st.objs id _ hst
    rw [hg] at hg'; cases hg'
    have hg1 : γ2.g id = some g1 := hg
    have hfpid := R1.st.fp id _ hst
    have hcross : ∀ i j x, G i j x → ¬ γ2.fp id x := fun i j x hx => (hGf i j x hx).1 id _ hst
    let F : FP := fun x => γ2.fp id x ∨ ∃ i j, G i j x
    have hF0 : ∀ b, F b → (γ2.fp id b ∨ (∀ i oi, look σ2.store i = some oi → ¬ γ2.fp i b) ∧ ¬ γ2.ro b) ∧ b < w.heap.size ∧ (w0.heap.size ≤ b ∨ mine b) := by
      intro b hb
      rcases hb with hb | ⟨i, j, hb⟩
      · exact ⟨.inl hb, hfpid b hb⟩
      · have := hGf i j b hb
        exact ⟨.inr ⟨this.1, this.2.1⟩, this.2.2⟩
    by_cases hfit : len + m ≤ cap
    · rcases Nat.eq_zero_or_pos cap with h0 | h0
      · -- nothing at all
        have hl0 : len = 0 := by omega
        have hm0 : m = 0 := by omega
        subst h0 hl0 hm0
        have hnew : new = [] := List.eq_nil_of_length_eq_zero (by rw [S.nlen]; simp)
        have hrun := run_append_in (P := P) (w := w) t t2 ty e (sz + 1) A 0 0 0 (a.eval x) new (hT.sl hk) h2 (hsz ▸ hTe.run_size w) S.len (S.run w rfl) (by omega) w (fun ad _ => by rw [hnew]; rfl) (fun _ => rfl)
        have hR := R1.write (o' := .deep (sz + 1) 0 (std.catF 0 (shF std off f) 0 g)) (g' := ⟨none, 0, sz + 1, 0, 0⟩) (F := fun _ => False) (w' := w) (fun i => i = id) (fun i => i = id) (killA id) (kills_A id) hst hg1 (fun h => absurd rfl h) (fun h => absurd rfl h) (fun b hb => hb.elim)
          (fun b x _ h => h) (Nat.le_refl _) R1.st.keep (by exact ⟨rfl, rfl, rfl⟩)
        refine app_fin (by rw [hsv]; exact hrun) hK hR ?_
        exact ⟨rfl, ⟨none, 0, sz + 1, 0, 0⟩, A, 0, by simp [Ghost.grow], rfl, Nat.le_refl _, by simp [std], by simp, fun h => absurd h (Nat.lt_irrefl 0)⟩
      · -- in place
        obtain ⟨b, hb, hA⟩ := had h0
        subst hA
        simp only [RObj, hb] at ho
        obtain ⟨hn, hgs, hs0', cs, t', fr, vs, G1, hfp, hh, hunf, htot', hnt, hlen, hG, hGd, hv⟩ := ho
        rw [hgs] at htot hnt hlen hv
        have hcaps : (off + cap) * (sz + 1) = off * (sz + 1) + len * (sz + 1) + (cap - len) * (sz + 1) := by rw [← Nat.add_mul, ← Nat.add_mul]; congr 1; omega
        have hms : m * (sz + 1) ≤ (cap - len) * (sz + 1) := Nat.mul_le_mul_right _ (by omega)
        obtain ⟨cs', hr, hcs, hc⟩ := run_storeCells_U P b (g1.base + off * (sz + 1) + len * (sz + 1)) t' fr new 0 cs w hh hunf (by rw [S.nlen]; omega) S.one
        rw [S.nlen] at hc
        simp only [Nat.add_zero] at hc
        have hrun := run_append_in (P := P) (w := w) t t2 ty e (sz + 1) (some ⟨b, g1.base + off * g1.sz, none⟩) len cap m (a.eval x) new (hT.sl hk) h2 (hsz ▸ hTe.run_size w) S.len (S.run w rfl) hfit (w.setRow b cs')
          (fun ad had => by cases had; rw [add_at, hgs]; exact hr) (fun h => by cases h)
        have hblt := hfpid b hfp
        have hbw : b < w.heap.size := hblt.1
        have hext : ∀ b' (x : Go.Obj), ¬ γ2.fp id b' → w.heap[b']? = some x → (w.setRow b cs').heap[b']? = some x := fun b' x hne hx => by
          rw [setRow_other w b b' cs' (by rintro rfl; exact hne hfp)]; exact hx
        have hother : ∀ b' (x : Go.Obj), b' ≠ b → w.heap[b']? = some x → (w.setRow b cs').heap[b']? = some x := fun b' x hne hx => by
          rw [setRow_other w b b' cs' hne]; exact hx
        obtain ⟨c1, vs', G', c2, c3, c4⟩ := cat_rows (w' := w.setRow b cs') (F := F) (b := b) (cs := cs') (base := g1.base + off * (sz + 1)) (sz := sz + 1) (len := len) (m := m) (f := shF std off f) (g := g) (G1 := fun i j => G1 (off + i) j) (G2 := G)
          (fun i0 h1 => by rw [shF_std]; exact hlen _ (by omega)) S.rlen (fun i0 j0 x0 hx0 => ⟨.inl (hG _ _ x0 hx0).1, (hG _ _ x0 hx0).2⟩)
          (fun i0 j0 x0 hx0 => ⟨.inr ⟨i0, j0, hx0⟩, by rintro rfl; exact hcross _ _ _ hx0 hfp⟩)
          (fun i0 j0 i1 j1 x0 h1 h2 => by have := hGd _ _ _ _ x0 h1 h2; omega) S.disj
          (fun i0 j0 i1 j1 x0 h1 h2 => hcross _ _ _ h2 (hG _ _ x0 h1).1)
          (fun i0 j0 d0 hi0 hd0 => by
            rw [shF_std] at hd0
            obtain ⟨h1, h3⟩ := hv (off + i0) j0 d0 (by omega) hd0
            have hj0 : j0 < sz + 1 := by rw [← hlen (off + i0) (by omega)]; exact (List.getElem?_eq_some_iff.mp hd0).1
            have hlt := row_lt hi0 hj0
            refine ⟨_, ?_, h3.mono (fun _ h => h) (fun b' x hb' hx => hother b' x (hG _ _ b' hb').2 hx)⟩
            rw [hc, if_neg (by omega), ← h1]
            congr 1
            rw [Nat.add_mul]
            omega)
          (fun i0 j0 d0 hi0 hd0 => by
            obtain ⟨v, hv0, ho0⟩ := S.val i0 j0 d0 hi0 hd0
            have hlt := hrow i0 j0 d0 hi0 hd0
            refine ⟨v, ?_, ho0.mono (fun _ h => h) (fun b' x hb' hx => ?_)⟩
            · have e1 : (len + i0) * (sz + 1) = len * (sz + 1) + i0 * (sz + 1) := Nat.add_mul _ _ _
              rw [hc, if_pos (by omega), ← hv0]
              congr 1
              omega
            · exact hother b' x (by rintro rfl; exact hcross _ _ _ hb' hfp) hx)
        have hoc : off * (sz + 1) + cap * (sz + 1) = (off + cap) * (sz + 1) := (Nat.add_mul _ _ _).symm
        have hR := R1.write (o' := .deep (sz + 1) (std.addN len m) (std.catF len (shF std off f) m g)) (g' := ⟨some b, g1.base + off * (sz + 1), sz + 1, cap * (sz + 1), len + m⟩) (F := F) (w' := w.setRow b cs') (fun i => i = id) (fun i => i = id) (killA id) (kills_A id) hst hg1 (fun h => absurd rfl h) (fun h => absurd rfl h)
          (fun b' hb' => by simpa using hF0 b' hb') hext (by simp) (keep_setRow R1.st.keep cs' hblt.2) (by
            refine ⟨rfl, rfl, Nat.succ_pos _, cs', t', fr, vs', G', by simp only [Ghost.grow, if_true]; exact .inl hfp, setRow_heap w b cs cs' t' fr hh, by rw [hcs]; exact hunf, by rw [hcs]; dsimp only; omega, Nat.mul_le_mul_right _ hfit, c1, ?_, c3, c4⟩
            simp only [Ghost.grow, if_true]
            exact c2)
        refine app_fin (by rw [hsv]; exact hrun) hK hR ?_
        exact ⟨rfl, ⟨some b, g1.base + off * (sz + 1), sz + 1, cap * (sz + 1), len + m⟩, _, cap, by simp [Ghost.grow], rfl, hfit, by simp [std], by simp, fun _ => ⟨b, rfl, by simp [hgs]⟩⟩
    · -- a new row
      have hold : ∃ old : List Value, old.length = len * (sz + 1) ∧ (∀ w1 : World, w1.heap = w.heap → (Builtin.firstCells (sz + 1) len (.slice A len cap)).run P w1 = .ok old.toArray w1) ∧
          ∃ G1 : Nat → Nat → FP, (∀ i0, i0 < len → (shF std off f i0).length = sz + 1) ∧ (∀ i0 j0 x0, G1 i0 j0 x0 → γ2.fp id x0) ∧ (∀ i0 j0 i1 j1 x0, G1 i0 j0 x0 → G1 i1 j1 x0 → i0 = i1 ∧ j0 = j1) ∧
          ∀ i0 j0 d0, i0 < len → (shF std off f i0)[j0]? = some d0 → ∃ v, old[i0 * (sz + 1) + j0]? = some v ∧ OwnT w (G1 i0 j0) v d0 := by
        rcases Nat.eq_zero_or_pos cap with h0 | h0
        · have hl0 : len = 0 := by omega
          subst h0 hl0
          refine ⟨[], by simp, fun w1 _ => ?_, fun _ _ _ => False, fun i0 hi0 => absurd hi0 (Nat.not_lt_zero i0), fun i0 j0 x0 hx => hx.elim, fun i0 j0 i1 j1 x0 hx => hx.elim, fun i0 j0 d0 hi0 => absurd hi0 (Nat.not_lt_zero i0)⟩
          cases A with
          | none => simp [Builtin.firstCells]
          | some ad =>
            have := run_loadCells_list (P := P) w1 ad [] (by simp)
            simpa [Builtin.firstCells] using this
        · obtain ⟨b, hb, hA⟩ := had h0
          subst hA
          simp only [RObj, hb] at ho
          obtain ⟨hn, hgs, hs0', cs, t', fr, vs, G1, hfp, hh, hunf, htot', hnt, hlen, hG, hGd, hv⟩ := ho
          rw [hgs] at htot hnt hlen hv
          let old := (List.range (len * (sz + 1))).map fun q => vs (off + q / (sz + 1)) (q % (sz + 1))
          have hlold : old.length = len * (sz + 1) := by simp [old]
          have hgold : ∀ i0 j0, i0 < len → j0 < sz + 1 → old[i0 * (sz + 1) + j0]? = some (vs (off + i0) j0) := by
            intro i0 j0 hi0 hj0
            simp only [old, List.getElem?_map, List.getElem?_range (row_lt hi0 hj0), Option.map_some, (divmod hj0).1, (divmod hj0).2]
          have hd0 : ∀ i0 j0, i0 < len → j0 < sz + 1 → ∃ d0, (f (off + i0))[j0]? = some d0 := fun i0 j0 hi0 hj0 => ⟨_, List.getElem?_eq_getElem (by rw [hlen (off + i0) (by omega)]; exact hj0)⟩
          refine ⟨old, hlold, fun w1 hw1 => ?_, fun i0 j0 => G1 (off + i0) j0, fun i0 hi0 => by rw [shF_std]; exact hlen _ (by omega), fun i0 j0 x0 hx => (hG _ _ x0 hx).1, fun i0 j0 i1 j1 x0 h1 h2 => by have := hGd _ _ _ _ x0 h1 h2; omega, ?_⟩
          · have := run_loadCells_list (P := P) w1 ⟨b, g1.base + off * g1.sz, none⟩ old (by
              intro q v hq
              have hq' : q < len * (sz + 1) := by have := (List.getElem?_eq_some_iff.mp hq).1; rwa [hlold] at this
              have hqi : q / (sz + 1) < len := (Nat.div_lt_iff_lt_mul (Nat.succ_pos _)).mpr hq'
              have hqj : q % (sz + 1) < sz + 1 := Nat.mod_lt _ (Nat.succ_pos _)
              have hqe : q / (sz + 1) * (sz + 1) + q % (sz + 1) = q := Nat.div_add_mod' q (sz + 1)
              obtain ⟨d0, hd0⟩ := hd0 _ _ hqi hqj
              have h1 := (hv _ _ d0 (by omega) hd0).1
              have h2 := hgold _ _ hqi hqj
              rw [hqe, hq] at h2
              cases h2
              rw [add_at, cell_heap hw1, cell_at hh, ← h1, hgs]
              congr 1
              rw [Nat.add_mul]
              omega)
            rw [hlold] at this
            simpa [Builtin.firstCells] using this
          · intro i0 j0 d0 hi0 hd0
            rw [shF_std] at hd0
            have hj0 : j0 < sz + 1 := by rw [← hlen (off + i0) (by omega)]; exact (List.getElem?_eq_some_iff.mp hd0).1
            exact ⟨_, hgold i0 j0 hi0 hj0, (hv _ _ d0 (by omega) hd0).2⟩
      obtain ⟨old, hlold, hfold, G1, o1, o2, o3, o4⟩ := hold
      obtain ⟨cap', rest, hcap, hrest, hrun⟩ := run_append_new (P := P) (w := w) t t2 ty e i z A len cap m (a.eval x) old new (hT.sl hk) h2 hi hz S.len (by rw [hisz]; exact S.run) (by rw [hisz]; exact hfold) (by omega) (by omega) (by rw [hib]; exact hroom)
      obtain ⟨hx1, hx2, hx3, hx4, hx5, hx6, hx7⟩ := drew_alloc w (.cells ((old ++ new).toArray ++ rest) e)
      have hsize : ((old ++ new).toArray ++ rest).size = cap' * (sz + 1) := by
        rw [Array.size_append, hrest, zeroCells_size, hzs]
        have : (old ++ new).toArray.size = (len + m) * (sz + 1) := by simp [S.nlen, hlold, Nat.add_mul]
        rw [this, ← Nat.add_mul]
        congr 1
        omega
      let F' : FP := fun x => F x ∨ x = w.heap.size
      have hFlt : ∀ x, F x → x < w.heap.size := fun x hx => (hF0 x hx).2.1
      obtain ⟨c1, vs', G', c2, c3, c4⟩ := cat_rows (w' := w.drew.alloc (.cells ((old ++ new).toArray ++ rest) e)) (F := F') (b := w.heap.size) (cs := (old ++ new).toArray ++ rest) (base := 0) (sz := sz + 1) (len := len) (m := m) (f := shF std off f) (g := g) (G1 := G1) (G2 := G)
        o1 S.rlen (fun i0 j0 x0 hx0 => ⟨.inl (.inl (o2 _ _ x0 hx0)), by have := (hfpid x0 (o2 _ _ x0 hx0)).1; omega⟩)
        (fun i0 j0 x0 hx0 => ⟨.inl (.inr ⟨i0, j0, hx0⟩), by have := (hGf i0 j0 x0 hx0).2.2.1; omega⟩)
        o3 S.disj (fun i0 j0 i1 j1 x0 h1 h2 => hcross _ _ _ h2 (o2 _ _ x0 h1))
        (fun i0 j0 d0 hi0 hd0 => by
          obtain ⟨v, hv0, ho0⟩ := o4 i0 j0 d0 hi0 hd0
          have hlt := row_lt hi0 (show j0 < sz + 1 by rw [← o1 i0 hi0]; exact (List.getElem?_eq_some_iff.mp hd0).1)
          refine ⟨v, ?_, ho0.mono (fun _ h => h) (fun b' x _ hx => hx1 b' x hx)⟩
          rw [cat_get (by omega), List.getElem?_append_left (by omega), Nat.zero_add]
          exact hv0)
        (fun i0 j0 d0 hi0 hd0 => by
          obtain ⟨v, hv0, ho0⟩ := S.val i0 j0 d0 hi0 hd0
          have hlt := hrow i0 j0 d0 hi0 hd0
          have e1 : (len + i0) * (sz + 1) = len * (sz + 1) + i0 * (sz + 1) := Nat.add_mul _ _ _
          refine ⟨v, ?_, ho0.mono (fun _ h => h) (fun b' x _ hx => hx1 b' x hx)⟩
          rw [cat_get (by rw [S.nlen]; omega), List.getElem?_append_right (by omega), ← hv0]
          congr 1
          omega)
      have hR := R1.write (o' := .deep (sz + 1) (std.addN len m) (std.catF len (shF std off f) m g)) (g' := ⟨some w.heap.size, 0, sz + 1, cap' * (sz + 1), len + m⟩) (F := F') (w' := w.drew.alloc (.cells ((old ++ new).toArray ++ rest) e)) (fun i => i = id) (fun i => i = id) (killA id) (kills_A id) hst hg1 (fun h => absurd rfl h) (fun h => absurd rfl h)
        (fun b' hb' => by
          rcases hb' with hb' | rfl
          · have := hF0 b' hb'
            exact ⟨this.1, by omega, this.2.2⟩
          · refine ⟨.inr ⟨fun i' oi hi' hf => ?_, fun hro => ?_⟩, by omega, .inl R.st.keep.size⟩
            · have := (R1.st.fp i' oi hi' _ hf).1
              omega
            · have := R1.st.rolt _ hro
              omega)
        (fun b x _ hx => hx1 b x hx) (by omega) (R1.st.keep.later (by omega) hx4 hx5 hx6 hx7) (by
          refine ⟨rfl, rfl, Nat.succ_pos _, _, e, (0, 0), vs', G', by simp only [Ghost.grow, if_true]; exact .inr rfl, hx3, .inl (Nat.le_refl _), by rw [hsize]; simp, Nat.mul_le_mul_right _ hcap, c1, ?_, c3, c4⟩
          simp only [Ghost.grow, if_true]
          exact c2)
      refine app_fin (by rw [hsv]; exact hrun) hK hR ?_
      exact ⟨rfl, ⟨some w.heap.size, 0, sz + 1, cap' * (sz + 1), len + m⟩, _, cap', by simp [Ghost.grow], rfl, hcap, by simp [std], by simp, fun _ => ⟨w.heap.size, rfl, by simp⟩⟩
  · exact hK.elim
theorem does_buildSliceD (hE : EnvOk P E) (R : Rel w0 mine γ σ a w) {d ty p af g t e} {parts : Array (Nat × Operand)} {cs : List Leaf} {ds : List DV} {σ' : St} {h' : Leaf → Leaf} (hk : (E t).k = .sl e) (hke : okK (E e).k = true) (hps : partsV σ parts.toList = some [(0, cs)]) (hpos : 0 < (E e).size)
    (hlen : cs.length = (E e).size) (hn : (E e).size ≤ 16777216) (ht : takeCs std cs σ (fun l => l) = some (ds, σ', h')) (h : k (.one (.lf (.o σ'.next 0 1))) (mkObj σ' (.deep (E e).size 1 (fun _ => ds)))) :
    Does P w0 mine a w ⟨d, .buildSlice t 1 parts, ty, p, af, g⟩ k := by
  obtain ⟨cells, hr, hl⟩ := run_buildSlice (n := 1) hE R hk hke hps (by omega) hpos (by simp [hlen])
  have hc : RCells γ w cs cells.toList := Lay.cells (sz := (E e).size) (n := 1) (by simpa [layRows, setN] using hl)
  obtain ⟨γ', G, T, hdl, hGd, hv⟩ := takeCs_sound cs cells.toList σ γ (fun l => l) ds σ' h' R hc.1 (fun j l hj => hc.2 j l hj) ht
  have hcl : cells.size = (E e).size := by have := hc.1; simp at this; omega
  have hx : WExt w { w with heap := w.heap.push (.cells cells e) } := wext_push w _
  have hR : Rel w0 mine (γ'.add σ'.next ⟨some w.heap.size, 0, (E e).size, (E e).size, 1⟩ (fun b => b = w.heap.size ∨ ∃ j, G j b)) (mkObj σ' (.deep (E e).size 1 (fun _ => ds))) a { w with heap := w.heap.push (.cells cells e) } := by
    refine T.R.fresh2 hx (keep_push T.R.st.keep _) (by simp) _ _ _ ?_ ?_
    · refine ⟨rfl, rfl, hpos, cells, e, (0, 0), fun _ j => cells.toList.getD j undef, fun i j x => i = 0 ∧ G j x, by simp [Ghost.add], by simp, .inl (Nat.le_refl _), by simp [hcl], by simp, fun i _ => by simp only; rw [hdl, hlen], ?_, ?_, ?_⟩
      · rintro i j x ⟨_, hx0⟩
        have := (T.free x ⟨j, hx0⟩).2.2.1
        exact ⟨by simp only [Ghost.add, if_true]; exact .inr ⟨j, hx0⟩, by omega⟩
      · rintro i j i' j' x ⟨rfl, h1⟩ ⟨rfl, h2⟩
        exact ⟨rfl, hGd j j' x h1 h2⟩
      · intro i j d0 hi0 hd0
        obtain rfl : i = 0 := by omega
        obtain ⟨v, hv', ho⟩ := hv j d0 hd0
        have e1 : cells.toList.getD j undef = v := by rw [List.getD_eq_getElem?_getD, hv']; rfl
        dsimp only
        rw [e1]
        refine ⟨by simpa using hv', ho.mono (fun _ hb => ⟨rfl, hb⟩) (fun b o _ hb => hx b o hb)⟩
    · intro b hb
      rcases hb with rfl | ⟨j, hf⟩
      · refine ⟨fun i' oi hi' hf => ?_, fun hro => ?_, by simp, .inl T.R.st.keep.size⟩
        · have := (T.R.st.fp i' oi hi' _ hf).1
          omega
        · have := T.R.st.rolt _ hro
          omega
      · obtain ⟨q1, q2, q3, q4⟩ := T.free b ⟨j, hf⟩
        exact ⟨q1, q2, by simp; omega, q4⟩
  exact bs_fin hr h hR ⟨rfl, ⟨some w.heap.size, 0, (E e).size, (E e).size, 1⟩, _, 1, by simp [Ghost.add], rfl, Nat.le_refl _, by simp, by simp, fun _ => ⟨w.heap.size, rfl, by simp⟩⟩
theorem does_appendMk (hE : EnvOk P E) (R : Rel w0 mine γ σ a w) {d ty p af gd t t2 e kk} {s x : Operand} {n : Int} {ds : List DV} (hk2 : (E t2).k = .int kk) (hk : (E t).k = .sl e) (hke : okK (E e).k = true) (hs : evA σ s = .one (.lf .nil)) (hx : intV (evA σ x) = some n)
    (hpos : 0 < (E e).size) (h0 : 0 ≤ n) (hb : 1 ≤ (E e).bytes) (hr : n.toNat * (E e).bytes ≤ 140737488355328) (hz : allS zeroC (E e).zero = some ds)
    (h : k (.one (.lf (.o σ.next 0 (std.natI n)))) (mkObj σ (.deep (E e).size (std.natI n) (fun _ => ds)))) : Does P w0 mine a w ⟨d, .call { callee := .builtin .append, args := #[s, x], argTypes := #[t, t2] }, ty, p, af, gd⟩ k := by
  have hT := hE t (by rw [hk]; simp)
  have hT2 := hE t2 (by rw [hk2]; simp)
  have hTe := hE e (okK_ne hke)
  obtain ⟨kn, hxv⟩ := R.int hx
  have hsv := R.ev s
  rw [hs] at hsv
  have hsv : a.eval s = .slice none 0 0 := hsv.2
  obtain ⟨i, hi, hisz, hib, z, hzz, hzc⟩ := hTe.run_info
  have hzs : z.cells.size = (E e).size := by rw [← hTe.len, ← hzc]; simp
  obtain ⟨hdl, hdz⟩ := allS_spec hz
  obtain ⟨hr0, hr1⟩ := run_append_make (P := P) (w := w) t t2 ty e i z kk kn n (hT.sl hk) (hT2.int hk2) hi hzz (by omega) h0 (by omega) (by rw [hib]; exact hr)
  rcases Int.lt_or_eq_of_le h0 with hp | hp
  · obtain ⟨cap, rest, hcap, hrest, hrun⟩ := hr1 hp
    obtain ⟨hx1, hx2, hx3, hx4, hx5, hx6, hx7⟩ := drew_alloc w (.cells (Builtin.zeroCells z.cells n.toNat ++ rest) e)
    have hzl : (Builtin.zeroCells z.cells n.toNat).size = n.toNat * (E e).size := by rw [zeroCells_size, hzs]
    have hsize : (Builtin.zeroCells z.cells n.toNat ++ rest).size = cap * (E e).size := by
      rw [Array.size_append, hrest, zeroCells_size, zeroCells_size, hzs, ← Nat.add_mul]
      congr 1
      omega
    obtain ⟨R', hv⟩ := R.newDeep (n := n.toNat) (sz := (E e).size) (cap := cap) (f := fun _ => ds) (vs := fun i j => z.cells.toList.getD j undef) (cs := Builtin.zeroCells z.cells n.toNat ++ rest) (t := e) (fr := (0, 0)) hx1 (R.st.keep.later (by omega) hx4 hx5 hx6 hx7) hx2 hx3 (.inl (Nat.le_refl _)) hpos hcap (by rw [hsize]; exact Nat.le_refl _)
      (fun i hi => by rw [hdl, hTe.len]) (fun i j d hi hj => by
        have hjlt : j < (E e).size := by rw [← hTe.len, ← hdl]; exact (List.getElem?_eq_some_iff.mp hj).1
        obtain ⟨v, hv⟩ : ∃ v, (E e).zero[j]? = some v := ⟨_, List.getElem?_eq_getElem (by rw [hTe.len]; exact hjlt)⟩
        obtain ⟨y, hy, hzy⟩ := hdz j v hv
        rw [hj] at hy; cases hy
        have hlt : i * (E e).size + j < n.toNat * (E e).size := by
          have : i * (E e).size + (E e).size ≤ n.toNat * (E e).size := by rw [← Nat.succ_mul]; exact Nat.mul_le_mul_right _ (by omega)
          omega
        have e1 : z.cells.toList.getD j undef = v := by rw [hzc]; simp [List.getD, hv]
        rw [e1]
        refine ⟨?_, zeroC_sound hzy _ _⟩
        rw [Array.getElem?_append_left (by rw [hzl]; exact hlt)]
        simp only [Builtin.zeroCells]
        rw [Array.getElem?_map, Array.getElem?_range, hzs, if_pos hlt]
        simp only [Option.map_some]
        have hmod : (i * (E e).size + j) % (E e).size = j := by rw [Nat.add_comm, Nat.add_mul_mod_self_right]; exact Nat.mod_eq_of_lt hjlt
        rw [hmod, getElem!_pos z.cells j (by rw [hzs]; exact hjlt)]
        have h5 : z.cells.toList[j]? = some v := by rw [hzc]; exact hv
        rw [List.getElem?_eq_getElem (by simp [hzs]; exact hjlt)] at h5
        simpa using h5)
    exact app_fin (by rw [hsv, hxv]; exact hrun) h R' hv
  · subst hp
    refine app_fin (by rw [hsv, hxv]; exact hr0 rfl) h (R.fresh (fun b o h => h) R.st.keep (Nat.le_refl _) ⟨none, 0, (E e).size, 0, 0⟩ (fun _ => False) _ ⟨rfl, rfl, rfl⟩ (fun b hb => hb.elim)) ?_
    exact ⟨rfl, ⟨none, 0, (E e).size, 0, 0⟩, none, 0, by simp [Ghost.add], rfl, Nat.le_refl _, by simp [std], by simp, fun h => absurd h (Nat.lt_irrefl 0)⟩
theorem heads1_spec : ∀ {rows : List (List Leaf)} {cs : List Leaf}, heads1 rows = some cs → cs.length = rows.length ∧ ∀ (j : Nat) (l : Leaf), cs[j]? = some l → rows[j]? = some [l]
  | [], cs, h => by simp [heads1] at h; subst h; exact ⟨rfl, fun j l hj => by simp at hj⟩
  | [l] :: t, cs, h => by
    simp only [heads1] at h
    split at h
    · rename_i ls hls
      simp at h; subst h
      obtain ⟨h1, h2⟩ := heads1_spec hls
      refine ⟨by simp [h1], fun j x hj => ?_⟩
      cases j with
      | zero => simp at hj; subst hj; rfl
      | succ j => simpa using h2 j x (by simpa using hj)
    · cases h
  | [] :: t, cs, h => by simp [heads1] at h
  | (a :: b :: l) :: t, cs, h => by simp [heads1] at h
theorem does_buildSliceN (hE : EnvOk P E) (R : Rel w0 mine γ σ a w) {d ty p af g t e} {n : Nat} {parts : Array (Nat × Operand)} {ps : List (Nat × List Leaf)} {cs : List Leaf} {ds : List DV} {σ' : St} {h' : Leaf → Leaf} (hk : (E t).k = .sl e) (hke : okK (E e).k = true) (hps : partsV σ parts.toList = some ps) (hsz : (E e).size = 1)
    (hh : heads1 (layRows (E e).size ((E e).zero.map leafOfValue) n ps) = some cs) (hok : ∀ p, p ∈ ps → p.1 < n ∧ p.2.length = (E e).size) (hn : n * (E e).size ≤ 16777216) (ht : takeCs std cs σ (fun l => l) = some (ds, σ', h')) (h : k (.one (.lf (.o σ'.next 0 n))) (mkObj σ' (.deep 1 n (fun j => [getN .x ds j])))) :
    Does P w0 mine a w ⟨d, .buildSlice t n parts, ty, p, af, g⟩ k := by
  obtain ⟨cells, hr, hl⟩ := run_buildSlice hE R hk hke hps hn (by omega) hok
  obtain ⟨hhl, hhr⟩ := heads1_spec hh
  have hcn : cs.length = n := by rw [hhl, hl.len]
  have hcl : cells.size = n := by have := hl.size; rw [hsz] at this; omega
  have hc : RCells γ w cs cells.toList := by
    refine ⟨by simp [hcl, hcn], fun j l hj => ?_⟩
    obtain ⟨_, h2⟩ := hl.row j _ (hhr j l hj)
    obtain ⟨u, hu, hru⟩ := h2 0 l rfl
    exact ⟨u, by rw [hsz] at hu; simpa using hu, hru⟩
  obtain ⟨γ', G, T, hdl, hGd, hv⟩ := takeCs_sound cs cells.toList σ γ (fun l => l) ds σ' h' R hc.1 (fun j l hj => hc.2 j l hj) ht
  have hx : WExt w { w with heap := w.heap.push (.cells cells e) } := wext_push w _
  have hR : Rel w0 mine (γ'.add σ'.next ⟨some w.heap.size, 0, 1, n, n⟩ (fun b => b = w.heap.size ∨ ∃ j, G j b)) (mkObj σ' (.deep 1 n (fun j => [getN .x ds j]))) a { w with heap := w.heap.push (.cells cells e) } := by
    refine T.R.fresh2 hx (keep_push T.R.st.keep _) (by simp) _ _ _ ?_ ?_
    · refine ⟨rfl, rfl, Nat.one_pos, cells, e, (0, 0), fun i _ => cells.toList.getD i undef, fun i j x => j = 0 ∧ G i x, by simp [Ghost.add], by simp, .inl (Nat.le_refl _), by simp [hcl], by simp, fun i _ => rfl, ?_, ?_, ?_⟩
      · rintro i j x ⟨_, hx0⟩
        have := (T.free x ⟨i, hx0⟩).2.2.1
        exact ⟨by simp only [Ghost.add, if_true]; exact .inr ⟨i, hx0⟩, by omega⟩
      · rintro i j i' j' x ⟨rfl, h1⟩ ⟨rfl, h2⟩
        exact ⟨hGd i i' x h1 h2, rfl⟩
      · intro i j d0 hi0 hd0
        have hj0 : j = 0 := by
          have := (List.getElem?_eq_some_iff.mp hd0).1
          simpa using this
        subst hj0
        simp only [List.getElem?_cons_zero, Option.some.injEq] at hd0
        have hid : i < ds.length := by omega
        have hdi : ds[i]? = some d0 := by
          rw [← hd0, getN_getD, List.getD_eq_getElem?_getD, List.getElem?_eq_getElem hid]; rfl
        obtain ⟨v, hv', ho⟩ := hv i d0 hdi
        have e1 : cells.toList.getD i undef = v := by rw [List.getD_eq_getElem?_getD, hv']; rfl
        dsimp only
        rw [e1]
        refine ⟨by simpa using hv', ho.mono (fun _ hb => ⟨rfl, hb⟩) (fun b o _ hb => hx b o hb)⟩
    · intro b hb
      rcases hb with rfl | ⟨j, hf⟩
      · refine ⟨fun i' oi hi' hf => ?_, fun hro => ?_, by simp, .inl T.R.st.keep.size⟩
        · have := (T.R.st.fp i' oi hi' _ hf).1
          omega
        · have := T.R.st.rolt _ hro
          omega
      · obtain ⟨q1, q2, q3, q4⟩ := T.free b ⟨j, hf⟩
        exact ⟨q1, q2, by simp; omega, q4⟩
  exact bs_fin hr h hR ⟨rfl, ⟨some w.heap.size, 0, 1, n, n⟩, _, n, by simp [Ghost.add], rfl, Nat.le_refl _, by simp, by simp, fun _ => ⟨w.heap.size, rfl, by simp⟩⟩
end
end Go.AW
/- The abstract calculus, part 15: slicing, conversions, fields, tuples of parts. -/
set_option linter.unusedVariables false
set_option linter.unusedSimpArgs false
namespace Go.AW

theorem shO_std (lo : Option Nat) (f : Nat → List DV) : shO std lo f = fun i => f (lo.getD 0 + i) := by
  cases lo <;> simp [shO, std]
theorem offO_std (lo : Option Nat) (off : Nat) : offO std lo off = off + lo.getD 0 := by
  cases lo with
  | none => simp [offO]
  | some a => cases off <;> simp [offO, std, Nat.add_comm]

section
variable {P : Program} {w0 w w' : World} {mine : FP} {γ γ' : Ghost} {σ : St} {a : Act} {k : V → St → Prop} {E : Env}

theorem intO_some {x : Option Operand} {r : Option Int} (R : Rel w0 mine γ σ a w) (h : intO σ x = some r) : ∃ kk : IntKind, x.map a.eval = r.map (Value.int kk) := by
  cases x with
  | none => simp [intO] at h; subst h; exact ⟨.i64, rfl⟩
  | some x =>
    simp only [intO] at h
    split at h
    · rename_i n hn
      simp at h; subst h
      obtain ⟨kk, hk⟩ := R.int hn
      exact ⟨kk, by simp [hk]⟩
    · simp at h

theorem boundsP_sound {lo hi : Option Int} {n : Nat} {K : Option Nat → Nat → Prop} (h : boundsP std lo hi n K) :
    ∃ l m, K l m ∧ l.getD 0 + m ≤ n ∧ ∀ (kl kh : IntKind) (b : Bool) (cap : Nat), n ≤ cap → (Instr.sliceBounds b n cap (lo.map (Value.int kl)) (hi.map (Value.int kh)) none).run P w = .ok (l.getD 0, l.getD 0 + m, cap) w := by
  unfold boundsP at h
  split at h <;> try simp only [need, std, decide_eq_true_eq] at h
  · rename_i l hh
    obtain ⟨h1, h2, h3, h4⟩ := h
    refine ⟨_, _, h4, by simp; omega, fun kl kh b cap hc => ?_⟩
    have e : l.toNat + (hh.toNat - l.toNat) = hh.toNat := by omega
    simp only [Instr.sliceBounds, Option.map_some, Sem.run_bind, Sem.run_pure, Result.andThen_ok, Option.getD_some, e]
    rw [run_sliceBound w kh hh cap _ (by omega) (by omega)]
    simp only [Result.andThen_ok, Sem.run_bind]
    rw [run_sliceBound w kl l _ _ (by omega) (by omega)]
    simp
  · rename_i l
    obtain ⟨h1, h2, h4⟩ := h
    refine ⟨_, _, h4, by simp; omega, fun kl kh b cap hc => ?_⟩
    have e : l.toNat + ((n : Int).toNat - l.toNat) = n := by omega
    simp only [Instr.sliceBounds, Option.map_some, Option.map_none, Sem.run_bind, Sem.run_pure, Result.andThen_ok, Option.getD_some, e]
    rw [run_sliceBound w kl l _ _ (by omega) (by omega)]
    simp
  · rename_i hh
    obtain ⟨h1, h3, h4⟩ := h
    refine ⟨_, _, h4, by simp; omega, fun kl kh b cap hc => ?_⟩
    simp only [Instr.sliceBounds, Option.map_some, Option.map_none, Sem.run_bind, Sem.run_pure, Result.andThen_ok, Option.getD_none, Nat.zero_add]
    rw [run_sliceBound w kh hh cap _ (by omega) (by omega)]
    simp
  · exact ⟨_, _, h, by simp, fun kl kh b cap hc => by simp [Instr.sliceBounds]⟩

theorem does_sliceS (hE : EnvOk P E) (R : Rel w0 mine γ σ a w) {d t p af g ty} {x : Operand} {lo hi : Option Operand} {l h : Option Int} {s : ByteArray} (hk : (E ty).k = .str) (hl : intO σ lo = some l) (hh : intO σ hi = some h)
    (hx : evA σ x = .one (.lf (.s (.string s)))) (hK : cutP std s l h fun s' => k (.one (.lf (.s (.string s')))) σ) : DoesQ P γ σ a w ⟨d, .slice ty x lo hi none, t, p, af, g⟩ k := by
  have hT := hE ty (by rw [hk]; simp)
  have hxv := R.ev x
  rw [hx] at hxv
  have hx2 : a.eval x = .string s := hxv.2
  obtain ⟨kl, hl'⟩ := intO_some R hl
  obtain ⟨kh, hh'⟩ := intO_some R hh
  have hB : boundsP std l h s.size fun L m => ∃ s', k (.one (.lf (.s (.string s')))) σ ∧ s' = s.extract (L.getD 0) (L.getD 0 + m) := by
    unfold cutP at hK
    unfold boundsP
    split at hK <;> try simp only [need, std, decide_eq_true_eq] at hK ⊢
    · obtain ⟨h1, h2, h3, h4⟩ := hK
      exact ⟨h1, h2, h3, _, h4, by simp only [Option.getD_some]; congr 1; omega⟩
    · obtain ⟨h1, h2, h4⟩ := hK
      exact ⟨h1, h2, _, h4, by simp only [Option.getD_some]; congr 1; omega⟩
    · obtain ⟨h1, h2, h4⟩ := hK
      exact ⟨h1, h2, _, h4, by simp⟩
    · exact ⟨s, hK, by simp⟩
  obtain ⟨L, m, ⟨s', hk', he⟩, hle, hrun⟩ := boundsP_sound (P := P) (w := w) hB
  refine .value R hk' (rv_s rfl) (u := .string s') ?_
  have hS := hT.str hk
  simp only [execOp, hx2, Option.map_none, Sem.run_bind, run_sliceAt_string w ty _ _ _ _ hS, Instr.slice, run_underlying hS, Result.andThen_ok]
  simp only [hl', hh', Option.isSome_none, Bool.false_eq_true, if_false, Sem.run_bind, Sem.run_pure, Result.andThen_ok, hrun kl kh false s.size (Nat.le_refl _), he]

theorem run_slice_sl (hE : EnvOk P E) {ty e : Nat} {A : Option Addr} {n cap L m : Nat} {lo hi : Option Value} (hk : (E ty).k = .sl e) (hke : okK (E e).k = true) (hr : (Instr.sliceBounds true n cap lo hi none).run P w = .ok (L, L + m, cap) w) :
    (Instr.sliceAt ty (.slice A n cap) lo hi none).run P w = .ok (.slice (if cap = L then A else A.map (·.add (L * (E e).size))) m (cap - L)) w := by
  have hT := hE ty (by rw [hk]; simp)
  have hS := hT.sl hk
  have hz := (hE e (okK_ne hke)).run_size w
  simp only [Instr.sliceAt, Sem.run_bind, run_underlying hS, Result.andThen_ok, Instr.slice, hr, hz, Sem.run_pure]
  congr 2
  omega

theorem rot_cut {F : FP} {A : Option Addr} {n cap L m sz z : Nat} {f : Nat → List DV} (h : RoT w F (.slice A n cap) (.l z n f)) (hlen : ∀ i, i < n → (f i).length = sz) (hle : L + m ≤ n) :
    RoT w F (.slice (if cap = L then A else A.map (·.add (L * sz))) m (cap - L)) (.l z m fun i => f (L + i)) := by
  rcases Nat.eq_zero_or_pos m with h0 | h0
  · subst h0
    exact .nl _ _ _ _
  · obtain ⟨A', cap', hu, hc⟩ := ro_slice h
    cases hu
    obtain ⟨sz', ad, hA, hR, hs⟩ := ro_shift (u := undef) h L m hle h0
    have e : sz' = sz := by rw [← hs]; exact hlen 0 (by omega)
    subst e
    rw [hA, if_neg (by omega)]
    exact hR

theorem does_sliceP (hE : EnvOk P E) (R : Rel w0 mine γ σ a w) {d t p af g ty e} {x : Operand} {lo hi : Option Operand} {l h : Option Int} (hk : (E ty).k = .sl e) (hke : okK (E e).k = true) (hl : intO σ lo = some l) (hh : intO σ hi = some h)
    (hK : sliceP std (E e).size σ (evA σ x) l h fun v => k v σ) : DoesQ P γ σ a w ⟨d, .slice ty x lo hi none, t, p, af, g⟩ k := by
  have hxv := R.ev x
  obtain ⟨kl, hl'⟩ := intO_some R hl
  obtain ⟨kh, hh'⟩ := intO_some R hh
  have fin : ∀ {A : Option Addr} {n cap L m : Nat} {V : V}, a.eval x = .slice A n cap → (Instr.sliceBounds true n cap (l.map (Value.int kl)) (h.map (Value.int kh)) none).run P w = .ok (L, L + m, cap) w → k V σ →
      RV γ w V (.slice (if cap = L then A else A.map (·.add (L * (E e).size))) m (cap - L)) → DoesQ P γ σ a w ⟨d, .slice ty x lo hi none, t, p, af, g⟩ k := by
    intro A n cap L m V he hr hk' hv
    refine .value R hk' hv ?_
    simp only [execOp, he, Option.map_none, Sem.run_bind, hl', hh', run_slice_sl hE hk hke hr, Result.andThen_ok, Sem.run_pure]
  unfold sliceP at hK
  split at hK
  · rename_i hx0
    rw [hx0] at hxv
    obtain ⟨L, m, hk', hle, hrun⟩ := boundsP_sound (P := P) (w := w) hK
    have hL : L.getD 0 = 0 := by omega
    have hm : m = 0 := by omega
    have := hrun kl kh true 0 (Nat.le_refl _)
    refine fin (A := none) hxv.2 this hk' ?_
    rw [hL, hm]
    exact ⟨rfl, rfl⟩
  · rename_i n f hx0
    rw [hx0] at hxv
    obtain ⟨L, m, ⟨hlen, hk'⟩, hle, hrun⟩ := boundsP_sound (P := P) (w := w) hK
    obtain ⟨A, cap, he, hc⟩ := ro_slice hxv.2
    have h2 := hxv.2
    rw [he] at h2
    refine fin he (hrun kl kh true cap hc) hk' ⟨rfl, ?_⟩
    rw [shO_std]
    exact rot_cut h2 hlen hle
  · rename_i id n f hx0
    rw [hx0] at hxv
    obtain ⟨L, m, ⟨hlen, hk'⟩, hle, hrun⟩ := boundsP_sound (P := P) (w := w) hK
    obtain ⟨A, cap, he, hc⟩ := ro_slice hxv.2.2
    have h2 := hxv.2.2
    rw [he] at h2
    refine fin he (hrun kl kh true cap hc) hk' ⟨rfl, hxv.2.1, ?_⟩
    rw [shO_std]
    exact rot_cut h2 hlen hle
  · rename_i id i j v n hx0
    rw [hx0] at hxv
    obtain ⟨hz, hK⟩ := hK
    obtain ⟨L, m, hk', hle, hrun⟩ := boundsP_sound (P := P) (w := w) hK
    obtain ⟨c, hc, hw⟩ := hxv.2
    obtain ⟨A, cap, he, hcap⟩ := view_slice hw
    refine fin he (hrun kl kh true cap hcap) hk' ⟨rfl, c, hc, ?_⟩
    have hsub : subV std (E e).size L v = some ((v.map (·.1)).getD 0 + L.getD 0, (E e).size) := by
      cases v with
      | none => simp [subV, offO_std]
      | some ov => simp [subV, offO_std]
    rw [hsub]
    rcases Nat.eq_zero_or_pos m with h0 | h0
    · subst h0
      exact .inl ⟨rfl, _, _, rfl⟩
    · obtain ⟨b, o, N, capc, cap', h1, h2, h3, h4⟩ := view_at hw hz (by omega)
      rw [he] at h2
      cases h2
      refine .inr ⟨b, o, N, capc, cap - L.getD 0, h1, ?_, by omega, by omega⟩
      rw [if_neg (by omega), Option.map_some, add_at, Nat.add_mul, Nat.add_assoc]
  · rename_i id off n hx0
    rw [hx0] at hxv
    split at hK
    · rename_i sz' n' f hst
      obtain ⟨hz, hK⟩ := hK
      have hz := Nat.eq_of_beq_eq_true hz
      obtain ⟨L, m, hk', hle, hrun⟩ := boundsP_sound (P := P) (w := w) hK
      obtain ⟨g1, A, cap, hg, he, hc, hgn, htot, had⟩ := hxv.2
      obtain ⟨g1', hg', ho⟩ := R.st.objs id _ hst
      rw [hg] at hg'; cases hg'
      have hgs : g1.sz = (E e).size := by rw [← hz]; exact ho.2.1
      refine fin he (hrun kl kh true cap hc) hk' ⟨rfl, g1, _, cap - L.getD 0, hg, rfl, by omega, by rw [offO_std]; omega, ?_, fun hpos => ?_⟩
      · rw [offO_std, show off + L.getD 0 + (cap - L.getD 0) = off + cap by omega]; exact htot
      · obtain ⟨b, hb, hA⟩ := had (by omega)
        refine ⟨b, hb, ?_⟩
        rw [if_neg (by omega), hA, Option.map_some, add_at, offO_std, hgs, Nat.add_mul, Nat.add_assoc]
    · exact hK.elim
  · exact hK.elim
end
end Go.AW
/- The abstract calculus, part 16: structs built, fields, strings out of bytes, functions, min and max. -/
set_option linter.unusedVariables false
set_option linter.unusedSimpArgs false
namespace Go.AW

section
variable {P : Program} {w0 w w' : World} {mine : FP} {γ γ' : Ghost} {σ : St} {a : Act} {k : V → St → Prop} {E : Env}

theorem mapM_places : ∀ (gs : List Field) (fs : List (Nat × Nat)), gs.length = fs.length → (∀ (i : Nat) (x : Nat × Nat), fs[i]? = some x → ∃ g : Field, gs[i]? = some g ∧ g.offset = x.1 ∧ (P.info? g.type).map (·.size) = some x.2) →
    gs.mapM (fun f => (P.info? f.type).map fun i => (f.offset, i.size)) = some fs
  | [], fs, hl, h => by
    have : fs = [] := List.eq_nil_of_length_eq_zero hl.symm
    subst this; rfl
  | g :: gs, [], hl, h => by simp at hl
  | g :: gs, x :: fs, hl, h => by
    obtain ⟨g', hg', h1, h2⟩ := h 0 x rfl
    simp at hg'; subst hg'
    have ih := mapM_places gs fs (by simpa using hl) (fun i y hy => by simpa using h (i + 1) y (by simpa using hy))
    simp only [List.mapM_cons]
    cases hi : P.info? g.type with
    | none => simp [hi] at h2
    | some i =>
      simp only [hi, Option.map_some, Option.some.injEq] at h2
      simp [ih, h1, h2]

theorem fill_build {fs : List (Nat × Nat)} : ∀ (parts : List (Nat × Operand)) (ps : List (Nat × List Leaf)) (cells : Array Value) (ls r : List Leaf), RCells γ w ls cells.toList → Rel w0 mine γ σ a w → partsV σ parts = some ps → buildC fs ls ps = some r →
    ∃ cells', Instr.fill (fun i => fs[i]?) cells (parts.map fun x => (x.1, a.eval x.2)) = some cells' ∧ RCells γ w r cells'.toList
  | [], ps, cells, ls, r, hl, R, hp, hb => by
    simp [partsV] at hp; subst hp
    simp [buildC] at hb; subst hb
    exact ⟨cells, rfl, hl⟩
  | (i, x) :: t, ps, cells, ls, r, hl, R, hp, hb => by
    simp only [partsV] at hp
    split at hp
    · rename_i cs l hcs hl'
      simp at hp; subst hp
      simp only [buildC] at hb
      split at hb
      · rename_i off sz hn
        split at hb
        · rename_i ls' hbe hset
          have hbe := Nat.eq_of_beq_eq_true hbe
          obtain ⟨hrc, h1⟩ := cellsOf_sound (R.ev x) hcs
          obtain ⟨s1, s2, s3⟩ := setCells_spec _ _ _ _ hset
          have hvs : (a.eval x).cells.size = sz := by have := hrc.1; simp at this; omega
          have hcl : cells.size = ls.length := by have := hl.1; simpa using this
          rw [nthO_getElem?] at hn
          obtain ⟨cells', hf, hs', hg⟩ := fill_one (fun i => fs[i]?) cells i off (a.eval x) (t.map fun x => (x.1, a.eval x.2)) (by simp [hn, hvs]) (by omega)
          simp only [List.map_cons, hf]
          refine fill_build t l cells' ls' r ⟨by simp [hs', s1, hcl], fun j y hj => ?_⟩ R hl' hb
          rw [s3] at hj
          simp only [Array.getElem?_toList, hg, hvs]
          by_cases hin : off ≤ j ∧ j < off + cs.length
          · rw [if_pos hin] at hj
            rw [if_pos (by omega)]
            obtain ⟨u, hu, hr⟩ := hrc.2 _ y hj
            exact ⟨u, by simpa using hu, hr⟩
          · rw [if_neg hin] at hj
            rw [if_neg (by omega)]
            obtain ⟨u, hu, hr⟩ := hl.2 _ y hj
            exact ⟨u, by simpa using hu, hr⟩
        · simp at hb
      · simp at hb
    · simp at hp

theorem does_build (hE : EnvOk P E) (R : Rel w0 mine γ σ a w) {d ty p af g t} {parts : Array (Nat × Operand)} {fs : List (Nat × Nat)} {ps : List (Nat × List Leaf)} {cs : List Leaf} (hk : (E t).k = .st fs) (hps : partsV σ parts.toList = some ps)
    (hb : buildC fs ((E t).zero.map leafOfValue) ps = some cs) (h : k (.one (.ag cs)) σ) : DoesQ P γ σ a w ⟨d, .build t parts, ty, p, af, g⟩ k := by
  have hT := hE t (by rw [hk]; simp)
  obtain ⟨gs, hu, hgl, hgs⟩ := hT.st hk
  obtain ⟨z, hz, hc⟩ := hT.run_zero (w := w)
  have hpl := mapM_places (P := P) gs.toList fs (by simpa using hgl) (fun i x hx => by simpa using hgs i x hx)
  have hzc : RCells γ w ((E t).zero.map leafOfValue) z.cells.toList := by
    rw [hc]
    refine ⟨by simp, fun j l hl => ?_⟩
    simp only [List.getElem?_map, Option.map_eq_some_iff] at hl
    obtain ⟨u, hu, rfl⟩ := hl
    exact ⟨u, hu, rleaf_ofValue γ w u (List.all_eq_true.mp hT.one u (List.mem_of_getElem? hu))⟩
  obtain ⟨cells', hf, hr⟩ := fill_build parts.toList ps z.cells _ cs hzc R hps hb
  refine .value R h (u := .agg cells') ⟨cells'.toList, by simp, hr⟩ ?_
  have hparts : (parts.map fun (i, x) => (i, a.eval x)).toList = parts.toList.map fun x => (x.1, a.eval x.2) := by simp
  simp only [execOp, Instr.build, Sem.run_bind, hz, Result.andThen_ok, run_underlying hu]
  simp [Array.mapM_eq_mapM_toList, run_places w _ _ hpl]
  simp only [List.getElem?_toArray] at *
  simp [hf]

end
end Go.AW
/- The abstract calculus, part 17: strings out of bytes, functions, min and max. -/
set_option linter.unusedVariables false
set_option linter.unusedSimpArgs false
namespace Go.AW

section
variable {P : Program} {w0 w w' : World} {mine : FP} {γ γ' : Ghost} {σ : St} {a : Act} {k : V → St → Prop} {E : Env}

theorem does_convIS (hE : EnvOk P E) (R : Rel w0 mine γ σ a w) {d t p af g src dst} {x : Operand} {n : Int} {ks : IntKind} (hsrc : okK (E src).k = true) (hk : (E dst).k = .str) (hx : evA σ x = .one (.lf (.s (.int ks n))))
    (h : k (.one (.lf (.s (.string (std.encR n))))) σ) : DoesQ P γ σ a w ⟨d, .convert src dst x, t, p, af, g⟩ k := by
  have hT := hE dst (by rw [hk]; simp)
  obtain ⟨ds, hds, _⟩ := (hE src (okK_ne hsrc)).und
  have hxv := R.ev x
  rw [hx] at hxv
  have hx2 : a.eval x = .int ks n := hxv.2
  refine .value R h (rv_s rfl) (u := .string (Utf8.encode n)) ?_
  simp only [execOp, convert, hx2, Sem.run_bind, run_underlying hds, run_underlying (hT.str hk), Result.andThen_ok]
  cases ds <;> simp [Conv.intToString]

theorem does_convSS (hE : EnvOk P E) (R : Rel w0 mine γ σ a w) {d t p af g src dst} {x : Operand} {s : ByteArray} (hsrc : okK (E src).k = true) (hk : (E dst).k = .str) (hx : evA σ x = .one (.lf (.s (.string s))))
    (h : k (.one (.lf (.s (.string s)))) σ) : DoesQ P γ σ a w ⟨d, .convert src dst x, t, p, af, g⟩ k := by
  have hT := hE dst (by rw [hk]; simp)
  obtain ⟨ds, hds, _⟩ := (hE src (okK_ne hsrc)).und
  have hxv := R.ev x
  rw [hx] at hxv
  have hx2 : a.eval x = .string s := hxv.2
  refine .value R h (rv_s rfl) (u := .string s) ?_
  simp only [execOp, convert, hx2, Sem.run_bind, run_underlying hds, run_underlying (hT.str hk), Result.andThen_ok]
  cases ds <;> simp

/-- A leaf that is read as a datum reads so. -/
theorem roD_sound (R : RelS w0 mine γ σ.store σ.next w) {l : Leaf} {u : Value} (hl : RLeaf γ w l u) {d : DV} (h : roD std σ.store l = some d) : ∃ F : FP, RoT w F u d ∧ ∀ b, F b → γ.ro b ∨ ∃ i o, look σ.store i = some o ∧ γ.fp i b := by
  unfold roD at h
  have hl := see_sound R hl
  revert hl h
  generalize see std σ.store l = l
  intro h hl
  split at h
  · simp at h; subst h; have : u = _ := hl.2; subst this; exact ⟨fun _ => False, .s _ hl.1, fun b hb => hb.elim⟩
  · simp at h; subst h; have : u = _ := hl.2; subst this; exact ⟨fun _ => False, .nl _ _ _ _, fun b hb => hb.elim⟩
  · simp at h; subst h; exact ⟨_, hl.2, fun b hb => .inl hb⟩
  · simp at h; subst h
    obtain ⟨⟨g, hg⟩, h2⟩ := hl.2
    obtain ⟨o, ho⟩ := R.dom _ g hg
    exact ⟨_, h2, fun b hb => .inr ⟨_, o, ho, hb⟩⟩
  · rename_i id off len
    split at h
    · rename_i sz n f hst
      simp at h; subst h
      have hF := own_obj R hl hst
      exact ⟨_, hF.ro, fun b hb => .inr ⟨id, _, hst, hb⟩⟩
    · rename_i c cs hst
      split at h
      · split at h
        · rename_i ds hds
          simp at h; subst h
          obtain ⟨g, A, cap, hg, hu, hle, hgn, htot, had⟩ := hl.2
          obtain ⟨g', hg', b, cur, et, fr, hb, hfp, hh, hun, hbase, hct, hcs, hgz, hrc⟩ := R.objs id _ hst
          rw [hg] at hg'; cases hg'
          obtain ⟨hdl, hdv⟩ := flatCs_sound hrc hds
          obtain ⟨b', hb', hA⟩ := had (by omega)
          rw [hb] at hb'; cases hb'
          subst hA hu
          refine ⟨γ.fp id, .bl _ b _ 1 cap (c :: cs).length _ cur et fr (fun _ j => cur.toList.getD j undef) hfp hh hle (fun i hi => hdl) (fun i j d hi hd => ?_) (fun i j d hi hd => ?_), fun b hb => .inr ⟨id, _, hst, hb⟩⟩
          · have : i = 0 := by omega
            subst this
            obtain ⟨v, hv, _⟩ := hdv j d hd
            rw [hbase]
            simp only [Nat.zero_mul, Nat.zero_add]
            rw [List.getD_eq_getElem?_getD, hv]
            simpa using hv
          · obtain ⟨v, hv, ho⟩ := hdv j d hd
            rw [List.getD_eq_getElem?_getD, hv]
            exact ho.ro.mono (fun x hx => hx.elim) (Ext.refl _ _)
        · simp at h
      · simp at h
    · simp at h
  · simp at h

theorem does_convBS (hE : EnvOk P E) (R : Rel w0 mine γ σ a w) {d t p af g src dst e z n} {x : Operand} {l : Leaf} {f : Nat → List DV} (hsrc : (E src).k = .sl e) (hke : (E e).k = .int .u8) (hk : (E dst).k = .str) (hx : evA σ x = .one (.lf l))
    (hd : roD std σ.store l = some (.l z n f)) (hb : std.ByteRows n f) (h : k (.one (.lf (.s (.string (std.strF n f))))) σ) : DoesQ P γ σ a w ⟨d, .convert src dst x, t, p, af, g⟩ k := by
  have hT := hE dst (by rw [hk]; simp)
  have hTs := hE src (by rw [hsrc]; simp)
  have hTe := hE e (by rw [hke]; simp)
  have hxv := R.ev x
  rw [hx] at hxv
  obtain ⟨F, hF, _⟩ := roD_sound R.st hxv hd
  simp only [std] at hb
  -- the bytes' numbers
  let ns : List Int := (List.range n).map fun i => match f i with | [.s (.int _ c)] => c | _ => 0
  have hres : std.strF n f = ns.foldl (fun r n => r.push (UInt8.ofNat n.toNat)) ByteArray.empty := by
    rw [foldl_push_bytes]
    simp only [std, ns, List.map_map]
    have hE : (ByteArray.empty.data : Array UInt8) = #[] := rfl
    rw [hE, Array.empty_append]
    congr 2
    apply List.map_congr_left
    intro i hi
    obtain ⟨c, hc⟩ := hb i (List.mem_range.mp hi)
    simp [hc, unB]
  have hrun : ∃ s, (Conv.bytesToString (a.eval x)).run P w = .ok (.string s) w ∧ s = std.strF n f ∧ ∃ A cap, a.eval x = .slice A n cap := by
    generalize a.eval x = u at hF
    cases hF with
    | nl z A cap g =>
      refine ⟨ByteArray.empty, ?_, by simp [std]; rfl, A, cap, rfl⟩
      cases A with
      | none => simp [Conv.bytesToString]
      | some ad => 
        have := run_bytesToString (P := P) w ad 0 cap [] (by have := run_loadCells_list (P := P) w ad [] (by simp); simpa using this)
        simpa using this
    | bl z b off n cap sz g cs t fr vs hFb hbb hn hsz hv hdd =>
      rcases Nat.eq_zero_or_pos n with h0 | h0
      · subst h0
        have := run_bytesToString (P := P) w ⟨b, off, none⟩ 0 cap [] (by have := run_loadCells_list (P := P) w ⟨b, off, none⟩ [] (by simp); simpa using this)
        exact ⟨ByteArray.empty, by simpa using this, by simp [std]; rfl, _, cap, rfl⟩
      have hs1 : sz = 1 := by obtain ⟨c, hc⟩ := hb 0 h0; rw [← hsz 0 h0, hc]; rfl
      subst hs1
      have hcell : ∀ i, i < n → cs[off + i]? = some (Value.int .u8 (match f i with | [.s (.int _ c)] => c | _ => 0)) := by
        intro i hi
        obtain ⟨c, hc⟩ := hb i hi
        have h1 := hv i 0 (.s (.int .u8 c)) hi (by rw [hc]; rfl)
        have h2 := (hdd i 0 (.s (.int .u8 c)) hi (by rw [hc]; rfl)).s_inv.1
        rw [hc]
        simpa [h2] using h1
      have hload : (loadCells ⟨b, off, none⟩ n).run P w = .ok (ns.map (Value.int .u8)).toArray w := by
        have := run_loadCells_list (P := P) w ⟨b, off, none⟩ (ns.map (Value.int .u8)) (by
          intro q v hq
          simp only [ns, List.map_map, List.getElem?_map] at hq
          have hqn : q < n := by
            rcases Nat.lt_or_ge q n with h | h
            · exact h
            · rw [List.getElem?_eq_none (by simpa using h)] at hq; simp at hq
          rw [List.getElem?_range hqn] at hq
          simp at hq; subst hq
          rw [add_at, cell_at hbb]
          exact hcell q hqn)
        simpa [ns] using this
      exact ⟨_, run_bytesToString (P := P) w ⟨b, off, none⟩ n cap ns hload, hres.symm, _, cap, rfl⟩
  obtain ⟨s, hr, hs, A, cap, hA⟩ := hrun
  refine .value R h (rv_s rfl) (u := .string (std.strF n f)) ?_
  rw [hA] at hr
  simp only [execOp, hA, Sem.run_bind, run_convert_bytes_string w src dst e A n cap (hTs.sl hsrc) (hTe.int hke) (hT.str hk), hr, Result.andThen_ok, Sem.run_pure, hs]

theorem does_makeFunc (R : Rel w0 mine γ σ a w) {d t p af g f} {caps : Array Operand} {cs : List (Nat × Nat)} (hc : allS (fun x => match evA σ x with | .one (.lf (.p id j)) => some (id, j) | _ => none) caps.toList = some cs)
    (h : k (.one (.lf (.fn f cs))) σ) : DoesQ P γ σ a w ⟨d, .makeFunc (.func f) #[] caps, t, p, af, g⟩ k := by
  obtain ⟨h1, h2⟩ := allS_spec hc
  refine .value R h (u := .func (.func f) #[] (caps.map a.eval)) ⟨rfl, caps.toList.map a.eval, by congr 1; apply Array.ext'; simp, by simp [h1], fun k c hk => ?_⟩ (by simp [execOp, Instr.makeFunc])
  have hlt : k < caps.toList.length := by rw [← h1]; exact (List.getElem?_eq_some_iff.mp hk).1
  obtain ⟨y, hy, hm⟩ := h2 k _ (List.getElem?_eq_getElem hlt)
  rw [hk] at hy; cases hy
  split at hm
  · rename_i id j he
    simp at hm
    have hv := R.ev (caps.toList[k])
    rw [he] at hv
    obtain ⟨g', b, hg, hb, hu⟩ := hv.2
    refine ⟨g', b, by rw [← hm]; exact hg, hb, ?_⟩
    rw [List.getElem?_map, List.getElem?_eq_getElem hlt, Option.map_some, hu, ← hm]
  · simp at hm

theorem does_min (R : Rel w0 mine γ σ a w) {d t p af g} {x y : Operand} {ts : Array TypeId} {m n : Int} {kk kk' : IntKind} (hx : evA σ x = .one (.lf (.s (.int kk m)))) (hy : evA σ y = .one (.lf (.s (.int kk' n))))
    (h : k (.one (.lf (.s (.int kk (std.minI m n))))) σ) : DoesQ P γ σ a w ⟨d, .call { callee := .builtin .min, args := #[x, y], argTypes := ts }, t, p, af, g⟩ k := by
  have h1 := R.ev x; rw [hx] at h1
  have h2 := R.ev y; rw [hy] at h2
  have e1 : a.eval x = .int kk m := h1.2
  have e2 : a.eval y = .int kk' n := h2.2
  refine .value R h (rv_int _ _) ?_
  simp [execOp, resolve, invoke, builtin, e1, e2, Builtin.min_, Builtin.min2, std]
theorem does_max (R : Rel w0 mine γ σ a w) {d t p af g} {x y : Operand} {ts : Array TypeId} {m n : Int} {kk kk' : IntKind} (hx : evA σ x = .one (.lf (.s (.int kk m)))) (hy : evA σ y = .one (.lf (.s (.int kk' n))))
    (h : k (.one (.lf (.s (.int kk (std.maxI m n))))) σ) : DoesQ P γ σ a w ⟨d, .call { callee := .builtin .max, args := #[x, y], argTypes := ts }, t, p, af, g⟩ k := by
  have h1 := R.ev x; rw [hx] at h1
  have h2 := R.ev y; rw [hy] at h2
  have e1 : a.eval x = .int kk m := h1.2
  have e2 : a.eval y = .int kk' n := h2.2
  refine .value R h (rv_int _ _) ?_
  simp [execOp, resolve, invoke, builtin, e1, e2, Builtin.max_, Builtin.max2, std]

def lenLf : Leaf → Option Nat
  | .r m _ | .sn _ m _ | .q _ _ _ _ m | .o _ _ m => some m
  | _ => none
theorem len_slice (R : RelS w0 mine γ σ.store σ.next w) {l : Leaf} {u : Value} (hl : RLeaf γ w l u) {n : Nat} (h : lenLf l = some n) : ∃ A c, u = .slice A n c ∧ (A = none → n = 0) := by
  have ro : ∀ {F : FP} {z : Nat} {f : Nat → List DV}, RoT w F u (.l z n f) → ∃ A c, u = .slice A n c ∧ (A = none → n = 0) := by
    intro F z f h
    cases h with
    | nl => exact ⟨_, _, rfl, fun _ => rfl⟩
    | bl => exact ⟨_, _, rfl, fun h => by cases h⟩
  cases l <;> simp only [lenLf, Option.some.injEq, reduceCtorEq] at h
  case r m f => subst h; exact ro hl.2
  case sn id m f => subst h; exact ro hl.2.2
  case q id i j v m =>
    subst h
    obtain ⟨c, _, hw⟩ := hl.2
    unfold ViewOf at hw
    split at hw
    · obtain ⟨rfl, A, cap, he, _, ha⟩ := hw
      refine ⟨A, cap, he, fun hn => ?_⟩
      rcases Nat.eq_zero_or_pos m with h0 | h0
      · exact h0
      · obtain ⟨b, o, hA⟩ := ha h0; rw [hn] at hA; cases hA
    · rcases hw with ⟨rfl, A, cap, he⟩ | ⟨b, o, N, cap, cap', _, he, _⟩
      · exact ⟨A, cap, he, fun _ => rfl⟩
      · exact ⟨_, _, he, fun h => by cases h⟩
  case o id off m =>
    subst h
    obtain ⟨g, A, cap, _, he, hle, _, _, had⟩ := hl.2
    refine ⟨A, cap, he, fun hn => ?_⟩
    rcases Nat.eq_zero_or_pos cap with h0 | h0
    · omega
    · obtain ⟨b, _, hA⟩ := had h0; rw [hn] at hA; cases hA

theorem does_binB (hE : EnvOk P E) (R : Rel w0 mine γ σ a w) {d t p af g op xt yt} {x y : Operand} {vx vy : Value} (hx : scalarV (evA σ x) = some vx) (hy : scalarV (evA σ y) = some vy)
    (h : binB std (E xt).k op vx vy fun v => k (.one (.lf (.s v))) σ) : DoesQ P γ σ a w ⟨d, .binOp op xt x y yt, t, p, af, g⟩ k := by
  unfold binB at h
  split at h
  · rename_i b1 b2
    obtain ⟨hk, h⟩ := h
    have hu : P.underlying xt = some .bool := by
      have hne : (E xt).k ≠ .other := by intro e; rw [e] at hk; simp [isBo] at hk
      obtain ⟨⟨dd, hd, hkk⟩, _⟩ := hE xt hne
      cases hkd : (E xt).k <;> rw [hkd] at hk hkk <;> simp [isBo] at hk
      cases dd <;> simp [Kok] at hkk
      exact hd
    have hq := run_equal_bool w xt b1 b2 hu
    cases op <;> first | exact h.elim | skip
    all_goals
      cases b1 <;> cases b2
      all_goals
        refine .value R h (rv_bool _) ?_
        simp only [execOp, R.scalar hx, R.scalar hy, eqGuard]
        simp [Sem.run_bind, binOp, hq]
  · exact does_binOp R hx hy h
def isEq : BinOp → Bool → Bool
  | .eql, b => b
  | _, b => !b
theorem does_nil (hE : EnvOk P E) (R : Rel w0 mine γ σ a w) {d t p af g op xt yt} {x y : Operand} {K : Bool → Prop} (ho : op = .eql ∨ op = .neq) (hy : evA σ y = .one (.lf .nil)) (hk : isSl (E xt).k = true) (h : nilP std (evA σ x) K) (hK : ∀ b, K b → k (.one (.lf (.s (.bool (isEq op b))))) σ) :
    DoesQ P γ σ a w ⟨d, .binOp op xt x y yt, t, p, af, g⟩ k := by
  have hyv := R.ev y
  rw [hy] at hyv
  have hy2 : a.eval y = .slice none 0 0 := hyv.2
  obtain ⟨e, hke⟩ : ∃ e, (E xt).k = .sl e := by
    unfold isSl at hk
    split at hk
    · exact ⟨_, by assumption⟩
    · cases hk
  have hu := (hE xt (by rw [hke]; simp)).sl hke
  have fin : ∀ {A : Option Addr} {n c : Nat}, a.eval x = .slice A n c → K A.isNone → DoesQ P γ σ a w ⟨d, .binOp op xt x y yt, t, p, af, g⟩ k := by
    intro A n c he hb
    refine .value R (hK _ hb) (rv_bool _) ?_
    rcases ho with rfl | rfl
    · have := Lib.run_eql_slice_nil (P := P) w xt e A n c 0 0 hu
      have hg : (eqGuard .eql xt x y (.slice A n c) (.slice none 0 0)).run P w = .ok () w := rfl
      simp only [execOp, he, hy2, Sem.run_bind, hg, this, Result.andThen_ok, Sem.run_pure, isEq]
    · have := run_neq_slice_nil_any (P := P) w xt e A n c 0 0 hu
      have hg : (eqGuard .neq xt x y (.slice A n c) (.slice none 0 0)).run P w = .ok () w := rfl
      simp only [execOp, he, hy2, Sem.run_bind, hg, this, Result.andThen_ok, Sem.run_pure, isEq]
  have hx := R.ev x
  have gen : ∀ {l : Leaf} {n : Nat}, evA σ x = .one (.lf l) → lenLf l = some n → nilN std n K → DoesQ P γ σ a w ⟨d, .binOp op xt x y yt, t, p, af, g⟩ k := by
    intro l n hl hm hn
    rw [hl] at hx
    obtain ⟨A, c, he, hA⟩ := len_slice R.st hx hm
    refine fin he ?_
    unfold nilN at hn
    simp only [std] at hn
    unfold condP at hn
    split at hn
    · cases A with
      | none => exact hn.1
      | some ad => exact hn.2
    · rename_i hc
      cases A with
      | none => have := hA rfl; subst this; simp [std] at hc
      | some ad => exact hn
  unfold nilP at h
  split at h
  · rename_i hl
    rw [hl] at hx
    exact fin hx.2 h
  · rename_i hl; exact gen hl rfl h
  · rename_i hl; exact gen hl rfl h
  · rename_i hl; exact gen hl rfl h
  · rename_i hl; exact gen hl rfl h
  · exact h.elim

theorem does_range (hE : EnvOk P E) (R : Rel w0 mine γ σ a w) {d t p af g xt} {x : Operand} {s : ByteArray} (hk : (E xt).k = .str) (hx : evA σ x = .one (.lf (.s (.string s))))
    (h : k (.one (.lf (.p σ.next 0))) (mkObj σ (.it s 0))) : Does P w0 mine a w ⟨d, .range xt x, t, p, af, g⟩ k := by
  have hxv := R.ev x
  rw [hx] at hxv
  have hx2 : a.eval x = .string s := hxv.2
  have hT := hE xt (by rw [hk]; simp)
  have R' := R.fresh (wext_push w (.stringIter s 0)) (keep_push R.st.keep _) (by simp) ⟨some w.heap.size, 0, 0, 0, 0⟩ (fun b => b = w.heap.size) (.it s 0) ⟨w.heap.size, rfl, rfl, by simp [Ghost.add], by simp⟩ (fun b hb => by subst hb; simp)
  refine .inl ⟨.pointer (some ⟨w.heap.size, 0, none⟩), _, ?_, _, _, _, h, R', ⟨rfl, ⟨some w.heap.size, 0, 0, 0, 0⟩, w.heap.size, by simp [Ghost.add], rfl, rfl⟩⟩
  simp [execOp, hx2, Instr.range, run_underlying (hT.str hk)]

theorem does_next (R : Rel w0 mine γ σ a w) {d t p af g} {x : Operand} {id : Nat} {s : ByteArray} {pos : Nat} (hx : evA σ x = .one (.lf (.p id 0))) (ho : look σ.store id = some (.it s pos))
    (h : std.cnd (std.ltN pos (std.lenS s))
        (fun _ => k (.tup [.lf (.s (.bool true)), .lf (.s (.int .i64 (std.ofN pos))), .lf (.s (.int .i32 (std.decR s pos)))]) (mapSt (killQ id) (putObj σ id (.it s (std.addN pos (std.decW s pos))))))
        (fun _ => k (.tup [.lf (.s (.bool false))]) σ)) : Does P w0 mine a w ⟨d, .next x true, t, p, af, g⟩ k := by
  have hxv := R.ev x
  rw [hx] at hxv
  obtain ⟨g1, b, hg, hb, hu⟩ := hxv.2
  obtain ⟨g1', hg', b', hb', hbase, hfp, hh⟩ := R.st.objs id _ ho
  rw [hg] at hg'; cases hg'
  rw [hb] at hb'; cases hb'
  have hu2 : a.eval x = .pointer (some ⟨b, 0, none⟩) := by rw [hu, hbase]
  have hget : (getObj b).run P w = .ok (.stringIter s pos) w := by simp [getObj, Sem.run, hh]
  simp only [std] at h
  unfold condP at h
  split at h
  · rename_i hc
    have hlt : pos < s.size := by simpa [std] using hc
    let w' : World := { w with heap := w.heap.setIfInBounds b (.stringIter s (pos + (Utf8.decode s pos).2)) }
    have hblt : b < w.heap.size := (Array.getElem?_eq_some_iff.mp hh).1
    have hset : (setObj b (.stringIter s (pos + (Utf8.decode s pos).2))).run P w = .ok () w' := by
      simp [setObj, Sem.run, hh, w']
    have hother : ∀ b' , b' ≠ b → w'.heap[b']? = w.heap[b']? := fun b' hne => by
      simp only [w', Array.getElem?_setIfInBounds]; rw [if_neg (Ne.symm hne)]
    have hbd := R.st.fp id _ ho b hfp
    have R' := R.write (o' := .it s (std.addN pos (std.decW s pos))) (g' := g1) (F := γ.fp id) (w' := w') (fun _ => False) (fun i => i = id) (killQ id) (kills_Q id) ho hg (fun _ => rfl) (fun h => absurd rfl h)
      (fun x hx => ⟨.inl hx, by have := R.st.fp id _ ho x hx; simpa [w'] using this⟩)
      (fun b' x hne hx => by rw [hother b' (by rintro rfl; exact hne hfp)]; exact hx) (by simp [w'])
      ⟨by simpa [w'] using R.st.keep.size, R.st.keep.os, R.st.keep.tape, R.st.keep.output, fun x hx hm => by
        rw [hother x (by rintro rfl; rcases hbd.2 with h | h; omega; exact hm h)]
        exact R.st.keep.old x hx hm, R.st.keep.tabs⟩
      ⟨b, hb, hbase, by simpa [Ghost.grow] using hfp, by simp [w', std, hblt]⟩
    refine .inl ⟨.tuple #[.bool true, .int .i64 pos, .int .i32 (Utf8.decode s pos).1], w', ?_, _, _, _, h, R', ?_⟩
    · simp only [execOp, hu2, Instr.next, Sem.run_bind, hget, Result.andThen_ok, if_pos hlt, hset, Sem.run_pure]
      rfl
    · refine ⟨[.bool true, .int .i64 pos, .int .i32 (Utf8.decode s pos).1], rfl, rfl, fun j l hj => ?_⟩
      rcases j with _ | _ | _ | j
      · simp at hj; subst hj; exact ⟨_, rfl, rfl, rfl⟩
      · simp at hj; subst hj; exact ⟨_, rfl, rfl, rfl⟩
      · simp at hj; subst hj; exact ⟨_, rfl, rfl, rfl⟩
      · simp at hj
  · rename_i hc
    have hge : ¬ pos < s.size := by simpa [std] using hc
    refine .inl ⟨.tuple #[.bool false], w, ?_, _, _, _, h, R, ⟨[.bool false], rfl, rfl, fun j l hj => ?_⟩⟩
    · simp only [execOp, hu2, Instr.next, Sem.run_bind, hget, Result.andThen_ok, if_neg hge, Sem.run_pure]
    · rcases j with _ | j
      · simp at hj; subst hj; exact ⟨_, rfl, rfl, rfl⟩
      · simp at hj
end
end Go.AW
/- The abstract calculus, part 17m: maps, tables, pointers told apart, method values. -/
set_option linter.unusedVariables false
set_option linter.unusedSimpArgs false
namespace Go.AW

section
variable {P : Program} {w0 w w' : World} {mine : FP} {γ γ' : Ghost} {σ : St} {a : Act} {k : V → St → Prop} {E : Env}

theorem ptr_some {l : Leaf} {u : Value} (h : RLeaf γ w l u) (hp : isPtr l = true) : ∃ ad, u = .pointer (some ad) := by
  obtain ⟨_, h⟩ := h
  cases l <;> simp only [isPtr] at hp <;> try (cases hp; done)
  all_goals simp only [RLeafC] at h
  case p id j => obtain ⟨g, b, _, _, hu⟩ := h; exact ⟨_, hu⟩
  case pr id i j => obtain ⟨g, b, _, _, _, hu⟩ := h; exact ⟨_, hu⟩
  case qp id i j kk ll sz => obtain ⟨c, b, o, N, cap, _, _, _, hu⟩ := h; exact ⟨_, hu⟩
  case rp row => obtain ⟨b, off, cs, t, fr, hu, _⟩ := h; exact ⟨_, hu⟩
  case sp id row => obtain ⟨_, b, off, cs, t, fr, hu, _⟩ := h; exact ⟨_, hu⟩

theorem does_ptr (hE : EnvOk P E) (R : Rel w0 mine γ σ a w) {d t p af g op xt yt} {x y : Operand} (hk : isPt E (E xt).k = true) (h : ptrP op (evA σ x) (evA σ y) fun v => k v σ) : DoesQ P γ σ a w ⟨d, .binOp op xt x y yt, t, p, af, g⟩ k := by
  obtain ⟨e, hke, hoe⟩ : ∃ e, (E xt).k = .ptr e ∧ okK (E e).k = true := by
    unfold isPt at hk
    split at hk
    · exact ⟨_, by assumption, hk⟩
    · cases hk
  have hT := hE xt (by rw [hke]; simp)
  have hu : P.underlying xt = some (.pointer e) := by
    obtain ⟨dd, hd, hK⟩ := hT.und
    rw [hke] at hK
    cases dd <;> simp [Kok] at hK
    rw [hd, hK]
  have hpt : P.underlying xt = some (.pointer (P.pointee xt)) := by
    have : P.pointee xt = e := by simp [Program.pointee, hu]
    rw [this]; exact hu
  obtain ⟨je, hje⟩ : ∃ j, P.info? e = some j := by
    have := (hE e (okK_ne hoe)).size
    cases hi : P.info? e with
    | none => simp [hi] at this
    | some j => exact ⟨j, rfl⟩
  have hxv := R.ev x
  have hyv := R.ev y
  have key : ∀ b, ptrSame (evA σ x) (evA σ y) = some b → (binOp .eql xt (a.eval x) (a.eval y)).run P w = .ok (.bool b) w ∧ (binOp .neq xt (a.eval x) (a.eval y)).run P w = .ok (.bool (!b)) w ∧
      ((eqGuard .eql xt x y (a.eval x) (a.eval y)).run P w = .ok () w) ∧ ((eqGuard .neq xt x y (a.eval x) (a.eval y)).run P w = .ok () w) := by
    intro b hb
    unfold ptrSame at hb
    split at hb
    · rename_i h1 h2
      rw [h1] at hxv; rw [h2] at hyv
      have e1 : a.eval x = .pointer none := hxv.2
      have e2 : a.eval y = .pointer none := hyv.2
      cases hb
      rw [e1, e2]
      exact ⟨run_eql_pointer_nil _ xt none hpt, run_neq_pointer_nil _ xt none hpt, rfl, rfl⟩
    · rename_i i j i' j' h1 h2
      rw [h1] at hxv; rw [h2] at hyv
      cases hc : Nat.beq i i' && Nat.beq j j' with
      | false => rw [hc] at hb; cases hb
      | true =>
        rw [hc] at hb
        cases hb
        simp only [Bool.and_eq_true] at hc
        have c1 := Nat.eq_of_beq_eq_true hc.1
        have c2 := Nat.eq_of_beq_eq_true hc.2
        subst c1 c2
        obtain ⟨g1, b1, hg1, hb1, e1⟩ := hxv.2
        obtain ⟨g2, b2, hg2, hb2, e2⟩ := hyv.2
        rw [hg1] at hg2; cases hg2
        rw [hb1] at hb2; cases hb2
        rw [e1, e2]
        exact ⟨run_eql_ptr_same w _ hu hje, Lib.run_neq_ptr_same w _ hu hje, rfl, rfl⟩
    · rename_i l _ h1 h2
      rw [h1] at hxv; rw [h2] at hyv
      cases hc : isPtr l with
      | false => rw [hc] at hb; cases hb
      | true =>
        rw [hc] at hb
        cases hb
        obtain ⟨ad, e1⟩ := ptr_some hxv hc
        have e2 : a.eval y = .pointer none := hyv.2
        rw [e1, e2]
        exact ⟨run_eql_pointer_nil _ xt (some ad) hpt, run_neq_pointer_nil _ xt (some ad) hpt, rfl, rfl⟩
    · cases hb
  unfold ptrP at h
  split at h
  · rename_i b hb
    obtain ⟨h1, _, h3, _⟩ := key b hb
    refine .value R h (rv_bool _) ?_
    simp only [execOp, Sem.run_bind, h3, h1, Result.andThen_ok, Sem.run_pure]
  · rename_i b hb
    obtain ⟨_, h2, _, h4⟩ := key b hb
    refine .value R h (rv_bool _) ?_
    simp only [execOp, Sem.run_bind, h4, h2, Result.andThen_ok, Sem.run_pure]
  · exact h.elim

theorem does_makeFuncB (R : Rel w0 mine γ σ a w) {d t p af g f} {x : Operand} {id j : Nat} (hx : evA σ x = .one (.lf (.p id j))) (h : k (.one (.lf (.fb f id j))) σ) : DoesQ P γ σ a w ⟨d, .makeFunc (.func f) #[x] #[], t, p, af, g⟩ k := by
  have hv := R.ev x
  rw [hx] at hv
  obtain ⟨g', b, hg, hb, hu⟩ := hv.2
  refine .value R h (u := .func (.func f) #[a.eval x] #[]) ⟨rfl, g', b, hg, hb, by rw [hu]⟩ (by simp [execOp, Instr.makeFunc])

/-! ### Tables -/
theorem tab_cell (R : RelS w0 mine γ σ.store σ.next w) {g : Nat} {kk : IntKind} {l : List Int} (hg : tabZ g = some (kk, l)) {j : Nat} (hj : j < l.length) : w.cell? ⟨g, j, none⟩ = some (.int kk (l.getD j 0)) := by
  obtain ⟨h1, h2, t, fr, h3⟩ := R.keep.tabs g kk l hg
  have h5 := R.keep.old g h1 h2
  rw [h3] at h5
  rw [cell_at h5]
  simp [List.getD_eq_getElem?_getD, List.getElem?_eq_getElem hj]

theorem does_indexTab (hE : EnvOk P E) (R : Rel w0 mine γ σ a w) {d t p af g} {x i : Operand} {ty e m gg : Nat} {n : Int} (hk : (E ty).k = .arr m e) (hke : okK (E e).k = true) (hi : intV (evA σ i) = some n) (hx0 : evA σ x = .one (.lf (.gt gg 0 0 0)))
    (h : idxP std n m (k (.one (.lf (.gt gg (std.natI n) 0 (E e).size))) σ)) (hpos : 0 < (E e).size) : DoesQ P γ σ a w ⟨d, .indexAddr ty x i, t, p, af, g⟩ k := by
  have hT := hE ty (by rw [hk]; simp)
  have hs := run_sizeOf_elem (w := w) hE hke
  have hx := R.ev x
  obtain ⟨kk, hi'⟩ := R.int hi
  obtain ⟨h2, h3, h4⟩ := h
  simp only [std, decide_eq_true_eq] at h2 h3
  rw [hx0] at hx
  have hu : a.eval x = .pointer (some ⟨gg, 0, none⟩) := by have := hx.2; simpa [RLeafC] using this
  have hund : P.underlying ty = some (.array m e) := by
    obtain ⟨d, hd, hK⟩ := hT.und
    cases d <;> simp [Kok, hk] at hK
    rw [hd, hK.1, hK.2]
  refine .value R h4 ⟨rfl, rfl⟩ ?_
  simp [execOp, hu, hi', Instr.indexAt, asIntOf, run_underlying hund, hs, h2, h3, Instr.sureAddr, std, add_at]

theorem does_loadTab (hE : EnvOk P E) (R : Rel w0 mine γ σ a w) {d t p af g lt} {x : Operand} (hk : (E lt).k ≠ .other) {gg r c sz : Nat} {kk : IntKind} {l : List Int} {v : V} (hx : evA σ x = .one (.lf (.gt gg r c sz))) (hg : tabZ gg = some (kk, l))
    (h1 : r < l.length / sz) (h2 : c + (E lt).size ≤ sz) (hv : packV (isAg (E lt).k) (tabCells std kk gg r c sz (E lt).size) = some v) (h : k v σ) : DoesQ P γ σ a w ⟨d, .load lt x, t, p, af, g⟩ k := by
  have hl := R.ev x
  rw [hx] at hl
  have hu : a.eval x = .pointer (some ⟨gg, r * sz + c, none⟩) := hl.2
  have hi := hE lt hk
  have hlen : (r + 1) * sz ≤ l.length := Nat.le_trans (Nat.mul_le_mul_right sz h1) (Nat.div_mul_le_self _ _)
  have hcell : ∀ q, q < (E lt).size → w.cell? ⟨gg, r * sz + c + q, none⟩ = some (.int kk (l.getD (r * sz + c + q) 0)) := fun q hq => tab_cell R.st hg (by rw [Nat.add_mul, Nat.one_mul] at hlen; omega)
  let us : List Value := (List.range (E lt).size).map fun q => .int kk (l.getD (r * sz + c + q) 0)
  have hcs : RCells γ w (tabCells std kk gg r c sz (E lt).size) us := by
    refine ⟨by simp [us, tabCells], fun j y hy => ?_⟩
    simp only [tabCells, List.getElem?_map, Option.map_eq_some_iff] at hy
    obtain ⟨q, hq, rfl⟩ := hy
    refine ⟨.int kk (l.getD (r * sz + c + q) 0), by simp [us, hq], rfl, ?_⟩
    simp [RLeafC, std, tabQ, hg, Nat.add_assoc]
  have hus : us.length = (E lt).size := by simp [us]
  obtain ⟨r1, r2⟩ := run_loadAt (w := w) (b := gg) (off := r * sz + c) hi hus (fun j hj => by rw [hcell j hj]; simp [us, hj])
  rcases packV_sound hv hcs with ⟨ha, hrv⟩ | ⟨ha, u, hu1, hrv⟩
  · exact .value R h hrv (by simp [execOp, hu, r1 ha])
  · exact .value R h hrv (by simp [execOp, hu, r2 ha u hu1])

/-! ### Maps -/
theorem TIok.mp {t : TypeId} {i : TI} (h : TIok P t i) {k e : Nat} (hk : i.k = .mp k e) : P.underlying t = some (.map k e) := by
  obtain ⟨d, hd, hK⟩ := h.und
  cases d <;> simp [Kok, hk] at hK
  rw [hd, hK.1, hK.2]
theorem does_makeMap (R : Rel w0 mine γ σ a w) {d t p af g mt} (h : k (.one (.lf (.m σ.next))) (mkObj σ (.mp []))) : Does P w0 mine a w ⟨d, .makeMap mt none, t, p, af, g⟩ k := by
  have R' := R.fresh (wext_push w (.map #[] 0)) (keep_push R.st.keep _) (by simp) ⟨some w.heap.size, 0, 0, 0, 0⟩ (fun b => b = w.heap.size) (.mp []) ⟨w.heap.size, #[], 0, rfl, by simp [Ghost.add], by simp, rfl, by simp⟩ (fun b hb => by subst hb; simp)
  refine .inl ⟨.map (some w.heap.size), _, ?_, _, _, _, h, R', ⟨rfl, ⟨some w.heap.size, 0, 0, 0, 0⟩, w.heap.size, by simp [Ghost.add], rfl, rfl⟩⟩
  simp [execOp, Instr.makeMap]

/-- The kinds of keys. -/
def KeyD (K : K) (dd : TypeDesc) : Prop := (∃ q, K = .int q ∧ dd = .int q) ∨ (K = .str ∧ dd = .string)
theorem sameNow_key {kd : K} {dd : TypeDesc} (hd : KeyD kd dd) {x y : Value} (hx : keyIs kd x = true) (hy : keyIs kd y = true) : Instr.sameNow dd x y = some (keyEq x y) := by
  rcases hd with ⟨q, rfl, rfl⟩ | ⟨rfl, rfl⟩
  · cases x <;> simp [keyIs] at hx
    cases y <;> simp [keyIs] at hy
    rename_i k1 n1 k2 n2
    have e1 := sameK_eq' hx
    have e2 := sameK_eq' hy
    subst e1 e2
    simp [Instr.sameNow, keyEq]
  · cases x <;> simp [keyIs] at hx
    cases y <;> simp [keyIs] at hy
    rename_i s1 s2
    simp only [Instr.sameNow, keyEq]
    obtain ⟨d1⟩ := s1
    obtain ⟨d2⟩ := s2
    congr 1
    rw [show ((⟨d1⟩ : ByteArray) == ⟨d2⟩) = (d1 == d2) from rfl, Bool.eq_iff_iff]
    simp only [beq_iff_eq, ByteArray.toList_eq]
    constructor
    · intro h; rw [h]
    · intro h; exact Array.toList_inj.mp h
  where
  sameK_eq' {k l : IntKind} (h : sameK k l = true) : k = l := by cases k <;> cases l <;> simp [sameK] at h <;> rfl
theorem findNow_spec {kd : K} {dd : TypeDesc} (hd : KeyD kd dd) {x : Value} (hx : keyIs kd x = true) : ∀ (es : List (Value × Leaf)) (ents : List MapEntry) (i : Nat), ents.length = es.length → (∀ (j : Nat) (e : Value × Leaf), es[j]? = some e → ∃ en, ents[j]? = some en ∧ en.key = e.1 ∧ RLeaf γ w e.2 en.val) → keysAre kd es = true →
    (∃ j v e, Instr.findNow dd x ents i = some (some (j, v)) ∧ es.find? (fun e => keyEq x e.1) = some e ∧ RLeaf γ w e.2 v) ∨ (Instr.findNow dd x ents i = some none ∧ es.find? (fun e => keyEq x e.1) = none)
  | [], [], i, _, _, _ => .inr ⟨rfl, rfl⟩
  | [], _ :: _, i, h, _, _ => by simp at h
  | _ :: _, [], i, h, _, _ => by simp at h
  | e :: es, en :: ents, i, hl, hr, hk => by
    simp only [keysAre, List.all_cons, Bool.and_eq_true] at hk
    obtain ⟨en', h1, h2, h3⟩ := hr 0 e rfl
    simp at h1; subst h1
    have hs := sameNow_key hd hx hk.1
    simp only [Instr.findNow, h2, hs, List.find?_cons]
    cases hc : keyEq x e.1 with
    | true => exact .inl ⟨i, en.val, e, rfl, rfl, h3⟩
    | false => exact findNow_spec hd hx es ents (i + 1) (by simpa using hl) (fun j e' he => by simpa using hr (j + 1) e' (by simpa using he)) hk.2
theorem keyD_of (hE : EnvOk P E) {kt : Nat} {x : Value} (hx : keyIs (E kt).k x = true) : ∃ dd, P.underlying kt = some dd ∧ KeyD (E kt).k dd := by
  unfold keyIs at hx
  split at hx
  · rename_i q k' n hk
    exact ⟨_, (hE kt (by rw [hk]; simp)).int hk, .inl ⟨q, hk, rfl⟩⟩
  · rename_i s hk
    exact ⟨_, (hE kt (by rw [hk]; simp)).str hk, .inr ⟨hk, rfl⟩⟩
  · cases hx
theorem run_checkKey (w : World) {b : Bool} {n : Nat} {kt : TypeId} {kd : K} {dd : TypeDesc} (hu : P.underlying kt = some dd) (hd : KeyD kd dd) (x : Value) : (Instr.checkKey b (n + 1) kt x).run P w = .ok () w := by
  rcases hd with ⟨q, _, rfl⟩ | ⟨_, rfl⟩ <;> cases x <;> simp [Instr.checkKey, Sem.run_bind, run_underlying hu]

theorem does_insert (hE : EnvOk P E) (R : Rel w0 mine γ σ a w) {d t p af g mt kt et id} {m x y : Operand} {kv : Value} {l : Leaf} {es : List (Value × Leaf)} (hk : (E mt).k = .mp kt et) (hm : evA σ m = .one (.lf (.m id))) (hx : scalarV (evA σ x) = some kv)
    (hy : evA σ y = .one (.lf l)) (ho : look σ.store id = some (.mp es)) (hnew : keyNew (E kt).k kv es = true) (h : k undefV (mapSt (killQ id) (putObj σ id (.mp (es ++ [(kv, l)]))))) : Does P w0 mine a w ⟨d, .insert mt m x y, t, p, af, g⟩ k := by
  simp only [keyNew, Bool.and_eq_true, List.all_eq_true] at hnew
  obtain ⟨hki, hall⟩ := hnew
  have hmv := R.ev m
  rw [hm] at hmv
  obtain ⟨g1, b, hg, hb, hu⟩ := hmv.2
  obtain ⟨g1', hg', b', ents, clock, hb', hfp, hh, hsz, hrows⟩ := R.st.objs id _ ho
  rw [hg] at hg'; cases hg'
  rw [hb] at hb'; cases hb'
  have hxv := R.scalar hx
  have hyv := R.ev y
  rw [hy] at hyv
  have hund := TIok.mp (hE mt (by rw [hk]; simp)) hk
  obtain ⟨dd, hdd, hD⟩ := keyD_of hE hki
  have hget : (getObj b).run P w = .ok (.map ents clock) w := by simp [getObj, Sem.run, hh]
  have hnone : Instr.findNow dd kv ents.toList 0 = some none := by
    rcases findNow_spec (γ := γ) (w := w) hD hki es ents.toList 0 (by simpa using hsz) (fun j e he => by obtain ⟨en, e1, e2, e3⟩ := hrows j e he; exact ⟨en, by simpa using e1, e2, e3⟩) (by simp only [keysAre, List.all_eq_true]; exact fun e he => (hall e he).1) with ⟨j, v, e, _, h2, _⟩ | ⟨h1, _⟩
    · have hmem := List.mem_of_find?_eq_some h2
      have h3 := List.find?_some h2
      have := (hall e hmem).2
      rw [h3] at this; cases this
    · exact h1
  let en : MapEntry := { key := kv, val := a.eval y, born := clock }
  let w' : World := { w with heap := w.heap.setIfInBounds b (.map (ents.push en) (clock + 1)) }
  have hblt : b < w.heap.size := (Array.getElem?_eq_some_iff.mp hh).1
  have hset : (setObj b (.map (ents.push en) (clock + 1))).run P w = .ok () w' := by simp [setObj, Sem.run, hh, w']
  have hother : ∀ b' , b' ≠ b → w'.heap[b']? = w.heap[b']? := fun b' hne => by
    simp only [w', Array.getElem?_setIfInBounds]; rw [if_neg (Ne.symm hne)]
  have hbd := R.st.fp id _ ho b hfp
  have hext : ∀ b' (x : Go.Obj), ¬ γ.fp id b' → w.heap[b']? = some x → w'.heap[b']? = some x := fun b' x hne hx => by rw [hother b' (by rintro rfl; exact hne hfp)]; exact hx
  have S : Step γ (γ.grow id g1 (γ.fp id)) w w' (fun _ => False) (fun i => i = id) (fun i => i = id) := step_write R.st _ _ ho hg (γ.fp id) (fun _ => rfl) (fun h => absurd rfl h) hext
  have hkeep : Keep w0 mine w' := ⟨by simpa [w'] using R.st.keep.size, R.st.keep.os, R.st.keep.tape, R.st.keep.output, fun x hx hm => by
        rw [hother x (by rintro rfl; rcases hbd.2 with h | h; omega; exact hm h)]
        exact R.st.keep.old x hx hm, R.st.keep.tabs⟩
  have R' := R.write (o' := .mp (es ++ [(kv, l)])) (g' := g1) (F := γ.fp id) (w' := w') (fun _ => False) (fun i => i = id) (killQ id) (kills_Q id) ho hg (fun _ => rfl) (fun h => absurd rfl h)
    (fun x hx => ⟨.inl hx, by have := R.st.fp id _ ho x hx; simpa [w'] using this⟩) hext (by simp [w']) hkeep
    ⟨b, ents.push en, clock + 1, hb, by simpa [Ghost.grow] using hfp, by simp [w', hblt], by simp [hsz], fun j e he => by
      simp only [List.getElem?_map, Option.map_eq_some_iff] at he
      obtain ⟨e0, he0, rfl⟩ := he
      rcases Nat.lt_or_ge j es.length with hj | hj
      · rw [List.getElem?_append_left hj] at he0
        obtain ⟨en0, h1, h2, h3⟩ := hrows j e0 he0
        refine ⟨en0, ?_, h2, h3.kill S (kills_Q id)⟩
        rw [Array.getElem?_push, if_neg (by omega)]
        exact h1
      · rw [List.getElem?_append_right hj] at he0
        have hj0 : j - es.length = 0 := by
          rcases Nat.eq_zero_or_pos (j - es.length) with h | h
          · exact h
          · rw [List.getElem?_eq_none (by simp; omega)] at he0; cases he0
        rw [hj0] at he0
        simp at he0; subst he0
        refine ⟨en, ?_, rfl, hyv.kill S (kills_Q id)⟩
        rw [Array.getElem?_push, if_pos (by omega)]⟩
  refine .inr (.inl ⟨w', ?_, _, _, _, h, R', ⟨[], rfl, rfl, by simp⟩⟩)
  have hfk : (Instr.findKey kt kv ents.toList).run P w = .ok none w := by
    simp [Instr.findKey, Sem.run_bind, run_underlying hdd, hnone]
  simp only [execOp, hu, hxv, Instr.mapUpdate, Sem.run_bind, run_underlying hund, Result.andThen_ok, hget, run_checkKey w hdd hD, hfk]
  show Result.andThen ((setObj b (.map (ents.push en) (clock + 1))).run P w) _ = _
  rw [hset]
  rfl

theorem intTab_spec {kk : IntKind} : ∀ (es : List (Value × Leaf)) (tb : List (Value × Int)), intTab kk es = some tb → ∀ x, (∀ e, es.find? (fun e => keyEq x e.1) = some e → ∃ n, e.2 = .s (.int kk n) ∧ tb.find? (fun e => keyEq x e.1) = some (e.1, n)) ∧ (es.find? (fun e => keyEq x e.1) = none → tb.find? (fun e => keyEq x e.1) = none)
  | [], tb, h, x => by simp [intTab] at h; subst h; exact ⟨fun e he => by simp at he, fun _ => rfl⟩
  | (y, l) :: es, tb, h, x => by
    unfold intTab at h
    split at h
    · cases ‹(y, l) :: es = []›
    · rename_i y' k n t heq
      cases heq
      split at h
      · rename_i tl hs ht
        cases h
        have hk : kk = k := by cases kk <;> cases k <;> simp [sameK] at hs <;> rfl
        subst hk
        obtain ⟨i1, i2⟩ := intTab_spec es tl ht x
        simp only [List.find?_cons]
        cases hc : keyEq x y with
        | true => exact ⟨fun e he => by cases he; exact ⟨n, rfl, rfl⟩, fun he => by cases he⟩
        | false => exact ⟨i1, i2⟩
      · cases h
    · cases h

theorem lookP_std {x : Value} : ∀ (es : List (Value × Leaf)) (kd : K) (K : Option Leaf → Prop), keyIs kd x = true → keysAre kd es = true → lookP std x es K → K ((es.find? fun e => keyEq x e.1).map (·.2))
  | [], kd, K, _, _, h => h
  | (y, l) :: t, kd, K, hx, hk, h => by
    simp only [keysAre, List.all_cons, Bool.and_eq_true] at hk
    have he : eqKD std x y = keyEq x y := by
      cases x <;> cases y <;> first | rfl | simp [keyIs] at hx | skip
    have h : condP (eqKD std x y) (fun _ => K (some l)) (fun _ => lookP std x t K) := h
    simp only [List.find?_cons]
    rw [he] at h
    cases hc : keyEq x y with
    | true => rw [hc] at h; exact h
    | false => rw [hc] at h; exact lookP_std t kd K hx hk.2 h

theorem does_lookup (hE : EnvOk P E) (R : Rel w0 mine γ σ a w) {d t p af g mt kt et id ok} {m x : Operand} {xv : Value} {es : List (Value × Leaf)} (hk : (E mt).k = .mp kt et) (hm : evA σ m = .one (.lf (.m id))) (hx : scalarV (evA σ x) = some xv)
    (ho : look σ.store id = some (.mp es)) (hkeys : (keysAre (E kt).k es && zeroIs (E et)) = true) (hki : keyIs (E kt).k xv = true)
    (h : match intMap (E et).k es with
        | some (kk, tb) => k (foundV ok (.s (.int kk (std.mapI tb xv))) (std.mapB tb xv)) σ
        | none => match (E et).k, (E et).zero with
          | .fn, [z] => lookP std xv es fun r => match r with
            | some l => k (foundV ok l true) σ
            | none => k (foundV ok (leafOfValue z) false) σ
          | _, _ => False) : DoesQ P γ σ a w ⟨d, .lookup mt m x ok, t, p, af, g⟩ k := by
  simp only [Bool.and_eq_true] at hkeys
  obtain ⟨hkeys, hz⟩ := hkeys
  have hmv := R.ev m
  rw [hm] at hmv
  obtain ⟨g1, b, hg, hb, hu⟩ := hmv.2
  obtain ⟨g1', hg', b', ents, clock, hb', hfp, hh, hsz, hrows⟩ := R.st.objs id _ ho
  rw [hg] at hg'; cases hg'
  rw [hb] at hb'; cases hb'
  have hxv := R.scalar hx
  have hund := TIok.mp (hE mt (by rw [hk]; simp)) hk
  obtain ⟨dd, hdd, hD⟩ := keyD_of hE hki
  have hget : (getObj b).run P w = .ok (.map ents clock) w := by simp [getObj, Sem.run, hh]
  have hne : (E et).k ≠ .other := by intro e; unfold zeroIs at hz; rw [e] at hz; simp at hz
  have hag : isAg (E et).k = false := by unfold zeroIs at hz; split at hz <;> simp_all [isAg]
  obtain ⟨xi, hxi, _, _, z, hxz, hzc⟩ := (hE et hne).run_info
  have hone : z.oneCell' = true := (hE et hne).zone hag z (by rw [hxi]; simp [hxz])
  have hzc' : (E et).zero = [z] := by rw [← hzc, show z.cells = #[z] by cases z <;> first | rfl | (simp [Value.oneCell'] at hone)]
  have hzr : (zeroValue et).run P w = .ok z w := by simp [zeroValue, typeInfo, Sem.run_bind, hxi, hxz]
  have run : ∀ (r : Option (Nat × Value)), Instr.findNow dd xv ents.toList 0 = some r → (execOp a.eval ⟨d, .lookup mt m x ok, t, p, af, g⟩).run P w = .ok (.value (if ok then .tuple #[(r.map (·.2)).getD z, .bool r.isSome] else (r.map (·.2)).getD z)) w := by
    intro r hr
    have hfk : (Instr.findKey kt xv ents.toList).run P w = .ok r w := by
      simp [Instr.findKey, Sem.run_bind, run_underlying hdd, hr]
    have hck := fun b => run_checkKey (P := P) w (b := b) (n := 9999) hdd hD xv
    simp only [execOp, hu, hxv, Instr.lookup, Sem.run_bind, run_underlying hund, Result.andThen_ok, hget, Sem.run_pure, hck, hfk]
    cases r with
    | none => cases ok <;> simp [hzr]
    | some q => obtain ⟨i, v⟩ := q; cases ok <;> simp
  have rvF : ∀ {l : Leaf} {u : Value} {b : Bool}, RLeaf γ w l u → RV γ w (foundV ok l b) (if ok then .tuple #[u, .bool b] else u) := by
    intro l u b hl
    cases ok with
    | false => exact hl
    | true =>
      refine ⟨[u, .bool b], by simp, rfl, fun j v hj => ?_⟩
      match j, hj with
      | 0, hj => simp at hj; subst hj; exact ⟨u, rfl, hl⟩
      | 1, hj => simp at hj; subst hj; exact ⟨_, rfl, rfl, rfl⟩
      | j + 2, hj => simp at hj
  have hspec := findNow_spec (γ := γ) (w := w) hD hki es ents.toList 0 (by simpa using hsz) (fun j e he => by obtain ⟨en, e1, e2, e3⟩ := hrows j e he; exact ⟨en, by simpa using e1, e2, e3⟩) hkeys
  split at h
  · rename_i kk tb him
    unfold intMap at him
    split at him
    · rename_i kk' hke
      split at him
      · rename_i tb' htb
        cases him
        obtain ⟨i1, i2⟩ := intTab_spec es tb htb xv
        rcases hspec with ⟨j, v, e, h1, h2, h3⟩ | ⟨h1, h2⟩
        · obtain ⟨n, hn1, hn2⟩ := i1 e h2
          have hv : v = .int kk n := by rw [hn1] at h3; exact h3.2
          have e1 : std.mapI tb xv = n := by simp [std, mapIR, hn2]
          have e2 : std.mapB tb xv = true := by
            simp only [std, List.any_eq_true]
            exact ⟨_, List.mem_of_find?_eq_some hn2, by have := List.find?_some hn2; simpa using this⟩
          rw [e1, e2] at h
          exact .value R h (rvF (u := v) (by rw [hv]; exact ⟨rfl, rfl⟩)) (run _ h1)
        · have hn2 := i2 h2
          have e1 : std.mapI tb xv = 0 := by simp [std, mapIR, hn2]
          have e2 : std.mapB tb xv = false := by
            simp only [std]
            rw [List.find?_eq_none] at hn2
            rw [List.any_eq_false]
            intro e he
            have := hn2 e he
            simpa using this
          rw [e1, e2] at h
          have hv : z = .int kk 0 := by
            unfold zeroIs at hz
            rw [hke, hzc'] at hz
            split at hz
            · rename_i k1 k2 n e1 e2
              cases e1
              simp only [List.cons.injEq, and_true] at e2
              simp only [Bool.and_eq_true, beq_iff_eq] at hz
              have : kk = k2 := by have := hz.1; cases kk <;> cases k2 <;> simp [sameK] at this <;> rfl
              rw [e2, hz.2, this]
            · rename_i e1 _; cases e1
            · cases hz
          exact .value R h (rvF (u := z) (by rw [hv]; exact ⟨rfl, rfl⟩)) (run _ h1)
      · cases him
    · cases him
  · split at h
    · rename_i z0 hke hz0
      rw [hzc'] at hz0
      simp only [List.cons.injEq, and_true] at hz0
      subst hz0
      have h := lookP_std es _ _ hki hkeys h
      rcases hspec with ⟨j, v, e, h1, h2, h3⟩ | ⟨h1, h2⟩
      · rw [h2] at h
        exact .value R h (rvF h3) (run _ h1)
      · rw [h2] at h
        have hzl : RLeaf γ w (leafOfValue z) z := by
          have := rv_ofValue γ w z
          unfold leafOfValue
          split
          · exact ⟨rfl, rfl⟩
          · exact ⟨hone, rfl⟩
        exact .value R h (rvF hzl) (run _ h1)
    · exact h.elim
end
end Go.AW
/- The abstract calculus, part 18: an operation is as it is told. -/
set_option linter.unusedVariables false
set_option linter.unusedSimpArgs false
namespace Go.AW

/-- What a call of a function by its number does. -/
def CallDoes (P : Program) (w0 : World) (mine : FP) (f : FuncId) (args : Array Value) (a : Act) (w : World) (k : V → St → Prop) : Prop :=
  (∃ u w', (callFunc f args).run P w = .ok (.value u) w' ∧ Post w0 mine a k u w') ∨
  ((callFunc f args).run P w = .ok (.enter f args) w ∧ Calls P f args w fun e w' => ∃ u, e = .returned u ∧ Post w0 mine a k u w')

def ArgsOk (γ : Ghost) (w : World) (vs : List V) (args : List Value) : Prop :=
  args.length = vs.length ∧ ∀ (i : Nat) (v : V), vs[i]? = some v → ∃ u, args[i]? = some u ∧ RV γ w v u

/-- The calls' meaning. -/
def Csem (P : Program) (w0 : World) (mine : FP) : CallT := fun f vs σ k =>
  ∀ (γ : Ghost) (a : Act) (w : World) (args : List Value), Rel w0 mine γ σ a w → ArgsOk γ w vs args → CallDoes P w0 mine f args.toArray a w k

section
variable {P : Program} {w0 w w' : World} {mine : FP} {γ γ' : Ghost} {σ : St} {a : Act} {k : V → St → Prop} {E : Env}

theorem does_store (hE : EnvOk P E) (R : Rel w0 mine γ σ a w) {d ty p af g t} {x y : Operand} {l : Leaf} {cs : List Leaf} (hk : okK (E t).k = true) (hx : evA σ x = .one (.lf l)) (hy : cellsOf (evA σ y) = some cs) (hlen : cs.length = (E t).size)
    (h : storeP std σ l cs fun σ' => k undefV σ') : Does P w0 mine a w ⟨d, .store t x y, ty, p, af, g⟩ k := by
  unfold storeP at h
  split at h
  · split at h
    · rename_i ho
      split at h
      · rename_i hs
        exact does_store_p hE R hk hx hy hlen ho hs h
      · exact h.elim
    · rename_i ho
      split at h
      · rename_i hm hj
        exact does_store_arr hE R hk hx hy hlen ho (Nat.le_of_ble_eq_true hm) (Nat.lt_of_succ_le (Nat.le_of_ble_eq_true hj)) h
      · exact h.elim
    · exact h.elim
  · split at h
    · rename_i ds σ1 hf ht
      exact does_store_pr hE R hk hx hy hlen ht h
    · exact h.elim

theorem does_call (R : Rel w0 mine γ σ a w) {d ty p af gd} {f : Operand} {args : Array Operand} {ts : Array TypeId} {g : Nat} {caps : List (Nat × Nat)} (hf : evA σ f = .one (.lf (.fn g caps)))
    (h : Csem P w0 mine g ((args.map (evA σ)).toList ++ caps.map fun p => .one (.lf (.p p.1 p.2))) σ k) : Does P w0 mine a w ⟨d, .call { callee := .value f, args := args, argTypes := ts }, ty, p, af, gd⟩ k := by
  have hv := R.ev f
  rw [hf] at hv
  obtain ⟨vs, hu, hl, hc⟩ := hv.2
  have hA : ArgsOk γ w ((args.map (evA σ)).toList ++ caps.map fun p => .one (.lf (.p p.1 p.2))) ((args.map a.eval).toList ++ vs) := by
    refine ⟨by simp [hl], fun i v hv => ?_⟩
    rcases Nat.lt_or_ge i args.size with hi | hi
    · rw [List.getElem?_append_left (by simpa using hi)] at hv
      simp [hi] at hv
      subst hv
      refine ⟨a.eval args[i], ?_, R.ev _⟩
      rw [List.getElem?_append_left (by simpa using hi)]
      simp [hi]
    · rw [List.getElem?_append_right (by simpa using hi)] at hv
      simp only [List.getElem?_map, Option.map_eq_some_iff] at hv
      obtain ⟨c, hcc, rfl⟩ := hv
      obtain ⟨g', b, hg, hb, hvk⟩ := hc _ c hcc
      refine ⟨_, ?_, rfl, g', b, hg, hb, rfl⟩
      rw [List.getElem?_append_right (by simpa using hi)]
      simpa using hvk
  have hD := h γ a w _ R hA
  have he : (execOp a.eval ⟨d, .call { callee := .value f, args := args, argTypes := ts }, ty, p, af, gd⟩).run P w = (callFunc g ((args.map a.eval).toList ++ vs).toArray).run P w := by
    have e1 : ((args.map a.eval).toList ++ vs).toArray = args.map a.eval ++ vs.toArray := by
      apply Array.ext'; simp
    simp only [execOp, resolve, hu, Deferred.ofValue, Sem.run_bind, Sem.run_pure, Result.andThen_ok, invoke, e1]
    simp
  rcases hD with ⟨u, w', hr, hp⟩ | ⟨hr, hcalls⟩
  · exact .inl ⟨u, w', he.trans hr, hp⟩
  · exact .inr (.inr ⟨g, _, he.trans hr, hcalls⟩)

theorem does_callR (R : Rel w0 mine γ σ a w) {d ty p af gd} {f : Operand} {args : Array Operand} {ts : Array TypeId} {g : Nat} {rows : List (List DV)} (hf : evA σ f = .one (.lf (.fr g rows)))
    (h : Csem P w0 mine g ((args.map (evA σ)).toList ++ rows.map fun p => .one (.lf (.rp p))) σ k) : Does P w0 mine a w ⟨d, .call { callee := .value f, args := args, argTypes := ts }, ty, p, af, gd⟩ k := by
  have hv := R.ev f
  rw [hf] at hv
  obtain ⟨vs, hu, hl, hc⟩ := hv.2
  have hA : ArgsOk γ w ((args.map (evA σ)).toList ++ rows.map fun p => .one (.lf (.rp p))) ((args.map a.eval).toList ++ vs) := by
    refine ⟨by simp [hl], fun i v hv => ?_⟩
    rcases Nat.lt_or_ge i args.size with hi | hi
    · rw [List.getElem?_append_left (by simpa using hi)] at hv
      simp [hi] at hv
      subst hv
      refine ⟨a.eval args[i], ?_, R.ev _⟩
      rw [List.getElem?_append_left (by simpa using hi)]
      simp [hi]
    · rw [List.getElem?_append_right (by simpa using hi)] at hv
      simp only [List.getElem?_map, Option.map_eq_some_iff] at hv
      obtain ⟨c, hcc, rfl⟩ := hv
      obtain ⟨x, hvk, hrr⟩ := hc _ c hcc
      refine ⟨x, ?_, ?_, hrr⟩
      rotate_left
      · obtain ⟨b, off, cs, t, fr, hu, _⟩ := hrr
        rw [hu]; rfl
      rw [List.getElem?_append_right (by simpa using hi)]
      simpa using hvk
  have hD := h γ a w _ R hA
  have he : (execOp a.eval ⟨d, .call { callee := .value f, args := args, argTypes := ts }, ty, p, af, gd⟩).run P w = (callFunc g ((args.map a.eval).toList ++ vs).toArray).run P w := by
    have e1 : ((args.map a.eval).toList ++ vs).toArray = args.map a.eval ++ vs.toArray := by
      apply Array.ext'; simp
    simp only [execOp, resolve, hu, Deferred.ofValue, Sem.run_bind, Sem.run_pure, Result.andThen_ok, invoke, e1]
    simp
  rcases hD with ⟨u, w', hr, hp⟩ | ⟨hr, hcalls⟩
  · exact .inl ⟨u, w', he.trans hr, hp⟩
  · exact .inr (.inr ⟨g, _, he.trans hr, hcalls⟩)

theorem does_callB (R : Rel w0 mine γ σ a w) {d ty p af gd} {f : Operand} {args : Array Operand} {ts : Array TypeId} {g id j : Nat} (hf : evA σ f = .one (.lf (.fb g id j)))
    (h : Csem P w0 mine g (.one (.lf (.p id j)) :: (args.map (evA σ)).toList) σ k) : Does P w0 mine a w ⟨d, .call { callee := .value f, args := args, argTypes := ts }, ty, p, af, gd⟩ k := by
  have hv := R.ev f
  rw [hf] at hv
  obtain ⟨g1, b, hg, hb, hu⟩ := hv.2
  have hA : ArgsOk γ w (.one (.lf (.p id j)) :: (args.map (evA σ)).toList) (.pointer (some ⟨b, g1.base + j, none⟩) :: (args.map a.eval).toList) := by
    refine ⟨by simp, fun i v hv => ?_⟩
    cases i with
    | zero =>
      simp at hv; subst hv
      exact ⟨_, rfl, rfl, g1, b, hg, hb, rfl⟩
    | succ i =>
      simp only [List.getElem?_cons_succ] at hv ⊢
      have hi : i < args.size := by
        rcases Nat.lt_or_ge i args.size with h | h
        · exact h
        · simp [h] at hv
      simp [hi] at hv
      subst hv
      exact ⟨a.eval args[i], by simp [hi], R.ev _⟩
  have hD := h γ a w _ R hA
  have he : (execOp a.eval ⟨d, .call { callee := .value f, args := args, argTypes := ts }, ty, p, af, gd⟩).run P w = (callFunc g (.pointer (some ⟨b, g1.base + j, none⟩) :: (args.map a.eval).toList).toArray).run P w := by
    have e1 : (.pointer (some ⟨b, g1.base + j, none⟩) :: (args.map a.eval).toList).toArray = #[.pointer (some ⟨b, g1.base + j, none⟩)] ++ args.map a.eval := by
      apply Array.ext'; simp
    simp only [execOp, resolve, hu, Deferred.ofValue, Sem.run_bind, Sem.run_pure, Result.andThen_ok, invoke, e1]
    simp
  rcases hD with ⟨u, w', hr, hp⟩ | ⟨hr, hcalls⟩
  · exact .inl ⟨u, w', he.trans hr, hp⟩
  · exact .inr (.inr ⟨g, _, he.trans hr, hcalls⟩)

theorem opQ_sound {C : CallT} (hE : EnvOk P E) (R : Rel w0 mine γ σ a w) (o : Oper) (hq : quietOp E o.op = true) (h : opP std E C σ o k) : DoesQ P γ σ a w o k := by
  obtain ⟨d, op, ty, p, af, gd⟩ := o
  unfold opP at h
  split at h
  · rename_i x hop; cases hop; exact does_move R h
  · rename_i x hop; cases hop; simp [quietOp] at hq
  · rename_i c x y hop; cases hop
    split at h
    · rename_i t hc; exact does_pick R hc h
    · exact h.elim
  · rename_i op xt x y yt hop; cases hop
    split at h
    · rename_i hpt; exact does_ptr hE R hpt h
    · split at h
      · rename_i va vb h1 h2; exact does_binB hE R h1 h2 h
      · split at h
        · rename_i hy; exact does_nil hE R (.inl rfl) hy h.1 h.2 (fun b hb => hb)
        · rename_i hy; exact does_nil hE R (.inr rfl) hy h.1 h.2 (fun b hb => hb)
        · exact h.elim
  · rename_i op xt x hop; cases hop
    split at h
    · rename_i va h1; exact does_unOp R h1 h
    · exact h.elim
  · rename_i x hop; cases hop
    split at h
    all_goals first
      | exact h.elim
      | (rename_i h1; exact does_nilCheck R h1 trivial h)
  · rename_i x i hop; cases hop
    split at h
    · rename_i vs h1
      split at h
      · rename_i v h2; exact does_extract R h1 h2 h
      · exact h.elim
    · exact h.elim
  · rename_i s x f hop; cases hop
    split at h
    · rename_i fs hk
      split at h
      · rename_i off sz hf
        split at h
        · rename_i h1; exact does_fieldAddr hE R hk hf h1 (l' := .p _ _) ⟨rfl, rfl⟩ h
        · rename_i h1; exact does_fieldAddr hE R hk hf h1 (l' := .pr _ _ _) ⟨rfl, rfl, rfl⟩ h
        · rename_i h1; exact does_fieldAddr hE R hk hf h1 (l' := .qp _ _ _ _ _ _) ⟨rfl, rfl, rfl, rfl, rfl, rfl⟩ h
        · rename_i h1; exact does_fieldAddr hE R hk hf h1 (l' := .rp _) rfl h
        · rename_i h1; exact does_fieldAddr hE R hk hf h1 (l' := .sp _ _) ⟨rfl, rfl⟩ h
        · rename_i h1; exact does_fieldAddr hE R hk hf h1 (l' := .gt _ _ _ _) ⟨rfl, rfl, rfl, rfl⟩ h
        · exact h.elim
      · exact h.elim
    · exact h.elim
  · rename_i t x i hop; cases hop
    split at h
    · rename_i e n hk hi
      split at h
      · rename_i hke; exact does_indexAddr hE R hk hke hi h
      · exact h.elim
    · rename_i m e n hk hi
      split at h
      · rename_i id hke hx
        split at h
        · rename_i ho; exact does_indexArr hE R hk hke hi hx ho h
        · exact h.elim
      · rename_i gg hke hx
        exact does_indexTab hE R hk hke hi hx h.2 (Nat.le_of_ble_eq_true h.1)
      · exact h.elim
    · exact h.elim
  · rename_i t x i hop; cases hop
    split at h
    · rename_i s n hk hx hi; exact does_index hE R hk hx hi h
    · exact h.elim
  · rename_i t x hop; cases hop
    split at h
    · rename_i gg r c sz hk hx
      split at h
      · rename_i kk l hg
        obtain ⟨h1, h2, h⟩ := h
        split at h
        · rename_i v hv; exact does_loadTab hE R (okK_ne hk) hx hg (by simpa [std] using h1) (Nat.le_of_ble_eq_true h2) hv h
        · exact h.elim
      · exact h.elim
    · rename_i l _ hk hx
      split at h
      · rename_i cs hr
        split at h
        · rename_i v hv; exact does_load hE R (okK_ne hk) hx hr hv h
        · exact h.elim
      · exact h.elim
    · exact h.elim
  · rename_i t x y hop; cases hop; simp [quietOp] at hq
  · rename_i t x lo hi hop; cases hop
    split at h
    · rename_i l hh hl hh'
      split at h
      · rename_i e hk
        split at h
        · rename_i hke; exact does_sliceP hE R hk hke hl hh' h
        · exact h.elim
      · rename_i hk
        split at h
        · rename_i s hx; exact does_sliceS hE R hk hl hh' hx h
        · exact h.elim
      · exact h.elim
    · exact h.elim
  · rename_i src dst x hop; cases hop
    unfold convP at h
    split at h
    · exact h.elim
    · rename_i hsrc
      split at h
      · rename_i hk hx; exact does_convert hE R hsrc hk hx h
      · rename_i hk hx; exact does_convSS hE R hsrc hk hx h
      · rename_i hk hx; exact does_convIS hE R hsrc hk hx h
      · rename_i hk hx
        split at h
        · rename_i e hks
          split at h
          · rename_i hke hd; exact does_convBS hE R hks hke hk hx hd h.1 h.2
          · exact h.elim
        · exact h.elim
      · rename_i e s hk hx; simp [quietOp, hk] at hq
      · exact h.elim
  · rename_i t hop; cases hop; simp [quietOp] at hq
  · rename_i t x hop; cases hop; simp [quietOp] at hq
  · rename_i t parts hop; cases hop
    split at h
    · rename_i fs ps hk hps
      split at h
      · rename_i cs hb; exact does_build hE R hk hps hb h
      · exact h.elim
    · exact h.elim
  · rename_i t len parts hop; cases hop; simp [quietOp] at hq
  · rename_i t l c hop; cases hop; simp [quietOp] at hq
  · rename_i t x hop; cases hop; simp [quietOp] at hq
  · rename_i x hop; cases hop; simp [quietOp] at hq
  · rename_i f first caps hop; cases hop
    split at h
    · rename_i cs h1 h2
      have : first = #[] := Array.eq_empty_of_size_eq_zero (by rw [← Array.length_toList, h1]; rfl)
      subst this
      exact does_makeFunc R h2 h
    · rename_i x h1 h2
      split at h
      · rename_i id j hx
        have e1 : first = #[x] := by rw [← Array.toList_inj, h1]
        have e2 : caps = #[] := Array.eq_empty_of_size_eq_zero (by have := (allS_spec h2).1; simpa using this.symm)
        subst e1 e2
        exact does_makeFuncB R hx h
      · exact h.elim
    · exact h.elim
  · rename_i t hop; cases hop; simp [quietOp] at hq
  · rename_i t m x y hop; cases hop; simp [quietOp] at hq
  · rename_i t m x ok hop; cases hop
    split at h
    · rename_i kt et id xv hk hm hx
      split at h
      · rename_i es ho
        exact does_lookup hE R hk hm hx ho h.1 h.2.1 h.2.2
      · exact h.elim
    · exact h.elim
  · rename_i c hop; cases hop
    obtain ⟨callee, args, ts⟩ := c
    have hlit : ∀ {α : Type} {xs : Array α} {l : List α}, xs.toList = l → xs = l.toArray := fun h => by rw [← h]
    split at h
    · rename_i f hc; cases hc; simp [quietOp] at hq
    · rename_i hc; cases hc
      split at h
      · rename_i x t h1 h2
        cases hlit h1; cases hlit h2
        split at h
        · rename_i hk; exact does_len hE R hk h
        · exact h.elim
      · exact h.elim
    · rename_i hc; cases hc; simp [quietOp] at hq
    · rename_i hc; cases hc; simp [quietOp] at hq
    · rename_i hc; cases hc
      split at h
      · rename_i x y h1
        cases hlit h1
        split at h
        · rename_i h2 h3; exact does_min R h2 h3 h
        · exact h.elim
      · exact h.elim
    · rename_i hc; cases hc
      split at h
      · rename_i x y h1
        cases hlit h1
        split at h
        · rename_i h2 h3; exact does_max R h2 h3 h
        · exact h.elim
      · exact h.elim
    · exact h.elim
  · exact h.elim

theorem opP_sound (hE : EnvOk P E) (R : Rel w0 mine γ σ a w) (o : Oper) (h : opP std E (Csem P w0 mine) σ o k) : Does P w0 mine a w o k := by
  cases hq : quietOp E o.op with
  | true => exact (opQ_sound hE R o hq h).does R
  | false =>
    obtain ⟨d, op, ty, p, af, gd⟩ := o
    unfold opP at h
    split at h
    · rename_i x hop; cases hop; simp [quietOp] at hq
    · rename_i x hop; cases hop; exact (does_assign R h).does R
    · rename_i c x y hop; cases hop; simp [quietOp] at hq
    · rename_i op xt x y yt hop; cases hop; simp [quietOp] at hq
    · rename_i op xt x hop; cases hop; simp [quietOp] at hq
    · rename_i x hop; cases hop; simp [quietOp] at hq
    · rename_i x i hop; cases hop; simp [quietOp] at hq
    · rename_i s x f hop; cases hop; simp [quietOp] at hq
    · rename_i t x i hop; cases hop; simp [quietOp] at hq
    · rename_i t x i hop; cases hop; simp [quietOp] at hq
    · rename_i t x hop; cases hop; simp [quietOp] at hq
    · rename_i t x y hop; cases hop
      split at h
      · rename_i l cs hk hx hy
        exact does_store hE R hk hx hy (by simpa using h.1) h.2
      · exact h.elim
    · rename_i t x lo hi hop; cases hop; simp [quietOp] at hq
    · rename_i src dst x hop; cases hop
      unfold convP at h
      split at h
      · exact h.elim
      · rename_i hsrc
        split at h
        · rename_i hk hx; simp [quietOp, hk] at hq
        · rename_i hk hx; simp [quietOp, hk] at hq
        · rename_i hk hx; simp [quietOp, hk] at hq
        · rename_i hk hx; simp [quietOp, hk] at hq
        · rename_i e s hk hx
          split at h
          · rename_i hke; exact does_bytes hE R hsrc hk hke hx h
          · exact h.elim
        · exact h.elim
    · rename_i t hop; cases hop
      exact does_alloc hE R h.1 h.2
    · rename_i t x hop; cases hop
      split at h
      · rename_i cs hx
        split at h
        · rename_i n v vs hn hv
          exact does_boxArr hE R hx hv h.1 h.2
        · exact does_box hE R hx h
      · exact h.elim
    · rename_i t parts hop; cases hop; simp [quietOp] at hq
    · rename_i t len parts hop; cases hop
      split at h
      · rename_i e ps hk hps
        split at h
        · rename_i hke
          obtain ⟨hpos, h⟩ := h
          have hpos : 0 < (E e).size := Nat.le_of_ble_eq_true hpos
          unfold buildSliceP at h
          split at h
          · rename_i hnr
            unfold noRow at hnr
            split at hnr
            · have := Nat.eq_of_beq_eq_true hnr
              subst this
              exact does_buildSlice0 hE R hk hke hps hpos h
            · cases hnr
          · split at h
            · rename_i cs hor
              unfold oneRow at hor
              split at hor
              · rename_i i cs1
                split at hor
                · rename_i h1 h2
                  simp at hor; subst hor
                  have e1 := Nat.eq_of_beq_eq_true h1
                  have e2 := Nat.eq_of_beq_eq_true h2
                  subst e1 e2
                  obtain ⟨hc, h⟩ := h
                  simp only [Bool.and_eq_true] at hc
                  split at h
                  · split at h
                    · rename_i ds σ' h' ht
                      exact does_buildSliceD hE R hk hke hps hpos (Nat.eq_of_beq_eq_true hc.1) (Nat.le_of_ble_eq_true hc.2) ht h
                    · exact does_buildSlice1 hE R hk hke hps hpos (Nat.eq_of_beq_eq_true hc.1) (Nat.le_of_ble_eq_true hc.2) h
                  · exact does_buildSlice1 hE R hk hke hps hpos (Nat.eq_of_beq_eq_true hc.1) (Nat.le_of_ble_eq_true hc.2) h
                · cases hor
              · cases hor
            · split at h
              · rename_i cols hcols
                obtain ⟨hall, hn, h⟩ := h
                refine does_buildSliceT hE R hk hke hps hpos hcols (fun p hp => ?_) (Nat.le_of_ble_eq_true hn) h
                have := List.all_eq_true.mp hall p hp
                simp only [Bool.and_eq_true] at this
                exact ⟨by simpa using this.1, Nat.eq_of_beq_eq_true this.2⟩
              · split at h
                · rename_i cs hh hs1
                  split at h
                  · rename_i ds σ' h' ht
                    obtain ⟨hall, hn, h⟩ := h
                    refine does_buildSliceN hE R hk hke hps (Nat.eq_of_beq_eq_true hs1) hh (fun p hp => ?_) (Nat.le_of_ble_eq_true hn) ht h
                    have := List.all_eq_true.mp hall p hp
                    simp only [Bool.and_eq_true] at this
                    exact ⟨by simpa using this.1, Nat.eq_of_beq_eq_true this.2⟩
                  · exact h.elim
                · exact h.elim
        · exact h.elim
      · exact h.elim
    · rename_i t l c hop; cases hop
      split at h
      · rename_i e n m hk hl hc
        split at h
        · rename_i hke
          obtain ⟨hpos, h0, h1, hb, hr, h⟩ := h
          have hpos : 0 < (E e).size := Nat.le_of_ble_eq_true hpos
          have hb := Nat.le_of_ble_eq_true hb
          simp only [std, decide_eq_true_eq] at h0 h1 hr
          split at h
          · rename_i ds hz
            have hm : m.toNat ≤ 140737488355328 := Nat.le_trans (Nat.le_mul_of_pos_right _ hb) hr
            exact does_makeSlice hE R hk hke hl hc hpos h0 h1 hr (by omega) hz h
          · exact h.elim
        · exact h.elim
      · exact h.elim
    · rename_i t x hop; cases hop
      split at h
      · rename_i s hk hx; exact does_range hE R hk hx h
      · exact h.elim
    · rename_i x hop; cases hop
      split at h
      · rename_i id hx
        split at h
        · rename_i s pos ho; exact does_next R hx ho h
        · exact h.elim
      · exact h.elim
    · rename_i f first caps hop; cases hop; simp [quietOp] at hq
    · rename_i t hop; cases hop
      exact does_makeMap R h.2
    · rename_i t m x y hop; cases hop
      split at h
      · rename_i kt et id kv l hk hm hx hy
        split at h
        · rename_i es ho
          exact does_insert hE R hk hm hx hy ho h.1 h.2
        · exact h.elim
      · exact h.elim
    · rename_i t m x ok hop; cases hop; simp [quietOp] at hq
    · rename_i c hop; cases hop
      obtain ⟨callee, args, ts⟩ := c
      have hlit : ∀ {α : Type} {xs : Array α} {l : List α}, xs.toList = l → xs = l.toArray := fun h => by rw [← h]
      split at h
      · rename_i f hc; cases hc
        split at h
        · rename_i g rows hf; exact does_callR R hf h
        · rename_i g caps hf; exact does_call R hf h
        · rename_i g id j hf; exact does_callB R hf h
        · exact h.elim
      · rename_i hc; cases hc; simp [quietOp] at hq
      · rename_i hc; cases hc
        split at h
        · rename_i x ty h1 h2
          cases hlit h1; cases hlit h2
          split at h
          · rename_i hk hx; exact does_cap hE R hk hx h
          · exact h.elim
        · exact h.elim
      · rename_i hc; cases hc
        split at h
        · rename_i s x t t2 h1 h2
          cases hlit h1; cases hlit h2
          split at h
          · rename_i e2 hk; exact does_append hE R (.inr ⟨e2, (hE t2 (by rw [hk]; simp)).sl hk⟩) h
          · rename_i hk; exact does_append hE R (.inl ((hE t2 (by rw [hk]; simp)).str hk)) h
          · rename_i kk hk2
            split at h
            · rename_i n e hs hx hk
              split at h
              · rename_i hke
                obtain ⟨h1, h2, h3, h4, h⟩ := h
                split at h
                · rename_i ds hz
                  simp only [std, decide_eq_true_eq] at h2 h4
                  exact does_appendMk hE R hk2 hk hke hs hx (Nat.le_of_ble_eq_true h1) h2 (Nat.le_of_ble_eq_true h3) h4 hz h
                · exact h.elim
              · exact h.elim
            · exact h.elim
          · exact h.elim
        · exact h.elim
      · rename_i hc; cases hc; simp [quietOp] at hq
      · rename_i hc; cases hc; simp [quietOp] at hq
      · exact h.elim
    · exact h.elim
end
end Go.AW
/- The abstract calculus, part 19: regions in the text's order. -/
set_option linter.unusedVariables false
set_option linter.unusedSimpArgs false
namespace Go.AW

theorem setN_self {α : Type} (d : α) : ∀ (l : List α) (n : Nat) (v : α), getN d l n = v → n < l.length → setN l n v = l
  | [], n, v, _, h => by simp at h
  | a :: l, 0, v, h, _ => by simp [getN] at h; simp [setN, h]
  | a :: l, n + 1, v, h, hn => by simp [getN] at h; simp [setN, setN_self d l n v h (by simpa using hn)]
theorem put_defers (a : Act) (d : Option Tmp) (v : Value) : (a.put d v).defers = a.defers := by cases d <;> rfl
theorem put_size (a : Act) (d : Option Tmp) (v : Value) : (a.put d v).tmps.size = a.tmps.size := by cases d <;> simp [Act.put]

/-- One operation in a region has come to a value (undef: passed over). -/
def StepTo (P : Program) (ops : Array Oper) (o : Oper) (w0 : World) (mine : FP) (a : Act) (w : World) (k : V → St → Prop) : Prop :=
  (Region.wanted o (yielded ops a.tmps) = true ∧ Does P w0 mine a w o k) ∨ (Region.wanted o (yielded ops a.tmps) = false ∧ Post w0 mine a k undef w)

section
variable {P : Program} {w0 w w' : World} {mine : FP} {γ γ' : Ghost} {σ : St} {a : Act} {k : V → St → Prop} {E : Env}

theorem rv_undef : RV γ w undefV undef := ⟨[], rfl, rfl, by simp⟩

theorem yielded_bool (R : Rel w0 mine γ σ a w) {ops : Array Oper} {j d : Nat} {oj : Oper} {b : Bool} (hj : nthO ops.toList j = some oj) (hd : oj.dst = some d) (hv : getN undefV σ.slots d = .one (.lf (.s (.bool b)))) :
    yielded ops a.tmps j = some b ∧ setN σ.slots d (.one (.lf (.s (.bool b)))) = σ.slots := by
  rw [nthO_getElem?, Array.getElem?_toList] at hj
  have hR := R.slots d
  rw [hv] at hR
  have he : a.tmps.getD d undef = .bool b := hR.2
  have hlt : d < a.tmps.size := by
    rcases Nat.lt_or_ge d a.tmps.size with h | h
    · exact h
    · simp [Array.getD, Nat.not_lt.mpr h, undef] at he
  have h1 : a.tmps[d]? = some (.bool b) := by
    rw [Array.getElem?_eq_getElem hlt]
    simpa [Array.getD, hlt] using he
  exact ⟨by simp [yielded, hj, hd, h1], setN_self undefV _ _ _ hv (by rw [← R.size]; exact hlt)⟩

theorem yielded_none (R : Rel w0 mine γ σ a w) {ops : Array Oper} {j d : Nat} {oj : Oper} (hj : nthO ops.toList j = some oj) (hd : oj.dst = some d) (hv : getN undefV σ.slots d = .tup []) :
    yielded ops a.tmps j = none := by
  rw [nthO_getElem?, Array.getElem?_toList] at hj
  have hR := R.slots d
  rw [hv] at hR
  obtain ⟨us, he, hl, _⟩ := hR
  have hus : us = [] := List.eq_nil_of_length_eq_zero hl
  subst hus
  simp only [yielded, hj, Option.bind_some, hd]
  cases ht : a.tmps[d]? with
  | none => rfl
  | some v =>
    have : a.tmps.getD d undef = v := by
      obtain ⟨hlt, h⟩ := Array.getElem?_eq_some_iff.mp ht
      simp [Array.getD, hlt, h]
    rw [this] at he
    simp [he]

theorem stepP_sound (hE : EnvOk P E) (R : Rel w0 mine γ σ a w) (ops : Array Oper) (o : Oper) (h : stepP std E (Csem P w0 mine) ops.toList σ o k) : StepTo P ops o w0 mine a w k := by
  unfold stepP at h
  split at h
  · rename_i hg
    exact .inl ⟨by simp [Region.wanted, hg], opP_sound hE R o h⟩
  · rename_i j want hg
    split at h
    · rename_i oj hj
      split at h
      · rename_i d hd
        split at h
        · rename_i b hv
          obtain ⟨hy, hs⟩ := yielded_bool R (ops := ops) hj hd hv
          have hwant : Region.wanted o (yielded ops a.tmps) = (some b == some want) := by simp [Region.wanted, hg, hy]
          cases b with
          | true =>
            rw [hs] at h
            cases want with
            | true => exact .inl ⟨by rw [hwant]; rfl, opP_sound hE R o h⟩
            | false => exact .inr ⟨by rw [hwant]; rfl, undefV, σ, γ, h, R, rv_undef⟩
          | false =>
            rw [hs] at h
            cases want with
            | true => exact .inr ⟨by rw [hwant]; rfl, undefV, σ, γ, h, R, rv_undef⟩
            | false => exact .inl ⟨by rw [hwant]; rfl, opP_sound hE R o h⟩
        · rename_i hv
          have hy := yielded_none R (ops := ops) hj hd hv
          exact .inr ⟨by simp [Region.wanted, hg, hy], undefV, σ, γ, h, R, rv_undef⟩
        · exact h.elim
      · exact h.elim
    · exact h.elim

/-- From what an operation comes to, on. -/
theorem wpOp_of {ops : Array Oper} {i : Nat} {o : Oper} {Q : Exit → Act → World → Prop} {K : Act → World → Prop} (hi : ops[i]? = some o) (h : StepTo P ops o w0 mine a w k)
    (hK : ∀ u w', Post w0 mine a k u w' → K (a.put o.dst u) w') : wpOp P ops Q i K a w := by
  unfold wpOp
  simp only [hi]
  rcases h with ⟨hw, hd⟩ | ⟨hw, hp⟩
  · rw [if_pos hw]
    refine .inl ?_
    unfold Oper.wp
    rcases hd with ⟨u, w', hr, hp⟩ | ⟨w', hr, hp⟩ | ⟨f, args, hr, hc⟩
    · rw [hr]; exact hK u w' hp
    · rw [hr]; exact hK undef w' hp
    · rw [hr]
      refine Calls.mono hc (fun e w' he => ?_)
      obtain ⟨u, rfl, hp⟩ := he
      exact hK u w' hp
  · rw [if_neg (by rw [hw]; simp)]
    exact hK undef w hp

/-- What is said of the frame stays, whatever comes into these operations' temporaries. -/
def KeepsO (Φ : Act → Prop) (ops : List Oper) : Prop := ∀ o, o ∈ ops → ∀ a u, Φ a → Φ (a.put o.dst u)

theorem opsP_sound (hE : EnvOk P E) {ops : Array Oper} {Q : Exit → Act → World → Prop} {K : St → Prop} {Φ : Act → Prop} (hΦ : KeepsO Φ ops.toList) (hQ : ∀ σ γ a w, K σ → Rel w0 mine γ σ a w → Φ a → Q .normal a w) :
    ∀ (n i : Nat) (σ : St) (γ : Ghost) (a : Act) (w : World), i + n = ops.size → Rel w0 mine γ σ a w → Φ a → opsP std E (Csem P w0 mine) ops.toList (ops.toList.drop i) σ K → wpOps P ops Q (List.range' i n) a w
  | 0, i, σ, γ, a, w, hn, R, hd, h => by
    rw [List.drop_eq_nil_of_le (by simp; omega)] at h
    exact hQ σ γ a w h R hd
  | n + 1, i, σ, γ, a, w, hn, R, hd, h => by
    have hlt : i < ops.size := by omega
    have hi : ops[i]? = some ops[i] := Array.getElem?_eq_getElem hlt
    rw [List.drop_eq_getElem_cons (by simpa using hlt)] at h
    simp only [Array.getElem_toList] at h
    rw [List.range'_succ, wpOps_cons]
    refine wpOp_of hi (stepP_sound hE R ops _ h) (fun u w' hp => ?_)
    obtain ⟨V, σ', γ', hk, R', hv⟩ := hp
    exact opsP_sound hE hΦ hQ n (i + 1) _ γ' _ w' (by omega) (R'.set _ V u hv) (hΦ ops[i] (by simp) a u hd) hk
end
end Go.AW
/- The abstract calculus, part 20: regions that draw their order. -/
set_option linter.unusedVariables false
set_option linter.unusedSimpArgs false
namespace Go.AW

theorem memN_iff : ∀ (l : List Nat) (n : Nat), memN l n = true ↔ n ∈ l
  | [], n => by simp [memN]
  | a :: l, n => by
    simp only [memN, List.mem_cons]
    cases h : Nat.beq a n with
    | true => have := Nat.eq_of_beq_eq_true h; subst this; simp
    | false =>
      have := Nat.ne_of_beq_eq_false h
      rw [cond_false, memN_iff l n]
      constructor
      · exact .inr
      · rintro (h | h)
        · exact absurd h.symm this
        · exact h

theorem uniN_mem : ∀ (l s : List Nat) (j : Nat), j ∈ uniN l s → j ∈ l ∨ j ∈ s
  | [], s, j, h => .inr h
  | x :: l, s, j, h => by
    simp only [uniN] at h
    split at h
    · rcases uniN_mem l s j h with h | h
      · exact .inl (by simp [h])
      · exact .inr h
    · rcases uniN_mem l _ j h with h | h
      · exact .inl (by simp [h])
      · rcases List.mem_cons.mp h with h | h
        · exact .inl (by simp [h])
        · exact .inr h
theorem foldl_mem {g : Nat → List Nat} : ∀ (l s : List Nat) (j : Nat), j ∈ l.foldl (fun s j => uniN (j :: g j) s) s → j ∈ s ∨ ∃ m, m ∈ l ∧ (j = m ∨ j ∈ g m)
  | [], s, j, h => .inl h
  | m :: l, s, j, h => by
    rcases foldl_mem l _ j h with h | ⟨m', hm, h⟩
    · have h := uniN_mem _ _ _ h
      simp only [List.mem_cons, or_assoc] at h
      rcases h with h | h | h
      · exact .inr ⟨m, by simp, .inl h⟩
      · exact .inr ⟨m, by simp, .inr h⟩
      · exact .inl h
    · exact .inr ⟨m', by simp [hm], h⟩

theorem getN_append_left {α : Type} (d : α) : ∀ (l l' : List α) (n : Nat), n < l.length → getN d (l ++ l') n = getN d l n := by
  intro l l' n h
  rw [getN_getD, getN_getD, List.getD_eq_getElem?_getD, List.getD_eq_getElem?_getD, List.getElem?_append_left h]
theorem getN_out {α : Type} (d : α) (l : List α) (n : Nat) (h : l.length ≤ n) : getN d l n = d := by
  rw [getN_getD, List.getD_eq_getElem?_getD, List.getElem?_eq_none h]; rfl

theorem befL_old : ∀ (os : List Oper) (acc : List (List Nat)) (m : Nat), m < acc.length → getN [] (befL os acc) m = getN [] acc m
  | [], acc, m, h => rfl
  | o :: os, acc, m, h => by
    rw [befL, befL_old os _ m (by simp; omega), getN_append_left _ _ _ _ h]

theorem befL_spec : ∀ (os : List Oper) (acc : List (List Nat)) (i : Nat) (o : Oper), os[i]? = some o →
    ∀ j, j ∈ getN [] (befL os acc) (acc.length + i) → ∃ m, m ∈ afterL o ∧ (j = m ∨ (m < acc.length + i ∧ j ∈ getN [] (befL os acc) m))
  | [], acc, i, o, h => by simp at h
  | o' :: os, acc, 0, o, h => by
    simp at h; subst h
    intro j hj
    rw [befL, befL_old os _ _ (by simp), Nat.add_zero, getN_getD, List.getD_eq_getElem?_getD, List.getElem?_append_right (Nat.le_refl _)] at hj
    simp only [Nat.sub_self, List.getElem?_cons_zero, Option.getD_some] at hj
    rcases foldl_mem _ _ j hj with h | ⟨m, hm, h⟩
    · simp at h
    · refine ⟨m, hm, ?_⟩
      rcases h with h | h
      · exact .inl h
      · rcases Nat.lt_or_ge m acc.length with hl | hl
        · refine .inr ⟨by omega, ?_⟩
          rw [befL, befL_old os _ _ (by simp; omega), getN_append_left _ _ _ _ hl]
          exact h
        · rw [getN_out _ _ _ hl] at h; simp at h
  | o' :: os, acc, i + 1, o, h => by
    intro j hj
    have := befL_spec os (acc ++ [(afterL o').foldl (fun s j => uniN (j :: getN [] acc j) s) []]) i o (by simpa using h) j (by simpa [befL, Nat.add_assoc, Nat.add_comm 1 i] using hj)
    simpa [befL, Nat.add_assoc, Nat.add_comm 1 i] using this

/-- What has been done is closed under what must come before. -/
def Closed (L : List Oper) (ex : Nat → Prop) : Prop := ∀ (i : Nat) (o : Oper), L[i]? = some o → ex i → ∀ m, m ∈ afterL o → ex m

theorem bef_sub {L : List Oper} {ex : Nat → Prop} (hc : Closed L ex) : ∀ (i : Nat) (o : Oper), L[i]? = some o → (∀ m, m ∈ afterL o → ex m) → ∀ j, j ∈ getN [] (befL L []) i → ex j := by
  intro i
  induction i using Nat.strongRecOn with
  | _ i ih =>
    intro o ho ha j hj
    obtain ⟨m, hm, h⟩ := befL_spec L [] i o ho j (by simpa using hj)
    rcases h with rfl | ⟨hlt, h⟩
    · exact ha _ hm
    · simp only [List.length_nil, Nat.zero_add] at hlt
      have hL : i < L.length := (List.getElem?_eq_some_iff.mp ho).1
      have hm' : L[m]? = some L[m] := List.getElem?_eq_getElem (by omega)
      exact ih m hlt _ hm' (hc m _ hm' (ha m hm)) j h

def PO (E : Env) (L : List Oper) (i j : Nat) : Prop := ∃ oi oj, L[i]? = some oi ∧ L[j]? = some oj ∧ pairOk E L (befL L []) i j oi oj = true

theorem restOk_spec {E : Env} {L : List Oper} {i : Nat} {oi : Oper} {done : List Nat} : ∀ (os : List Oper) (n : Nat), restOk E L (befL L []) i oi done os n = true → ∀ (j : Nat) (oj : Oper), os[j]? = some oj → n + j ∉ done → i ≠ n + j → pairOk E L (befL L []) i (n + j) oi oj = true
  | [], n, _, j, oj, h => by simp at h
  | o :: os, n, hk, 0, oj, h => by
    simp at h; subst h
    intro hd hi
    simp only [restOk, Bool.and_eq_true, Bool.or_eq_true] at hk
    rcases hk.1 with (h | h) | h
    · exact absurd ((memN_iff _ _).mp h) hd
    · exact absurd (Nat.eq_of_beq_eq_true h) hi
    · exact h
  | o :: os, n, hk, j + 1, oj, h => by
    simp only [restOk, Bool.and_eq_true] at hk
    rw [show n + (j + 1) = n + 1 + j by omega]
    exact restOk_spec os (n + 1) hk.2 j oj (by simpa using h)
theorem addOk_spec {E : Env} {L : List Oper} {i : Nat} {done : List Nat} (h : addOk E L (befL L []) i done = true) : ∀ j, j < L.length → j ∉ done → j ≠ i → PO E L i j := by
  intro j hj hd hn
  unfold addOk at h
  split at h
  · rename_i oi hi
    rw [nthO_getElem?] at hi
    have hj' : L[j]? = some L[j] := List.getElem?_eq_getElem hj
    exact ⟨oi, _, hi, hj', by have := restOk_spec L 0 h j _ hj' (by simpa using hd) (by simpa using hn.symm); simpa using this⟩
  · cases h
theorem nextQ_some {E : Env} {done : List Nat} : ∀ (os : List Oper) (n : Nat) {i : Nat}, nextQ E done os n = some i → ∃ o, n ≤ i ∧ os[i - n]? = some o ∧ i ∉ done ∧ quietOp E o.op = true ∧ ∀ m, m ∈ afterL o → m ∈ done
  | [], n, i, h => by simp [nextQ] at h
  | o :: os, n, i, h => by
    simp only [nextQ] at h
    split at h
    · rename_i h1 h2
      cases h
      simp only [Bool.and_eq_true, List.all_eq_true] at h2
      refine ⟨o, Nat.le_refl _, by simp, fun c => ?_, h2.1, fun m hm => (memN_iff _ _).mp (h2.2 m hm)⟩
      rw [(memN_iff _ _).mpr c] at h1; cases h1
    · obtain ⟨o', h1, h2, h3⟩ := nextQ_some os (n + 1) h
      refine ⟨o', by omega, ?_, h3⟩
      rw [show i - n = (i - (n + 1)) + 1 by omega]
      simpa using h2
theorem nextQ_none {E : Env} {done : List Nat} : ∀ (os : List Oper) (n : Nat), nextQ E done os n = none → ∀ (i : Nat) (o : Oper), os[i]? = some o → n + i ∉ done → (∀ m, m ∈ afterL o → m ∈ done) → quietOp E o.op = false ∧ n + i ∈ readyL E done os n
  | [], n, _, i, o, h => by simp at h
  | o' :: os, n, hk, 0, o, h => by
    simp at h; subst h
    intro hd ha
    simp only [Nat.add_zero] at hd ⊢
    have e1 : memN done n = false := by
      cases hm : memN done n with
      | false => rfl
      | true => exact absurd ((memN_iff _ _).mp hm) hd
    have e2 : (afterL o').all (memN done) = true := List.all_eq_true.mpr fun m hm => (memN_iff _ _).mpr (ha m hm)
    simp only [nextQ, e1, e2, Bool.and_true] at hk
    have e3 : quietOp E o'.op = false := by
      cases hq : quietOp E o'.op with
      | false => rfl
      | true => rw [hq] at hk; simp at hk
    refine ⟨e3, ?_⟩
    simp only [readyL, e1, e2, e3, Bool.not_false, Bool.and_true, List.mem_cons, true_or]
  | o' :: os, n, hk, i + 1, o, h => by
    intro hd ha
    have hk' : nextQ E done os (n + 1) = none := by
      simp only [nextQ] at hk
      split at hk
      · cases hk
      · exact hk
    rw [show n + (i + 1) = n + 1 + i by omega] at hd ⊢
    obtain ⟨h1, h2⟩ := nextQ_none os (n + 1) hk' i o (by simpa using h) hd ha
    refine ⟨h1, ?_⟩
    simp only [readyL]
    split
    · exact List.mem_cons_of_mem _ h2
    · exact h2
theorem readyL_mem {E : Env} {done : List Nat} : ∀ (os : List Oper) (n : Nat) {i : Nat}, i ∈ readyL E done os n → i ∉ done
  | [], n, i, h => by simp [readyL] at h
  | o :: os, n, i, h => by
    simp only [readyL] at h
    split at h
    · rename_i h1 h2
      rcases List.mem_cons.mp h with rfl | h
      · intro c; rw [(memN_iff _ _).mpr c] at h1; cases h1
      · exact readyL_mem os _ h
    · exact readyL_mem os _ h
theorem eachL_get {F : Nat → Prop} : ∀ {l : List Nat} {i : Nat}, eachL F i l → ∀ j, j ∈ i :: l → F j
  | [], i, h, j, hj => by
    rcases List.mem_cons.mp hj with rfl | hj
    · exact h
    · simp at hj
  | a :: l, i, h, j, hj => by
    rcases List.mem_cons.mp hj with rfl | hj
    · exact h.1
    · exact eachL_get h.2 j hj

structure SelfOk (E : Env) (L : List Oper) (N : Nat) : Prop where
  lt : ∀ (i : Nat) (o : Oper), L[i]? = some o → ∀ m, m ∈ afterL o → m < i
  dst : ∀ (i : Nat) (o : Oper), L[i]? = some o → ∀ d, o.dst = some d → d < N ∧ (quietOp E o.op = true → d ∉ readsL L o)
  isSome : ∀ (i : Nat) (o : Oper), L[i]? = some o → quietOp E o.op = true → ∃ d, o.dst = some d
  sel : ∀ (i : Nat) (o : Oper), L[i]? = some o → isSelect o.op = false

theorem selfOk_spec {E : Env} {L : List Oper} {N : Nat} : ∀ (os : List Oper) (n : Nat), selfOk E L N os n = true → ∀ (i : Nat) (o : Oper), os[i]? = some o →
    (∀ m, m ∈ afterL o → m < n + i) ∧ (∀ d, o.dst = some d → d < N ∧ (quietOp E o.op = true → d ∉ readsL L o)) ∧ (quietOp E o.op = true → ∃ d, o.dst = some d) ∧ isSelect o.op = false
  | [], n, _, i, o, h => by simp at h
  | o' :: os, n, hk, 0, o, h => by
    simp at h; subst h
    simp only [selfOk, Bool.and_eq_true, List.all_eq_true] at hk
    obtain ⟨⟨⟨h1, h2⟩, h3⟩, _⟩ := hk
    refine ⟨fun m hm => by simpa using h1 m hm, ?_, ?_, by simpa using h2⟩
    · intro d hd
      rw [hd] at h3
      simp only [Bool.and_eq_true, Bool.or_eq_true] at h3
      refine ⟨by simpa using h3.1, fun hq hm => ?_⟩
      rcases h3.2 with h | h
      · simp [hq] at h
      · have := (memN_iff _ _).mpr hm
        simp [this] at h
    · intro hq
      cases hd : o'.dst with
      | some d => exact ⟨d, rfl⟩
      | none => rw [hd] at h3; simp [hq] at h3
  | o' :: os, n, hk, i + 1, o, h => by
    simp only [selfOk, Bool.and_eq_true] at hk
    have := selfOk_spec os (n + 1) hk.2 i o (by simpa using h)
    rw [show n + (i + 1) = n + 1 + i by omega]
    exact this

theorem SelfOk.of {E : Env} {L : List Oper} {N : Nat} (h : selfOk E L N L 0 = true) : SelfOk E L N where
  lt := fun i o ho => by have := (selfOk_spec L 0 h i o ho).1; simpa using this
  dst := fun i o ho => (selfOk_spec L 0 h i o ho).2.1
  isSome := fun i o ho => (selfOk_spec L 0 h i o ho).2.2.1
  sel := fun i o ho => (selfOk_spec L 0 h i o ho).2.2.2

theorem allIn_spec {l : List Nat} : ∀ (n : Nat), allIn l n = true → ∀ i, i < n → i ∈ l
  | 0, _, i, h => by omega
  | n + 1, hk, i, h => by
    simp only [allIn, Bool.and_eq_true] at hk
    rcases Nat.lt_or_ge i n with h' | h'
    · exact allIn_spec n hk.2 i h'
    · have : i = n := by omega
      subst this
      exact (memN_iff _ _).mp hk.1

/-! What the pairs say -/
section
variable {E : Env} {L : List Oper} {i j : Nat} {oi oj : Oper}
theorem PO.quiet_later (h : PO E L i j) (hi : L[i]? = some oi) (hj : L[j]? = some oj) (hq : quietOp E oj.op = true) {d : Nat} (hd : oj.dst = some d) : d ∉ readsL L oi ∧ oi.dst ≠ some d := by
  obtain ⟨oi', oj', h1, h2, h⟩ := h
  rw [hi] at h1; rw [hj] at h2; cases h1; cases h2
  simp only [pairOk, Bool.and_eq_true, hd, hq] at h
  obtain ⟨⟨_, h, h'⟩, _⟩ := h
  refine ⟨fun hm => ?_, fun hm => ?_⟩
  · rw [(memN_iff _ _).mpr hm] at h; simp at h
  · rw [hm] at h'
    have : Nat.beq d d = true := Nat.beq_refl d
    simp [this] at h'
theorem PO.reads (h : PO E L i j) (hi : L[i]? = some oi) (hj : L[j]? = some oj) (hq : quietOp E oi.op = true) {d : Nat} (hd : oi.dst = some d) (hr : d ∈ readsL L oj) : i ∈ getN [] (befL L []) j := by
  obtain ⟨oi', oj', h1, h2, h⟩ := h
  rw [hi] at h1; rw [hj] at h2; cases h1; cases h2
  simp only [pairOk, Bool.and_eq_true, hd, hq] at h
  have h3 := h.2
  rw [(memN_iff _ _).mpr hr] at h3
  simp only [Bool.not_true, Bool.false_or] at h3
  exact (memN_iff _ _).mp h3
end

def Agree (L : List Oper) (o : Oper) (a a' : Act) : Prop := ∀ t, t ∈ readsL L o → a'.tmps.getD t undef = a.tmps.getD t undef

theorem yielded_getD (ops : Array Oper) (tmps : Array Value) (j : Nat) : yielded ops tmps j = match (ops[j]?).bind (·.dst) with
    | some d => (match tmps.getD d undef with | .bool b => some b | _ => none)
    | none => none := by
  unfold yielded
  cases h : (ops[j]?).bind (·.dst) with
  | none => rfl
  | some d =>
    simp only [Option.bind_some]
    rcases Nat.lt_or_ge d tmps.size with hl | hl
    · simp only [Array.getElem?_eq_getElem hl, Array.getD, hl, dif_pos]
      show (match some tmps[d] with | some (.bool b) => some b | _ => none) = match tmps[d] with | .bool b => some b | _ => none
      generalize tmps[d] = v
      cases v <;> rfl
    · simp [Array.getElem?_eq_none hl, Array.getD, Nat.not_lt.mpr hl, undef]

section
variable {P : Program} {w0 w w' : World} {mine : FP} {γ γ' : Ghost} {σ : St} {a a' as : Act} {k : V → St → Prop} {E : Env} {ops : Array Oper} {o : Oper}

theorem Agree.exec (h : Agree ops.toList o a a') (hs : isSelect o.op = false) : execOp a'.eval o = execOp a.eval o :=
  execOp_congr o (fun cs b e => by rw [e] at hs; simp [isSelect] at hs) fun x hx => by
    cases x with
    | tmp t =>
      refine h t ?_
      simp only [readsL, List.mem_append, tmpsOf, List.mem_filterMap]
      exact .inl ⟨.tmp t, by simpa using hx, rfl⟩
    | const v => rfl
    | func f => rfl
    | global g => rfl

theorem Agree.wanted (h : Agree ops.toList o a a') : Region.wanted o (yielded ops a'.tmps) = Region.wanted o (yielded ops a.tmps) := by
  unfold Region.wanted
  cases hg : o.guard with
  | none => rfl
  | some gw =>
    obtain ⟨j, want⟩ := gw
    simp only [yielded_getD]
    cases hd : (ops[j]?).bind (·.dst) with
    | none => rfl
    | some d =>
      have : d ∈ readsL ops.toList o := by
        simp only [readsL, hg, nthO_getElem?, Array.getElem?_toList, List.mem_append]
        right
        cases ho : ops[j]? with
        | none => simp [ho] at hd
        | some oj => simp [ho] at hd; simp [hd]
      simp only [h d this]

def StepV (P : Program) (ops : Array Oper) (o : Oper) (a : Act) (w : World) (u : Value) : Prop :=
  (Region.wanted o (yielded ops a.tmps) = true ∧ (execOp a.eval o).run P w = .ok (.value u) w) ∨ (Region.wanted o (yielded ops a.tmps) = false ∧ u = undef)
theorem StepV.agree {u : Value} (h : StepV P ops o a w u) (hA : Agree ops.toList o a a') (hs : isSelect o.op = false) : StepV P ops o a' w u := by
  unfold StepV at *
  rw [hA.wanted, hA.exec hs]
  exact h

theorem quiet_step {C : CallT} (hE : EnvOk P E) (R : Rel w0 mine γ σ a w) (ops : Array Oper) (o : Oper) (hq : quietOp E o.op = true) (h : stepP std E C ops.toList σ o k) :
    ∃ V u, k V σ ∧ RV γ w V u ∧ StepV P ops o a w u := by
  have yes : ∀ (hw : Region.wanted o (yielded ops a.tmps) = true), opP std E C σ o k → ∃ V u, k V σ ∧ RV γ w V u ∧ StepV P ops o a w u := fun hw h =>
    let ⟨V, u, hk, hv, hr⟩ := opQ_sound hE R o hq h
    ⟨V, u, hk, hv, .inl ⟨hw, hr⟩⟩
  have no : ∀ (hw : Region.wanted o (yielded ops a.tmps) = false), k undefV σ → ∃ V u, k V σ ∧ RV γ w V u ∧ StepV P ops o a w u := fun hw h => ⟨undefV, undef, h, rv_undef, .inr ⟨hw, rfl⟩⟩
  unfold stepP at h
  split at h
  · rename_i hg
    exact yes (by simp [Region.wanted, hg]) h
  · rename_i j want hg
    split at h
    · rename_i oj hj
      split at h
      · rename_i d hd
        split at h
        · rename_i b hv
          obtain ⟨hy, hs⟩ := yielded_bool R (ops := ops) hj hd hv
          have hwant : Region.wanted o (yielded ops a.tmps) = (some b == some want) := by simp [Region.wanted, hg, hy]
          cases b with
          | true =>
            rw [hs] at h
            cases want with
            | true => exact yes (by rw [hwant]; rfl) h
            | false => exact no (by rw [hwant]; rfl) h
          | false =>
            rw [hs] at h
            cases want with
            | true => exact no (by rw [hwant]; rfl) h
            | false => exact yes (by rw [hwant]; rfl) h
        · rename_i hv
          have hy := yielded_none R (ops := ops) hj hd hv
          exact no (by simp [Region.wanted, hg, hy]) h
        · exact h.elim
      · exact h.elim
    · exact h.elim

/-- It may still come: it will give what the canonical frame holds. -/
def Pend (P : Program) (ops : Array Oper) (o : Oper) (as : Act) (w : World) : Prop :=
  ∀ d, o.dst = some d → ∀ a', Agree ops.toList o as a' → StepV P ops o a' w (as.tmps.getD d undef)

theorem getD_put (as : Act) (d t : Nat) (u : Value) : (as.put (some d) u).tmps.getD t undef = if t = d ∧ d < as.tmps.size then u else as.tmps.getD t undef := by
  simp only [Act.put, Array.getD_eq_getD_getElem?, Array.getElem?_setIfInBounds]
  by_cases h : d = t
  · subst h
    by_cases h2 : d < as.tmps.size
    · simp [h2]
    · simp [h2]
  · rw [if_neg h, if_neg (fun c => h c.1.symm)]

theorem Pend.put {d : Nat} {u : Value} (h : Pend P ops o as w) (hr : d ∉ readsL ops.toList o) (hd : o.dst ≠ some d) : Pend P ops o (as.put (some d) u) w := by
  intro e he a' hA
  have hne : e ≠ d := fun c => hd (c ▸ he)
  rw [getD_put, if_neg (fun c => hne c.1)]
  refine h e he a' (fun t ht => ?_)
  have htd : t ≠ d := fun c => hr (c ▸ ht)
  have := hA t ht
  rwa [getD_put, if_neg (fun c => htd c.1)] at this

theorem Pend.self {d : Nat} {u : Value} (hs : isSelect o.op = false) (h : StepV P ops o as w u) (hr : d ∉ readsL ops.toList o) (hd : o.dst = some d) (hlt : d < as.tmps.size) : Pend P ops o (as.put (some d) u) w := by
  intro e he a' hA
  rw [hd] at he; cases he
  rw [getD_put, if_pos ⟨rfl, hlt⟩]
  refine h.agree (fun t ht => ?_) hs
  have htd : t ≠ d := fun c => hr (c ▸ ht)
  have := hA t ht
  rwa [getD_put, if_neg (fun c => htd c.1)] at this

theorem recheck_sound {C : CallT} (hE : EnvOk P E) {N : Nat} (hself : SelfOk E ops.toList N) (ex : Nat → Prop) {Pr : Prop} (hN : σ.slots.length = N) : ∀ (js pre : List Nat) (as : Act), (pre ++ js).Pairwise (PO E ops.toList) →
    (∀ j oj, j ∈ pre ++ js → ops.toList[j]? = some oj → quietOp E oj.op = true) →
    (∀ j oj, j ∈ pre → ¬ ex j → ops.toList[j]? = some oj → Pend P ops oj as w) → Rel w0 mine γ σ as w → recheckP std E C ops.toList σ js Pr →
    Pr ∧ ∃ as', Rel w0 mine γ σ as' w ∧ as'.defers = as.defers ∧ as'.tmps.size = as.tmps.size ∧ (∀ t, as'.tmps.getD t undef = as.tmps.getD t undef ∨ ∃ j oj, j ∈ js ∧ ¬ ex j ∧ ops.toList[j]? = some oj ∧ oj.dst = some t) ∧
      ∀ j oj, j ∈ pre ++ js → ¬ ex j → ops.toList[j]? = some oj → Pend P ops oj as' w
  | [], pre, as, hp, hq, hpend, R, h => ⟨h, as, R, rfl, rfl, fun t => .inl rfl, fun j oj hj => hpend j oj (by simpa using hj)⟩
  | j :: js, pre, as, hp, hq, hpend, R, h => by
    simp only [recheckP, stp_std] at h
    split at h
    · rename_i oj hj
      rw [nthO_getElem?] at hj
      obtain ⟨h1, h2⟩ := h
      split at h1
      · rename_i d hd
        have hqj := hq j oj (by simp) hj
        obtain ⟨hdN, hdr⟩ := hself.dst j oj hj d hd
        have hsel := hself.sel j oj hj
        have hp' : ((pre ++ [j]) ++ js).Pairwise (PO E ops.toList) := by simpa using hp
        have hq' : ∀ j' oj, j' ∈ (pre ++ [j]) ++ js → ops.toList[j']? = some oj → quietOp E oj.op = true := fun j' oj hj' => hq j' oj (by simpa using hj')
        by_cases hex : ex j
        · obtain ⟨hP, as', R', hd', hs', he', hpe⟩ := recheck_sound hE hself ex hN js (pre ++ [j]) as hp' hq' (fun j' oj' hj' hn ho => by
            rcases List.mem_append.mp hj' with hj' | hj'
            · exact hpend j' oj' hj' hn ho
            · simp at hj'; subst hj'; exact absurd hex hn) R h2
          refine ⟨hP, as', R', hd', hs', fun t => ?_, fun j' oj' hj' => hpe j' oj' (by simpa using hj')⟩
          rcases he' t with h | ⟨j', oj', hj', h⟩
          · exact .inl h
          · exact .inr ⟨j', oj', by simp [hj'], h⟩
        · obtain ⟨V, u, hV, hv, hstep⟩ := quiet_step hE R ops oj hqj h1
          rw [hV] at hv
          have hlt : d < as.tmps.size := by rw [R.size, hN]; exact hdN
          have R1 := R.set (some d) (getN undefV σ.slots d) u hv
          have hset : setD σ (some d) (getN undefV σ.slots d) = σ := by
            simp only [setD]
            rw [setN_self undefV _ _ _ rfl (by rw [hN]; exact hdN)]
          rw [hset] at R1
          obtain ⟨hP, as', R', hd', hs', he', hpe⟩ := recheck_sound hE hself ex hN js (pre ++ [j]) (as.put (some d) u) hp' hq' (fun j' oj' hj' hn ho => by
            rcases List.mem_append.mp hj' with hj' | hj'
            · have hpo : PO E ops.toList j' j := (List.pairwise_append.mp hp).2.2 j' hj' j (by simp)
              obtain ⟨h3, h4⟩ := hpo.quiet_later ho hj hqj hd
              exact (hpend j' oj' hj' hn ho).put h3 h4
            · simp at hj'; subst hj'
              rw [hj] at ho; cases ho
              exact Pend.self hsel hstep (hdr hqj) hd hlt) R1 h2
          refine ⟨hP, as', R', by rw [hd', put_defers], by rw [hs', put_size], fun t => ?_, fun j' oj' hj' => hpe j' oj' (by simpa using hj')⟩
          rcases he' t with h | ⟨j', oj', hj', h⟩
          · rw [h, getD_put]
            by_cases ht : t = d ∧ d < as.tmps.size
            · exact .inr ⟨j, oj, by simp, hex, hj, by rw [hd, ht.1]⟩
            · rw [if_neg ht]; exact .inl rfl
          · exact .inr ⟨j', oj', by simp [hj'], h⟩
      · exact h1.elim
    · exact h.elim
end
end Go.AW
/- The abstract calculus, part 21: a region that draws its order does what the walk of its loud orders tells. -/
set_option linter.unusedVariables false
set_option linter.unusedSimpArgs false
namespace Go.AW

section
variable {P : Program} {w0 : World} {mine : FP} {E : Env} {ops : Array Oper} {K : St → Prop} {Φ : Act → Prop} {N : Nat}

structure Sim (P : Program) (w0 : World) (mine : FP) (E : Env) (ops : Array Oper) (K : St → Prop) (Φ : Act → Prop) (N : Nat) (ex : Nat → Prop) (n : Nat) (done q : List Nat) (γ : Ghost) (σ : St) (as a : Act) (w : World) : Prop where
  R : Rel w0 mine γ σ as w
  d2 : Φ a
  sz : a.tmps.size = as.tmps.size
  eq : ∀ t, a.tmps.getD t undef = as.tmps.getD t undef ∨ ∃ j oj, j ∈ q ∧ ¬ ex j ∧ ops.toList[j]? = some oj ∧ oj.dst = some t
  pend : ∀ j oj, j ∈ q → ¬ ex j → ops.toList[j]? = some oj → Pend P ops oj as w
  run : opsX std E (Csem P w0 mine) ops.toList (befL ops.toList []) n done q σ K
  chk : chkX E ops.toList (befL ops.toList []) n done = true
  po : ∀ i, i ∈ done → ∀ j, j < ops.toList.length → j ∉ done → PO E ops.toList i j
  pd : done.Pairwise fun i j => PO E ops.toList j i
  qd : ∀ j, j ∈ q → j ∈ done
  qp : q.Pairwise (PO E ops.toList)
  qq : ∀ j oj, j ∈ q → ops.toList[j]? = some oj → quietOp E oj.op = true
  dn : ∀ i, i ∈ done → i ∈ q ∨ ex i
  rs : ∀ i, ex i → i ∈ done
  cl : Closed ops.toList ex
  slen : σ.slots.length = N

/-- No quiet one is ready. -/
def AtLoud (E : Env) (ops : Array Oper) (done : List Nat) : Prop := nextQ E done ops.toList 0 = none ∨ ∀ i, i < ops.toList.length → i ∈ done

theorem settle (hE : EnvOk P E) (hself : SelfOk E ops.toList N) {ex : Nat → Prop} {a : Act} {w : World} : ∀ (n : Nat) (done q : List Nat) (γ : Ghost) (σ : St) (as : Act), Sim P w0 mine E ops K Φ N ex n done q γ σ as a w →
    ∃ n' done' q' γ' σ' as', Sim P w0 mine E ops K Φ N ex n' done' q' γ' σ' as' a w ∧ AtLoud E ops done'
  | 0, done, q, γ, σ, as, S => ⟨0, done, q, γ, σ, as, S, .inr (allIn_spec _ S.chk)⟩
  | n + 1, done, q, γ, σ, as, S => by
    have hrun := S.run
    have hchk := S.chk
    simp only [opsX, stp_std] at hrun
    simp only [chkX] at hchk
    split at hrun
    · rename_i i hnx
      obtain ⟨o, _, hi, hid, hq, haf⟩ := nextQ_some _ _ hnx
      simp only [Nat.sub_zero] at hi
      simp only [hnx, Bool.and_eq_true] at hchk
      simp only [nthO_getElem?, hi] at hrun
      obtain ⟨V, u, hk, hv, hstep⟩ := quiet_step hE S.R ops o hq hrun
      obtain ⟨d, hd⟩ := hself.isSome i o hi hq
      obtain ⟨hdN, hdr⟩ := hself.dst i o hi d hd
      have hsel := hself.sel i o hi
      have hlt : d < as.tmps.size := by rw [S.R.size, S.slen]; exact hdN
      have hil : i < ops.toList.length := (List.getElem?_eq_some_iff.mp hi).1
      have hpo : ∀ j, j ∈ done → PO E ops.toList j i := fun j hj => S.po j hj i hil hid
      have hni : ¬ ex i := fun c => hid (S.rs i c)
      refine settle hE hself n (i :: done) (q ++ [i]) γ (setD σ o.dst V) (as.put o.dst u) ?_
      rw [hd] at hk ⊢
      refine ⟨S.R.set _ V u hv, S.d2, by rw [put_size]; exact S.sz, ?_, ?_, hk, hchk.2, ?_, .cons hpo S.pd, ?_, ?_, ?_, ?_, fun j hj => List.mem_cons_of_mem _ (S.rs j hj), S.cl, by simp [setD, setN_length, S.slen]⟩
      · intro t
        rw [getD_put]
        by_cases ht : t = d ∧ d < as.tmps.size
        · exact .inr ⟨i, o, by simp, hni, hi, by rw [hd, ht.1]⟩
        · rw [if_neg ht]
          rcases S.eq t with h | ⟨j, oj, hj, h⟩
          · exact .inl h
          · exact .inr ⟨j, oj, by simp [hj], h⟩
      · intro j oj hj hn ho
        rcases List.mem_append.mp hj with hj | hj
        · obtain ⟨h3, h4⟩ := (hpo j (S.qd j hj)).quiet_later ho hi hq hd
          exact (S.pend j oj hj hn ho).put h3 h4
        · simp at hj; subst hj
          rw [hi] at ho; cases ho
          exact Pend.self hsel hstep (hdr hq) hd hlt
      · intro b hb j hj hn
        rw [List.mem_cons, not_or] at hn
        rcases List.mem_cons.mp hb with rfl | hb
        · exact addOk_spec hchk.1 j hj hn.2 hn.1
        · exact S.po b hb j hj hn.2
      · intro j hj
        rcases List.mem_append.mp hj with hj | hj
        · exact List.mem_cons_of_mem _ (S.qd j hj)
        · simp at hj; simp [hj]
      · refine List.pairwise_append.mpr ⟨S.qp, List.pairwise_singleton _ _, fun x hx y hy => ?_⟩
        simp at hy; subst hy
        exact hpo x (S.qd x hx)
      · intro j oj hj ho
        rcases List.mem_append.mp hj with hj | hj
        · exact S.qq j oj hj ho
        · simp at hj; subst hj
          rw [hi] at ho; cases ho; exact hq
      · intro j hj
        rcases List.mem_cons.mp hj with rfl | hj
        · exact .inl (by simp)
        · rcases S.dn j hj with h | h
          · exact .inl (by simp [h])
          · exact .inr h
    · rename_i hnx
      exact ⟨n + 1, done, q, γ, σ, as, S, .inl hnx⟩

theorem closed_add {L : List Oper} {ex : Nat → Prop} (hc : Closed L ex) {i : Nat} {o : Oper} (hi : L[i]? = some o) (hr : ∀ m, m ∈ afterL o → ex m) : Closed L (fun j => j = i ∨ ex j) := by
  intro j oj hj he m hm
  rcases he with rfl | he
  · rw [hi] at hj; cases hj
    exact .inr (hr m hm)
  · exact .inr (hc j oj hj he m hm)

/-- What a ready operation reads is as in the canonical frame. -/
theorem Sim.agree (hself : SelfOk E ops.toList N) {ex : Nat → Prop} {n : Nat} {done q : List Nat} {γ : Ghost} {σ : St} {as a : Act} {w : World} (S : Sim P w0 mine E ops K Φ N ex n done q γ σ as a w) {i : Nat} {o : Oper} (hi : ops.toList[i]? = some o)
    (hr : ∀ m, m ∈ afterL o → ex m) : Agree ops.toList o as a := by
  intro t ht
  rcases S.eq t with h | ⟨j, oj, hj, hn, ho, hd⟩
  · exact h
  · exfalso
    have hbef := bef_sub S.cl i o hi hr
    have hqj := S.qq j oj hj ho
    have hjm := S.qd j hj
    by_cases hid : i ∈ done
    · -- both among those done: which comes first?
      by_cases hij : i = j
      · subst hij
        rw [hi] at ho; cases ho
        exact (hself.dst i o hi t hd).2 hqj ht
      · rcases pairwise_either S.pd hid hjm hij with h | h
        · exact hn (hbef j (h.reads ho hi hqj hd ht))
        · exact (h.quiet_later hi ho hqj hd).1 ht
    · have hpo : PO E ops.toList j i := S.po j hjm i (List.getElem?_eq_some_iff.mp hi).1 hid
      exact hn (hbef j (hpo.reads ho hi hqj hd ht))
  where
  pairwise_either {α : Type} {r : α → α → Prop} : ∀ {l : List α}, l.Pairwise r → ∀ {x y : α}, x ∈ l → y ∈ l → x ≠ y → r x y ∨ r y x := by
    intro l h
    induction h with
    | nil => intro x y hx; simp at hx
    | cons ha _ ih =>
      intro x y hx hy hne
      rcases List.mem_cons.mp hx with ex | hx'
      · rcases List.mem_cons.mp hy with ey | hy'
        · exact absurd (ex.trans ey.symm) hne
        · rw [ex]; exact .inl (ha _ hy')
      · rcases List.mem_cons.mp hy with ey | hy'
        · rw [ey]; exact .inr (ha _ hx')
        · exact ih hx' hy' hne

theorem sim_step (hE : EnvOk P E) (hΦ : KeepsO Φ ops.toList) (hself : SelfOk E ops.toList N) {Q : Exit → Act → World → Prop} {ex : Nat → Prop} {n : Nat} {done q : List Nat} {γ : Ghost} {σ : St} {as a : Act} {w : World} (S : Sim P w0 mine E ops K Φ N ex n done q γ σ as a w) (hL : AtLoud E ops done)
    {i : Nat} {o : Oper} (hi : ops.toList[i]? = some o) (hn : ¬ ex i) (hr : ∀ m, m ∈ afterL o → ex m) {K' : Act → World → Prop}
    (hK : ∀ n done q γ σ as a w, Sim P w0 mine E ops K Φ N (fun j => j = i ∨ ex j) n done q γ σ as a w → AtLoud E ops done → K' a w) : wpOp P ops Q i K' a w := by
  have hA := S.agree hself hi hr
  have hbef := bef_sub S.cl i o hi hr
  have hio : ops[i]? = some o := by simpa using hi
  have hsel := hself.sel i o hi
  have hcl := closed_add S.cl hi hr
  have hil : i < ops.toList.length := (List.getElem?_eq_some_iff.mp hi).1
  by_cases hid : i ∈ done
  · -- a quiet one that has been told
    have hiq : i ∈ q := (S.dn i hid).resolve_right hn
    have hqi := S.qq i o hiq hi
    obtain ⟨d, hd⟩ := hself.isSome i o hi hqi
    have hstep := S.pend i o hiq hn hi d hd a hA
    have hdlt : d < a.tmps.size := by rw [S.sz, S.R.size, S.slen]; exact (hself.dst i o hi d hd).1
    have hnext : K' (a.put o.dst (as.tmps.getD d undef)) w := by
      refine hK n done q γ σ as _ w ⟨S.R, hΦ o (List.mem_of_getElem? hi) _ _ S.d2, by rw [put_size]; exact S.sz, ?_, fun j oj hj hnj => S.pend j oj hj (fun c => hnj (.inr c)), S.run, S.chk, S.po, S.pd, S.qd, S.qp, S.qq, ?_, ?_, hcl, S.slen⟩ hL
      · intro t
        rw [hd, getD_put]
        by_cases ht : t = d ∧ d < a.tmps.size
        · rw [if_pos ht, ht.1]; exact .inl rfl
        · rw [if_neg ht]
          rcases S.eq t with h | ⟨j, oj, hj, hnj, ho, hdj⟩
          · exact .inl h
          · refine .inr ⟨j, oj, hj, ?_, ho, hdj⟩
            rintro (rfl | c)
            · rw [hi] at ho; cases ho
              rw [hd] at hdj; cases hdj
              exact ht ⟨rfl, hdlt⟩
            · exact hnj c
      · intro j hj
        rcases S.dn j hj with h | h
        · exact .inl h
        · exact .inr (.inr h)
      · rintro j (rfl | c)
        · exact hid
        · exact S.rs j c
    unfold wpOp
    simp only [hio]
    rcases hstep with ⟨hw, hrn⟩ | ⟨hw, hu⟩
    · rw [if_pos hw]
      refine .inl ?_
      unfold Oper.wp
      rw [hrn]; exact hnext
    · rw [if_neg (by rw [hw]; simp), ← hu]
      exact hnext
  · -- a loud one that is ready
    rcases hL with hnx | hall
    case inr => exact absurd (hall i hil) hid
    have hnq := nextQ_none _ _ hnx i o hi (by simpa using hid) (fun m hm => S.rs m (hr m hm))
    obtain ⟨hqg, hrd⟩ := hnq
    simp only [Nat.zero_add] at hrd
    have hrun := S.run
    have hchk := S.chk
    cases n with
    | zero => exact absurd (allIn_spec _ hchk i hil) hid
    | succ n =>
    simp only [opsX, stp_std, hnx] at hrun
    simp only [chkX, hnx] at hchk
    split at hrun
    · rename_i hre
      rw [hre] at hrd; simp at hrd
    rename_i i0 l0 hre
    rw [hre] at hrd
    rw [hre] at hchk
    simp only [List.all_eq_true, Bool.and_eq_true] at hchk
    obtain ⟨hadd, hchk⟩ := hchk i hrd
    have hrun := eachL_get hrun i hrd
    simp only [nthO_getElem?, hi] at hrun
    have hst := stepP_sound hE S.R ops o hrun
    -- behind it
    have hnext : ∀ u w', Post w0 mine as (fun v σ' => recheckP std E (Csem P w0 mine) ops.toList (setD σ' o.dst v) (q.filter fun j => !(memN (getN [] (befL ops.toList []) i) j)) (opsX std E (Csem P w0 mine) ops.toList (befL ops.toList []) n (i :: done) q (setD σ' o.dst v) K)) u w' → K' (a.put o.dst u) w' := by
      intro u w' hp
      obtain ⟨V, σ', γ', hk, R', hv⟩ := hp
      have R1 := R'.set o.dst V u hv
      have hslen : (setD σ' o.dst V).slots.length = N := by rw [← R1.size, put_size, S.R.size, S.slen]
      have hpq : ([] ++ q.filter fun j => !(memN (getN [] (befL ops.toList []) i) j)).Pairwise (PO E ops.toList) := by
        rw [List.nil_append]
        exact S.qp.sublist List.filter_sublist
      obtain ⟨hrun', as', Ra, hda, hsa, hea, hpe⟩ := recheck_sound hE hself ex hslen _ [] _ hpq (fun j oj hj ho => S.qq j oj (by simp at hj; exact hj.1) ho) (fun j oj hj => by simp at hj) R1 hk
      have hnbef : ∀ j, j ∈ q → ¬ ex j → j ∈ q.filter fun j => !(memN (getN [] (befL ops.toList []) i) j) := by
        intro j hj hnj
        rw [List.mem_filter]
        refine ⟨hj, ?_⟩
        cases hm : memN (getN [] (befL ops.toList []) i) j with
        | false => rfl
        | true => exact absurd (hbef j ((memN_iff _ _).mp hm)) hnj
      have S1 : Sim P w0 mine E ops K Φ N (fun j => j = i ∨ ex j) n (i :: done) q γ' (setD σ' o.dst V) as' (a.put o.dst u) w' := by
        refine ⟨Ra, hΦ o (List.mem_of_getElem? hi) _ _ S.d2, by rw [put_size, hsa, put_size]; exact S.sz, ?_, ?_, hrun', hchk, ?_, .cons (fun j hj => S.po j hj i hil hid) S.pd, fun j hj => List.mem_cons_of_mem _ (S.qd j hj), S.qp, S.qq, ?_, ?_, hcl, hslen⟩
        · intro t
          have hput : ∀ (b : Act), (b.put o.dst u).tmps.getD t undef = match o.dst with | some d => if t = d ∧ d < b.tmps.size then u else b.tmps.getD t undef | none => b.tmps.getD t undef := by
            intro b
            cases o.dst with
            | none => rfl
            | some d => exact getD_put b d t u
          have hne : ∀ j oj, j ∈ q → ¬ ex j → ops.toList[j]? = some oj → ¬ (j = i ∨ ex j) := by
            rintro j oj hj hnj ho (rfl | c)
            · rw [hi] at ho; cases ho
              have := S.qq j o hj hi
              rw [hqg] at this; cases this
            · exact hnj c
          rcases hea t with h | ⟨j, oj, hj, hnj, ho, hdj⟩
          · rw [h]
            rcases S.eq t with h2 | ⟨j, oj, hj, hnj, ho, hdj⟩
            · left
              rw [hput, hput]
              cases o.dst with
              | none => exact h2
              | some d => simp only [S.sz, h2]
            · exact .inr ⟨j, oj, hj, hne j oj hj hnj ho, ho, hdj⟩
          · have hj' : j ∈ q := by simp at hj; exact hj.1
            exact .inr ⟨j, oj, hj', hne j oj hj' hnj ho, ho, hdj⟩
        · intro j oj hj hnj ho
          have hnj' : ¬ ex j := fun c => hnj (.inr c)
          exact hpe j oj (by simpa using hnbef j hj hnj') hnj' ho
        · intro b hb j hj hnd
          rw [List.mem_cons, not_or] at hnd
          rcases List.mem_cons.mp hb with rfl | hb
          · exact addOk_spec hadd j hj hnd.2 hnd.1
          · exact S.po b hb j hj hnd.2
        · intro j hj
          rcases List.mem_cons.mp hj with rfl | hj
          · exact .inr (.inl rfl)
          · rcases S.dn j hj with h | h
            · exact .inl h
            · exact .inr (.inr h)
        · rintro j (rfl | c)
          · simp
          · exact List.mem_cons_of_mem _ (S.rs j c)
      obtain ⟨n', done', q', γ'', σ'', as'', S2, hL'⟩ := settle hE hself _ _ _ _ _ _ S1
      exact hK _ _ _ _ _ _ _ _ S2 hL'
    unfold wpOp
    simp only [hio]
    rcases hst with ⟨hw, hd⟩ | ⟨hw, hp⟩
    · rw [← hA.wanted] at hw
      rw [if_pos hw]
      refine .inl ?_
      unfold Oper.wp
      rw [hA.exec hsel]
      rcases hd with ⟨u, w', hr', hp⟩ | ⟨w', hr', hp⟩ | ⟨f, args, hr', hc⟩
      · rw [hr']; exact hnext u w' hp
      · rw [hr']; exact hnext undef w' hp
      · rw [hr']
        refine Calls.mono hc (fun e w' he => ?_)
        obtain ⟨u, rfl, hp⟩ := he
        exact hnext u w' hp
    · rw [← hA.wanted] at hw
      rw [if_neg (by rw [hw]; simp)]
      exact hnext undef w hp
end
end Go.AW
/- The abstract calculus, part 22: the code. -/
set_option linter.unusedVariables false
set_option linter.unusedSimpArgs false
namespace Go.AW

theorem binds_any (e : Edge) : Region.binds .any e = bindsB e.ground := by
  obtain ⟨on, g⟩ := e
  cases g <;> rfl

theorem ready_iff {ops : Array Oper} {listed : Array Bool} {i : Nat} : i ∈ Region.ready .any ops listed ↔ ∃ o, ops.toList[i]? = some o ∧ listed.getD i true = false ∧ ∀ m, m ∈ afterL o → listed.getD m false = true := by
  unfold Region.ready
  simp only [List.mem_filter, List.mem_range, Bool.and_eq_true, Bool.not_eq_true']
  constructor
  · rintro ⟨hlt, h1, h2⟩
    have ho : ops[i]? = some ops[i] := Array.getElem?_eq_getElem hlt
    refine ⟨ops[i], by simp, h1, fun m hm => ?_⟩
    simp only [ho, Option.map_some, Option.getD_some, Array.all_eq_true'] at h2
    simp only [afterL, List.mem_map, List.mem_filter] at hm
    obtain ⟨e, ⟨he, hb⟩, rfl⟩ := hm
    have := h2 e (by simpa using he)
    rw [binds_any, hb] at this
    simpa using this
  · rintro ⟨o, ho, h1, h2⟩
    rw [Array.getElem?_toList] at ho
    refine ⟨(Array.getElem?_eq_some_iff.mp ho).1, h1, ?_⟩
    simp only [ho, Option.map_some, Option.getD_some, Array.all_eq_true']
    intro e he
    rw [binds_any]
    cases hb : bindsB e.ground with
    | false => rfl
    | true =>
      have := h2 e.on (by simp only [afterL, List.mem_map, List.mem_filter]; exact ⟨e, ⟨by simpa using he, hb⟩, rfl⟩)
      simp [this]

section
variable {P : Program} {w0 w w' : World} {mine : FP} {γ γ' : Ghost} {σ : St} {a : Act} {k : V → St → Prop} {E : Env}

/-- A world that differs only in what has been drawn. -/
theorem Rel.heap (R : Rel w0 mine γ σ a w) (hh : w'.heap = w.heap) (ho : w'.os = w.os) (ht : w'.tape = w.tape) (hp : w'.output = w.output) : Rel w0 mine γ σ a w' := by
  have S : Step γ γ w w' (fun _ => False) (fun _ => False) (fun _ => False) := ⟨fun i g h _ => h, fun i g h _ b hb => hb, fun i g h _ b o _ hx => by rw [hh]; exact hx, fun i g b o _ _ _ hf ho => ⟨hf, by rw [hh]; exact ho⟩, fun b hb => hb, fun b o _ hx => by rw [hh]; exact hx⟩
  refine ⟨R.size, fun i => RV.step0 S (R.slots i), ?_, R.st.disj, R.st.ro, R.st.lt, R.st.dom, fun i o h b hb => by rw [hh]; exact R.st.fp i o h b hb, fun b hb => by rw [hh]; exact R.st.rolt b hb, ?_⟩
  · intro i o h
    obtain ⟨g, hg, hr⟩ := R.st.objs i o h
    have := RObj.step S (h := fun l => l) (kills_id (by simp) (by simp) (by simp)) hg hr (fun b hb => hb) (fun b o _ hx => by rw [hh]; exact hx)
    rw [mapObj_id] at this
    exact ⟨g, hg, this⟩
  · exact ⟨by rw [hh]; exact R.st.keep.size, by rw [ho]; exact R.st.keep.os, by rw [ht]; exact R.st.keep.tape, by rw [hp]; exact R.st.keep.output, fun b hb hm => by rw [hh]; exact R.st.keep.old b hb hm, R.st.keep.tabs⟩

def unl (listed : Array Bool) (n : Nat) : Nat := (List.range n).countP fun i => !(listed.getD i false)

theorem all_listed {ops : Array Oper} {listed : Array Bool} {N : Nat} (hself : SelfOk E ops.toList N) (hs : listed.size = ops.size) (h : Region.ready .any ops listed = []) : ∀ i, i < ops.size → listed.getD i false = true := by
  intro i
  induction i using Nat.strongRecOn with
  | _ i ih =>
    intro hi
    cases hl : listed.getD i false with
    | true => rfl
    | false =>
      exfalso
      have ho : ops.toList[i]? = some ops[i] := by simp [hi]
      have : i ∈ Region.ready .any ops listed := ready_iff.mpr ⟨_, ho, by
        have : i < listed.size := by omega
        simp only [Array.getD, this, dif_pos] at hl ⊢
        exact hl, fun m hm => ih m (hself.lt i _ ho m hm) (by have := hself.lt i _ ho m hm; omega)⟩
      rw [h] at this
      simp at this

theorem draw_end {ops : Array Oper} {Q : Exit → Act → World → Prop} {K : St → Prop} {Φ : Act → Prop} {N : Nat} (hQ : ∀ σ γ a w, K σ → Rel w0 mine γ σ a w → Φ a → Q .normal a w) {ex : Nat → Prop} {n : Nat} {done q : List Nat} {γ : Ghost} {σ : St} {as a : Act} {w : World}
    (S : Sim P w0 mine E ops K Φ N ex n done q γ σ as a w) (hall : ∀ i, i < ops.size → ex i) : Q .normal a w := by
  have hlt : ∀ j o, ops.toList[j]? = some o → ex j := fun j o ho => hall j (by simpa using (List.getElem?_eq_some_iff.mp ho).1)
  have hK : K σ := by
    have hrun := S.run
    cases n with
    | zero => exact hrun
    | succ n =>
      simp only [opsX, stp_std] at hrun
      split at hrun
      · rename_i i hnx
        obtain ⟨o, _, hi, hid, _⟩ := nextQ_some _ _ hnx
        exact absurd (S.rs _ (hlt _ _ hi)) hid
      · split at hrun
        · exact hrun
        · rename_i i l hre
          have hm : i ∈ readyL E done ops.toList 0 := by rw [hre]; simp
          have hid := readyL_mem _ _ hm
          have hrun := eachL_get hrun i (by simp)
          split at hrun
          · rename_i o ho
            rw [nthO_getElem?] at ho
            exact absurd (S.rs _ (hlt _ _ ho)) hid
          · exact hrun.elim
  have heq : ∀ t, a.tmps.getD t undef = as.tmps.getD t undef := fun t => by
    rcases S.eq t with h | ⟨j, oj, hj, hn, ho, _⟩
    · exact h
    · exact absurd (hlt j oj ho) hn
  refine hQ σ γ a w hK ⟨by rw [S.sz]; exact S.R.size, fun i => by rw [heq i]; exact S.R.slots i, S.R.st⟩ S.d2

theorem draw_any (hE : EnvOk P E) {ops : Array Oper} {Q : Exit → Act → World → Prop} {K : St → Prop} {Φ : Act → Prop} {N : Nat} (hself : SelfOk E ops.toList N) (hΦ : KeepsO Φ ops.toList) (hQ : ∀ σ γ a w, K σ → Rel w0 mine γ σ a w → Φ a → Q .normal a w) :
    ∀ (fuel : Nat) (listed : Array Bool) (n : Nat) (done q : List Nat) (γ : Ghost) (σ : St) (as a : Act) (w : World), listed.size = ops.size → unl listed ops.size ≤ fuel → Sim P w0 mine E ops K Φ N (fun i => listed.getD i false = true) n done q γ σ as a w → AtLoud E ops done →
    wpAny P .any ops Q fuel listed a w
  | 0, listed, n, done, q, γ, σ, as, a, w, hs, hf, S, hL => by
    have hall : ∀ i, i < ops.size → listed.getD i false = true := by
      intro i hi
      have h0 : unl listed ops.size = 0 := by omega
      rw [unl, List.countP_eq_zero] at h0
      have := h0 i (List.mem_range.mpr hi)
      simpa using this
    refine ⟨?_, draw_end hQ S hall⟩
    rw [List.eq_nil_iff_forall_not_mem]
    intro i hi
    obtain ⟨o, ho, h1, _⟩ := ready_iff.mp hi
    have hlt : i < ops.size := by simpa using (List.getElem?_eq_some_iff.mp ho).1
    have := hall i hlt
    have hls : i < listed.size := by omega
    simp only [Array.getD, hls, dif_pos] at this h1
    rw [this] at h1
    cases h1
  | fuel + 1, listed, n, done, q, γ, σ, as, a, w, hs, hf, S, hL => by
    refine ⟨fun h => draw_end hQ S (all_listed hself hs h), fun i hi => ?_⟩
    obtain ⟨o, ho, h1, h2⟩ := ready_iff.mp hi
    have hlt : i < ops.size := by simpa using (List.getElem?_eq_some_iff.mp ho).1
    have hls : i < listed.size := by omega
    have hni : ¬ (listed.getD i false = true) := by
      simp only [Array.getD, hls, dif_pos] at h1 ⊢
      rw [h1]; simp
    have hget : ∀ j, (listed.setIfInBounds i true).getD j false = true ↔ (j = i ∨ listed.getD j false = true) := by
      intro j
      simp only [Array.getD_eq_getD_getElem?, Array.getElem?_setIfInBounds]
      by_cases hj : i = j
      · subst hj; simp [hls]
      · rw [if_neg hj]
        constructor
        · exact .inr
        · rintro (h | h)
          · exact absurd h.symm hj
          · exact h
    have hfun : (fun j => j = i ∨ listed.getD j false = true) = (fun j => (listed.setIfInBounds i true).getD j false = true) := funext fun j => propext (hget j).symm
    refine sim_step hE hΦ hself S hL ho hni h2 (fun n' done' q' γ' σ' as' a' w' S' hL' => ?_)
    rw [hfun] at S'
    refine draw_any hE hself hΦ hQ fuel _ n' done' q' γ' σ' as' a' w' (by simpa using hs) ?_ S' hL'
    -- one less
    have hc : unl (listed.setIfInBounds i true) ops.size < unl listed ops.size := by
      unfold unl
      have hnd : (List.range ops.size).Nodup := List.nodup_range
      have hmem : i ∈ List.range ops.size := List.mem_range.mpr hlt
      have : ∀ l : List Nat, i ∈ l → l.countP (fun j => !((listed.setIfInBounds i true).getD j false)) < l.countP (fun j => !(listed.getD j false)) := by
        have hle : ∀ l : List Nat, l.countP (fun j => !((listed.setIfInBounds i true).getD j false)) ≤ l.countP (fun j => !(listed.getD j false)) := fun l => List.countP_mono_left fun j _ hj => by
          simp only [Bool.not_eq_true'] at hj ⊢
          cases hx : listed.getD j false with
          | false => rfl
          | true => rw [(hget j).mpr (.inr hx)] at hj; cases hj
        intro l
        induction l with
        | nil => intro h; simp at h
        | cons x l ih =>
          intro h
          by_cases hx : x = i
          · subst hx
            have e1 : (listed.setIfInBounds x true).getD x false = true := (hget x).mpr (.inl rfl)
            have e2 : listed.getD x false = false := by simpa using hni
            rw [List.countP_cons_of_neg (by simp [e1]), List.countP_cons_of_pos (by simp [e2])]
            have := hle l
            omega
          · have hl := ih ((List.mem_cons.mp h).resolve_left (fun e => hx e.symm))
            have e : (listed.setIfInBounds i true).getD x false = listed.getD x false := by
              rw [Bool.eq_iff_iff, hget x]; simp [hx]
            simp only [List.countP_cons, e]
            omega
      exact this _ hmem
    omega

theorem draw_sound (hE : EnvOk P E) (hm : P.follows .mixedOrders = true) {ops : Array Oper} {Q : Exit → Act → World → Prop} {K : St → Prop} {Φ : Act → Prop} (hΦ : KeepsO Φ ops.toList) (hQ : ∀ σ γ a w, K σ → Rel w0 mine γ σ a w → Φ a → Q .normal a w) {id : Nat} (R : Rel w0 mine γ σ a w) (hd : Φ a)
    (h : drawP std E (Csem P w0 mine) ops.toList σ K) : (Code.region id ops true).wp P Q a w := by
  obtain ⟨hc, h⟩ := h
  have hc : (chkX E ops.toList (befL ops.toList []) ops.toList.length [] && selfOk E ops.toList σ.slots.length ops.toList 0) = true := hc
  simp only [Bool.and_eq_true] at hc
  obtain ⟨h1, h2⟩ := hc
  have hself := SelfOk.of h2
  have R1 : Rel w0 mine γ σ a { w with drawn := w.drawn + 1 } := R.heap rfl rfl rfl rfl
  refine wp_region_any hm ?_
  have hfalse : ∀ i, (Array.replicate ops.size false).getD i false = false := fun i => by
    simp only [Array.getD_eq_getD_getElem?, Array.getElem?_replicate]; split <;> rfl
  have S : Sim P w0 mine E ops K Φ σ.slots.length (fun i => (Array.replicate ops.size false).getD i false = true) ops.toList.length [] [] γ σ a a { w with drawn := w.drawn + 1 } := by
    refine ⟨R1, hd, rfl, fun t => .inl rfl, fun j oj hj => by simp at hj, h, h1, fun i hi => by simp at hi, .nil, fun j hj => by simp at hj, .nil, fun j oj hj => by simp at hj, fun i hi => by simp at hi, fun i hi => by (rw [hfalse] at hi; exact absurd hi (by simp)), fun i o _ hi => by (rw [hfalse] at hi; exact absurd hi (by simp)), rfl⟩
  obtain ⟨n', done', q', γ', σ', as', S', hL⟩ := settle hE hself _ _ _ _ _ _ S
  refine draw_any hE hself hΦ hQ ops.size _ n' done' q' γ' σ' as' a _ (by simp) ?_ S' hL
  unfold unl
  have := List.countP_le_length (p := fun i => !((Array.replicate ops.size false).getD i false)) (l := List.range ops.size)
  simpa using this

/-- A step to a state that tells no more: what it means. -/
def Ssem (w0 : World) (mine : FP) : St → St → Prop := fun σ σ' => ∀ (γ : Ghost) (a : Act) (w : World), Rel w0 mine γ σ a w → ∃ γ', Rel w0 mine γ' σ' a w

/-- What a loop comes to: an invariant, a measure. -/
def Lsem (w0 : World) (mine : FP) : LoopT := fun j _ A σ K => match j with
  | true => A σ K ∨ ∃ (ι : Type) (S : ι → St) (ok : ι → Prop), (A σ fun e σ' => match e with
    | .normal => ∃ y, ok y ∧ Ssem w0 mine σ' (S y)
    | e => K e σ') ∧ ∀ y, ok y → K .normal (S y)
  | false => ∃ (ι : Type) (S : ι → St) (ok : ι → Prop) (μ : ι → Nat), (∃ x, ok x ∧ Ssem w0 mine σ (S x)) ∧ ∀ x, ok x → A (S x) fun e σ' => match e with
    | .normal => ∃ y, ok y ∧ Ssem w0 mine σ' (S y) ∧ μ y < μ x
    | e => K e σ'

/-- What is said of the frame stays, whatever the code does. -/
def KeepsC (Φ : Act → Prop) : Code → Prop
  | .region _ ops _ => KeepsO Φ ops.toList
  | .seq a b => KeepsC Φ a ∧ KeepsC Φ b
  | .cond _ a b => KeepsC Φ a ∧ KeepsC Φ b
  | .block _ c => KeepsC Φ c
  | .loop c => KeepsC Φ c
  | _ => True

theorem AWP_sound (hE : EnvOk P E) (hm : P.follows .mixedOrders = true) : ∀ (c : Code) (σ : St) (K : Exit → St → Prop) (Q : Exit → Act → World → Prop) (Φ : Act → Prop) (γ : Ghost) (a : Act) (w : World), KeepsC Φ c → Rel w0 mine γ σ a w → Φ a →
    (∀ e σ γ a w, K e σ → Rel w0 mine γ σ a w → Φ a → Q e a w) → AWP std E (Csem P w0 mine) (Lsem w0 mine) c σ K → c.wp P Q a w := by
  intro c
  induction c with
  | skip => intro σ K Q Φ γ a w hC R hd hQ h; exact wp_skip (hQ .normal _ _ _ _ h R hd)
  | label l => intro σ K Q Φ γ a w hC R hd hQ h; exact wp_label (hQ .normal _ _ _ _ h R hd)
  | exit id => intro σ K Q Φ γ a w hC R hd hQ h; exact wp_exit (hQ _ _ _ _ _ h R hd)
  | ret => intro σ K Q Φ γ a w hC R hd hQ h; exact wp_ret (hQ _ _ _ _ _ h R hd)
  | region id ops draw =>
    intro σ K Q Φ γ a w hC R hd hQ h
    cases draw with
    | false =>
      refine wp_region ?_
      rw [List.range_eq_range']
      exact opsP_sound hE hC (hQ .normal) ops.size 0 σ γ a w (by omega) R hd h
    | true => exact draw_sound hE hm hC (hQ .normal) R hd h
  | seq x y ihx ihy =>
    intro σ K Q Φ γ a w hC R hd hQ h
    simp only [AWP] at h
    split at h
    · rcases h with h | ⟨ι, S, ok, h1, h2⟩
      · refine wp_seq (ihx σ _ _ Φ γ a w hC.1 R hd ?_ h)
        intro e σ' γ' a' w' hk R' hd'
        cases e with
        | normal => exact ihy σ' K Q Φ γ' a' w' hC.2 R' hd' hQ hk
        | _ => exact hQ _ σ' γ' a' w' hk R' hd'
      · refine wp_seq (ihx σ _ _ Φ γ a w hC.1 R hd ?_ h1)
        intro e σ' γ' a' w' hk R' hd'
        cases e with
        | normal =>
          obtain ⟨y, hy, hs⟩ := hk
          obtain ⟨γ'', R''⟩ := hs γ' a' w' R'
          exact ihy (S y) K Q Φ γ'' a' w' hC.2 R'' hd' hQ (h2 y hy)
        | _ => exact hQ _ σ' γ' a' w' hk R' hd'
    · refine wp_seq (ihx σ _ _ Φ γ a w hC.1 R hd ?_ h)
      intro e σ' γ' a' w' hk R' hd'
      cases e with
      | normal => exact ihy σ' K Q Φ γ' a' w' hC.2 R' hd' hQ hk
      | _ => exact hQ _ σ' γ' a' w' hk R' hd'
  | cond c x y ihx ihy =>
    intro σ K Q Φ γ a w hC R hd hQ h
    simp only [AWP] at h
    split at h
    · rename_i t hc
      have hv := R.scalar hc
      refine wp_cond hv ?_
      cases t with
      | true => exact ihx σ K Q Φ γ a w hC.1 R hd hQ h
      | false => exact ihy σ K Q Φ γ a w hC.2 R hd hQ h
    · exact h.elim
  | block id c ih =>
    intro σ K Q Φ γ a w hC R hd hQ h
    refine wp_block (ih σ _ _ Φ γ a w hC R hd ?_ h)
    intro e σ' γ' a' w' hk R' hd'
    cases e with
    | exit id' =>
      simp only [Exit.inBlock]
      by_cases he : id' = id
      · rw [if_pos he]
        simp only [he, Nat.beq_refl] at hk
        exact hQ _ σ' γ' a' w' hk R' hd'
      · rw [if_neg he]
        have : Nat.beq id' id = false := by
          cases hb : Nat.beq id' id with
          | false => rfl
          | true => exact absurd (Nat.eq_of_beq_eq_true hb) he
        simp only [this] at hk
        exact hQ _ σ' γ' a' w' hk R' hd'
    | _ => exact hQ _ σ' γ' a' w' hk R' hd'
  | loop c ih =>
    intro σ K Q Φ γ a w hC R hd hQ h
    simp only [AWP] at h
    obtain ⟨ι, S, ok, μ, ⟨x0, hx0, hs0⟩, hb⟩ := h
    let Pn : Nat → Act → World → Prop := fun n a w => ∃ x γ, ok x ∧ μ x = n ∧ Rel w0 mine γ (S x) a w ∧ Φ a
    have hdec : ∀ a w, (∃ n, Pn n a w) → ∃ n, Pn n a w ∧ ∀ m, m < n → ¬ Pn m a w := by
      intro a w ⟨n, hn⟩
      induction n using Nat.strongRecOn with
      | _ n ih =>
        by_cases hm : ∃ m, m < n ∧ Pn m a w
        · obtain ⟨m, hlt, hp⟩ := hm
          exact ih m hlt hp
        · exact ⟨n, hn, fun m hlt hp => hm ⟨m, hlt, hp⟩⟩
    let M : Act → World → Nat := fun a w => Classical.epsilon fun n => Pn n a w ∧ ∀ m, m < n → ¬ Pn m a w
    have hM : ∀ a w, (∃ n, Pn n a w) → Pn (M a w) a w ∧ ∀ m, m < M a w → ¬ Pn m a w := fun a w h => Classical.epsilon_spec (hdec a w h)
    refine wp_loop (fun a w => ∃ n, Pn n a w) M ?_ ?_
    · obtain ⟨γ', R'⟩ := hs0 γ a w R
      exact ⟨_, x0, γ', hx0, rfl, R', hd⟩
    · intro a w hI
      obtain ⟨⟨x, γx, hx, hmu, Rx, hdx⟩, hmin⟩ := hM a w hI
      refine ih (S x) _ _ Φ γx a w hC Rx hdx ?_ (hb x hx)
      intro e σ' γ' a' w' hk R' hd'
      cases e with
      | normal =>
        obtain ⟨y, hy, hsy, hlt⟩ := hk
        obtain ⟨γ'', R''⟩ := hsy γ' a' w' R'
        have hI' : ∃ n, Pn n a' w' := ⟨_, y, γ'', hy, rfl, R'', hd'⟩
        refine ⟨hI', ?_⟩
        have hle : M a' w' ≤ μ y := by
          rcases Nat.lt_or_ge (μ y) (M a' w') with hc | hc
          · exact absurd ⟨y, γ'', hy, rfl, R'', hd'⟩ ((hM a' w' hI').2 _ hc)
          · exact hc
        omega
      | _ => exact hQ _ σ' γ' a' w' hk R' hd'
  | _ => intro σ K Q Φ γ a w hC R hd hQ h; exact h.elim
end
end Go.AW
/- The abstract calculus, part 23: contracts: what is read, lent, given; what comes back. -/
set_option linter.unusedVariables false
set_option linter.unusedSimpArgs false
namespace Go.AW

/-! ### Arguments and results -/
/-- What is read: a datum in one cell, a struct's cells, a pointer to cells, a closure over cells. -/
inductive DP where
  | c (d : DV)
  | a (ds : List DV)
  | p (row : List DV)
  | fr (f : Nat) (rows : List (List DV))
/-- What is owned: a datum in one cell, a struct's cells, a pointer to a block of cells. -/
inductive DR where
  | c (d : DV)
  | a (ds : List DV)
  | p (ds : List DV)
/-- An argument: read; lent, to come back; given. -/
inductive AM where
  | r (d : DP)
  | o (d : DR)
  | g (d : DR)

def ArgT (w : World) (F : FP) : DP → Value → Prop
  | .c d, u => RoT w F u d
  | .a ds, u => ∃ us : List Value, u = .agg us.toArray ∧ us.length = ds.length ∧ ∀ (j : Nat) (d : DV), ds[j]? = some d → ∃ x, us[j]? = some x ∧ RoT w F x d
  | .p row, u => RRow w F u row
  | .fr f rows, u => ∃ vs : List Value, u = .func (.func f) #[] vs.toArray ∧ vs.length = rows.length ∧ ∀ (k : Nat) (row : List DV), rows[k]? = some row → ∃ v, vs[k]? = some v ∧ RRow w F v row
/-- Cells owned. -/
def OwnC (w : World) (F : FP) (ds : List DV) (us : List Value) : Prop :=
  us.length = ds.length ∧ ∃ G : Nat → FP, (∀ j x, G j x → F x) ∧ (∀ j j' x, G j x → G j' x → j = j') ∧ ∀ (j : Nat) (d : DV), ds[j]? = some d → ∃ x, us[j]? = some x ∧ OwnT w (G j) x d
def OwnR (w : World) (F : FP) : DR → Value → Prop
  | .c d, u => OwnT w F u d
  | .a ds, u => ∃ us : List Value, u = .agg us.toArray ∧ OwnC w F ds us
  | .p ds, u => ∃ b cs t fr, u = .pointer (some ⟨b, 0, none⟩) ∧ F b ∧ w.heap[b]? = some (.cells cs t fr) ∧ Unfrozen fr cs.size ∧ OwnC w (fun x => F x ∧ x ≠ b) ds cs.toList

def DisjL (Fs : List FP) : Prop := Fs.Pairwise fun F G => ∀ x, F x → ¬ G x
def AnyL (Fs : List FP) : FP := fun x => ∃ F, F ∈ Fs ∧ F x
theorem anyL_nil (x : Nat) : ¬ AnyL [] x := fun ⟨F, h, _⟩ => by simp at h
theorem anyL_cons {F : FP} {Fs : List FP} {x : Nat} : AnyL (F :: Fs) x ↔ F x ∨ AnyL Fs x := by
  constructor
  · rintro ⟨G, hG, hx⟩
    rcases List.mem_cons.mp hG with rfl | hG
    · exact .inl hx
    · exact .inr ⟨G, hG, hx⟩
  · rintro (h | ⟨G, hG, hx⟩)
    · exact ⟨F, by simp, h⟩
    · exact ⟨G, by simp [hG], hx⟩
theorem anyL_append {Fs Gs : List FP} {x : Nat} : AnyL (Fs ++ Gs) x ↔ AnyL Fs x ∨ AnyL Gs x := by
  constructor
  · rintro ⟨G, hG, hx⟩
    rcases List.mem_append.mp hG with hG | hG
    · exact .inl ⟨G, hG, hx⟩
    · exact .inr ⟨G, hG, hx⟩
  · rintro (⟨G, hG, hx⟩ | ⟨G, hG, hx⟩)
    · exact ⟨G, by simp [hG], hx⟩
    · exact ⟨G, by simp [hG], hx⟩
theorem disjL_cons {F : FP} {Fs : List FP} : DisjL (F :: Fs) ↔ (∀ x, F x → ¬ AnyL Fs x) ∧ DisjL Fs := by
  unfold DisjL
  rw [List.pairwise_cons]
  constructor
  · rintro ⟨h1, h2⟩
    exact ⟨fun x hx ⟨G, hG, hx'⟩ => h1 G hG x hx hx', h2⟩
  · rintro ⟨h1, h2⟩
    exact ⟨fun G hG x hx hx' => h1 x hx ⟨G, hG, hx'⟩, h2⟩

inductive InsT (w : World) (A : FP) : List AM → List Value → List FP → Prop where
  | nil : InsT w A [] [] []
  | r (F : FP) (d : DP) (u : Value) (ds : List AM) (us : List Value) (Fs : List FP) (h : ArgT w F d u) (hF : ∀ b, F b → b < w.heap.size ∧ ¬ A b) (ht : InsT w A ds us Fs) : InsT w A (.r d :: ds) (u :: us) Fs
  | o (F : FP) (d : DR) (u : Value) (ds : List AM) (us : List Value) (Fs : List FP) (h : OwnR w F d u) (ht : InsT w A ds us Fs) : InsT w A (.o d :: ds) (u :: us) (F :: Fs)
  | g (F : FP) (d : DR) (u : Value) (ds : List AM) (us : List Value) (Fs : List FP) (h : OwnR w F d u) (ht : InsT w A ds us Fs) : InsT w A (.g d :: ds) (u :: us) (F :: Fs)
inductive OutsT (w : World) : List AM → List Value → List DR → List FP → Prop where
  | nil : OutsT w [] [] [] []
  | r (d : DP) (u : Value) (ds : List AM) (us : List Value) (rs : List DR) (Fs : List FP) (ht : OutsT w ds us rs Fs) : OutsT w (.r d :: ds) (u :: us) rs Fs
  | o (F : FP) (d d' : DR) (u : Value) (ds : List AM) (us : List Value) (rs : List DR) (Fs : List FP) (h : OwnR w F d' u) (ht : OutsT w ds us rs Fs) : OutsT w (.o d :: ds) (u :: us) (d' :: rs) (F :: Fs)
  | g (d : DR) (u : Value) (ds : List AM) (us : List Value) (rs : List DR) (Fs : List FP) (ht : OutsT w ds us rs Fs) : OutsT w (.g d :: ds) (u :: us) rs Fs
inductive OwnL (w : World) : List DR → List Value → List FP → Prop where
  | nil : OwnL w [] [] []
  | cons (F : FP) (d : DR) (u : Value) (ds : List DR) (us : List Value) (Fs : List FP) (h : OwnR w F d u) (ht : OwnL w ds us Fs) : OwnL w (d :: ds) (u :: us) (F :: Fs)
def packU : List Value → Value
  | [u] => u
  | us => .tuple us.toArray

/-- A call has come back with a value. -/
def CallRet (P : Program) (f : FuncId) (args : Array Value) (w : World) (R : Value → World → Prop) : Prop :=
  (∃ u w', (callFunc f args).run P w = .ok (.value u) w' ∧ R u w') ∨
  ((callFunc f args).run P w = .ok (.enter f args) w ∧ Calls P f args w fun e w' => ∃ u, e = .returned u ∧ R u w')
theorem CallRet.mono {P : Program} {f : FuncId} {args : Array Value} {w : World} {R R' : Value → World → Prop} (h : CallRet P f args w R) (hr : ∀ u w', R u w' → R' u w') : CallRet P f args w R' := by
  rcases h with ⟨u, w', h1, h2⟩ | ⟨h1, h2⟩
  · exact .inl ⟨u, w', h1, hr _ _ h2⟩
  · exact .inr ⟨h1, h2.mono fun e w' ⟨u, he, hp⟩ => ⟨u, he, hr _ _ hp⟩⟩

/-- What a function does: what it answers, and what it gives back. -/
def PCon (P : Program) (f : FuncId) (das : List AM) (post : List DR → List DR → Prop) : Prop :=
  ∀ (w : World) (us : List Value) (Fs : List FP), InsT w (AnyL Fs) das us Fs → DisjL Fs → (∀ x, AnyL Fs x → x < w.heap.size) → TabsOk w (AnyL Fs) →
    CallRet P f us.toArray w fun u w' => ∃ rs outs vs Gs Hs, post rs outs ∧ u = packU vs ∧ OwnL w' rs vs Gs ∧ OutsT w' das us outs Hs ∧ DisjL (Gs ++ Hs) ∧
      (∀ x, AnyL (Gs ++ Hs) x → (w.heap.size ≤ x ∨ AnyL Fs x) ∧ x < w'.heap.size) ∧ Keep w (AnyL Fs) w'

/-! ### A caller's arguments -/
/-- Read. -/
def roP (D : Ops) (st : List (Nat × Obj)) : V → Option DP
  | .one (.lf (.p id j)) => match look st id with
    | some (.vars cs) => match allS (roD D st) (cs.drop j) with
      | some ds => some (.p ds)
      | none => none
    | _ => none
  | .one (.lf (.pr id i j)) => match look st id with
    | some (.deep _ _ f) => some (.p ((f i).drop j))
    | _ => none
  | .one (.lf (.rp row)) => some (.p row)
  | .one (.lf (.fr f rows)) => some (.fr f rows)
  | .one (.lf (.fn f caps)) => match allS (fun c : Nat × Nat => match look st c.1 with
      | some (.vars cs) => allS (roD D st) (cs.drop c.2)
      | _ => none) caps with
    | some rows => some (.fr f rows)
    | none => none
  | .one (.lf (.sp _ row)) => some (.p row)
  | .one (.lf l) => match roD D st l with
    | some d => some (.c d)
    | none => none
  | .one (.ag cs) => match allS (roD D st) cs with
    | some ds => some (.a ds)
    | none => none
  | _ => none

/-- Given: taken for good. -/
def takeV (D : Ops) (σ : St) (h : Leaf → Leaf) : V1 → Option (DR × St × (Leaf → Leaf))
  | .lf l => match h l with
    | .p id 0 => match look σ.store id with
      | some (.vars cs) => match takeCs D cs (forget1 σ id) (killA id) with
        | some (ds, σ', h') => some (.p ds, σ', fun l => h' (h l))
        | none => none
      | _ => none
    | .o id off len => match look σ.store id with
      | some (.vars (c :: cs)) => match off, len with
        | 0, 1 => match takeCs D (c :: cs) (forget1 σ id) (killA id) with
          | some (ds, σ', h') => some (.c (.l (c :: cs).length 1 (fun _ => ds)), σ', fun l => h' (h l))
          | none => none
        | _, _ => none
      | _ => match takeC D σ (.o id off len) with
        | some (d, σ', h') => some (.c d, σ', fun l => h' (h l))
        | none => none
    | l' => match takeC D σ l' with
      | some (d, σ', h') => some (.c d, σ', fun l => h' (h l))
      | none => none
  | .ag cs => match takeCs D cs σ h with
    | some (ds, σ', h') => some (.a ds, σ', h')
    | none => none
def takeVs (D : Ops) : List V1 → St → (Leaf → Leaf) → Option (List DR × St × (Leaf → Leaf))
  | [], σ, h => some ([], σ, h)
  | v :: t, σ, h => match takeV D σ h v with
    | some (d, σ', h') => match takeVs D t σ' h' with
      | some (ds, σ'', h'') => some (d :: ds, σ'', h'')
      | none => none
    | none => none

/-- Lent: the object stays, its cells are away. -/
def lendC (D : Ops) (σ : St) : Leaf → (DV → St → (Leaf → Leaf) → Prop) → Prop
  | .o id 0 n, k => match look σ.store id with
    | some (.deep sz m f) => need (D.eqN m n) (need (Nat.ble 1 sz) (k (.l sz n f) (mapSt (killQ id) (putObj σ id (.lent sz m))) (killQ id)))
    | _ => False
  | l, k => match takeC D σ l with
    | some (d, σ', h) => k d σ' h
    | none => False
def lendCs (D : Ops) : List Leaf → St → (Leaf → Leaf) → (List DV → St → (Leaf → Leaf) → Prop) → Prop
  | [], σ, h, k => k [] σ h
  | l :: t, σ, h, k => lendC D σ (h l) fun d σ' h1 => lendCs D t σ' (fun l => h1 (h l)) fun ds σ'' h2 => k (d :: ds) σ'' h2
def lendV (D : Ops) (σ : St) (h : Leaf → Leaf) : V1 → (DR → St → (Leaf → Leaf) → Prop) → Prop
  | .lf l, k => match h l with
    | .p id 0 => match look σ.store id with
      | some (.vars cs) => match takeCs D cs σ (fun l => l) with
        | some (ds, σ', h') => match h' (.p id 0), look σ'.store id with
          | .p id2 0, some (.vars _) => need (Nat.beq id2 id) (k (.p ds) (mapSt (killQ id) (putObj σ' id (.lentV cs.length))) (fun l => killQ id (h' (h l))))
          | _, _ => False
        | none => False
      | _ => False
    | l' => lendC D σ l' fun d σ' h1 => k (.c d) σ' (fun l => h1 (h l))
  | .ag cs, k => lendCs D cs σ h fun ds σ' h' => k (.a ds) σ' h'

/-! ### Data told to be as a contract has them -/
inductive DEq : DV → DV → Prop where
  | s (v : Value) : DEq (.s v) (.s v)
  | l (sz n : Nat) (f f' : Nat → List DV) (hl : ∀ i, i < n → (f i).length = (f' i).length) (h : ∀ (i j : Nat) (d d' : DV), i < n → (f i)[j]? = some d → (f' i)[j]? = some d' → DEq d d') : DEq (.l sz n f) (.l sz n f')
  | z (sz : Nat) (f f' : Nat → List DV) : DEq (.l 0 0 f) (.l sz 0 f')
  | x (d : DV) : DEq d .x

theorem deq_get {n : Nat} {f f' : Nat → List DV} (hl : ∀ i, i < n → (f i).length = (f' i).length) {i j : Nat} {d' : DV} (hi : i < n) (h : (f' i)[j]? = some d') : ∃ d, (f i)[j]? = some d :=
  ⟨_, List.getElem?_eq_getElem (by rw [hl i hi]; exact (List.getElem?_eq_some_iff.mp h).1)⟩
theorem OwnT.deq {w : World} {F : FP} {u : Value} {d d' : DV} (h : OwnT w F u d) (e : DEq d d') : OwnT w F u d' := by
  induction e generalizing F u with
  | s v => exact h
  | x d => exact .x _ _ h.one
  | z sz f f' =>
    cases h with
    | nl => exact .nl _ _ _ _
    | bl _ _ _ _ _ _ _ _ _ _ _ _ _ hs => exact absurd hs (Nat.lt_irrefl 0)
  | l sz n f f' hl _ ih =>
    cases h with
    | nl => exact .nl _ _ _ _
    | bl _ b off _ cap _ _ cs t fr vs G hF hs hb hu hn htot hsz hG hGd hv hd =>
      refine .bl _ b off n cap sz f' cs t fr vs G hF hs hb hu hn htot (fun i hi => by rw [← hl i hi]; exact hsz i hi) hG hGd (fun i j d' hi hj => ?_) (fun i j d' hi hj => ?_)
      · obtain ⟨d, hd'⟩ := deq_get hl hi hj
        exact hv i j d hi hd'
      · obtain ⟨d, hd'⟩ := deq_get hl hi hj
        exact ih i j d d' hi hd' hj (hd i j d hi hd')
theorem RoT.deq {w : World} {F : FP} {u : Value} {d d' : DV} (h : RoT w F u d) (e : DEq d d') : RoT w F u d' := by
  induction e generalizing F u with
  | s v => exact h
  | x d => exact .x _ h.one
  | z sz f f' =>
    cases h with
    | nl => exact .nl _ _ _ _
    | bl _ b off _ cap sz' _ cs t fr vs hF hb hn hsz hv hd => exact .nl _ _ _ _
  | l sz n f f' hl _ ih =>
    cases h with
    | nl => exact .nl _ _ _ _
    | bl _ b off _ cap sz' _ cs t fr vs hF hb hn hsz hv hd =>
      refine .bl _ b off n cap sz' f' cs t fr vs hF hb hn (fun i hi => by rw [← hl i hi]; exact hsz i hi) (fun i j d' hi hj => ?_) (fun i j d' hi hj => ?_)
      · obtain ⟨d, hd'⟩ := deq_get hl hi hj
        exact hv i j d hi hd'
      · obtain ⟨d, hd'⟩ := deq_get hl hi hj
        exact ih i j d d' hi hd' hj (hd i j d hi hd')
theorem DEq.rfl' (d : DV) : DEq d d := by
  refine DV.rec (motive_1 := fun d => DEq d d) (motive_2 := fun l => ∀ d, d ∈ l → DEq d d) ?_ ?_ ?_ ?_ ?_ d
  · intro v; exact .s v
  · intro sz n f ih
    refine .l sz n f f (fun _ _ => rfl) fun i j d d' _ h h' => ?_
    rw [h] at h'; cases h'
    exact ih i d (List.mem_of_getElem? h)
  · exact .x _
  · intro d h; simp at h
  · intro d l h1 h2 d' h
    rcases List.mem_cons.mp h with rfl | h
    · exact h1
    · exact h2 d' h
theorem deq_rows {sz n : Nat} {f f' : Nat → List DV} (h : ∀ i, i < n → f i = f' i) : DEq (.l sz n f) (.l sz n f') :=
  .l sz n f f' (fun i hi => by rw [h i hi]) fun i j d d' hi h1 h2 => by rw [h i hi, h2] at h1; cases h1; exact DEq.rfl' _

/-- One cell's datum against another: owned. -/
def dvLe : DV → DV → Prop
  | _, .x => True
  | .s u, .s v => u = v
  | .l sz n f, .l sz' n' f' => n = n' ∧ DEq (.l sz n f) (.l sz' n f')
  | _, _ => False
/-- The same, only read: the size of a row does not matter. -/
def dvRo : DV → DV → Prop
  | _, .x => True
  | .s u, .s v => u = v
  | .l _ n f, .l _ n' f' => n = n' ∧ DEq (.l 0 n f) (.l 0 n f')
  | _, _ => False
def allLe (r : DV → DV → Prop) : List DV → List DV → Prop
  | [], [] => True
  | d :: ds, d' :: ds' => r d d' ∧ allLe r ds ds'
  | _, _ => False
def drLe : DR → DR → Prop
  | .c d, .c d' => dvLe d d'
  | .a ds, .a ds' => allLe dvLe ds ds'
  | .p ds, .p ds' => allLe dvLe ds ds'
  | _, _ => False
def drsLe : List DR → List DR → Prop
  | [], [] => True
  | d :: ds, d' :: ds' => drLe d d' ∧ drsLe ds ds'
  | _, _ => False
def rowsRo : List (List DV) → List (List DV) → Prop
  | [], [] => True
  | d :: ds, d' :: ds' => allLe dvRo d d' ∧ rowsRo ds ds'
  | _, _ => False
def dpLe : DP → DP → Prop
  | .c d, .c d' => dvRo d d'
  | .a ds, .a ds' => allLe dvRo ds ds'
  | .p ds, .p ds' => allLe dvRo ds ds'
  | .fr f rows, .fr f' rows' => f = f' ∧ rowsRo rows rows'
  | _, _ => False

/-! ### The call -/
/-- Phase one: what is lent or given goes. -/
def lendArgs (D : Ops) : List AM → List V → St → (Leaf → Leaf) → (St → (Leaf → Leaf) → Prop) → Prop
  | [], [], σ, h, k => k σ h
  | .r _ :: ds, _ :: vs, σ, h, k => lendArgs D ds vs σ h k
  | .o d :: ds, .one v :: vs, σ, h, k => lendV D σ h v fun d' σ' h' => drLe d' d ∧ lendArgs D ds vs σ' h' k
  | .g d :: ds, .one v :: vs, σ, h, k => match takeV D σ h v with
    | some (d', σ', h') => drLe d' d ∧ lendArgs D ds vs σ' h' k
    | none => False
  | _, _, _, _, _ => False
/-- Phase two: what is read stays. -/
def roArgs (D : Ops) (st : List (Nat × Obj)) (h : Leaf → Leaf) : List AM → List V → Prop
  | .r d :: ds, v :: vs => match roP D st (mapV h v) with
    | some d' => dpLe d' d ∧ roArgs D st h ds vs
    | none => False
  | .o _ :: ds, _ :: vs => roArgs D st h ds vs
  | .g _ :: ds, _ :: vs => roArgs D st h ds vs
  | _, _ => True
/-- Owned data become objects. -/
def instC (σ : St) : DV → Leaf × St
  | .s v => (.s v, σ)
  | .l sz n f => (.o σ.next 0 n, mkObj σ (.deep sz n f))
  | .x => (.un, σ)
def instCs (σ : St) : List DV → List Leaf × St
  | [] => ([], σ)
  | d :: ds => match instC σ d with
    | (l, σ') => match instCs σ' ds with
      | (ls, σ'') => (l :: ls, σ'')
def inst1 (σ : St) : DR → V1 × St
  | .c d => match instC σ d with
    | (l, σ') => (.lf l, σ')
  | .a ds => match instCs σ ds with
    | (ls, σ') => (.ag ls, σ')
  | .p ds => match instCs σ ds with
    | (ls, σ') => (.lf (.p σ'.next 0), mkObj σ' (.vars ls))
def inst1s (σ : St) : List DR → List V1 × St
  | [] => ([], σ)
  | d :: ds => match inst1 σ d with
    | (l, σ') => match inst1s σ' ds with
      | (ls, σ'') => (l :: ls, σ'')
def packV1 : List V1 → V
  | [v] => .one v
  | vs => .tup vs
/-- Phase three: what comes back lies where it lay. -/
def giveC (D : Ops) (σ : St) (l : Leaf) (d : DV) (k : St → (Leaf → Leaf) → Prop) : Prop :=
  match l, d with
  | .o id 0 m, .l sz' _ f => match look σ.store id with
    | some (.lent sz n) => need (D.eqN n m) (need (Nat.beq sz' sz) (k (mapSt (killQ id) (putObj σ id (.deep sz n f))) (killQ id)))
    | _ => False
  | .q id i j none _, .l sz' n' f' => match look σ.store id with
    | some (.deep sz n F) => match nthO (F i) j with
      | some .x => k (mapSt (killS id) (putObj σ id (.deep sz n (D.setF F i (setD1 (F i) j (.l sz' n' f')))))) (killS id)
      | _ => False
    | _ => False
  | .s _, _ => k σ (fun l => l)
  | .nil, _ => k σ (fun l => l)
  | _, _ => False
def giveCs (D : Ops) : List Leaf → List DV → St → (Leaf → Leaf) → (St → (Leaf → Leaf) → Prop) → Prop
  | [], [], σ, h, k => k σ h
  | l :: ls, d :: ds, σ, h, k => giveC D σ (h l) d fun σ' h1 => giveCs D ls ds σ' (fun l => h1 (h l)) k
  | _, _, _, _, _ => False
def giveV (D : Ops) (σ : St) (h : Leaf → Leaf) (v : V1) (d : DR) (k : St → (Leaf → Leaf) → Prop) : Prop :=
  match v, d with
  | .lf l, .c d => giveC D σ (h l) d fun σ' h1 => k σ' (fun l => h1 (h l))
  | .ag ls, .a ds => giveCs D ls ds σ h k
  | .lf l, .p ds => match h l with
    | .p id 0 => match look σ.store id with
      | some (.lentV n) => need (Nat.beq ds.length n) (match instCs σ ds with
        | (ls, σ') => k (mapSt (killQ id) (putObj σ' id (.vars ls))) (fun l => killQ id (h l)))
      | _ => False
    | _ => False
  | _, _ => False
def giveArgs (D : Ops) : List AM → List V → List DR → St → (Leaf → Leaf) → (St → Prop) → Prop
  | [], [], [], σ, _, k => k σ
  | .o _ :: ds, .one v :: vs, d :: outs, σ, h, k => giveV D σ h v d fun σ' h' => giveArgs D ds vs outs σ' h' k
  | .r _ :: ds, _ :: vs, outs, σ, h, k => giveArgs D ds vs outs σ h k
  | .g _ :: ds, _ :: vs, outs, σ, h, k => giveArgs D ds vs outs σ h k
  | _, _, _, _, _, _ => False
/-- Behind the call. -/
def backP (D : Ops) (das : List AM) (vs : List V) (σ : St) (h : Leaf → Leaf) (k : V → St → Prop) (rs outs : List DR) : Prop :=
  giveArgs D das vs outs σ h fun σ' => match inst1s σ' rs with
    | (us, σ'') => k (packV1 us) σ''
def callP (D : Ops) (das : List AM) (vs : List V) (σ : St) (post : List DR → List DR → Prop) (k : V → St → Prop) : Prop :=
  lendArgs D das vs σ (fun l => l) fun σ1 h => roArgs D σ1.store h das vs ∧ ∀ rs outs, post rs outs → backP D das vs σ1 h k rs outs
end Go.AW
/- The abstract calculus, part 24: lending and taking are sound. -/
set_option linter.unusedVariables false
set_option linter.unusedSimpArgs false
namespace Go.AW

/-! ### Data told to be less -/
theorem dvLe_own {w : World} {F : FP} {u : Value} {d d' : DV} (h : OwnT w F u d) (e : dvLe d d') : OwnT w F u d' := by
  unfold dvLe at e
  split at e
  · exact .x _ _ h.one
  · rw [← e]; exact h
  · obtain ⟨rfl, e⟩ := e
    exact h.deq e
  · exact e.elim
theorem dvRo_ro {w : World} {F : FP} {u : Value} {d d' : DV} (h : RoT w F u d) (e : dvRo d d') : RoT w F u d' := by
  unfold dvRo at e
  split at e
  · exact .x _ h.one
  · rw [← e]; exact h
  · obtain ⟨rfl, e⟩ := e
    exact ((h.resz 0).deq e).resz _
  · exact e.elim
theorem allLe_get {r : DV → DV → Prop} : ∀ {ds ds' : List DV}, allLe r ds ds' → ds.length = ds'.length ∧ ∀ (j : Nat) (d' : DV), ds'[j]? = some d' → ∃ d, ds[j]? = some d ∧ r d d'
  | [], [], _ => ⟨rfl, fun j d h => by simp at h⟩
  | d :: ds, d' :: ds', h => by
    obtain ⟨h1, h2⟩ := allLe_get h.2
    refine ⟨by simp [h1], fun j y hx => ?_⟩
    cases j with
    | zero => simp at hx; subst hx; exact ⟨d, rfl, h.1⟩
    | succ j => simpa using h2 j y (by simpa using hx)
  | [], _ :: _, h => h.elim
  | _ :: _, [], h => h.elim
theorem ownC_le {w : World} {F : FP} {ds ds' : List DV} {us : List Value} (h : OwnC w F ds us) (e : allLe dvLe ds ds') : OwnC w F ds' us := by
  obtain ⟨hl, G, h1, h2, h3⟩ := h
  obtain ⟨e1, e2⟩ := allLe_get e
  refine ⟨by rw [hl, e1], G, h1, h2, fun j d' hd' => ?_⟩
  obtain ⟨d, hd, hr⟩ := e2 j d' hd'
  obtain ⟨x, hx, ho⟩ := h3 j d hd
  exact ⟨x, hx, dvLe_own ho hr⟩
theorem drLe_own {w : World} {F : FP} {u : Value} {d d' : DR} (h : OwnR w F d u) (e : drLe d d') : OwnR w F d' u := by
  cases d <;> cases d' <;> simp only [drLe] at e
  · exact dvLe_own h e
  · obtain ⟨us, hu, hc⟩ := h
    exact ⟨us, hu, ownC_le hc e⟩
  · obtain ⟨b, cs, t, fr, hu, hF, hb, hun, hc⟩ := h
    exact ⟨b, cs, t, fr, hu, hF, hb, hun, ownC_le hc e⟩
theorem drsLe_own {w : World} : ∀ {rs rs' : List DR} {us : List Value} {Fs : List FP}, OwnL w rs us Fs → drsLe rs rs' → OwnL w rs' us Fs
  | [], [], _, _, h, _ => h
  | d :: ds, d' :: ds', _, _, h, e => by
    cases h with
    | cons F _ u _ us Fs h ht => exact .cons F _ u _ us Fs (drLe_own h e.1) (drsLe_own ht e.2)
  | [], _ :: _, _, _, _, e => e.elim
  | _ :: _, [], _, _, _, e => e.elim
theorem rrow_le {w : World} {F : FP} {u : Value} {ds ds' : List DV} (h : RRow w F u ds) (e : allLe dvRo ds ds') : RRow w F u ds' := by
  obtain ⟨b, off, cs, t, fr, hu, hF, hb, hv⟩ := h
  obtain ⟨_, e2⟩ := allLe_get e
  refine ⟨b, off, cs, t, fr, hu, hF, hb, fun j d' hd' => ?_⟩
  obtain ⟨d, hd, hr⟩ := e2 j d' hd'
  obtain ⟨x, hx, ho⟩ := hv j d hd
  exact ⟨x, hx, dvRo_ro ho hr⟩
theorem rowsRo_get : ∀ {ds ds' : List (List DV)}, rowsRo ds ds' → ds.length = ds'.length ∧ ∀ (j : Nat) (d' : List DV), ds'[j]? = some d' → ∃ d, ds[j]? = some d ∧ allLe dvRo d d'
  | [], [], _ => ⟨rfl, fun j d h => by simp at h⟩
  | d :: ds, d' :: ds', h => by
    obtain ⟨h1, h2⟩ := rowsRo_get h.2
    refine ⟨by simp [h1], fun j y hx => ?_⟩
    cases j with
    | zero => simp at hx; subst hx; exact ⟨d, rfl, h.1⟩
    | succ j => simpa using h2 j y (by simpa using hx)
  | [], _ :: _, h => h.elim
  | _ :: _, [], h => h.elim
theorem dpLe_arg {w : World} {F : FP} {u : Value} {d d' : DP} (h : ArgT w F d u) (e : dpLe d d') : ArgT w F d' u := by
  cases d <;> cases d' <;> simp only [dpLe] at e
  · exact dvRo_ro h e
  · obtain ⟨us, hu, hl, hv⟩ := h
    obtain ⟨e1, e2⟩ := allLe_get e
    refine ⟨us, hu, by rw [hl, e1], fun j d' hd' => ?_⟩
    obtain ⟨d, hd, hr⟩ := e2 j d' hd'
    obtain ⟨x, hx, ho⟩ := hv j d hd
    exact ⟨x, hx, dvRo_ro ho hr⟩
  · exact rrow_le h e
  · obtain ⟨rfl, e⟩ := e
    obtain ⟨vs, hu, hl, hv⟩ := h
    obtain ⟨e1, e2⟩ := rowsRo_get e
    refine ⟨vs, hu, by rw [hl, e1], fun k row hk => ?_⟩
    obtain ⟨d, hd, hr⟩ := e2 k row hk
    obtain ⟨v, hv', hr'⟩ := hv k d hd
    exact ⟨v, hv', rrow_le hr' hr⟩

section
variable {P : Program} {w0 w w' : World} {mine : FP} {γ γ' : Ghost} {σ : St} {a : Act} {k : V → St → Prop} {E : Env}

/-! ### What is read -/
/-- Where what is read lies: outside, or in objects that stay. -/
def Seen (γ : Ghost) (st : List (Nat × Obj)) : FP := fun b => γ.ro b ∨ ∃ i o, look st i = some o ∧ γ.fp i b

theorem roCells_sound (R : RelS w0 mine γ σ.store σ.next w) {cs : List Leaf} {us : List Value} (hr : RCells γ w cs us) {ds : List DV} (h : allS (roD std σ.store) cs = some ds) :
    ds.length = cs.length ∧ ∀ (j : Nat) (d : DV), ds[j]? = some d → ∃ x, us[j]? = some x ∧ RoT w (Seen γ σ.store) x d := by
  obtain ⟨h1, h2⟩ := allS_spec h
  refine ⟨h1, fun j d hd => ?_⟩
  have hlt : j < cs.length := by rw [← h1]; exact (List.getElem?_eq_some_iff.mp hd).1
  obtain ⟨y, hy, hm⟩ := h2 j _ (List.getElem?_eq_getElem hlt)
  rw [hd] at hy; cases hy
  obtain ⟨x, hx, hrx⟩ := hr.2 j _ (List.getElem?_eq_getElem hlt)
  obtain ⟨F, hF, hFs⟩ := roD_sound R hrx hm
  exact ⟨x, hx, hF.mono hFs (Ext.refl _ _)⟩
theorem rcells_drop {cs : List Leaf} {us : List Value} (hr : RCells γ w cs us) (j : Nat) : RCells γ w (cs.drop j) (us.drop j) :=
  ⟨by simp [hr.1], fun i l hl => by rw [List.getElem?_drop] at hl ⊢; exact hr.2 _ l hl⟩
theorem RRow.sub {F F' : FP} {u : Value} {row : List DV} (h : RRow w F u row) (hF : ∀ b, F b → F' b) : RRow w F' u row := h.mono hF (Ext.refl _ _)

theorem roP_sound (R : RelS w0 mine γ σ.store σ.next w) {v : V} {u : Value} (hv : RV γ w v u) {d : DP} (h : roP std σ.store v = some d) : ArgT w (Seen γ σ.store) d u := by
  unfold roP at h
  split at h
  · rename_i id j
    split at h
    · rename_i cs hst
      split at h
      · rename_i ds hds
        simp at h; subst h
        obtain ⟨g1, b, hg, hb, hu⟩ := hv.2
        obtain ⟨g1', hg', b', cur, t, fr, hb', hfp, hh, hun, hbase, htot, hsz, hgz, hcells⟩ := R.objs id _ hst
        rw [hg] at hg'; cases hg'
        rw [hb] at hb'; cases hb'
        obtain ⟨_, h2⟩ := roCells_sound R (rcells_drop hcells j) hds
        refine ⟨b, j, cur, t, fr, by rw [hu, hbase, Nat.zero_add], .inr ⟨id, _, hst, hfp⟩, hh, fun q d hd => ?_⟩
        obtain ⟨x, hx, hr⟩ := h2 q d hd
        rw [List.getElem?_drop] at hx
        exact ⟨x, by simpa using hx, hr⟩
      · simp at h
    · simp at h
  · rename_i id i j
    split at h
    · rename_i sz n f hst
      simp at h; subst h
      obtain ⟨g1, b, hg, hb, hlt, hu⟩ := hv.2
      obtain ⟨g1', hg', ho⟩ := R.objs id _ hst
      rw [hg] at hg'; cases hg'
      simp only [RObj, hb] at ho
      obtain ⟨hn, _, _, cs, t, fr, vs, G, hfp, hh, hun, htot, hnt, hlen, hG, hGd, hvv⟩ := ho
      refine ⟨b, g1.base + i * g1.sz + j, cs, t, fr, hu, .inr ⟨id, _, hst, hfp⟩, hh, fun q d hd => ?_⟩
      rw [List.getElem?_drop] at hd
      obtain ⟨h1, h2⟩ := hvv i (j + q) d (by omega) hd
      exact ⟨_, by rw [← h1]; congr 1; omega, h2.ro.mono (fun x hx => .inr ⟨id, _, hst, (hG _ _ x hx).1⟩) (Ext.refl _ _)⟩
    · simp at h
  · simp at h; subst h
    exact RRow.sub hv.2 fun b hb => .inl hb
  · simp at h; subst h
    obtain ⟨vs, hu, hl, hr⟩ := hv.2
    exact ⟨vs, hu, hl, fun k row hk => let ⟨x, h1, h2⟩ := hr k row hk; ⟨x, h1, h2.sub fun b hb => .inl hb⟩⟩
  · rename_i f caps
    split at h
    · rename_i rows hrows
      simp at h; subst h
      obtain ⟨h1, h2⟩ := allS_spec hrows
      obtain ⟨vs, hu, hl, hc⟩ := hv.2
      refine ⟨vs, hu, by rw [hl, h1], fun k row hk => ?_⟩
      have hlt : k < caps.length := by rw [← h1]; exact (List.getElem?_eq_some_iff.mp hk).1
      obtain ⟨y, hy, hm⟩ := h2 k _ (List.getElem?_eq_getElem hlt)
      rw [hk] at hy; cases hy
      obtain ⟨g1, b, hg, hb, hvk⟩ := hc k _ (List.getElem?_eq_getElem hlt)
      split at hm
      · rename_i cs hst
        obtain ⟨g1', hg', b', cur, t, fr, hb', hfp, hh, hun, hbase, htot, hsz, hgz, hcells⟩ := R.objs _ _ hst
        rw [hg] at hg'; cases hg'
        rw [hb] at hb'; cases hb'
        obtain ⟨_, h4⟩ := roCells_sound R (rcells_drop hcells caps[k].2) hm
        refine ⟨_, hvk, b, caps[k].2, cur, t, fr, by rw [hbase, Nat.zero_add], .inr ⟨_, _, hst, hfp⟩, hh, fun q d hd => ?_⟩
        obtain ⟨x, hx, hr⟩ := h4 q d hd
        rw [List.getElem?_drop] at hx
        exact ⟨x, by simpa using hx, hr⟩
      · cases hm
    · simp at h
  · simp at h; subst h
    obtain ⟨⟨g, hg⟩, hr⟩ := hv.2
    obtain ⟨o, ho⟩ := R.dom _ g hg
    exact RRow.sub hr fun b hb => .inr ⟨_, o, ho, hb⟩
  · split at h
    · rename_i d' hd
      simp at h; subst h
      obtain ⟨F, hF, hFs⟩ := roD_sound R hv hd
      exact hF.mono hFs (Ext.refl _ _)
    · simp at h
  · rename_i cs
    split at h
    · rename_i ds hds
      simp at h; subst h
      obtain ⟨us, hu, hr⟩ := hv
      obtain ⟨h1, h2⟩ := roCells_sound R hr hds
      exact ⟨us, hu, by rw [hr.1, h1], h2⟩
    · simp at h
  · simp at h

/-! ### What is lent -/
theorem Took.id {h : Leaf → Leaf} {F : FP} {σ' : St} {h1 : Leaf → Leaf} (T : Took w0 mine a w γ σ (fun l => l) F γ' σ' h1) (g : Leaf → Leaf) : Took w0 mine a w γ σ g F γ' σ' (fun l => h1 (g l)) :=
  ⟨T.R, fun l u hl => T.leaf _ _ hl, T.free, T.keep, T.next⟩

/-- An object's own blocks given away, the object kept by name. -/
theorem took_name (R : Rel w0 mine γ σ a w) {id : Nat} {o o' : Obj} {g : G1} (F' : FP) (ho : look σ.store id = some o) (hg : γ.g id = some g) (hF : ∀ b, F' b → γ.fp id b)
    (hobj : RObj (γ.grow id g F') w id g (mapObj (killQ id) o')) : Took w0 mine a w γ σ (fun l => l) (fun b => γ.fp id b ∧ ¬ F' b) (γ.grow id g F') (mapSt (killQ id) (putObj σ id o')) (killQ id) := by
  have S := step_write (w' := w) R.st (g' := g) (fun _ => False) (fun i => i = id) ho hg F' (fun _ => rfl) (fun h => absurd rfl h) (fun b x _ hx => hx)
  have R' := R.write (o' := o') (g' := g) (F := F') (w' := w) (fun _ => False) (fun i => i = id) (killQ id) (kills_Q id) ho hg (fun _ => rfl) (fun h => absurd rfl h)
    (fun x hx => ⟨.inl (hF x hx), R.st.fp id _ ho x (hF x hx)⟩) (fun b x _ hx => hx) (Nat.le_refl _) R.st.keep hobj
  have hl : ∀ i0 oi, look (mapSt (killQ id) (putObj σ id o')).store i0 = some oi → ∃ o', look σ.store i0 = some o' := by
    intro i0 oi h
    simp only [mapSt, putObj, look_map, look_put, ho] at h
    by_cases hi : i0 = id
    · subst hi; exact ⟨_, ho⟩
    · simp only [hi, false_and, if_false, Option.map_eq_some_iff] at h
      obtain ⟨o', h1, _⟩ := h
      exact ⟨o', h1⟩
  refine ⟨R', fun l u h => h.kill S (kills_Q id), fun x hx => ⟨fun i0 oi hi hf => ?_, R.st.ro id _ ho x hx.1, R.st.fp id _ ho x hx.1⟩, fun H hH => ⟨fun x hx => ?_, fun x hx hf => (hH x hx).1 id _ ho hf.1⟩, rfl⟩
  · obtain ⟨o', ho'⟩ := hl i0 oi hi
    simp only [Ghost.grow] at hf
    by_cases e : i0 = id
    · rw [if_pos e] at hf; exact hx.2 hf
    · rw [if_neg e] at hf; exact R.st.disj i0 id _ _ ho' ho e x hf hx.1
  · obtain ⟨h1, h3, h4⟩ := hH x hx
    refine ⟨fun i0 oi hi hf => ?_, h3, h4⟩
    obtain ⟨o', ho'⟩ := hl i0 oi hi
    simp only [Ghost.grow] at hf
    by_cases e : i0 = id
    · rw [if_pos e] at hf; exact h1 id _ ho (hF x hf)
    · rw [if_neg e] at hf; exact h1 i0 o' ho' hf

theorem lendC_sound (R : Rel w0 mine γ σ a w) {l : Leaf} {u : Value} (hl : RLeaf γ w l u) {K : DV → St → (Leaf → Leaf) → Prop} (h : lendC std σ l K) :
    ∃ d σ' hf γ' F, K d σ' hf ∧ Took w0 mine a w γ σ (fun l => l) F γ' σ' hf ∧ OwnT w F u d := by
  unfold lendC at h
  split at h
  · rename_i id n
    split at h
    · rename_i sz m f ho
      obtain ⟨hmn, hsz, hk⟩ := h
      have hmn : m = n := by simpa [std] using hmn
      subst hmn
      have hsz := Nat.le_of_ble_eq_true hsz
      have hown := own_obj R.st hl ho
      simp only [shF] at hown
      obtain ⟨g, A, cap, hg, hu, hle, hgn, htot, had⟩ := hl.2
      obtain ⟨g', hg', hob⟩ := R.st.objs id _ ho
      rw [hg] at hg'; cases hg'
      rcases Nat.eq_zero_or_pos g.tot with h0 | h0
      · have hcap : cap = 0 := by
          rw [h0, Nat.zero_add] at htot
          rcases Nat.mul_eq_zero.mp htot with h | h
          · exact h
          · have := hob.2.1; omega
        have hm0 : m = 0 := by omega
        have T := took_name R (o' := .lent sz m) (γ.fp id) ho hg (fun b hb => hb) ⟨hob.2.1, hob.1, by omega, fun _ => hm0, fun _ => ⟨hm0, by
          have h3 := hob.2.2
          split
          · trivial
          · rename_i b hb
            rw [hb] at h3
            obtain ⟨_, cs, t, fr, vs, G, h4, h5, h6, h7, _⟩ := h3
            exact ⟨cs, t, fr, by simpa [Ghost.grow] using h4, h5, h6, by omega⟩⟩⟩
        refine ⟨_, _, _, _, _, hk, T.mono (F' := fun _ => False) (fun b hb => hb.elim), ?_⟩
        subst hcap hm0
        rw [hu]
        exact .nl _ _ _ _
      · have T := took_name R (o' := .lent sz m) (fun _ => False) ho hg (fun b hb => hb.elim) ⟨hob.2.1, hob.1, by omega, fun hb => by have h3 := hob.2.2; rw [hb] at h3; exact h3, fun h => by omega⟩
        exact ⟨_, _, _, _, _, hk, T.mono (fun b hb => ⟨hb, fun h => h⟩), hown⟩
    · exact h.elim
  · split at h
    · rename_i d σ' hf ht
      obtain ⟨γ1, F, T, o⟩ := takeC_sound R hl ht
      exact ⟨_, _, _, _, _, h, T, o⟩
    · exact h.elim

theorem lendCs_sound : ∀ (cs : List Leaf) (us : List Value) (σ : St) (γ : Ghost) (h : Leaf → Leaf) (K : List DV → St → (Leaf → Leaf) → Prop), Rel w0 mine γ σ a w → us.length = cs.length → (∀ (j : Nat) (l : Leaf), cs[j]? = some l → ∃ u, us[j]? = some u ∧ RLeaf γ w (h l) u) →
    lendCs std cs σ h K → ∃ ds σ' h' γ' F, K ds σ' h' ∧ Took w0 mine a w γ σ h F γ' σ' h' ∧ OwnC w F ds us
  | [], us, σ, γ, h, K, R, hl, hr, hk => by
    have : us = [] := List.eq_nil_of_length_eq_zero hl
    subst this
    exact ⟨_, _, _, γ, _, hk, Took.refl R h, rfl, fun _ _ => False, fun j x hx => hx, fun j j' x hx => hx.elim, fun j d hd => by simp at hd⟩
  | l :: t, us, σ, γ, h, K, R, hl, hr, hk => by
    obtain ⟨u0, us', rfl⟩ : ∃ u0 us', us = u0 :: us' := by
      cases us with
      | nil => simp at hl
      | cons u us => exact ⟨u, us, rfl⟩
    obtain ⟨u, hu, hlu⟩ := hr 0 l rfl
    simp at hu; subst hu
    obtain ⟨d, σ1, h1, γ1, F1, hk1, T1, o1⟩ := lendC_sound R hlu hk
    obtain ⟨ds, σ2, h2, γ2, F2, hk2, T2, hlen, G, g1, g2, g3⟩ := lendCs_sound t us' σ1 γ1 _ _ T1.R (by simpa using hl) (fun j l' hj => by
      obtain ⟨u, hu, hlu⟩ := hr (j + 1) l' (by simpa using hj)
      exact ⟨u, by simpa using hu, T1.leaf _ _ hlu⟩) hk1
    refine ⟨_, _, _, γ2, _, hk2, (Took.id (h := h) T1 h).trans T2, by simp [hlen], fun j => match j with | 0 => F1 | j + 1 => G j, ?_, ?_, ?_⟩
    · intro j x hx
      cases j with
      | zero => exact .inl hx
      | succ j => exact .inr (g1 j x hx)
    · have hcross : ∀ j x, F1 x → G j x → False := fun j x hf hg => (T2.keep F1 T1.free).2 x hf (g1 j x hg)
      intro j j' x hx hx'
      cases j with
      | zero => cases j' with
        | zero => rfl
        | succ j' => exact (hcross j' x hx hx').elim
      | succ j => cases j' with
        | zero => exact (hcross j x hx' hx).elim
        | succ j' => rw [g2 j j' x hx hx']
    · intro j d' hd'
      cases j with
      | zero => simp at hd'; subst hd'; exact ⟨u0, rfl, o1⟩
      | succ j => simpa using g3 j d' (by simpa using hd')

theorem takeCs_own (R : Rel w0 mine γ σ a w) {cs : List Leaf} {us : List Value} {h : Leaf → Leaf} (hl : us.length = cs.length) (hr : ∀ (j : Nat) (l : Leaf), cs[j]? = some l → ∃ u, us[j]? = some u ∧ RLeaf γ w (h l) u) {ds : List DV} {σ' : St} {h' : Leaf → Leaf} (ht : takeCs std cs σ h = some (ds, σ', h')) :
    ∃ γ' F, Took w0 mine a w γ σ h F γ' σ' h' ∧ OwnC w F ds us := by
  obtain ⟨γ', G, T, hdl, hGd, hv⟩ := takeCs_sound cs us σ γ h ds σ' h' R hl hr ht
  exact ⟨γ', _, T, by rw [hl, hdl], G, fun j x hx => ⟨j, hx⟩, hGd, hv⟩

theorem lendV_sound (R : Rel w0 mine γ σ a w) {h : Leaf → Leaf} {v : V1} {u : Value} (hv : RV1 γ w (mapV1 h v) u) {K : DR → St → (Leaf → Leaf) → Prop} (hk : lendV std σ h v K) :
    ∃ d σ' h' γ' F, K d σ' h' ∧ Took w0 mine a w γ σ h F γ' σ' h' ∧ OwnR w F d u := by
  cases v with
  | ag cs =>
    obtain ⟨us, hu, hc⟩ := hv
    obtain ⟨ds, σ', h', γ', F, hk', T, o⟩ := lendCs_sound cs us σ γ h _ R (by simpa using hc.1) (fun j l hj => hc.2 j (h l) (by simp [hj])) hk
    exact ⟨_, _, _, γ', F, hk', T, us, hu, o⟩
  | lf l =>
    simp only [lendV] at hk
    have hvl : RLeaf γ w (h l) u := hv
    split at hk
    · rename_i id hl
      rw [hl] at hvl
      split at hk
      · rename_i cs ho
        split at hk
        · rename_i ds σ1 h1 ht
          obtain ⟨g0, hg0, b, cur, et, fr, hb, hfp, hh, hun, hbase, hct, hcs, hgz, hrc⟩ := R.st.objs id _ ho
          obtain ⟨γ1, F1, T1, o1⟩ := takeCs_own R (h := fun l => l) hrc.1 (fun j l hj => hrc.2 j l hj) ht
          split at hk
          · rename_i id2 cs1 hid ho1
            obtain ⟨he, hk⟩ := hk
            have he := Nat.eq_of_beq_eq_true he
            subst he
            obtain ⟨g00, b00, hg00, hb00, hu⟩ := hvl.2
            rw [hg0] at hg00; cases hg00
            rw [hb] at hb00; cases hb00
            have hl1 := T1.leaf (.p id2 0) u hvl
            rw [hid] at hl1
            obtain ⟨g1, b1, hg1, hb1, hu1⟩ := hl1.2
            obtain ⟨g1', hg1', b1', cur1, et1, fr1, hb1', hfp1, hh1, hun1, hbase1, hct1, hcs1, hgz1, hrc1⟩ := T1.R.st.objs id2 _ ho1
            rw [hg1] at hg1'; cases hg1'
            rw [hb1] at hb1'; cases hb1'
            have hbb : b1 = b := by
              rw [hu] at hu1
              injection hu1 with h3; injection h3 with h3; injection h3 with h3 _ _; exact h3.symm
            subst hbb
            rw [hh] at hh1; cases hh1
            have hcl : cs1.length = cs.length := by rw [← hcs1, hcs]
            have T2 := took_name T1.R (o' := .lentV cs.length) (fun _ => False) ho1 hg1 (fun b hb => hb.elim) ⟨b1, hb1, hbase1, by rw [hct1, hcl], by rw [← hcl]; exact hgz1.1, hgz1.2⟩
            have T := (Took.id (h := h) T1 h).trans (Took.id (h := h) T2 (fun l => h1 (h l)))
            obtain ⟨ol, G, g1', g2', g3'⟩ := o1
            refine ⟨_, _, _, _, _, hk, T, b1, cur, et, fr, by rw [hu, hbase], .inr ⟨hfp1, fun h => h⟩, hh, hun, ol, G, fun j x hx => ⟨.inl (g1' j x hx), fun e => ?_⟩, g2', g3'⟩
            subst e
            exact (T1.free x (g1' j x hx)).1 id2 _ ho1 hfp1
          · exact hk.elim
        · exact hk.elim
      · exact hk.elim
    · obtain ⟨d, σ1, h1, γ1, F1, hk1, T1, o1⟩ := lendC_sound R hvl hk
      exact ⟨_, _, _, γ1, F1, hk1, Took.id (h := h) T1 h, o1⟩

theorem takeV_sound (R : Rel w0 mine γ σ a w) {h : Leaf → Leaf} {v : V1} {u : Value} (hv : RV1 γ w (mapV1 h v) u) {d : DR} {σ' : St} {h' : Leaf → Leaf} (ht : takeV std σ h v = some (d, σ', h')) :
    ∃ γ' F, Took w0 mine a w γ σ h F γ' σ' h' ∧ OwnR w F d u := by
  cases v with
  | ag cs =>
    obtain ⟨us, hu, hc⟩ := hv
    simp only [takeV] at ht
    split at ht
    · rename_i ds σ1 h1 ht1
      simp only [Option.some.injEq, Prod.mk.injEq] at ht
      obtain ⟨rfl, rfl, rfl⟩ := ht
      obtain ⟨γ', F, T, o⟩ := takeCs_own R (by simpa using hc.1) (fun j l hj => hc.2 j (h l) (by simp [hj])) ht1
      exact ⟨γ', F, T, us, hu, o⟩
    · cases ht
  | lf l =>
    simp only [takeV] at ht
    have hvl : RLeaf γ w (h l) u := hv
    split at ht
    · rename_i id hl
      rw [hl] at hvl
      split at ht
      · rename_i cs ho
        split at ht
        · rename_i ds σ1 h1 ht1
          simp only [Option.some.injEq, Prod.mk.injEq] at ht
          obtain ⟨rfl, rfl, rfl⟩ := ht
          obtain ⟨g0, hg0, b, cur, et, fr, hb, hfp, hh, hun, hbase, hct, hcs, hgz, hrc⟩ := R.st.objs id _ ho
          obtain ⟨g00, b00, hg00, hb00, hu⟩ := hvl.2
          rw [hg0] at hg00; cases hg00
          rw [hb] at hb00; cases hb00
          have T0 := took_drop R ho
          obtain ⟨γ1, F1, T1, ol, G, g1', g2', g3'⟩ := takeCs_own T0.R (h := killA id) hrc.1 (fun j l hj => let ⟨x, hx, hr⟩ := hrc.2 j l hj; ⟨x, hx, T0.leaf l x hr⟩) ht1
          have T := T0.trans T1
          refine ⟨γ1, _, Took.id (h := h) T h, b, cur, et, fr, by rw [hu, hbase], .inl hfp, hh, hun, ol, G, fun j x hx => ⟨.inr (g1' j x hx), fun e => ?_⟩, g2', g3'⟩
          subst e
          exact (T1.keep _ T0.free).2 x hfp (g1' j x hx)
        · cases ht
      · cases ht
    · rename_i id off len hl
      rw [hl] at hvl
      split at ht
      · rename_i c cs ho
        split at ht
        · split at ht
          case h_2 => cases ht
          rename_i ds σ1 h1 ht1
          simp only [Option.some.injEq, Prod.mk.injEq] at ht
          obtain ⟨rfl, rfl, rfl⟩ := ht
          obtain ⟨g0, hg0, b, cur, et, fr, hb, hfp, hh, hun, hbase, hct, hcs, hgz, hrc⟩ := R.st.objs id _ ho
          obtain ⟨g00, A, cap, hg00, hu, hle, hgn, htot, had⟩ := hvl.2
          rw [hg0] at hg00; cases hg00
          obtain ⟨b', hb', hA⟩ := had (by omega)
          rw [hb] at hb'; cases hb'
          have T0 := took_drop R ho
          obtain ⟨γ1, F1, T1, ol, G, g1', g2', g3'⟩ := takeCs_own T0.R (h := killA id) hrc.1 (fun j l hj => let ⟨x, hx, hr⟩ := hrc.2 j l hj; ⟨x, hx, T0.leaf l x hr⟩) ht1
          have T := T0.trans T1
          have hgz' : g0.sz = (c :: cs).length := by
            rcases hgz.1 with h0 | h0
            · rw [h0, hct] at htot; simp at htot
            · exact h0
          have hcap : cap = 1 := by
            rw [hct, hgz', Nat.zero_add] at htot
            have hpos : 0 < (c :: cs).length := by simp
            have : cap * (c :: cs).length = 1 * (c :: cs).length := by rw [htot, Nat.one_mul]
            exact Nat.eq_of_mul_eq_mul_right hpos this
          subst hcap hu hA
          have hdl : ds.length = (c :: cs).length := by rw [← ol]; exact hrc.1
          refine ⟨γ1, _, Took.id (h := h) T h, .bl _ b _ 1 1 _ _ cur et fr (fun _ j => cur.toList.getD j undef) (fun i j => if i = 0 then G j else fun _ => False) (.inl hfp) (by simp) hh hun (Nat.le_refl _) (by rw [hbase, hcs]; simp) (fun i hi => hdl) ?_ ?_ ?_ ?_⟩
          · intro i j x hx
            split at hx
            · refine ⟨.inr (g1' j x hx), fun e => ?_⟩
              subst e
              exact (T1.keep _ T0.free).2 x hfp (g1' j x hx)
            · exact hx.elim
          · intro i j i' j' x h3 h4
            split at h3
            · split at h4
              · exact ⟨by omega, g2' _ _ x h3 h4⟩
              · exact h4.elim
            · exact h3.elim
          · intro i j d hi hd
            have : i = 0 := by omega
            subst this
            obtain ⟨v, hv, _⟩ := g3' j d hd
            rw [hbase]
            simp only [Nat.zero_mul, Nat.zero_add]
            rw [List.getD_eq_getElem?_getD, hv]
            simpa using hv
          · intro i j d hi hd
            have : i = 0 := by omega
            subst this
            obtain ⟨v, hv, ho⟩ := g3' j d hd
            rw [List.getD_eq_getElem?_getD, hv]
            simpa using ho
        · cases ht
      · split at ht
        · rename_i d1 σ1 h1 ht1
          simp only [Option.some.injEq, Prod.mk.injEq] at ht
          obtain ⟨rfl, rfl, rfl⟩ := ht
          obtain ⟨γ1, F, T, o⟩ := takeC_sound R hvl ht1
          exact ⟨γ1, F, Took.id (h := h) T h, o⟩
        · cases ht
    · split at ht
      · rename_i d1 σ1 h1 ht1
        simp only [Option.some.injEq, Prod.mk.injEq] at ht
        obtain ⟨rfl, rfl, rfl⟩ := ht
        obtain ⟨γ1, F, T, o⟩ := takeC_sound R hvl ht1
        exact ⟨γ1, F, Took.id (h := h) T h, o⟩
      · cases ht
end
end Go.AW
/- The abstract calculus, part 25: a call, told by the callee's contract. -/
set_option linter.unusedVariables false
set_option linter.unusedSimpArgs false
namespace Go.AW

inductive LentT (w : World) : List AM → List Value → List FP → Prop where
  | nil : LentT w [] [] []
  | r (d : DP) (u : Value) (ds : List AM) (us : List Value) (Fs : List FP) (ht : LentT w ds us Fs) : LentT w (.r d :: ds) (u :: us) Fs
  | o (F : FP) (d : DR) (u : Value) (ds : List AM) (us : List Value) (Fs : List FP) (h : OwnR w F d u) (ht : LentT w ds us Fs) : LentT w (.o d :: ds) (u :: us) (F :: Fs)
  | g (F : FP) (d : DR) (u : Value) (ds : List AM) (us : List Value) (Fs : List FP) (h : OwnR w F d u) (ht : LentT w ds us Fs) : LentT w (.g d :: ds) (u :: us) (F :: Fs)

section
variable {P : Program} {w0 w w' : World} {mine : FP} {γ γ' : Ghost} {σ : St} {a : Act} {k : V → St → Prop} {E : Env}

theorem rv_map2 {h h' : Leaf → Leaf} (hl : ∀ l u, RLeaf γ w (h l) u → RLeaf γ' w' (h' l) u) {v : V} {u : Value} (hr : RV γ w (mapV h v) u) : RV γ' w' (mapV h' v) u := by
  have h1 : ∀ (v : V1) (u : Value), RV1 γ w (mapV1 h v) u → RV1 γ' w' (mapV1 h' v) u := by
    intro v u hr
    cases v with
    | lf l => exact hl l u hr
    | ag cs =>
      obtain ⟨us, hu, hc⟩ := hr
      refine ⟨us, hu, by simpa using hc.1, fun j l hj => ?_⟩
      simp only [List.getElem?_map, Option.map_eq_some_iff] at hj
      obtain ⟨l0, hl0, rfl⟩ := hj
      obtain ⟨x, hx, hx2⟩ := hc.2 j (h l0) (by simp [hl0])
      exact ⟨x, hx, hl _ _ hx2⟩
  cases v with
  | one v => exact h1 v u hr
  | tup vs =>
    obtain ⟨us, hu, hlen, hc⟩ := hr
    refine ⟨us, hu, by simpa using hlen, fun j l hj => ?_⟩
    simp only [List.getElem?_map, Option.map_eq_some_iff] at hj
    obtain ⟨l0, hl0, rfl⟩ := hj
    obtain ⟨x, hx, hx2⟩ := hc j (mapV1 h l0) (by simp [hl0])
    exact ⟨x, hx, h1 _ _ hx2⟩
  | bad => trivial

theorem lendArgs_sound : ∀ (das : List AM) (vs : List V) (us : List Value) (σ : St) (γ : Ghost) (h : Leaf → Leaf) (K : St → (Leaf → Leaf) → Prop), Rel w0 mine γ σ a w → us.length = vs.length →
    (∀ (i : Nat) (v : V), vs[i]? = some v → ∃ u, us[i]? = some u ∧ RV γ w (mapV h v) u) → lendArgs std das vs σ h K →
    ∃ σ1 h1 γ1 Fs, K σ1 h1 ∧ Took w0 mine a w γ σ h (AnyL Fs) γ1 σ1 h1 ∧ LentT w das us Fs ∧ DisjL Fs
  | [], [], us, σ, γ, h, K, R, hl, hv, hk => by
    have : us = [] := List.eq_nil_of_length_eq_zero hl
    subst this
    exact ⟨σ, h, γ, [], hk, (Took.refl R h).mono (fun b hb => anyL_nil b hb), .nil, .nil⟩
  | d :: ds, v :: vs, us, σ, γ, h, K, R, hl, hv, hk => by
    obtain ⟨u0, us', rfl⟩ : ∃ u0 us', us = u0 :: us' := by
      cases us with
      | nil => simp at hl
      | cons u us => exact ⟨u, us, rfl⟩
    obtain ⟨u, hu, hvu⟩ := hv 0 v rfl
    simp at hu; subst hu
    have hv' : ∀ (i : Nat) (v : V), vs[i]? = some v → ∃ u, us'[i]? = some u ∧ RV γ w (mapV h v) u := fun i v hi => by simpa using hv (i + 1) v (by simpa using hi)
    have hl' : us'.length = vs.length := by simpa using hl
    have fin : ∀ {d' : DR} {σ1 : St} {h1 : Leaf → Leaf} {γ1 : Ghost} {F1 : FP}, Took w0 mine a w γ σ h F1 γ1 σ1 h1 → lendArgs std ds vs σ1 h1 K →
        ∃ σ2 h2 γ2 Fs, K σ2 h2 ∧ Took w0 mine a w γ σ h (AnyL (F1 :: Fs)) γ2 σ2 h2 ∧ LentT w ds us' Fs ∧ DisjL (F1 :: Fs) := by
      intro d' σ1 h1 γ1 F1 T1 hk1
      obtain ⟨σ2, h2, γ2, Fs, hk2, T2, hL, hD⟩ := lendArgs_sound ds vs us' σ1 γ1 h1 K T1.R hl' (fun i v hi => let ⟨u, hu, hr⟩ := hv' i v hi; ⟨u, hu, rv_map2 T1.leaf hr⟩) hk1
      exact ⟨σ2, h2, γ2, Fs, hk2, (T1.trans T2).mono (fun b hb => anyL_cons.mp hb), hL, disjL_cons.mpr ⟨(T2.keep F1 T1.free).2, hD⟩⟩
    cases d with
    | r d =>
      simp only [lendArgs] at hk
      obtain ⟨σ1, h1, γ1, Fs, hk1, T, hL, hD⟩ := lendArgs_sound ds vs us' σ γ h K R hl' hv' hk
      exact ⟨σ1, h1, γ1, Fs, hk1, T, .r _ _ _ _ _ hL, hD⟩
    | o d =>
      cases v with
      | one v =>
        simp only [lendArgs] at hk
        obtain ⟨d', σ1, h1, γ1, F1, ⟨hle, hk1⟩, T1, o1⟩ := lendV_sound R hvu hk
        obtain ⟨σ2, h2, γ2, Fs, hk2, T, hL, hD⟩ := fin (d' := d') T1 hk1
        exact ⟨σ2, h2, γ2, _, hk2, T, .o _ _ _ _ _ _ (drLe_own o1 hle) hL, hD⟩
      | tup vs => exact hk.elim
      | bad => exact hk.elim
    | g d =>
      cases v with
      | one v =>
        simp only [lendArgs] at hk
        split at hk
        · rename_i d' σ1 h1 ht
          obtain ⟨γ1, F1, T1, o1⟩ := takeV_sound R hvu ht
          obtain ⟨σ2, h2, γ2, Fs, hk2, T, hL, hD⟩ := fin (d' := d') T1 hk.2
          exact ⟨σ2, h2, γ2, _, hk2, T, .g _ _ _ _ _ _ (drLe_own o1 hk.1) hL, hD⟩
        · exact hk.elim
      | tup vs => exact hk.elim
      | bad => exact hk.elim
  | [], _ :: _, us, σ, γ, h, K, R, hl, hv, hk => hk.elim
  | d :: _, [], us, σ, γ, h, K, R, hl, hv, hk => by cases d <;> exact hk.elim

theorem ArgT.mono {F F' : FP} {d : DP} {u : Value} (h : ArgT w F d u) (hF : ∀ b, F b → F' b) : ArgT w F' d u := by
  cases d with
  | c d => exact RoT.mono h hF (Ext.refl _ _)
  | a ds =>
    obtain ⟨us, hu, hl, hv⟩ := h
    exact ⟨us, hu, hl, fun j d hd => let ⟨x, h1, h2⟩ := hv j d hd; ⟨x, h1, h2.mono hF (Ext.refl _ _)⟩⟩
  | p row => exact RRow.sub h hF
  | fr f rows =>
    obtain ⟨vs, hu, hl, hv⟩ := h
    exact ⟨vs, hu, hl, fun k row hk => let ⟨x, h1, h2⟩ := hv k row hk; ⟨x, h1, h2.sub hF⟩⟩

theorem roArgs_sound (R : RelS w0 mine γ σ.store σ.next w) {A : FP} (hA : ∀ b, Seen γ σ.store b → b < w.heap.size ∧ ¬ A b) {h : Leaf → Leaf} : ∀ (das : List AM) (vs : List V) (us : List Value) (Fs : List FP), us.length = vs.length →
    (∀ (i : Nat) (v : V), vs[i]? = some v → ∃ u, us[i]? = some u ∧ RV γ w (mapV h v) u) → LentT w das us Fs → roArgs std σ.store h das vs → InsT w A das us Fs
  | das, vs, us, Fs, hl, hv, hL, hr => by
    cases hL with
    | nil => exact .nil
    | r d u ds us Fs ht =>
      cases vs with
      | nil => simp at hl
      | cons v vs =>
        obtain ⟨u', hu, hvu⟩ := hv 0 v rfl
        simp at hu; subst hu
        simp only [roArgs] at hr
        split at hr
        · rename_i d' hd
          exact .r _ _ _ _ _ _ (dpLe_arg (roP_sound R hvu hd) hr.1) hA (roArgs_sound R hA ds vs us Fs (by simpa using hl) (fun i v hi => by simpa using hv (i + 1) v (by simpa using hi)) ht hr.2)
        · exact hr.elim
    | o F d u ds us Fs ho ht =>
      cases vs with
      | nil => simp at hl
      | cons v vs =>
        simp only [roArgs] at hr
        exact .o _ _ _ _ _ _ ho (roArgs_sound R hA ds vs us Fs (by simpa using hl) (fun i v hi => by simpa using hv (i + 1) v (by simpa using hi)) ht hr)
    | g F d u ds us Fs ho ht =>
      cases vs with
      | nil => simp at hl
      | cons v vs =>
        simp only [roArgs] at hr
        exact .g _ _ _ _ _ _ ho (roArgs_sound R hA ds vs us Fs (by simpa using hl) (fun i v hi => by simpa using hv (i + 1) v (by simpa using hi)) ht hr)

/-- A world in which only blocks of nobody's have turned. -/
theorem Rel.call (R : Rel w0 mine γ σ a w) {A : FP} (hA : Free w0 mine γ σ.store w A) (hk : Keep w A w') : Rel w0 mine γ σ a w' ∧ ∀ l u, RLeaf γ w l u → RLeaf γ w' l u := by
  have hx : ∀ (b : Nat) (o : Go.Obj), ¬ A b → w.heap[b]? = some o → w'.heap[b]? = some o := fun b o hn h => by rw [hk.old b (Array.getElem?_eq_some_iff.mp h).1 hn]; exact h
  have hfp : ∀ i o b, look σ.store i = some o → γ.fp i b → ¬ A b := fun i o b ho hb hAb => (hA b hAb).1 i o ho hb
  have S : Step γ γ w w' (fun _ => False) (fun _ => False) (fun _ => False) := ⟨fun i g h _ => h, fun i g h _ b hb => hb, fun i g h _ b o hb h' => by obtain ⟨oi, ho⟩ := R.st.dom i g h; exact hx b o (hfp i oi b ho hb) h',
    fun i g b o hg _ _ hb ho => by obtain ⟨oi, ho'⟩ := R.st.dom i g hg; exact ⟨hb, hx b o (hfp i oi b ho' hb) ho⟩, fun b hb => hb, fun b o hb h' => hx b o (fun h => (hA b h).2.1 hb) h'⟩
  have hsz := hk.size
  refine ⟨⟨R.size, fun i => RV.step0 S (R.slots i), ?_, R.st.disj, R.st.ro, R.st.lt, R.st.dom, fun i o h b hb => ⟨by have := (R.st.fp i o h b hb).1; omega, (R.st.fp i o h b hb).2⟩, fun b hb => by have := R.st.rolt b hb; omega, ?_⟩, fun l u h => h.step S ⟨by simp, by simp, by simp⟩⟩
  · intro i o h
    obtain ⟨g, hg, hr⟩ := R.st.objs i o h
    have := RObj.step S (h := fun l => l) (kills_id (by simp) (by simp) (by simp)) hg hr (fun b hb => hb) (fun b ob hb h' => hx b ob (hfp i o b h hb) h')
    rw [mapObj_id] at this
    exact ⟨g, hg, this⟩
  · have k0 := R.st.keep
    refine ⟨Nat.le_trans k0.size hsz, hk.os.trans k0.os, hk.tape.trans k0.tape, hk.output.trans k0.output, fun b hb hm => ?_, k0.tabs⟩
    have hn : ¬ A b := fun h => by
      rcases (hA b h).2.2.2 with h | h
      · omega
      · exact hm h
    have := k0.size
    rw [hk.old b (by omega) hn]
    exact k0.old b hb hm

/-! ### What comes back -/
structure Gave (w0 : World) (mine : FP) (a : Act) (w : World) (γ : Ghost) (σ : St) (h : Leaf → Leaf) (F : FP) (γ' : Ghost) (σ' : St) (h' : Leaf → Leaf) : Prop where
  R : Rel w0 mine γ' σ' a w
  leaf : ∀ l u, RLeaf γ w (h l) u → RLeaf γ' w (h' l) u
  free : ∀ H : FP, Free w0 mine γ σ.store w H → (∀ x, H x → ¬ F x) → Free w0 mine γ' σ'.store w H

theorem Gave.refl (R : Rel w0 mine γ σ a w) (h : Leaf → Leaf) (F : FP) : Gave w0 mine a w γ σ h F γ σ h := ⟨R, fun _ _ h => h, fun _ h _ => h⟩
theorem Gave.id {σ' : St} {F : FP} {h1 : Leaf → Leaf} (T : Gave w0 mine a w γ σ (fun l => l) F γ' σ' h1) (g : Leaf → Leaf) : Gave w0 mine a w γ σ g F γ' σ' (fun l => h1 (g l)) :=
  ⟨T.R, fun l u hl => T.leaf _ _ hl, T.free⟩
theorem Gave.trans {σ' σ'' : St} {γ'' : Ghost} {h h' h'' : Leaf → Leaf} {F F' G : FP} (T : Gave w0 mine a w γ σ h F γ' σ' h') (T' : Gave w0 mine a w γ' σ' h' F' γ'' σ'' h'') (hF : ∀ x, F x → G x) (hF' : ∀ x, F' x → G x) : Gave w0 mine a w γ σ h G γ'' σ'' h'' :=
  ⟨T'.R, fun l u hl => T'.leaf l u (T.leaf l u hl), fun H hH hd => T'.free H (T.free H hH fun x hx hf => hd x hx (hF x hf)) fun x hx hf => hd x hx (hF' x hf)⟩

/-- An object gets blocks of nobody's. -/
theorem gave_write (R : Rel w0 mine γ σ a w) {id : Nat} {o o' : Obj} {g : G1} {F : FP} (rd : Nat → Prop) (h : Leaf → Leaf) (hk : Kills (fun _ => False) rd (fun i => i = id) h) (hroot : ¬ rd id → ∀ b x, g.blk = some b → w.heap[b]? = some x → (γ.fp id b ∨ F b) ∧ w.heap[b]? = some x) (ho : look σ.store id = some o) (hg : γ.g id = some g) (hF : Free w0 mine γ σ.store w F)
    (hobj : RObj (γ.grow id g (fun x => γ.fp id x ∨ F x)) w id g (mapObj h o')) : Gave w0 mine a w γ σ (fun l => l) F (γ.grow id g (fun x => γ.fp id x ∨ F x)) (mapSt h (putObj σ id o')) h := by
  have S := step_write (w' := w) R.st (g' := g) (fun _ => False) rd ho hg (fun x => γ.fp id x ∨ F x) (fun _ => rfl) hroot (fun b x _ hx => hx)
  have R' := R.write (o' := o') (g' := g) (F := fun x => γ.fp id x ∨ F x) (w' := w) (fun _ => False) rd h hk ho hg (fun _ => rfl) hroot
    (fun x hx => by
      rcases hx with hx | hx
      · exact ⟨.inl hx, R.st.fp id _ ho x hx⟩
      · obtain ⟨f1, f2, f3⟩ := hF x hx
        exact ⟨.inr ⟨f1, f2⟩, f3⟩) (fun b x _ hx => hx) (Nat.le_refl _) R.st.keep hobj
  refine ⟨R', fun l u hl => hl.kill S hk, fun H hH hd x hx => ?_⟩
  obtain ⟨h1, h3, h4⟩ := hH x hx
  refine ⟨fun i0 oi hi hf => ?_, h3, h4⟩
  simp only [mapSt, putObj, look_map, look_put, ho] at hi
  simp only [Ghost.grow] at hf
  by_cases e : i0 = id
  · rw [if_pos e] at hf
    rcases hf with hf | hf
    · exact h1 id _ ho hf
    · exact hd x hx hf
  · rw [if_neg e] at hf
    simp only [e, false_and, if_false, Option.map_eq_some_iff] at hi
    obtain ⟨o', h5, _⟩ := hi
    exact h1 i0 o' h5 hf

theorem rows_mono {F F' : FP} {b base sz n tot : Nat} {f : Nat → List DV} (h : RowsT w F b base sz n tot f) (hF : ∀ x, F x → F' x) : RowsT w F' b base sz n tot f := by
  obtain ⟨cs, t, fr, vs, G, hb, hh, hun, htot, hnt, hl, hG, hGd, hv⟩ := h
  exact ⟨cs, t, fr, vs, G, hF _ hb, hh, hun, htot, hnt, hl, fun i j x hx => ⟨hF _ (hG i j x hx).1, (hG i j x hx).2⟩, hGd, hv⟩

theorem giveC_sound (R : Rel w0 mine γ σ a w) {l : Leaf} {u : Value} (hl : RLeaf γ w l u) {d : DV} {F : FP} (hown : OwnT w F u d) (hF : Free w0 mine γ σ.store w F) {K : St → (Leaf → Leaf) → Prop} (h : giveC std σ l d K) :
    ∃ σ' h' γ', K σ' h' ∧ Gave w0 mine a w γ σ (fun l => l) F γ' σ' h' := by
  unfold giveC at h
  split at h
  · rename_i id m sz' n' f
    split at h
    · rename_i sz n ho
      obtain ⟨hnm, hz, hk⟩ := h
      have hnm : n = m := by simpa [std] using hnm
      subst hnm
      have hz := Nat.eq_of_beq_eq_true hz
      subst hz
      obtain ⟨g, A, cap, hg, hu, hle, hgn, htot, had⟩ := hl.2
      obtain ⟨g', hg', hgs, hgn', hs0, _, hz0⟩ := R.st.objs id _ ho
      rw [hg] at hg'; cases hg'
      rw [hgs, Nat.zero_add] at htot
      have hn' : n' = n := by rw [hu] at hown; cases hown <;> rfl
      subst hn'
      refine ⟨_, _, _, hk, gave_write R (fun i => i = id) (killQ id) (kills_Q id) (fun h => absurd rfl h) ho hg hF ?_⟩
      simp only [mapObj]
      rcases Nat.eq_zero_or_pos cap with h0 | h0
      · obtain ⟨hn0, hb0⟩ := hz0 (by rw [← htot, h0, Nat.zero_mul])
        subst hn0
        simp only [RObj]
        refine ⟨hgn', hgs, ?_⟩
        cases hb : g.blk with
        | none => trivial
        | some b =>
          rw [hb] at hb0
          obtain ⟨cs, t, fr, h1, h2, h3, h4⟩ := hb0
          exact ⟨hs0, cs, t, fr, fun _ _ => undef, fun _ _ _ => False, by simp [Ghost.grow, h1], h2, h3, by rw [← htot, h0]; simpa using h4, by simp, fun i hi => absurd hi (Nat.not_lt_zero i), fun i j x hx => hx.elim, fun i j i' j' x hx => hx.elim, fun i j d hi => absurd hi (Nat.not_lt_zero i)⟩
      · obtain ⟨b, hb, hA⟩ := had h0
        subst hA
        rw [hu] at hown
        rw [robj_rows hb]
        refine ⟨hgn', hgs, hs0, ?_⟩
        rcases own_rows hown with ⟨_, h1⟩ | ⟨_, _, h1⟩
        · omega
        · rw [hgs, ← htot]
          refine rows_mono (by simpa using h1) fun x hx => ?_
          simp [Ghost.grow, hx]
    · exact h.elim
  · rename_i id i j n sz' n' f'
    split at h
    · rename_i sz m F0 ho
      split at h
      · rename_i hd
        rw [nthO_getElem?] at hd
        obtain ⟨c, hat, hw⟩ := hl.2
        have : u = c := hw.1
        subst this
        obtain ⟨g, b, cs0, t0, fr0, hg, hb, hin, hfp, hh, hcell⟩ := hat
        obtain ⟨g', hg', hob⟩ := R.st.objs id _ ho
        rw [hg] at hg'; cases hg'
        rw [robj_rows hb] at hob
        obtain ⟨hgn, hgs, hs0, hrows⟩ := hob
        have hFn : ∀ x, F x → ¬ γ.fp id x := fun x hx => (hF x hx).1 id _ ho
        have hrows' := rows_sub (w' := w) (Fn := F) (d' := .l sz' n' f') hrows (by omega) hd hFn (fun Gij c' hGF hcc hOw => by
          have e := hcc _ _ _ hh
          rw [hcell] at e; cases e
          exact ⟨fun x o _ h => h, hown.mono (fun x hx => .inr hx) (Ext.refl _ _)⟩)
        refine ⟨_, _, _, h, gave_write R (fun _ => False) (killS id) (kills_S id) (fun _ b' x hb' hx => by rw [hb] at hb'; cases hb'; exact ⟨.inl hfp, hx⟩) ho hg hF ?_⟩
        simp only [mapObj]
        rw [robj_rows hb]
        exact ⟨hgn, hgs, hs0, by simpa [Ghost.grow] using hrows'⟩
      · exact h.elim
    · exact h.elim
  · exact ⟨_, _, γ, h, Gave.refl R _ _⟩
  · exact ⟨_, _, γ, h, Gave.refl R _ _⟩
  · exact h.elim

theorem giveCs_sound : ∀ (ls : List Leaf) (ds : List DV) (us : List Value) (σ : St) (γ : Ghost) (h : Leaf → Leaf) (G : Nat → FP) (K : St → (Leaf → Leaf) → Prop), Rel w0 mine γ σ a w →
    (∀ (j : Nat) (l : Leaf), ls[j]? = some l → ∃ u, us[j]? = some u ∧ RLeaf γ w (h l) u) → (∀ (j : Nat) (d : DV), ds[j]? = some d → ∃ x, us[j]? = some x ∧ OwnT w (G j) x d) → (∀ j, Free w0 mine γ σ.store w (G j)) → (∀ j j' x, G j x → G j' x → j = j') → giveCs std ls ds σ h K →
    ∃ σ' h' γ', K σ' h' ∧ Gave w0 mine a w γ σ h (fun x => ∃ j, G j x) γ' σ' h'
  | [], [], us, σ, γ, h, G, K, R, hl, hd, hF, hG, hk => ⟨_, _, γ, hk, Gave.refl R _ _⟩
  | l :: ls, d :: ds, us, σ, γ, h, G, K, R, hl, hd, hF, hG, hk => by
    simp only [giveCs] at hk
    obtain ⟨u, hu, hlu⟩ := hl 0 l rfl
    obtain ⟨x, hx, ho⟩ := hd 0 d rfl
    rw [hu] at hx; cases hx
    obtain ⟨σ1, h1, γ1, hk1, T1⟩ := giveC_sound R hlu ho (hF 0) hk
    obtain ⟨σ2, h2, γ2, hk2, T2⟩ := giveCs_sound ls ds us.tail σ1 γ1 _ (fun j => G (j + 1)) K T1.R (fun j l' hj => by
      obtain ⟨u, hu, hlu⟩ := hl (j + 1) l' (by simpa using hj)
      exact ⟨u, by rw [List.getElem?_tail]; exact hu, T1.leaf _ _ hlu⟩) (fun j d' hj => by
      obtain ⟨u, hu, hlu⟩ := hd (j + 1) d' (by simpa using hj)
      exact ⟨u, by rw [List.getElem?_tail]; exact hu, hlu⟩) (fun j => T1.free _ (hF (j + 1)) fun x h1 h2 => absurd (hG _ _ x h1 h2) (by omega)) (fun j j' x h1 h2 => by have := hG _ _ x h1 h2; omega) hk1
    exact ⟨σ2, h2, γ2, hk2, (T1.id h).trans T2 (fun x hx => ⟨0, hx⟩) (fun x ⟨j, hj⟩ => ⟨j + 1, hj⟩)⟩
  | [], _ :: _, us, σ, γ, h, G, K, R, hl, hd, hF, hG, hk => hk.elim
  | _ :: _, [], us, σ, γ, h, G, K, R, hl, hd, hF, hG, hk => hk.elim

theorem instC_sound (R : Rel w0 mine γ σ a w) {d : DV} {u : Value} {F : FP} (h : OwnT w F u d) (hF : Free w0 mine γ σ.store w F) (h0 : Leaf → Leaf) : ∃ γ', Gave w0 mine a w γ σ h0 F γ' (instC σ d).2 h0 ∧ RLeaf γ' w (instC σ d).1 u := by
  cases d with
  | s v =>
    cases h with
    | s _ _ h1 => exact ⟨γ, Gave.refl R _ _, h1, rfl⟩
  | x => exact ⟨γ, Gave.refl R _ _, h.one, trivial⟩
  | l sz n f =>
    obtain ⟨γ1, R1, l1, hl, hf⟩ := inst_deep (sz' := sz) R h (.inl rfl) hF
    exact ⟨γ1, ⟨R1, fun l u => hl _ u, hf⟩, l1⟩

theorem instCs_sound : ∀ (ds : List DV) (γ : Ghost) (σ : St) (us : List Value) (G : Nat → FP) (h0 : Leaf → Leaf), Rel w0 mine γ σ a w → us.length = ds.length → (∀ (j : Nat) (d : DV), ds[j]? = some d → ∃ x, us[j]? = some x ∧ OwnT w (G j) x d) → (∀ j, Free w0 mine γ σ.store w (G j)) → (∀ j j' x, G j x → G j' x → j = j') →
    ∃ γ', Gave w0 mine a w γ σ h0 (fun x => ∃ j, G j x) γ' (instCs σ ds).2 h0 ∧ RCells γ' w (instCs σ ds).1 us
  | [], γ, σ, us, G, h0, R, hl, hv, hF, hd => by
    have : us = [] := List.eq_nil_of_length_eq_zero hl
    subst this
    exact ⟨γ, Gave.refl R _ _, rfl, fun j l h => by simp [instCs] at h⟩
  | d :: ds, γ, σ, us, G, h0, R, hl, hv, hF, hd => by
    obtain ⟨u0, us', rfl⟩ : ∃ u0 us', us = u0 :: us' := by
      cases us with
      | nil => simp at hl
      | cons u us => exact ⟨u, us, rfl⟩
    obtain ⟨x, hx, ho⟩ := hv 0 d rfl
    simp at hx; subst hx
    obtain ⟨γ1, I1, l1⟩ := instC_sound R ho (hF 0) (fun l => l)
    obtain ⟨γ2, I2, c2⟩ := instCs_sound ds γ1 (instC σ d).2 us' (fun j => G (j + 1)) (fun l => l) I1.R (by simpa using hl) (fun j d' hj => by simpa using hv (j + 1) d' (by simpa using hj))
      (fun j => I1.free _ (hF (j + 1)) fun x h1 h2 => absurd (hd _ _ x h1 h2) (by omega)) (fun j j' x h1 h2 => by have := hd _ _ x h1 h2; omega)
    have I := I1.trans I2 (G := fun x => ∃ j, G j x) (fun x hx => ⟨0, hx⟩) (fun x ⟨j, hj⟩ => ⟨j + 1, hj⟩)
    refine ⟨γ2, I.id h0, ?_⟩
    simp only [instCs]
    refine ⟨by simp [c2.1], fun j l hj => ?_⟩
    cases j with
    | zero => simp at hj; subst hj; exact ⟨u0, rfl, I2.leaf _ _ l1⟩
    | succ j => simpa using c2.2 j l (by simpa using hj)

theorem instC_look {d : DV} {i : Nat} {o : Obj} (hi : i < σ.next) (h : look σ.store i = some o) : look (instC σ d).2.store i = some o ∧ σ.next ≤ (instC σ d).2.next := by
  cases d with
  | s v => exact ⟨h, Nat.le_refl _⟩
  | x => exact ⟨h, Nat.le_refl _⟩
  | l sz n f => exact ⟨by simp only [instC, mkObj, look_cons]; rw [if_neg (by omega)]; exact h, by simp [instC, mkObj]⟩
theorem instCs_look : ∀ (ds : List DV) (σ : St) {i : Nat} {o : Obj}, i < σ.next → look σ.store i = some o → look (instCs σ ds).2.store i = some o
  | [], σ, i, o, hi, h => h
  | d :: ds, σ, i, o, hi, h => by
    obtain ⟨h1, h2⟩ := instC_look (d := d) hi h
    exact instCs_look ds (instC σ d).2 (by omega) h1

theorem inst1_sound (R : Rel w0 mine γ σ a w) {d : DR} {u : Value} {F : FP} (h : OwnR w F d u) (hF : Free w0 mine γ σ.store w F) (h0 : Leaf → Leaf) : ∃ γ', Gave w0 mine a w γ σ h0 F γ' (inst1 σ d).2 h0 ∧ RV1 γ' w (inst1 σ d).1 u := by
  cases d with
  | c d => exact instC_sound R h hF h0
  | a ds =>
    obtain ⟨us, hu, hl, G, hGF, hGd, hv⟩ := h
    obtain ⟨γ', I, hc⟩ := instCs_sound ds γ σ us G h0 R hl hv (fun j b hb => hF b (hGF j b hb)) hGd
    exact ⟨γ', ⟨I.R, I.leaf, fun H hH hd => I.free H hH fun x hx ⟨j, hj⟩ => hd x hx (hGF j x hj)⟩, us, hu, hc⟩
  | p ds =>
    obtain ⟨b, cs, t, fr, hu, hFb, hh, hun, hl, G, hGF, hGd, hv⟩ := h
    obtain ⟨γ', I, hc⟩ := instCs_sound ds γ σ cs.toList G (fun l => l) R hl hv (fun j x hx => hF x (hGF j x hx).1) hGd
    have hfb : Free w0 mine γ' (instCs σ ds).2.store w (fun x => x = b) := I.free _ (fun x hx => by subst hx; exact hF x hFb) (fun x hx ⟨j, hj⟩ => (hGF j x hj).2 hx)
    let g : G1 := ⟨some b, 0, 0, (instCs σ ds).1.length, 1⟩
    have S := step_add (w := w) (w' := w) I.R.st.lt g (fun x => x = b) (fun b o h => h)
    have hcl : cs.size = (instCs σ ds).1.length := by have := hc.1; simpa using this
    have R2 := I.R.fresh2 (fun b o h => h) I.R.st.keep (Nat.le_refl _) g (fun x => x = b) (.vars (instCs σ ds).1) ⟨b, cs, t, fr, rfl, by simp [Ghost.add], hh, hun, rfl, rfl, hcl, ⟨.inl rfl, rfl⟩, by
      refine ⟨hc.1, fun j l hj => ?_⟩
      obtain ⟨x, hx, hr⟩ := hc.2 j l hj
      exact ⟨x, hx, hr.step S ⟨by simp, by simp, by simp⟩⟩⟩ hfb
    refine ⟨_, ⟨R2, fun l u hl => (I.leaf _ _ hl).step S ⟨by simp, by simp, by simp⟩, fun H hH hd x hx => ?_⟩, ⟨by rw [hu]; rfl, g, b, by simp [Ghost.add], rfl, hu⟩⟩
    obtain ⟨h1, h2, h3⟩ := I.free H hH (fun x hx ⟨j, hj⟩ => hd x hx (hGF j x hj).1) x hx
    refine ⟨fun i oi hi => ?_, h2, h3⟩
    have hi : look (((instCs σ ds).2.next, Obj.vars (instCs σ ds).1) :: (instCs σ ds).2.store) i = some oi := hi
    rw [look_cons] at hi
    show ¬ (if i = (instCs σ ds).2.next then fun x => x = b else γ'.fp i) x
    by_cases he : (instCs σ ds).2.next = i
    · rw [if_pos he.symm]; intro e; exact hd x hx (e ▸ hFb)
    · rw [if_neg he] at hi
      rw [if_neg (Ne.symm he)]
      exact h1 i oi hi

theorem inst1s_sound : ∀ (ds : List DR) (γ : Ghost) (σ : St) (us : List Value) (Gs : List FP), Rel w0 mine γ σ a w → OwnL w ds us Gs → Free w0 mine γ σ.store w (AnyL Gs) → DisjL Gs →
    ∃ γ', Rel w0 mine γ' (inst1s σ ds).2 a w ∧ (∀ l u, RLeaf γ w l u → RLeaf γ' w l u) ∧ us.length = (inst1s σ ds).1.length ∧ ∀ (j : Nat) (v : V1), (inst1s σ ds).1[j]? = some v → ∃ x, us[j]? = some x ∧ RV1 γ' w v x
  | ds, γ, σ, us, Gs, R, hO, hF, hD => by
    cases hO with
    | nil => exact ⟨γ, R, fun _ _ h => h, rfl, fun j v h => by simp [inst1s] at h⟩
    | cons F d u ds us Fs h ht =>
      obtain ⟨hd1, hd2⟩ := disjL_cons.mp hD
      obtain ⟨γ1, I1, l1⟩ := inst1_sound R h (fun b hb => hF b (anyL_cons.mpr (.inl hb))) (fun l => l)
      obtain ⟨γ2, R2, h2, c1, c2⟩ := inst1s_sound ds γ1 (inst1 σ d).2 us Fs I1.R ht (I1.free _ (fun b hb => hF b (anyL_cons.mpr (.inr hb))) fun x h1 h2 => hd1 x h2 h1) hd2
      refine ⟨γ2, R2, fun l u hl => h2 l u (I1.leaf l u hl), by simp [inst1s, c1], fun j l hj => ?_⟩
      simp only [inst1s] at hj
      cases j with
      | zero =>
        simp at hj; subst hj
        refine ⟨u, rfl, ?_⟩
        have e : mapV (fun l => l) (V.one (inst1 σ d).1) = V.one (inst1 σ d).1 := mapV_id _
        have h3 : RV γ1 w (mapV (fun l => l) (V.one (inst1 σ d).1)) u := by rw [e]; exact l1
        have := rv_map2 (h := fun l => l) (h' := fun l => l) (γ' := γ2) (w' := w) (fun l u hl => h2 l u hl) h3
        rw [e] at this
        exact this
      | succ j => simpa using c2 j l (by simpa using hj)

theorem giveV_sound (R : Rel w0 mine γ σ a w) {h : Leaf → Leaf} {v : V1} {u : Value} (hv : RV1 γ w (mapV1 h v) u) {d : DR} {F : FP} (hown : OwnR w F d u) (hF : Free w0 mine γ σ.store w F) {K : St → (Leaf → Leaf) → Prop} (hk : giveV std σ h v d K) :
    ∃ σ' h' γ', K σ' h' ∧ Gave w0 mine a w γ σ h F γ' σ' h' := by
  unfold giveV at hk
  split at hk
  · rename_i l d
    obtain ⟨σ1, h1, γ1, hk1, T⟩ := giveC_sound R hv hown hF hk
    exact ⟨σ1, _, γ1, hk1, T.id h⟩
  · rename_i ls ds
    obtain ⟨us, hu, hc⟩ := hv
    obtain ⟨us', hu', hl, G, hGF, hGd, hvv⟩ := hown
    have : us' = us := by
      rw [hu] at hu'
      injection hu' with e
      have := congrArg Array.toList e
      simpa using this.symm
    subst this
    obtain ⟨σ1, h1, γ1, hk1, T⟩ := giveCs_sound ls ds us' σ γ h G K R (fun j l hj => hc.2 j (h l) (by simp [hj])) hvv (fun j b hb => hF b (hGF j b hb)) hGd hk
    exact ⟨σ1, h1, γ1, hk1, T.R, T.leaf, fun H hH hd => T.free H hH fun x hx ⟨j, hj⟩ => hd x hx (hGF j x hj)⟩
  · rename_i l ds
    split at hk
    · rename_i id hl
      split at hk
      · rename_i n ho
        obtain ⟨hlen, hk⟩ := hk
        have hlen := Nat.eq_of_beq_eq_true hlen
        have hvl : RLeaf γ w (h l) u := hv
        rw [hl] at hvl
        obtain ⟨g, b0, hg, hb, hu⟩ := hvl.2
        obtain ⟨g', hg', b1, hb1, hbase, htot, hgz, hgn⟩ := R.st.objs id _ ho
        rw [hg] at hg'; cases hg'
        rw [hb] at hb1; cases hb1
        obtain ⟨b, cs, t, fr, hu', hFb, hh, hun, hol, G, hGF, hGd, hvv⟩ := hown
        have hbb : b = b0 := by
          rw [hu] at hu'
          injection hu' with h3; injection h3 with h3; injection h3 with h3 _ _; exact h3.symm
        subst hbb
        obtain ⟨γ1, I, hc⟩ := instCs_sound ds γ σ cs.toList G (fun l => l) R hol hvv (fun j x hx => hF x (hGF j x hx).1) hGd
        have hidlt : id < σ.next := R.st.lt id g hg
        have ho1 := instCs_look ds σ hidlt ho
        have hfb : Free w0 mine γ1 (instCs σ ds).2.store w (fun x => x = b) := I.free _ (fun x hx => by subst hx; exact hF x hFb) (fun x hx ⟨j, hj⟩ => (hGF j x hj).2 hx)
        have hl1 := I.leaf (.p id 0) u hvl
        obtain ⟨g1, b1, hg1, hb1, hu1⟩ := hl1.2
        obtain ⟨g1', hg1', b2, hb2, hbase1, htot1, hgz1, hgn1⟩ := I.R.st.objs id _ ho1
        rw [hg1] at hg1'; cases hg1'
        rw [hb1] at hb2; cases hb2
        have hbb : b1 = b := by
          rw [hu] at hu1
          injection hu1 with h3; injection h3 with h3; injection h3 with h3 _ _; exact h3.symm
        subst hbb
        have hcl : cs.size = (instCs σ ds).1.length := by have := hc.1; simpa using this
        have hdn : (instCs σ ds).1.length = n := by
          have h5 : cs.toList.length = ds.length := hol
          simp only [Array.length_toList] at h5
          omega
        have T2 := gave_write I.R (o' := .vars (instCs σ ds).1) (fun i => i = id) (killQ id) (kills_Q id) (fun h => absurd rfl h) ho1 hg1 hfb (by
          simp only [mapObj]
          refine ⟨b1, cs, t, fr, hb1, by simp [Ghost.grow], hh, hun, hbase1, by simp [htot1, hdn], by simp [hcl], ⟨by simpa [hdn] using hgz1, hgn1⟩, ?_⟩
          have S := step_write (w' := w) I.R.st (g' := g1) (fun _ => False) (fun i => i = id) ho1 hg1 (fun x => γ1.fp id x ∨ x = b1) (fun _ => rfl) (fun h => absurd rfl h) (fun b x _ hx => hx)
          exact hc.kill S (kills_Q id))
        have fin := ((I.trans T2 (G := F) (fun x ⟨j, hj⟩ => (hGF j x hj).1) (fun x hx => by subst hx; exact hFb)).id h)
        exact ⟨_, _, _, hk, fin⟩
      · exact hk.elim
    · exact hk.elim
  · exact hk.elim

theorem giveArgs_sound : ∀ (das : List AM) (vs : List V) (us : List Value) (outs : List DR) (Hs : List FP) (σ : St) (γ : Ghost) (h : Leaf → Leaf) (K : St → Prop), Rel w0 mine γ σ a w → us.length = vs.length →
    (∀ (i : Nat) (v : V), vs[i]? = some v → ∃ u, us[i]? = some u ∧ RV γ w (mapV h v) u) → OutsT w das us outs Hs → Free w0 mine γ σ.store w (AnyL Hs) → DisjL Hs → giveArgs std das vs outs σ h K →
    ∃ σ' γ', K σ' ∧ Rel w0 mine γ' σ' a w ∧ ∀ H : FP, Free w0 mine γ σ.store w H → (∀ x, H x → ¬ AnyL Hs x) → Free w0 mine γ' σ'.store w H
  | das, vs, us, outs, Hs, σ, γ, h, K, R, hl, hv, hO, hF, hD, hk => by
    cases hO with
    | nil =>
      cases vs with
      | nil => exact ⟨σ, γ, hk, R, fun H hH _ => hH⟩
      | cons v vs => simp at hl
    | r d u ds us rs Fs ht =>
      cases vs with
      | nil => simp at hl
      | cons v vs =>
        simp only [giveArgs] at hk
        exact giveArgs_sound ds vs us outs Hs σ γ h K R (by simpa using hl) (fun i v hi => by simpa using hv (i + 1) v (by simpa using hi)) ht hF hD hk
    | g d u ds us rs Fs ht =>
      cases vs with
      | nil => simp at hl
      | cons v vs =>
        simp only [giveArgs] at hk
        exact giveArgs_sound ds vs us outs Hs σ γ h K R (by simpa using hl) (fun i v hi => by simpa using hv (i + 1) v (by simpa using hi)) ht hF hD hk
    | o F d d' u ds us rs Fs ho ht =>
      cases vs with
      | nil => simp at hl
      | cons v vs =>
        obtain ⟨u', hu, hvu⟩ := hv 0 v rfl
        simp at hu; subst hu
        obtain ⟨hd1, hd2⟩ := disjL_cons.mp hD
        cases v with
        | one v =>
          simp only [giveArgs] at hk
          obtain ⟨σ1, h1, γ1, hk1, T⟩ := giveV_sound R hvu ho (fun b hb => hF b (anyL_cons.mpr (.inl hb))) hk
          obtain ⟨σ2, γ2, hk2, R2, hf2⟩ := giveArgs_sound ds vs us rs Fs σ1 γ1 h1 K T.R (by simpa using hl) (fun i v hi => by
            obtain ⟨u, hu, hr⟩ := hv (i + 1) v (by simpa using hi)
            exact ⟨u, by simpa using hu, rv_map2 T.leaf hr⟩) ht (T.free _ (fun b hb => hF b (anyL_cons.mpr (.inr hb))) fun x h1 h2 => hd1 x h2 h1) hd2 hk1
          exact ⟨σ2, γ2, hk2, R2, fun H hH hd => hf2 H (T.free H hH fun x hx hf => hd x hx (anyL_cons.mpr (.inl hf))) fun x hx hf => hd x hx (anyL_cons.mpr (.inr hf))⟩
        | tup vs => exact hk.elim
        | bad => exact hk.elim

theorem rv_pack {vs : List V1} {us : List Value} (hl : us.length = vs.length) (h : ∀ (j : Nat) (v : V1), vs[j]? = some v → ∃ x, us[j]? = some x ∧ RV1 γ w v x) : RV γ w (packV1 vs) (packU us) := by
  rcases vs with _ | ⟨v, _ | ⟨v', t⟩⟩
  · have : us = [] := List.eq_nil_of_length_eq_zero hl
    subst this
    exact ⟨[], rfl, rfl, fun j l h => by simp at h⟩
  · rcases us with _ | ⟨u, _ | ⟨u', t'⟩⟩
    · simp at hl
    · obtain ⟨x, hx, hr⟩ := h 0 v rfl
      simp at hx; subst hx
      exact hr
    · simp at hl
  · rcases us with _ | ⟨u, _ | ⟨u', t'⟩⟩
    · simp at hl
    · simp at hl
    · exact ⟨u :: u' :: t', rfl, hl, h⟩

theorem csem_of_pcon {f : FuncId} {das : List AM} {post : List DR → List DR → Prop} (h : PCon P f das post) {vs : List V} (hc : callP std das vs σ post k) : Csem P w0 mine f vs σ k := by
  intro γ a w args R hA
  have hid : ∀ v : V, mapV (fun l => l) v = v := fun v => mapV_id v
  obtain ⟨σ1, h1, γ1, Fs, ⟨hro, hk⟩, T, hL, hD⟩ := lendArgs_sound das vs args σ γ (fun l => l) _ R hA.1 (fun i v hi => by rw [hid]; exact hA.2 i v hi) hc
  have hv1 : ∀ (i : Nat) (v : V), vs[i]? = some v → ∃ u, args[i]? = some u ∧ RV γ1 w (mapV h1 v) u := fun i v hi => by
    obtain ⟨u, hu, hr⟩ := hA.2 i v hi
    exact ⟨u, hu, rv_map2 (h := fun l => l) T.leaf (by rw [hid]; exact hr)⟩
  have hseen : ∀ b, Seen γ1 σ1.store b → b < w.heap.size ∧ ¬ AnyL Fs b := by
    rintro b (hb | ⟨i, o, ho, hb⟩)
    · exact ⟨T.R.st.rolt b hb, fun h => (T.free b h).2.1 hb⟩
    · exact ⟨(T.R.st.fp i o ho b hb).1, fun h => (T.free b h).1 i o ho hb⟩
  have hins := roArgs_sound T.R.st hseen das vs args Fs hA.1 hv1 hL hro
  have hcall := h w args Fs hins hD (fun x hx => (T.free x hx).2.2.1) fun g kk l hg => by
    obtain ⟨t1, t2, t, fr, t3⟩ := T.R.st.keep.tabs g kk l hg
    refine ⟨Nat.lt_of_lt_of_le t1 T.R.st.keep.size, fun hx => ?_, t, fr, by rw [T.R.st.keep.old g t1 t2]; exact t3⟩
    rcases (T.free g hx).2.2.2 with h | h
    · omega
    · exact t2 h
  have fin : ∀ u w', (∃ rs outs vs Gs Hs, post rs outs ∧ u = packU vs ∧ OwnL w' rs vs Gs ∧ OutsT w' das args outs Hs ∧ DisjL (Gs ++ Hs) ∧ (∀ x, AnyL (Gs ++ Hs) x → (w.heap.size ≤ x ∨ AnyL Fs x) ∧ x < w'.heap.size) ∧ Keep w (AnyL Fs) w') → Post w0 mine a k u w' := by
    rintro u w' ⟨rs, outs, us, Gs, Hs, hp, hu, hO, hOut, hDD, hFF, hkeep⟩
    obtain ⟨R', hleaf⟩ := T.R.call T.free hkeep
    have hws := T.R.st.keep.size
    have hfree : Free w0 mine γ1 σ1.store w' (AnyL (Gs ++ Hs)) := by
      intro x hx
      obtain ⟨h1, h2⟩ := hFF x hx
      rcases h1 with h1 | h1
      · refine ⟨fun i oi hi hf => ?_, fun hr => ?_, h2, .inl (by omega)⟩
        · have := (T.R.st.fp i oi hi x hf).1; omega
        · have := T.R.st.rolt x hr; omega
      · obtain ⟨f1, f2, f3, f4⟩ := T.free x h1
        exact ⟨f1, f2, h2, f4⟩
    have hDG : DisjL Gs ∧ DisjL Hs ∧ ∀ x, AnyL Gs x → ¬ AnyL Hs x := by
      unfold DisjL at hDD
      rw [List.pairwise_append] at hDD
      exact ⟨hDD.1, hDD.2.1, fun x ⟨G, hG, hx⟩ ⟨H, hH, hx'⟩ => hDD.2.2 G hG H hH x hx hx'⟩
    have hback := hk rs outs hp
    obtain ⟨σ2, γ2, hk2, R2, hf2⟩ := giveArgs_sound das vs args outs Hs σ1 γ1 h1 _ R' hA.1 (fun i v hi => by
      obtain ⟨u, hu, hr⟩ := hv1 i v hi
      exact ⟨u, hu, rv_map2 (h := h1) (h' := h1) (fun l u hl => hleaf _ u hl) hr⟩) hOut (fun b hb => hfree b (anyL_append.mpr (.inr hb))) hDG.2.1 hback
    obtain ⟨γ3, R3, _, c1, c2⟩ := inst1s_sound rs γ2 σ2 us Gs R2 hO (hf2 _ (fun b hb => hfree b (anyL_append.mpr (.inl hb))) hDG.2.2) hDG.1
    exact ⟨_, _, γ3, hk2, R3, by rw [hu]; exact rv_pack c1 c2⟩
  rcases hcall with ⟨u, w', h1, h2⟩ | ⟨h1, h2⟩
  · exact .inl ⟨u, w', h1, fin u w' h2⟩
  · exact .inr ⟨h1, h2.mono fun e w' ⟨u, he, hp⟩ => ⟨u, he, fin u w' hp⟩⟩
end
end Go.AW
