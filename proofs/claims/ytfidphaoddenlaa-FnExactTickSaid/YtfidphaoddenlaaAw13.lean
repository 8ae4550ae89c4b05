/- The abstract calculus, part 13: append. -/
import Derived.Test.YtfidphaoddenlaaAw12
set_option linter.unusedVariables false
set_option linter.unusedSimpArgs false
namespace Go.AW

section
variable {P : Program} {w0 w w' : World} {mine : FP} {γ γ' : Ghost} {σ : St} {a : Act} {k : V → St → Prop} {E : Env}

/-- append where there is room. -/
theorem run_append_in (t t2 ty e : TypeId) (sz : Nat) (A : Option Addr) (n c m : Nat) (x : Value) (new : List Value) (ht : P.underlying t = some (.slice e)) (h2 : P.underlying t2 = some .string ∨ ∃ e2, P.underlying t2 = some (.slice e2)) (hsz : (sizeOf e).run P w = .ok sz w)
    (hl : (Builtin.lenOf x).run P w = .ok m w) (hf : (Builtin.firstCells sz m x).run P w = .ok new.toArray w) (hle : n + m ≤ c) (w2 : World)
    (hst : ∀ ad, A = some ad → (storeCells (ad.add (n * sz)) new).run P w = .ok () w2) (hno : A = none → w2 = w) :
    (Builtin.append_ #[t, t2] ty #[.slice A n c, x]).run P w = .ok (.slice A (n + m) c) w2 := by
  cases A with
  | none =>
    cases hno rfl
    rcases h2 with h2 | ⟨e2, h2⟩ <;> simp [Builtin.append_, run_underlying ht, run_underlying h2, hsz, hl, hf, hle]
  | some ad =>
    have hs := hst ad rfl
    rcases h2 with h2 | ⟨e2, h2⟩ <;> simp [Builtin.append_, run_underlying ht, run_underlying h2, hsz, hl, hf, hle, hs]

/-- append where there is none. -/
theorem run_append_new (t t2 ty e : TypeId) (i : TypeInfo) (z : Value) (A : Option Addr) (n c m : Nat) (x : Value) (old new : List Value) (ht : P.underlying t = some (.slice e)) (h2 : P.underlying t2 = some .string ∨ ∃ e2, P.underlying t2 = some (.slice e2))
    (hi : P.info? e = some i) (hz : i.zero = some z)
    (hl : (Builtin.lenOf x).run P w = .ok m w) (hf : ∀ w1 : World, w1.heap = w.heap → (Builtin.firstCells i.size m x).run P w1 = .ok new.toArray w1)
    (hfo : ∀ w1 : World, w1.heap = w.heap → (Builtin.firstCells i.size n (.slice A n c)).run P w1 = .ok old.toArray w1) (hle : c < n + m) (hb : 1 ≤ i.bytes) (hroom : (n + m) * i.bytes ≤ 140737488355328) :
    ∃ cap rest, n + m ≤ cap ∧ rest = Builtin.zeroCells z.cells (cap - (n + m)) ∧ (Builtin.append_ #[t, t2] ty #[.slice A n c, x]).run P w = .ok (.slice (some ⟨w.heap.size, 0, none⟩) (n + m) cap) (w.drew.alloc (.cells ((old ++ new).toArray ++ rest) e)) := by
  have hn : ¬ (n + m ≤ c) := by omega
  have hnm : n + m ≤ 140737488355328 := Nat.le_trans (Nat.le_mul_of_pos_right _ hb) hroom
  have h63 : ¬ (9223372036854775807 < ((n : Int) + (m : Int))) := by omega
  have hfit := growslice_fits hle hroom
  have h48 : ¬ (281474976710656 < Builtin.nextslicecap (n + m) c * i.bytes) := by omega
  have hi0 : i.bytes ≠ 0 := by omega
  refine ⟨grownCap w (n + m) c e, _, ?_, rfl, ?_⟩
  · simp only [grownCap, Question.cut]; omega
  · rcases h2 with h2 | ⟨e2, h2⟩ <;> simp [Builtin.append_, run_underlying ht, run_underlying h2, hl, hn, h63, h48, hi0, hi, hz, Question.forced, hf w.drew rfl, hfo w.drew rfl, newRow, grownCap, typeInfo, zeroValue, sizeOf] <;> (congr 2; apply Array.ext'; simp)

/-- The world behind the taking of a new row. -/
theorem drew_alloc (w : World) (o : Go.Obj) : WExt w (w.drew.alloc o) ∧ (w.drew.alloc o).heap.size = w.heap.size + 1 ∧ (w.drew.alloc o).heap[w.heap.size]? = some o ∧ (w.drew.alloc o).os = w.os ∧ (w.drew.alloc o).tape = w.tape ∧ (w.drew.alloc o).output = w.output ∧ ∀ b, b < w.heap.size → (w.drew.alloc o).heap[b]? = w.heap[b]? := by
  have hh : (w.drew.alloc o).heap = w.heap.push o := rfl
  refine ⟨fun b x hb => ?_, by simp [hh], by simp [hh], rfl, rfl, rfl, fun b hb => ?_⟩
  · rw [hh, Array.getElem?_push]
    have : b < w.heap.size := (Array.getElem?_eq_some_iff.mp hb).1
    rw [if_neg (by omega)]; exact hb
  · rw [hh, Array.getElem?_push, if_neg (by omega)]
end
end Go.AW
