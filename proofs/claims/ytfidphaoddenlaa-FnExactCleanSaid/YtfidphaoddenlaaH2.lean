/- A rune out of bytes, in plain words; the model's decoder is the same. -/
import Derived.Test.YtfidphaoddenlaaH1
set_option linter.unusedVariables false
set_option linter.unusedSimpArgs false
namespace Go.AW
set_option maxRecDepth 100000
/-- A byte that goes on. -/
def CB (B : Nat → Int) (j : Nat) : Prop := 128 ≤ B j ∧ B j ≤ 191
def v2 (B : Nat → Int) (i : Nat) : Int := (B i - 192) * 64 + (B (i + 1) - 128)
def v3 (B : Nat → Int) (i : Nat) : Int := (B i - 224) * 4096 + (B (i + 1) - 128) * 64 + (B (i + 2) - 128)
def v4 (B : Nat → Int) (i : Nat) : Int := (B i - 240) * 262144 + (B (i + 1) - 128) * 4096 + (B (i + 2) - 128) * 64 + (B (i + 3) - 128)
/-- The rune at a place and how many bytes it takes, told as cases. -/
inductive RuneB (B : Nat → Int) (n i : Nat) : Int → Nat → Prop where
  | r1 (h : B i < 128) : RuneB B n i (B i) 1
  | r2 (h : 192 ≤ B i ∧ B i < 224) (hn : i + 1 < n) (h1 : CB B (i + 1)) (hm : 128 ≤ v2 B i) : RuneB B n i (v2 B i) 2
  | r3 (h : 224 ≤ B i ∧ B i < 240) (hn : i + 2 < n) (h1 : CB B (i + 1)) (h2 : CB B (i + 2)) (hm : 2048 ≤ v3 B i) (hv : v3 B i < 55296 ∨ 57343 < v3 B i) : RuneB B n i (v3 B i) 3
  | r4 (h : 240 ≤ B i ∧ B i < 248) (hn : i + 3 < n) (h1 : CB B (i + 1)) (h2 : CB B (i + 2)) (h3 : CB B (i + 3)) (hm : 65536 ≤ v4 B i) (hv : v4 B i ≤ 1114111) : RuneB B n i (v4 B i) 4
  | no (h1 : 128 ≤ B i) (h2 : 192 ≤ B i → B i < 224 → i + 1 < n → CB B (i + 1) → v2 B i < 128)
      (h3 : 224 ≤ B i → B i < 240 → i + 2 < n → CB B (i + 1) → CB B (i + 2) → 2048 ≤ v3 B i → 55296 ≤ v3 B i ∧ v3 B i ≤ 57343)
      (h4 : 240 ≤ B i → B i < 248 → i + 3 < n → CB B (i + 1) → CB B (i + 2) → CB B (i + 3) → 65536 ≤ v4 B i → 1114111 < v4 B i) : RuneB B n i 65533 1
theorem RuneB.uniq {B : Nat → Int} {n i : Nat} {r r' : Int} {d d' : Nat} (h : RuneB B n i r d) (h' : RuneB B n i r' d') : r = r' ∧ d = d' := by
  cases h <;> cases h' <;> first | exact ⟨rfl, rfl⟩ | (exfalso; unfold CB at *; omega) | (exfalso; simp_all; unfold CB at *; omega)
theorem RuneB.width {B : Nat → Int} {n i : Nat} {r : Int} {d : Nat} (hi : i < n) (h : RuneB B n i r d) : 1 ≤ d ∧ d ≤ 4 ∧ i + d ≤ n := by
  cases h <;> omega
theorem RuneB.range {B : Nat → Int} {n i : Nat} {r : Int} {d : Nat} (hB : 0 ≤ B i ∧ B i ≤ 255) (h : RuneB B n i r d) : 0 ≤ r ∧ r ≤ 1114111 := by
  cases h <;> first | omega | (unfold CB v2 at *; omega) | (unfold CB v3 at *; omega) | (unfold CB v4 at *; omega)
theorem get_B {l : List UInt8} {n : Nat} {B : Nat → Int} (h : IsB l n B) {j : Nat} (hj : j < n) : (((⟨l.toArray⟩ : ByteArray).get! j).toNat : Int) = B j := by
  have hs : j < l.length := by rw [← h.1]; exact hj
  rw [h.2 j hj]
  show (((l.toArray)[j]!).toNat : Int) = _
  simp [List.getD_eq_getElem?_getD, hs]
theorem decode_as (s : ByteArray) (i : Nat) : ∃ a : Nat → Nat, (∀ k, a k = (s.get! (i + k)).toNat) ∧ Utf8.decode s i =
    if a 0 < 128 then (a 0, 1)
    else if a 0 / 32 == 6 && (i + 1 < s.size && a 1 / 64 == 2) then if (a 0 % 32) * 64 + a 1 % 64 ≥ 128 then ((a 0 % 32) * 64 + a 1 % 64, 2) else (65533, 1)
    else if a 0 / 16 == 14 && (i + 1 < s.size && a 1 / 64 == 2) && (i + 2 < s.size && a 2 / 64 == 2) then
      if (a 0 % 16) * 4096 + (a 1 % 64) * 64 + a 2 % 64 ≥ 2048 && Utf8.valid ((a 0 % 16) * 4096 + (a 1 % 64) * 64 + a 2 % 64 : Nat) then ((a 0 % 16) * 4096 + (a 1 % 64) * 64 + a 2 % 64, 3) else (65533, 1)
    else if a 0 / 8 == 30 && (i + 1 < s.size && a 1 / 64 == 2) && (i + 2 < s.size && a 2 / 64 == 2) && (i + 3 < s.size && a 3 / 64 == 2) then
      if (a 0 % 8) * 262144 + (a 1 % 64) * 4096 + (a 2 % 64) * 64 + a 3 % 64 ≥ 65536 && Utf8.valid ((a 0 % 8) * 262144 + (a 1 % 64) * 4096 + (a 2 % 64) * 64 + a 3 % 64 : Nat) then ((a 0 % 8) * 262144 + (a 1 % 64) * 4096 + (a 2 % 64) * 64 + a 3 % 64, 4) else (65533, 1)
    else (65533, 1) := ⟨fun k => (s.get! (i + k)).toNat, fun _ => rfl, rfl⟩
theorem decode_B {l : List UInt8} {n : Nat} {B : Nat → Int} (h : IsB l n B) {i : Nat} (hi : i < n) : RuneB B n i ((Utf8.decode ⟨l.toArray⟩ i).1 : Nat) (Utf8.decode ⟨l.toArray⟩ i).2 := by
  have hsz : (⟨l.toArray⟩ : ByteArray).size = n := by rw [h.1]; simp [ByteArray.size]
  obtain ⟨a, ha, hd⟩ := decode_as ⟨l.toArray⟩ i
  have gk : ∀ k, i + k < n → (a k : Int) = B (i + k) := fun k hk => by rw [ha]; exact get_B h hk
  have g0 : (a 0 : Int) = B i := gk 0 hi
  have g1 := gk 1
  have g2 := gk 2
  have g3 := gk 3
  have k1 : i + 1 < n → 0 ≤ B (i + 1) ∧ B (i + 1) ≤ 255 := fun hj => h.range _ hj
  have k2 : i + 2 < n → 0 ≤ B (i + 2) ∧ B (i + 2) ≤ 255 := fun hj => h.range _ hj
  have k3 : i + 3 < n → 0 ≤ B (i + 3) ∧ B (i + 3) ≤ 255 := fun hj => h.range _ hj
  have k0 := h.range i hi
  rw [hd, hsz]
  clear hd ha gk
  generalize a 0 = x0 at *
  generalize a 1 = x1 at *
  generalize a 2 = x2 at *
  generalize a 3 = x3 at *
  simp only [Utf8.runeError, valid_eq, validR, Bool.and_eq_true, Bool.not_eq_true', beq_iff_eq, decide_eq_true_eq, Bool.and_eq_false_iff, decide_eq_false_iff_not]
  split
  · rw [g0]; exact .r1 (by omega)
  rename_i n0
  split
  · rename_i c
    have e := g1 c.2.1
    have hv : v2 B i = ((x0 % 32 * 64 + x1 % 64 : Nat) : Int) := by unfold v2; omega
    split
    · rw [← hv]; exact .r2 (by omega) c.2.1 (by unfold CB; omega) (by omega)
    · refine .no (by omega) (fun _ _ _ _ => by omega) (fun _ _ => by omega) (fun _ _ => by omega)
  rename_i n1
  split
  · rename_i c
    have e1 := g1 (by omega)
    have e2 := g2 c.2.1
    have hv : v3 B i = ((x0 % 16 * 4096 + x1 % 64 * 64 + x2 % 64 : Nat) : Int) := by unfold v3; omega
    split
    · rw [← hv]; exact .r3 (by omega) c.2.1 (by unfold CB; omega) (by unfold CB; omega) (by omega) (by omega)
    · refine .no (by omega) (fun _ _ => by omega) (fun _ _ _ _ _ _ => by omega) (fun _ _ => by omega)
  rename_i n2
  split
  · rename_i c
    have e1 := g1 (by omega)
    have e2 := g2 (by omega)
    have e3 := g3 c.2.1
    have hv : v4 B i = ((x0 % 8 * 262144 + x1 % 64 * 4096 + x2 % 64 * 64 + x3 % 64 : Nat) : Int) := by unfold v4; omega
    split
    · rw [← hv]; exact .r4 (by omega) c.2.1 (by unfold CB; omega) (by unfold CB; omega) (by unfold CB; omega) (by omega) (by omega)
    · refine .no (by omega) (fun _ _ => by omega) (fun _ _ => by omega) (fun _ _ _ _ _ _ _ => by omega)
  rename_i n3
  refine .no (by omega) (fun a b c d => ?_) (fun a b c d e => ?_) (fun a b c d e f => ?_)
  · have := g1 c; unfold CB at d; omega
  · have := g1 (by omega); have := g2 c; unfold CB at d e; omega
  · have := g1 (by omega); have := g2 (by omega); have := g3 c; unfold CB at d e f; omega
end Go.AW
