/- The abstract calculus, part 25: a table of types is as the program's. -/
import Derived.Test.YtkbmgodbnjbhdaaAw24
import Derived.Laws.Strings
set_option linter.unusedVariables false
set_option linter.unusedSimpArgs false
namespace Go.AW

def eqV : Value → Value → Bool
  | .bool a, .bool b => a == b
  | .int k a, .int l b => sameK k l && a == b
  | .string a, .string b => a.toList == b.toList
  | .pointer none, .pointer none => true
  | .slice none 0 0, .slice none 0 0 => true
  | .map none, .map none => true
  | .nilFunc, .nilFunc => true
  | .nilIface, .nilIface => true
  | _, _ => false
theorem sameK_eq {k l : IntKind} (h : sameK k l = true) : k = l := by cases k <;> cases l <;> simp [sameK] at h <;> rfl
theorem eqV_eq {v u : Value} (h : eqV v u = true) : v = u := by
  unfold eqV at h
  split at h <;> try rfl
  · simp at h; rw [h]
  · simp only [Bool.and_eq_true] at h
    rw [sameK_eq h.1, eq_of_beq h.2]
  · rename_i a b
    have : a.toList = b.toList := eq_of_beq h
    have hab : a = b := by
      have h1 : a.data.toList = b.data.toList := by
        rw [ByteArray.toList_eq, ByteArray.toList_eq] at this; exact this
      cases a; cases b; simp at h1; congr
    rw [hab]
  · cases h
def eqVs : List Value → List Value → Bool
  | [], [] => true
  | a :: l, b :: m => eqV a b && eqVs l m
  | _, _ => false
theorem eqVs_eq : ∀ {l m : List Value}, eqVs l m = true → l = m
  | [], [], _ => rfl
  | a :: l, b :: m, h => by
    simp only [eqVs, Bool.and_eq_true] at h
    rw [eqV_eq h.1, eqVs_eq h.2]

def kokB (P : Program) : K → TypeDesc → Bool
  | .bool, .bool => true
  | .int k, .int k' => sameK k' k
  | .str, .string => true
  | .ptr e, .pointer e' => Nat.beq e' e
  | .sl e, .slice e' => Nat.beq e' e
  | .arr n e, .array n' e' => Nat.beq n' n && Nat.beq e' e
  | .st fs, .struct gs => go fs gs.toList
  | .fn, .func _ _ _ => true
  | .mp k e, .map k' e' => Nat.beq k' k && Nat.beq e' e
  | _, _ => false
  where
  go : List (Nat × Nat) → List Field → Bool
  | [], [] => true
  | x :: fs, g :: gs => Nat.beq g.offset x.1 && (match P.info? g.type with | some i => Nat.beq i.size x.2 | none => false) && go fs gs
  | _, _ => false
theorem kokB_go (P : Program) : ∀ (fs : List (Nat × Nat)) (gs : List Field), kokB.go P fs gs = true → gs.length = fs.length ∧ ∀ (i : Nat) (x : Nat × Nat), fs[i]? = some x → ∃ g : Field, gs[i]? = some g ∧ g.offset = x.1 ∧ (P.info? g.type).map (·.size) = some x.2
  | [], [], _ => ⟨rfl, fun i x h => by simp at h⟩
  | x :: fs, g :: gs, h => by
    simp only [kokB.go, Bool.and_eq_true] at h
    obtain ⟨⟨h1, h2⟩, h3⟩ := h
    obtain ⟨h4, h5⟩ := kokB_go P fs gs h3
    refine ⟨by simp [h4], fun i y hy => ?_⟩
    cases i with
    | zero =>
      simp at hy; subst hy
      refine ⟨g, rfl, Nat.eq_of_beq_eq_true h1, ?_⟩
      split at h2
      · rename_i i hi; rw [hi]; simp [Nat.eq_of_beq_eq_true h2]
      · cases h2
    | succ i => simpa using h5 i y (by simpa using hy)
theorem kokB_sound {P : Program} {k : K} {d : TypeDesc} (h : kokB P k d = true) : Kok P k d := by
  unfold kokB at h
  split at h <;> simp only [Kok] <;> try trivial
  · exact sameK_eq h
  · exact Nat.eq_of_beq_eq_true h
  · exact Nat.eq_of_beq_eq_true h
  · simp only [Bool.and_eq_true] at h; exact ⟨Nat.eq_of_beq_eq_true h.1, Nat.eq_of_beq_eq_true h.2⟩
  · rename_i fs gs
    obtain ⟨h1, h2⟩ := kokB_go P fs gs.toList h
    exact ⟨by simpa using h1, fun i x hx => by simpa using h2 i x hx⟩
  · simp only [Bool.and_eq_true] at h; exact ⟨Nat.eq_of_beq_eq_true h.1, Nat.eq_of_beq_eq_true h.2⟩

def tiOkB (P : Program) (t : TypeId) (i : TI) : Bool :=
  match P.underlying t, P.info? t with
  | some d, some x => kokB P i.k d && Nat.beq x.size i.size && Nat.beq x.bytes i.bytes && (match x.zero with | some z => eqVs z.cells.toList i.zero | none => false) && i.zero.all (·.oneCell') && Nat.beq i.zero.length i.size
  | _, _ => false
theorem tiOkB_sound {P : Program} {t : TypeId} {i : TI} (h : tiOkB P t i = true) : TIok P t i := by
  unfold tiOkB at h
  split at h
  · rename_i d x hd hx
    simp only [Bool.and_eq_true] at h
    obtain ⟨⟨⟨⟨⟨h1, h2⟩, h3⟩, h4⟩, h5⟩, h6⟩ := h
    split at h4
    · rename_i z hz
      exact ⟨⟨d, hd, kokB_sound h1⟩, by rw [hx]; simp [Nat.eq_of_beq_eq_true h2], by rw [hx]; simp [Nat.eq_of_beq_eq_true h3], ⟨z, by rw [hx]; simp [hz], eqVs_eq h4⟩, h5, Nat.eq_of_beq_eq_true h6⟩
    · cases h4
  · cases h
def isOther : K → Bool
  | .other => true
  | _ => false
theorem envOk_of {P : Program} {E : Env} {N : Nat} (h : (List.range N).all (fun t => isOther (E t).k || tiOkB P t (E t)) = true) (hout : ∀ t, N ≤ t → (E t).k = .other) : EnvOk P E := by
  intro t ht
  rcases Nat.lt_or_ge t N with hl | hl
  · have := List.all_eq_true.mp h t (List.mem_range.mpr hl)
    simp only [Bool.or_eq_true] at this
    rcases this with h | h
    · cases hk : (E t).k <;> rw [hk] at h <;> simp [isOther] at h
      exact absurd hk ht
    · exact tiOkB_sound h
  · exact absurd (hout t hl) ht
end Go.AW
