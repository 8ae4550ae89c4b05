/- The abstract calculus, part 29: the rules that a proof uses. -/
import Derived.Test.YtfidphaoddenlaaAw28
set_option linter.unusedVariables false
set_option linter.unusedSimpArgs false
namespace Go.AW

/-! ### A table of types is as the program's -/
def eqV : Value → Value → Bool
  | .bool a, .bool b => a == b
  | .int k a, .int l b => sameK k l && a == b
  | .string a, .string b => a.toList == b.toList
  | .pointer none, .pointer none => true
  | .slice none 0 0, .slice none 0 0 => true
  | .map none, .map none => true
  | .nilFunc, .nilFunc => true
  | .nilIface, .nilIface => true
  | _, _ => false
theorem sameK_eq {k l : IntKind} (h : sameK k l = true) : k = l := by cases k <;> cases l <;> simp [sameK] at h <;> rfl
theorem eqV_eq {v u : Value} (h : eqV v u = true) : v = u := by
  unfold eqV at h
  split at h <;> try rfl
  · simp at h; rw [h]
  · simp only [Bool.and_eq_true] at h
    rw [sameK_eq h.1, eq_of_beq h.2]
  · rename_i a b
    have : a.toList = b.toList := eq_of_beq h
    have hab : a = b := by
      have h1 : a.data.toList = b.data.toList := by
        rw [ByteArray.toList_eq, ByteArray.toList_eq] at this; exact this
      cases a; cases b; simp at h1; congr
    rw [hab]
  · cases h
def eqVs : List Value → List Value → Bool
  | [], [] => true
  | a :: l, b :: m => eqV a b && eqVs l m
  | _, _ => false
theorem eqVs_eq : ∀ {l m : List Value}, eqVs l m = true → l = m
  | [], [], _ => rfl
  | a :: l, b :: m, h => by
    simp only [eqVs, Bool.and_eq_true] at h
    rw [eqV_eq h.1, eqVs_eq h.2]

def kokB (P : Program) : K → TypeDesc → Bool
  | .bool, .bool => true
  | .int k, .int k' => sameK k' k
  | .str, .string => true
  | .ptr e, .pointer e' => Nat.beq e' e
  | .sl e, .slice e' => Nat.beq e' e
  | .arr n e, .array n' e' => Nat.beq n' n && Nat.beq e' e
  | .st fs, .struct gs => go fs gs.toList
  | .fn, .func _ _ _ => true
  | .mp k e, .map k' e' => Nat.beq k' k && Nat.beq e' e
  | _, _ => false
  where
  go : List (Nat × Nat) → List Field → Bool
  | [], [] => true
  | x :: fs, g :: gs => Nat.beq g.offset x.1 && (match P.info? g.type with | some i => Nat.beq i.size x.2 | none => false) && go fs gs
  | _, _ => false
theorem kokB_go (P : Program) : ∀ (fs : List (Nat × Nat)) (gs : List Field), kokB.go P fs gs = true → gs.length = fs.length ∧ ∀ (i : Nat) (x : Nat × Nat), fs[i]? = some x → ∃ g : Field, gs[i]? = some g ∧ g.offset = x.1 ∧ (P.info? g.type).map (·.size) = some x.2
  | [], [], _ => ⟨rfl, fun i x h => by simp at h⟩
  | x :: fs, g :: gs, h => by
    simp only [kokB.go, Bool.and_eq_true] at h
    obtain ⟨⟨h1, h2⟩, h3⟩ := h
    obtain ⟨h4, h5⟩ := kokB_go P fs gs h3
    refine ⟨by simp [h4], fun i y hy => ?_⟩
    cases i with
    | zero =>
      simp at hy; subst hy
      refine ⟨g, rfl, Nat.eq_of_beq_eq_true h1, ?_⟩
      split at h2
      · rename_i i hi; rw [hi]; simp [Nat.eq_of_beq_eq_true h2]
      · cases h2
    | succ i => simpa using h5 i y (by simpa using hy)
theorem kokB_sound {P : Program} {k : K} {d : TypeDesc} (h : kokB P k d = true) : Kok P k d := by
  unfold kokB at h
  split at h <;> simp only [Kok] <;> try trivial
  · exact sameK_eq h
  · exact Nat.eq_of_beq_eq_true h
  · exact Nat.eq_of_beq_eq_true h
  · simp only [Bool.and_eq_true] at h; exact ⟨Nat.eq_of_beq_eq_true h.1, Nat.eq_of_beq_eq_true h.2⟩
  · rename_i fs gs
    obtain ⟨h1, h2⟩ := kokB_go P fs gs.toList h
    exact ⟨by simpa using h1, fun i x hx => by simpa using h2 i x hx⟩
  · simp only [Bool.and_eq_true] at h; exact ⟨Nat.eq_of_beq_eq_true h.1, Nat.eq_of_beq_eq_true h.2⟩

def tiOkB (P : Program) (t : TypeId) (i : TI) : Bool :=
  match P.underlying t, P.info? t with
  | some d, some x => kokB P i.k d && Nat.beq x.size i.size && Nat.beq x.bytes i.bytes && (match x.zero with | some z => eqVs z.cells.toList i.zero | none => false) && i.zero.all (·.oneCell') && Nat.beq i.zero.length i.size
  | _, _ => false
theorem tiOkB_sound {P : Program} {t : TypeId} {i : TI} (h : tiOkB P t i = true) : TIok P t i := by
  unfold tiOkB at h
  split at h
  · rename_i d x hd hx
    simp only [Bool.and_eq_true] at h
    obtain ⟨⟨⟨⟨⟨h1, h2⟩, h3⟩, h4⟩, h5⟩, h6⟩ := h
    split at h4
    · rename_i z hz
      exact ⟨⟨d, hd, kokB_sound h1⟩, by rw [hx]; simp [Nat.eq_of_beq_eq_true h2], by rw [hx]; simp [Nat.eq_of_beq_eq_true h3], ⟨z, by rw [hx]; simp [hz], eqVs_eq h4⟩, h5, Nat.eq_of_beq_eq_true h6⟩
    · cases h4
  · cases h
def isOther : K → Bool
  | .other => true
  | _ => false
theorem envOk_of {P : Program} {E : Env} {N : Nat} (h : (List.range N).all (fun t => isOther (E t).k || tiOkB P t (E t)) = true) (hout : ∀ t, N ≤ t → (E t).k = .other) : EnvOk P E := by
  intro t ht
  rcases Nat.lt_or_ge t N with hl | hl
  · have := List.all_eq_true.mp h t (List.mem_range.mpr hl)
    simp only [Bool.or_eq_true] at this
    rcases this with h | h
    · cases hk : (E t).k <;> rw [hk] at h <;> simp [isOther] at h
      exact absurd hk ht
    · exact tiOkB_sound h
  · exact absurd (hout t hl) ht

/-! ### Words -/
abbrev VI (n : Int) : V := .one (.lf (.s (.int .i64 n)))
abbrev VK (k : IntKind) (n : Int) : V := .one (.lf (.s (.int k n)))
abbrev VB (b : Bool) : V := .one (.lf (.s (.bool b)))
abbrev VS (s : ByteArray) : V := .one (.lf (.s (.string s)))
abbrev VO (id n : Nat) : V := .one (.lf (.o id 0 n))
abbrev VP (id : Nat) : V := .one (.lf (.p id 0))
abbrev AI (n : Int) : AM := .r (.c (.s (.int .i64 n)))
abbrev AK (k : IntKind) (n : Int) : AM := .r (.c (.s (.int k n)))
abbrev AB (b : Bool) : AM := .r (.c (.s (.bool b)))
abbrev AS (s : ByteArray) : AM := .r (.c (.s (.string s)))
abbrev RI (n : Int) : DR := .c (.s (.int .i64 n))
abbrev RK (k : IntKind) (n : Int) : DR := .c (.s (.int k n))
abbrev RB (b : Bool) : DR := .c (.s (.bool b))
abbrev RS (s : ByteArray) : DR := .c (.s (.string s))
def bodyOf (f : Func) : Code := f.body.getD .skip
theorem wrap64 (n : Int) (h : -9223372036854775808 ≤ n ∧ n ≤ 9223372036854775807) : IntKind.wrap .i64 n = n := IntWalk.i64_in n h

/-- A contract of one result. -/
def PRet (P : Program) (f : FuncId) (das : List AM) (rs outs : List DR) : Prop := PCon P f das fun x y => x = rs ∧ y = outs
theorem pret_of_awp {P : Program} {E : Env} (hE : EnvOk P E) (hm : P.follows .mixedOrders = true) {f : FuncId} {fn : Func} {c : Code} (hf : P.funcs[f]? = some fn) (hname : (fn.name == "runtime.NumGoroutine") = false) (hb : fn.body = some c) {rts : List ResultVar} (hres : fn.results.toList = rts)
    {das : List AM} (hnd : noDst (lentIx das 0) c = true) (hnt : Nat.ble das.length fn.ntmps = true) {rs outs : List DR}
    (h : ∀ (w0 : World) (mine : FP) (D : Ops) (C : CallT) (L : LoopT), D = std → C = Csem P w0 mine → L = Lsem w0 mine → AWP D E C L c (startSt fn.ntmps das) (exitP D E rts das fun x y => drsLe x rs ∧ drsLe y outs)) : PRet P f das rs outs :=
  pcon_of_awp hE hm hf hname hb rts hres hnd (Nat.le_of_ble_eq_true hnt) (fun x y => drsLe x rs ∧ drsLe y outs) (fun x y h => ⟨rs, outs, h.1, h.2, rfl, rfl⟩) h
theorem prel_of_awp {P : Program} {E : Env} (hE : EnvOk P E) (hm : P.follows .mixedOrders = true) {f : FuncId} {fn : Func} {c : Code} (hf : P.funcs[f]? = some fn) (hname : (fn.name == "runtime.NumGoroutine") = false) (hb : fn.body = some c) {rts : List ResultVar} (hres : fn.results.toList = rts)
    {das : List AM} (hnd : noDst (lentIx das 0) c = true) (hnt : Nat.ble das.length fn.ntmps = true) {post : List DR → List DR → Prop}
    (h : ∀ (w0 : World) (mine : FP) (D : Ops) (C : CallT) (L : LoopT), D = std → C = Csem P w0 mine → L = Lsem w0 mine → AWP D E C L c (startSt fn.ntmps das) (exitP D E rts das fun x y => ∃ x' y', drsLe x x' ∧ drsLe y y' ∧ post x' y')) : PCon P f das post :=
  pcon_of_awp hE hm hf hname hb rts hres hnd (Nat.le_of_ble_eq_true hnt) _ (fun x y h => h) h

def callR (D : Ops) (das : List AM) (vs : List V) (σ : St) (rs outs : List DR) (k : V → St → Prop) : Prop :=
  lendArgs D das vs σ (fun l => l) fun σ1 h => roArgs D σ1.store h das vs ∧ backP D das vs σ1 h k rs outs

section
variable {P : Program} {w0 : World} {mine : FP} {σ : St} {k : V → St → Prop} {f : FuncId} {das : List AM} {rs outs : List DR} {post : List DR → List DR → Prop} {D : Ops} {C : CallT} {vs : List V}
theorem lendC_mono {σ : St} {l : Leaf} {K K' : DV → St → (Leaf → Leaf) → Prop} (hK : ∀ d σ h, K d σ h → K' d σ h) (h : lendC D σ l K) : lendC D σ l K' := by
  unfold lendC at h ⊢
  split at h
  · split at h
    · exact ⟨h.1, h.2.1, hK _ _ _ h.2.2⟩
    · exact h.elim
  · split at h
    · exact hK _ _ _ h
    · exact h.elim
theorem lendCs_mono : ∀ (ls : List Leaf) {σ : St} {h0 : Leaf → Leaf} {K K' : List DV → St → (Leaf → Leaf) → Prop}, (∀ d σ h, K d σ h → K' d σ h) → lendCs D ls σ h0 K → lendCs D ls σ h0 K'
  | [], σ, h0, K, K', hK, h => hK _ _ _ h
  | l :: t, σ, h0, K, K', hK, h => lendC_mono (fun d σ h1 h => lendCs_mono t (fun d σ h => hK _ _ _) h) h
theorem lendV_mono {σ : St} {h0 : Leaf → Leaf} {v : V1} {K K' : DR → St → (Leaf → Leaf) → Prop} (hK : ∀ d σ h, K d σ h → K' d σ h) (h : lendV D σ h0 v K) : lendV D σ h0 v K' := by
  cases v with
  | ag cs => exact lendCs_mono cs (fun d σ h => hK _ _ _) h
  | lf l =>
    simp only [lendV] at h ⊢
    split at h
    · split at h
      · split at h
        · split at h
          · exact ⟨h.1, hK _ _ _ h.2⟩
          · exact h.elim
        · exact h.elim
      · exact h.elim
    · exact lendC_mono (fun d σ h => hK _ _ _) h
theorem lendArgs_mono : ∀ (das : List AM) (vs : List V) {σ : St} {h0 : Leaf → Leaf} {K K' : St → (Leaf → Leaf) → Prop}, (∀ σ h, K σ h → K' σ h) → lendArgs D das vs σ h0 K → lendArgs D das vs σ h0 K'
  | [], [], σ, h0, K, K', hK, h => hK _ _ h
  | .r _ :: ds, _ :: vs, σ, h0, K, K', hK, h => lendArgs_mono ds vs hK h
  | .o d :: ds, .one v :: vs, σ, h0, K, K', hK, h => lendV_mono (fun d σ h1 h => ⟨h.1, lendArgs_mono ds vs hK h.2⟩) h
  | .g d :: ds, .one v :: vs, σ, h0, K, K', hK, h => by
    simp only [lendArgs] at h ⊢
    split at h
    · exact ⟨h.1, lendArgs_mono ds vs hK h.2⟩
    · exact h.elim
  | [], _ :: _, _, _, _, _, _, h => h.elim
  | .r _ :: _, [], _, _, _, _, _, h => h.elim
  | .o _ :: _, [], _, _, _, _, _, h => h.elim
  | .g _ :: _, [], _, _, _, _, _, h => h.elim
  | .o _ :: _, .tup _ :: _, _, _, _, _, _, h => h.elim
  | .o _ :: _, .bad :: _, _, _, _, _, _, h => h.elim
  | .g _ :: _, .tup _ :: _, _, _, _, _, _, h => h.elim
  | .g _ :: _, .bad :: _, _, _, _, _, _, h => h.elim
theorem call_of (hD : D = std) (hC : C = Csem P w0 mine) (h : PRet P f das rs outs) (hk : callR D das vs σ rs outs k) : C f vs σ k := by
  subst hD hC
  exact csem_of_pcon h (lendArgs_mono das vs (fun σ h1 h2 => ⟨h2.1, fun r o ⟨e1, e2⟩ => by subst e1 e2; exact h2.2⟩) hk)
theorem call_rel (hD : D = std) (hC : C = Csem P w0 mine) (h : PCon P f das post) (hk : callP D das vs σ post k) : C f vs σ k := by
  subst hD hC
  exact csem_of_pcon h hk
end

/-! ### Loops -/
section
variable {w0 : World} {mine : FP} {L : LoopT} {c : Code} {A : St → (Exit → St → Prop) → Prop} {σ : St} {K : Exit → St → Prop}
theorem ssem_of {σ σ' : St} (h : stLe' σ σ') : Ssem w0 mine σ σ' := ssem_ren _ h
theorem loop_of (hL : L = Lsem w0 mine) {ι : Type} (vars : ι → List (Nat × V)) (over : ι → List (Nat × Obj)) (ok : ι → Prop) (μ : ι → Nat) (x0 : ι) (h0 : ok x0) (hs : stLe' σ (hav c σ (vars x0) (over x0)))
    (hb : ∀ x, ok x → A (hav c σ (vars x) (over x)) fun e σ' => match e with
      | .normal => ∃ y, ok y ∧ Ssem w0 mine σ' (hav c σ (vars y) (over y)) ∧ μ y < μ x
      | e => K e σ') : L c A σ K := by
  subst hL
  exact ⟨ι, fun x => hav c σ (vars x) (over x), ok, μ, ⟨x0, h0, ssem_ren _ hs⟩, hb⟩
/-- A loop that counts. -/
theorem loop_nat (hL : L = Lsem w0 mine) (n : Nat) (vars : Nat → List (Nat × V)) (over : Nat → List (Nat × Obj)) (ok : Nat → Prop) (h0 : ok 0) (hs : stLe' σ (hav c σ (vars 0) (over 0)))
    (hb : ∀ k, k ≤ n ∧ ok k → A (hav c σ (vars k) (over k)) fun e σ' => match e with
      | .normal => ∃ y, (y ≤ n ∧ ok y) ∧ Ssem w0 mine σ' (hav c σ (vars y) (over y)) ∧ n - y < n - k
      | e => K e σ') : L c A σ K :=
  loop_of hL vars over (fun k => k ≤ n ∧ ok k) (fun k => n - k) 0 ⟨Nat.zero_le _, h0⟩ hs hb
end
theorem mB {D : Ops} (hD : D = std) {A B : Unit → Prop} {c : Bool} (h1 : c = true → A ()) (h2 : c = false → B ()) : D.cnd c A B := by
  subst hD
  cases c with
  | true => exact h1 rfl
  | false => exact h2 rfl
theorem mT {D : Ops} (hD : D = std) {A B : Unit → Prop} (h : A ()) : D.cnd true A B := by
  subst hD
  exact h
theorem mF {D : Ops} (hD : D = std) {A B : Unit → Prop} (h : B ()) : D.cnd false A B := by
  subst hD
  exact h
theorem mS {D : Ops} (hD : D = std) {A : Unit → Prop} (h : A ()) : D.stp A := by
  subst hD
  exact h
theorem nc (j : Nat) : @NatCast.natCast Int instNatCastInt j = Int.ofNat j := rfl
-- On, to the leaves: tests are parted, conditions told apart.
/-- A name for a thing. -/
theorem opq {α : Sort _} (x : α) : ∃ y, y = x := ⟨x, rfl⟩
abbrev rI (k : IntKind) (g : Nat → Int) : Nat → List DV := fun i => [.s (.int k (g i))]
abbrev dI (k : IntKind) (n : Nat) (g : Nat → Int) : DV := .l 1 n (rI k g)
abbrev rS (g : Nat → ByteArray) : Nat → List DV := fun i => [.s (.string (g i))]
abbrev dS (n : Nat) (g : Nat → ByteArray) : DV := .l 1 n (rS g)
theorem deq_I {k : IntKind} {n : Nat} {g g' : Nat → Int} (h : ∀ i, i < n → g i = g' i) : DEq (.l 1 n fun i => [.s (.int k (g i))]) (.l 1 n fun i => [.s (.int k (g' i))]) :=
  deq_rows fun i hi => by rw [h i hi]
theorem deq_S {n : Nat} {g g' : Nat → ByteArray} (h : ∀ i, i < n → g i = g' i) : DEq (.l 1 n fun i => [.s (.string (g i))]) (.l 1 n fun i => [.s (.string (g' i))]) :=
  deq_rows fun i hi => by rw [h i hi]
theorem int_eq {k : IntKind} {a b : Int} (h : a = b) : Value.int k a = Value.int k b := by rw [h]
theorem wrapU8 (n : Int) (h : 0 ≤ n ∧ n ≤ 255) : IntKind.wrap .u8 n = n := by
  have : IntKind.wrap .u8 n = n % 256 := by simp [IntKind.wrap, IntKind.bits, IntKind.signed]
  omega
-- At a leaf: the data's operations as they are.
end Go.AW
