/- The abstract calculus, part 20: regions that draw their order. -/
import Derived.Test.YtfidphaoddenlaaAw19
set_option linter.unusedVariables false
set_option linter.unusedSimpArgs false
namespace Go.AW

theorem memN_iff : ∀ (l : List Nat) (n : Nat), memN l n = true ↔ n ∈ l
  | [], n => by simp [memN]
  | a :: l, n => by
    simp only [memN, List.mem_cons]
    cases h : Nat.beq a n with
    | true => have := Nat.eq_of_beq_eq_true h; subst this; simp
    | false =>
      have := Nat.ne_of_beq_eq_false h
      rw [cond_false, memN_iff l n]
      constructor
      · exact .inr
      · rintro (h | h)
        · exact absurd h.symm this
        · exact h

theorem foldl_mem {g : Nat → List Nat} : ∀ (l s : List Nat) (j : Nat), j ∈ l.foldl (fun s j => j :: (g j ++ s)) s → j ∈ s ∨ ∃ m, m ∈ l ∧ (j = m ∨ j ∈ g m)
  | [], s, j, h => .inl h
  | m :: l, s, j, h => by
    rcases foldl_mem l _ j h with h | ⟨m', hm, h⟩
    · simp only [List.mem_cons, List.mem_append] at h
      rcases h with h | h | h
      · exact .inr ⟨m, by simp, .inl h⟩
      · exact .inr ⟨m, by simp, .inr h⟩
      · exact .inl h
    · exact .inr ⟨m', by simp [hm], h⟩

theorem getN_append_left {α : Type} (d : α) : ∀ (l l' : List α) (n : Nat), n < l.length → getN d (l ++ l') n = getN d l n := by
  intro l l' n h
  rw [getN_getD, getN_getD, List.getD_eq_getElem?_getD, List.getD_eq_getElem?_getD, List.getElem?_append_left h]
theorem getN_out {α : Type} (d : α) (l : List α) (n : Nat) (h : l.length ≤ n) : getN d l n = d := by
  rw [getN_getD, List.getD_eq_getElem?_getD, List.getElem?_eq_none h]; rfl

theorem befL_old : ∀ (os : List Oper) (acc : List (List Nat)) (m : Nat), m < acc.length → getN [] (befL os acc) m = getN [] acc m
  | [], acc, m, h => rfl
  | o :: os, acc, m, h => by
    rw [befL, befL_old os _ m (by simp; omega), getN_append_left _ _ _ _ h]

theorem befL_spec : ∀ (os : List Oper) (acc : List (List Nat)) (i : Nat) (o : Oper), os[i]? = some o →
    ∀ j, j ∈ getN [] (befL os acc) (acc.length + i) → ∃ m, m ∈ afterL o ∧ (j = m ∨ (m < acc.length + i ∧ j ∈ getN [] (befL os acc) m))
  | [], acc, i, o, h => by simp at h
  | o' :: os, acc, 0, o, h => by
    simp at h; subst h
    intro j hj
    rw [befL, befL_old os _ _ (by simp), Nat.add_zero, getN_getD, List.getD_eq_getElem?_getD, List.getElem?_append_right (Nat.le_refl _)] at hj
    simp only [Nat.sub_self, List.getElem?_cons_zero, Option.getD_some] at hj
    rcases foldl_mem _ _ j hj with h | ⟨m, hm, h⟩
    · simp at h
    · refine ⟨m, hm, ?_⟩
      rcases h with h | h
      · exact .inl h
      · rcases Nat.lt_or_ge m acc.length with hl | hl
        · refine .inr ⟨by omega, ?_⟩
          rw [befL, befL_old os _ _ (by simp; omega), getN_append_left _ _ _ _ hl]
          exact h
        · rw [getN_out _ _ _ hl] at h; simp at h
  | o' :: os, acc, i + 1, o, h => by
    intro j hj
    have := befL_spec os (acc ++ [(afterL o').foldl (fun s j => j :: (getN [] acc j ++ s)) []]) i o (by simpa using h) j (by simpa [befL, Nat.add_assoc, Nat.add_comm 1 i] using hj)
    simpa [befL, Nat.add_assoc, Nat.add_comm 1 i] using this

/-- What has been done is closed under what must come before. -/
def Closed (L : List Oper) (ex : Nat → Prop) : Prop := ∀ (i : Nat) (o : Oper), L[i]? = some o → ex i → ∀ m, m ∈ afterL o → ex m

theorem bef_sub {L : List Oper} {ex : Nat → Prop} (hc : Closed L ex) : ∀ (i : Nat) (o : Oper), L[i]? = some o → (∀ m, m ∈ afterL o → ex m) → ∀ j, j ∈ getN [] (befL L []) i → ex j := by
  intro i
  induction i using Nat.strongRecOn with
  | _ i ih =>
    intro o ho ha j hj
    obtain ⟨m, hm, h⟩ := befL_spec L [] i o ho j (by simpa using hj)
    rcases h with rfl | ⟨hlt, h⟩
    · exact ha _ hm
    · simp only [List.length_nil, Nat.zero_add] at hlt
      have hL : i < L.length := (List.getElem?_eq_some_iff.mp ho).1
      have hm' : L[m]? = some L[m] := List.getElem?_eq_getElem (by omega)
      exact ih m hlt _ hm' (hc m _ hm' (ha m hm)) j h

def PO (E : Env) (L : List Oper) (i j : Nat) : Prop := ∃ oi oj, L[i]? = some oi ∧ L[j]? = some oj ∧ pairOk E L (befL L []) i j oi oj = true

theorem pairsOk_spec {E : Env} {L : List Oper} : ∀ (l : List Nat), pairsOk E L (befL L []) l = true → l.Pairwise (PO E L)
  | [], _ => .nil
  | i :: l, h => by
    simp only [pairsOk, Bool.and_eq_true, List.all_eq_true] at h
    refine .cons (fun j hj => ?_) (pairsOk_spec l h.2)
    have := h.1 j hj
    split at this
    · rename_i oi oj h1 h2
      rw [nthO_getElem?] at h1 h2
      exact ⟨oi, oj, h1, h2, this⟩
    · simp at this

structure SelfOk (E : Env) (L : List Oper) (N : Nat) : Prop where
  lt : ∀ (i : Nat) (o : Oper), L[i]? = some o → ∀ m, m ∈ afterL o → m < i
  dst : ∀ (i : Nat) (o : Oper), L[i]? = some o → ∀ d, o.dst = some d → d < N ∧ (quietOp E o.op = true → d ∉ readsL L o)
  isSome : ∀ (i : Nat) (o : Oper), L[i]? = some o → quietOp E o.op = true → ∃ d, o.dst = some d
  sel : ∀ (i : Nat) (o : Oper), L[i]? = some o → isSelect o.op = false

theorem selfOk_spec {E : Env} {L : List Oper} {N : Nat} : ∀ (os : List Oper) (n : Nat), selfOk E L N os n = true → ∀ (i : Nat) (o : Oper), os[i]? = some o →
    (∀ m, m ∈ afterL o → m < n + i) ∧ (∀ d, o.dst = some d → d < N ∧ (quietOp E o.op = true → d ∉ readsL L o)) ∧ (quietOp E o.op = true → ∃ d, o.dst = some d) ∧ isSelect o.op = false
  | [], n, _, i, o, h => by simp at h
  | o' :: os, n, hk, 0, o, h => by
    simp at h; subst h
    simp only [selfOk, Bool.and_eq_true, List.all_eq_true] at hk
    obtain ⟨⟨⟨h1, h2⟩, h3⟩, _⟩ := hk
    refine ⟨fun m hm => by simpa using h1 m hm, ?_, ?_, by simpa using h2⟩
    · intro d hd
      rw [hd] at h3
      simp only [Bool.and_eq_true, Bool.or_eq_true] at h3
      refine ⟨by simpa using h3.1, fun hq hm => ?_⟩
      rcases h3.2 with h | h
      · simp [hq] at h
      · have := (memN_iff _ _).mpr hm
        simp [this] at h
    · intro hq
      cases hd : o'.dst with
      | some d => exact ⟨d, rfl⟩
      | none => rw [hd] at h3; simp [hq] at h3
  | o' :: os, n, hk, i + 1, o, h => by
    simp only [selfOk, Bool.and_eq_true] at hk
    have := selfOk_spec os (n + 1) hk.2 i o (by simpa using h)
    rw [show n + (i + 1) = n + 1 + i by omega]
    exact this

theorem SelfOk.of {E : Env} {L : List Oper} {N : Nat} (h : selfOk E L N L 0 = true) : SelfOk E L N where
  lt := fun i o ho => by have := (selfOk_spec L 0 h i o ho).1; simpa using this
  dst := fun i o ho => (selfOk_spec L 0 h i o ho).2.1
  isSome := fun i o ho => (selfOk_spec L 0 h i o ho).2.2.1
  sel := fun i o ho => (selfOk_spec L 0 h i o ho).2.2.2

theorem allIn_spec {l : List Nat} : ∀ (n : Nat), allIn l n = true → ∀ i, i < n → i ∈ l
  | 0, _, i, h => by omega
  | n + 1, hk, i, h => by
    simp only [allIn, Bool.and_eq_true] at hk
    rcases Nat.lt_or_ge i n with h' | h'
    · exact allIn_spec n hk.2 i h'
    · have : i = n := by omega
      subst this
      exact (memN_iff _ _).mp hk.1

/-! What the pairs say -/
section
variable {E : Env} {L : List Oper} {i j : Nat} {oi oj : Oper}
theorem PO.quiet_later (h : PO E L i j) (hi : L[i]? = some oi) (hj : L[j]? = some oj) (hq : quietOp E oj.op = true) {d : Nat} (hd : oj.dst = some d) : d ∉ readsL L oi ∧ oi.dst ≠ some d := by
  obtain ⟨oi', oj', h1, h2, h⟩ := h
  rw [hi] at h1; rw [hj] at h2; cases h1; cases h2
  simp only [pairOk, Bool.and_eq_true, hd, hq] at h
  obtain ⟨⟨⟨_, h, h'⟩, _⟩, _⟩ := h
  refine ⟨fun hm => ?_, fun hm => ?_⟩
  · rw [(memN_iff _ _).mpr hm] at h; simp at h
  · rw [hm] at h'
    have : Nat.beq d d = true := Nat.beq_refl d
    simp [this] at h'
theorem PO.reads (h : PO E L i j) (hi : L[i]? = some oi) (hj : L[j]? = some oj) (hq : quietOp E oi.op = true) {d : Nat} (hd : oi.dst = some d) (hr : d ∈ readsL L oj) : i ∈ getN [] (befL L []) j := by
  obtain ⟨oi', oj', h1, h2, h⟩ := h
  rw [hi] at h1; rw [hj] at h2; cases h1; cases h2
  simp only [pairOk, Bool.and_eq_true, hd, hq] at h
  have h3 := h.1.2
  rw [(memN_iff _ _).mpr hr] at h3
  simp only [Bool.not_true, Bool.false_or] at h3
  exact (memN_iff _ _).mp h3
theorem PO.loud (h : PO E L i j) (hi : L[i]? = some oi) (hq : quietOp E oi.op = false) : i ∈ getN [] (befL L []) j := by
  obtain ⟨oi', oj', h1, h2, h⟩ := h
  rw [hi] at h1; cases h1
  simp only [pairOk, Bool.and_eq_true, hq, Bool.false_or] at h
  exact (memN_iff _ _).mp h.2
theorem PO.get (h : PO E L i j) : (∃ oi, L[i]? = some oi) ∧ ∃ oj, L[j]? = some oj := by
  obtain ⟨oi, oj, h1, h2, _⟩ := h
  exact ⟨⟨oi, h1⟩, oj, h2⟩
end

def Agree (L : List Oper) (o : Oper) (a a' : Act) : Prop := ∀ t, t ∈ readsL L o → a'.tmps.getD t undef = a.tmps.getD t undef

theorem yielded_getD (ops : Array Oper) (tmps : Array Value) (j : Nat) : yielded ops tmps j = match (ops[j]?).bind (·.dst) with
    | some d => (match tmps.getD d undef with | .bool b => some b | _ => none)
    | none => none := by
  unfold yielded
  cases h : (ops[j]?).bind (·.dst) with
  | none => rfl
  | some d =>
    simp only [Option.bind_some]
    rcases Nat.lt_or_ge d tmps.size with hl | hl
    · simp only [Array.getElem?_eq_getElem hl, Array.getD, hl, dif_pos]
      show (match some tmps[d] with | some (.bool b) => some b | _ => none) = match tmps[d] with | .bool b => some b | _ => none
      generalize tmps[d] = v
      cases v <;> rfl
    · simp [Array.getElem?_eq_none hl, Array.getD, Nat.not_lt.mpr hl, undef]

section
variable {P : Program} {w0 w w' : World} {mine : FP} {γ γ' : Ghost} {σ : St} {a a' as : Act} {k : V → St → Prop} {E : Env} {ops : Array Oper} {o : Oper}

theorem Agree.exec (h : Agree ops.toList o a a') (hs : isSelect o.op = false) : execOp a'.eval o = execOp a.eval o :=
  execOp_congr o (fun cs b e => by rw [e] at hs; simp [isSelect] at hs) fun x hx => by
    cases x with
    | tmp t =>
      refine h t ?_
      simp only [readsL, List.mem_append, tmpsOf, List.mem_filterMap]
      exact .inl ⟨.tmp t, by simpa using hx, rfl⟩
    | const v => rfl
    | func f => rfl
    | global g => rfl

theorem Agree.wanted (h : Agree ops.toList o a a') : Region.wanted o (yielded ops a'.tmps) = Region.wanted o (yielded ops a.tmps) := by
  unfold Region.wanted
  cases hg : o.guard with
  | none => rfl
  | some gw =>
    obtain ⟨j, want⟩ := gw
    simp only [yielded_getD]
    cases hd : (ops[j]?).bind (·.dst) with
    | none => rfl
    | some d =>
      have : d ∈ readsL ops.toList o := by
        simp only [readsL, hg, nthO_getElem?, Array.getElem?_toList, List.mem_append]
        right
        cases ho : ops[j]? with
        | none => simp [ho] at hd
        | some oj => simp [ho] at hd; simp [hd]
      simp only [h d this]

def StepV (P : Program) (ops : Array Oper) (o : Oper) (a : Act) (w : World) (u : Value) : Prop :=
  (Region.wanted o (yielded ops a.tmps) = true ∧ (execOp a.eval o).run P w = .ok (.value u) w) ∨ (Region.wanted o (yielded ops a.tmps) = false ∧ u = undef)
theorem StepV.agree {u : Value} (h : StepV P ops o a w u) (hA : Agree ops.toList o a a') (hs : isSelect o.op = false) : StepV P ops o a' w u := by
  unfold StepV at *
  rw [hA.wanted, hA.exec hs]
  exact h

theorem quiet_step {C : CallT} (hE : EnvOk P E) (R : Rel w0 mine γ σ a w) (ops : Array Oper) (o : Oper) (hq : quietOp E o.op = true) (h : stepP std E C ops.toList σ o k) :
    ∃ V u, k V σ ∧ RV γ w V u ∧ StepV P ops o a w u := by
  have yes : ∀ (hw : Region.wanted o (yielded ops a.tmps) = true), opP std E C σ o k → ∃ V u, k V σ ∧ RV γ w V u ∧ StepV P ops o a w u := fun hw h =>
    let ⟨V, u, hk, hv, hr⟩ := opQ_sound hE R o hq h
    ⟨V, u, hk, hv, .inl ⟨hw, hr⟩⟩
  have no : ∀ (hw : Region.wanted o (yielded ops a.tmps) = false), k undefV σ → ∃ V u, k V σ ∧ RV γ w V u ∧ StepV P ops o a w u := fun hw h => ⟨undefV, undef, h, rv_undef, .inr ⟨hw, rfl⟩⟩
  unfold stepP at h
  split at h
  · rename_i hg
    exact yes (by simp [Region.wanted, hg]) h
  · rename_i j want hg
    split at h
    · rename_i oj hj
      split at h
      · rename_i d hd
        split at h
        · rename_i b hv
          obtain ⟨hy, hs⟩ := yielded_bool R (ops := ops) hj hd hv
          have hwant : Region.wanted o (yielded ops a.tmps) = (some b == some want) := by simp [Region.wanted, hg, hy]
          cases b with
          | true =>
            rw [hs] at h
            cases want with
            | true => exact yes (by rw [hwant]; rfl) h
            | false => exact no (by rw [hwant]; rfl) h
          | false =>
            rw [hs] at h
            cases want with
            | true => exact no (by rw [hwant]; rfl) h
            | false => exact yes (by rw [hwant]; rfl) h
        · rename_i hv
          have hy := yielded_none R (ops := ops) hj hd hv
          exact no (by simp [Region.wanted, hg, hy]) h
        · exact h.elim
      · exact h.elim
    · exact h.elim

/-- It may still come: it will give what the canonical frame holds. -/
def Pend (P : Program) (ops : Array Oper) (o : Oper) (as : Act) (w : World) : Prop :=
  ∀ d, o.dst = some d → ∀ a', Agree ops.toList o as a' → StepV P ops o a' w (as.tmps.getD d undef)

theorem getD_put (as : Act) (d t : Nat) (u : Value) : (as.put (some d) u).tmps.getD t undef = if t = d ∧ d < as.tmps.size then u else as.tmps.getD t undef := by
  simp only [Act.put, Array.getD_eq_getD_getElem?, Array.getElem?_setIfInBounds]
  by_cases h : d = t
  · subst h
    by_cases h2 : d < as.tmps.size
    · simp [h2]
    · simp [h2]
  · rw [if_neg h, if_neg (fun c => h c.1.symm)]

theorem Pend.put {d : Nat} {u : Value} (h : Pend P ops o as w) (hr : d ∉ readsL ops.toList o) (hd : o.dst ≠ some d) : Pend P ops o (as.put (some d) u) w := by
  intro e he a' hA
  have hne : e ≠ d := fun c => hd (c ▸ he)
  rw [getD_put, if_neg (fun c => hne c.1)]
  refine h e he a' (fun t ht => ?_)
  have htd : t ≠ d := fun c => hr (c ▸ ht)
  have := hA t ht
  rwa [getD_put, if_neg (fun c => htd c.1)] at this

theorem Pend.self {d : Nat} {u : Value} (hs : isSelect o.op = false) (h : StepV P ops o as w u) (hr : d ∉ readsL ops.toList o) (hd : o.dst = some d) (hlt : d < as.tmps.size) : Pend P ops o (as.put (some d) u) w := by
  intro e he a' hA
  rw [hd] at he; cases he
  rw [getD_put, if_pos ⟨rfl, hlt⟩]
  refine h.agree (fun t ht => ?_) hs
  have htd : t ≠ d := fun c => hr (c ▸ ht)
  have := hA t ht
  rwa [getD_put, if_neg (fun c => htd c.1)] at this

theorem recheck_sound {C : CallT} (hE : EnvOk P E) {N : Nat} (hself : SelfOk E ops.toList N) (ex : Nat → Prop) {Pr : Prop} (hN : σ.slots.length = N) : ∀ (js pre : List Nat) (as : Act), (pre ++ js).Pairwise (PO E ops.toList) →
    (∀ j oj, j ∈ pre ++ js → ops.toList[j]? = some oj → quietOp E oj.op = true) →
    (∀ j oj, j ∈ pre → ¬ ex j → ops.toList[j]? = some oj → Pend P ops oj as w) → Rel w0 mine γ σ as w → recheckP std E C ops.toList σ js Pr →
    Pr ∧ ∃ as', Rel w0 mine γ σ as' w ∧ as'.defers = as.defers ∧ as'.tmps.size = as.tmps.size ∧ (∀ t, as'.tmps.getD t undef = as.tmps.getD t undef ∨ ∃ j oj, j ∈ js ∧ ¬ ex j ∧ ops.toList[j]? = some oj ∧ oj.dst = some t) ∧
      ∀ j oj, j ∈ pre ++ js → ¬ ex j → ops.toList[j]? = some oj → Pend P ops oj as' w
  | [], pre, as, hp, hq, hpend, R, h => ⟨h, as, R, rfl, rfl, fun t => .inl rfl, fun j oj hj => hpend j oj (by simpa using hj)⟩
  | j :: js, pre, as, hp, hq, hpend, R, h => by
    simp only [recheckP] at h
    split at h
    · rename_i oj hj
      rw [nthO_getElem?] at hj
      obtain ⟨h1, h2⟩ := h
      split at h1
      · rename_i d hd
        have hqj := hq j oj (by simp) hj
        obtain ⟨hdN, hdr⟩ := hself.dst j oj hj d hd
        have hsel := hself.sel j oj hj
        have hp' : ((pre ++ [j]) ++ js).Pairwise (PO E ops.toList) := by simpa using hp
        have hq' : ∀ j' oj, j' ∈ (pre ++ [j]) ++ js → ops.toList[j']? = some oj → quietOp E oj.op = true := fun j' oj hj' => hq j' oj (by simpa using hj')
        by_cases hex : ex j
        · obtain ⟨hP, as', R', hd', hs', he', hpe⟩ := recheck_sound hE hself ex hN js (pre ++ [j]) as hp' hq' (fun j' oj' hj' hn ho => by
            rcases List.mem_append.mp hj' with hj' | hj'
            · exact hpend j' oj' hj' hn ho
            · simp at hj'; subst hj'; exact absurd hex hn) R h2
          refine ⟨hP, as', R', hd', hs', fun t => ?_, fun j' oj' hj' => hpe j' oj' (by simpa using hj')⟩
          rcases he' t with h | ⟨j', oj', hj', h⟩
          · exact .inl h
          · exact .inr ⟨j', oj', by simp [hj'], h⟩
        · obtain ⟨V, u, hV, hv, hstep⟩ := quiet_step hE R ops oj hqj h1
          rw [hV] at hv
          have hlt : d < as.tmps.size := by rw [R.size, hN]; exact hdN
          have R1 := R.set (some d) (getN undefV σ.slots d) u hv
          have hset : setD σ (some d) (getN undefV σ.slots d) = σ := by
            simp only [setD]
            rw [setN_self undefV _ _ _ rfl (by rw [hN]; exact hdN)]
          rw [hset] at R1
          obtain ⟨hP, as', R', hd', hs', he', hpe⟩ := recheck_sound hE hself ex hN js (pre ++ [j]) (as.put (some d) u) hp' hq' (fun j' oj' hj' hn ho => by
            rcases List.mem_append.mp hj' with hj' | hj'
            · have hpo : PO E ops.toList j' j := (List.pairwise_append.mp hp).2.2 j' hj' j (by simp)
              obtain ⟨h3, h4⟩ := hpo.quiet_later ho hj hqj hd
              exact (hpend j' oj' hj' hn ho).put h3 h4
            · simp at hj'; subst hj'
              rw [hj] at ho; cases ho
              exact Pend.self hsel hstep (hdr hqj) hd hlt) R1 h2
          refine ⟨hP, as', R', by rw [hd', put_defers], by rw [hs', put_size], fun t => ?_, fun j' oj' hj' => hpe j' oj' (by simpa using hj')⟩
          rcases he' t with h | ⟨j', oj', hj', h⟩
          · rw [h, getD_put]
            by_cases ht : t = d ∧ d < as.tmps.size
            · exact .inr ⟨j, oj, by simp, hex, hj, by rw [hd, ht.1]⟩
            · rw [if_neg ht]; exact .inl rfl
          · exact .inr ⟨j', oj', by simp [hj'], h⟩
      · exact h1.elim
    · exact h.elim
end
end Go.AW
