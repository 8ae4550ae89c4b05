/- The abstract calculus, part 21: a region that draws its order does what its schedule tells. -/
import Derived.Test.YtfidphaoddenlaaAw20
set_option linter.unusedVariables false
set_option linter.unusedSimpArgs false
namespace Go.AW

section
variable {P : Program} {w0 : World} {mine : FP} {E : Env} {ops : Array Oper} {K : St → Prop} {Φ : Act → Prop} {N : Nat}

structure Sim (P : Program) (w0 : World) (mine : FP) (E : Env) (ops : Array Oper) (K : St → Prop) (Φ : Act → Prop) (N : Nat) (ex : Nat → Prop) (done rest q : List Nat) (γ : Ghost) (σ : St) (as a : Act) (w : World) : Prop where
  R : Rel w0 mine γ σ as w
  d2 : Φ a
  sz : a.tmps.size = as.tmps.size
  eq : ∀ t, a.tmps.getD t undef = as.tmps.getD t undef ∨ ∃ j oj, j ∈ q ∧ ¬ ex j ∧ ops.toList[j]? = some oj ∧ oj.dst = some t
  pend : ∀ j oj, j ∈ q → ¬ ex j → ops.toList[j]? = some oj → Pend P ops oj as w
  run : opsG std E (Csem P w0 mine) ops.toList (befL ops.toList []) rest q σ K
  po : (done ++ rest).Pairwise (PO E ops.toList)
  sub : q.Sublist done
  all : ∀ i, i < ops.size → i ∈ done ++ rest
  qq : ∀ j oj, j ∈ q → ops.toList[j]? = some oj → quietOp E oj.op = true
  dn : ∀ i, i ∈ done → i ∈ q ∨ ex i
  rs : ∀ i, i ∈ rest → ¬ ex i
  cl : Closed ops.toList ex
  slen : σ.slots.length = N

/-- The schedule stands at a loud operation or at its end. -/
def AtLoud (E : Env) (ops : Array Oper) (rest : List Nat) : Prop := rest = [] ∨ ∃ g r og, rest = g :: r ∧ ops.toList[g]? = some og ∧ quietOp E og.op = false

theorem settle (hE : EnvOk P E) (hself : SelfOk E ops.toList N) {ex : Nat → Prop} {a : Act} {w : World} : ∀ (rest done q : List Nat) (γ : Ghost) (σ : St) (as : Act), Sim P w0 mine E ops K Φ N ex done rest q γ σ as a w →
    ∃ done' rest' q' γ' σ' as', Sim P w0 mine E ops K Φ N ex done' rest' q' γ' σ' as' a w ∧ AtLoud E ops rest'
  | [], done, q, γ, σ, as, S => ⟨done, [], q, γ, σ, as, S, .inl rfl⟩
  | i :: r, done, q, γ, σ, as, S => by
    have hrun := S.run
    simp only [opsG] at hrun
    split at hrun
    · rename_i o hi
      rw [nthO_getElem?] at hi
      cases hq : quietOp E o.op with
      | false => exact ⟨done, i :: r, q, γ, σ, as, S, .inr ⟨i, r, o, rfl, hi, hq⟩⟩
      | true =>
        simp only [hq] at hrun
        obtain ⟨V, u, hk, hv, hstep⟩ := quiet_step hE S.R ops o hq hrun
        obtain ⟨d, hd⟩ := hself.isSome i o hi hq
        obtain ⟨hdN, hdr⟩ := hself.dst i o hi d hd
        have hsel := hself.sel i o hi
        have hlt : d < as.tmps.size := by rw [S.R.size, S.slen]; exact hdN
        have hpo : ∀ j, j ∈ done → PO E ops.toList j i := fun j hj => (List.pairwise_append.mp S.po).2.2 j hj i (by simp)
        have hni : ¬ ex i := S.rs i (by simp)
        refine settle hE hself r (done ++ [i]) (q ++ [i]) γ (setD σ o.dst V) (as.put o.dst u) ?_
        rw [hd] at hk ⊢
        refine ⟨S.R.set _ V u hv, S.d2, by rw [put_size]; exact S.sz, ?_, ?_, hk, by simpa using S.po, S.sub.append (List.Sublist.refl _), by simpa using S.all, ?_, ?_, fun j hj => S.rs j (by simp [hj]), S.cl, by simp [setD, setN_length, S.slen]⟩
        · intro t
          rw [getD_put]
          by_cases ht : t = d ∧ d < as.tmps.size
          · exact .inr ⟨i, o, by simp, hni, hi, by rw [hd, ht.1]⟩
          · rw [if_neg ht]
            rcases S.eq t with h | ⟨j, oj, hj, h⟩
            · exact .inl h
            · exact .inr ⟨j, oj, by simp [hj], h⟩
        · intro j oj hj hn ho
          rcases List.mem_append.mp hj with hj | hj
          · obtain ⟨h3, h4⟩ := (hpo j (S.sub.subset hj)).quiet_later ho hi hq hd
            exact (S.pend j oj hj hn ho).put h3 h4
          · simp at hj; subst hj
            rw [hi] at ho; cases ho
            exact Pend.self hsel hstep (hdr hq) hd hlt
        · intro j oj hj ho
          rcases List.mem_append.mp hj with hj | hj
          · exact S.qq j oj hj ho
          · simp at hj; subst hj
            rw [hi] at ho; cases ho; exact hq
        · intro j hj
          rcases List.mem_append.mp hj with hj | hj
          · rcases S.dn j hj with h | h
            · exact .inl (by simp [h])
            · exact .inr h
          · exact .inl (by simp at hj; simp [hj])
    · exact hrun.elim

theorem closed_add {L : List Oper} {ex : Nat → Prop} (hc : Closed L ex) {i : Nat} {o : Oper} (hi : L[i]? = some o) (hr : ∀ m, m ∈ afterL o → ex m) : Closed L (fun j => j = i ∨ ex j) := by
  intro j oj hj he m hm
  rcases he with rfl | he
  · rw [hi] at hj; cases hj
    exact .inr (hr m hm)
  · exact .inr (hc j oj hj he m hm)

/-- What a ready operation reads is as in the canonical frame. -/
theorem Sim.agree (hself : SelfOk E ops.toList N) {ex : Nat → Prop} {done rest q : List Nat} {γ : Ghost} {σ : St} {as a : Act} {w : World} (S : Sim P w0 mine E ops K Φ N ex done rest q γ σ as a w) {i : Nat} {o : Oper} (hi : ops.toList[i]? = some o) (hlt : i < ops.size)
    (hr : ∀ m, m ∈ afterL o → ex m) : Agree ops.toList o as a := by
  intro t ht
  rcases S.eq t with h | ⟨j, oj, hj, hn, ho, hd⟩
  · exact h
  · exfalso
    have hbef := bef_sub S.cl i o hi hr
    have hqj := S.qq j oj hj ho
    have hjm := S.sub.subset hj
    rcases List.mem_append.mp (S.all i hlt) with hid | hid
    · -- both among those done: which comes first?
      by_cases hij : i = j
      · subst hij
        rw [hi] at ho; cases ho
        exact (hself.dst i o hi t hd).2 hqj ht
      · have hpd := (List.pairwise_append.mp S.po).1
        rcases pairwise_either hpd hid hjm hij with h | h
        · exact (h.quiet_later hi ho hqj hd).1 ht
        · exact hn (hbef j (h.reads ho hi hqj hd ht))
    · have hpo : PO E ops.toList j i := (List.pairwise_append.mp S.po).2.2 j hjm i hid
      exact hn (hbef j (hpo.reads ho hi hqj hd ht))
  where
  pairwise_either {α : Type} {r : α → α → Prop} : ∀ {l : List α}, l.Pairwise r → ∀ {x y : α}, x ∈ l → y ∈ l → x ≠ y → r x y ∨ r y x := by
    intro l h
    induction h with
    | nil => intro x y hx; simp at hx
    | cons ha _ ih =>
      intro x y hx hy hne
      rcases List.mem_cons.mp hx with ex | hx'
      · rcases List.mem_cons.mp hy with ey | hy'
        · exact absurd (ex.trans ey.symm) hne
        · rw [ex]; exact .inl (ha _ hy')
      · rcases List.mem_cons.mp hy with ey | hy'
        · rw [ey]; exact .inr (ha _ hx')
        · exact ih hx' hy' hne

theorem sim_step (hE : EnvOk P E) (hΦ : KeepsO Φ ops.toList) (hself : SelfOk E ops.toList N) {Q : Exit → Act → World → Prop} {ex : Nat → Prop} {done rest q : List Nat} {γ : Ghost} {σ : St} {as a : Act} {w : World} (S : Sim P w0 mine E ops K Φ N ex done rest q γ σ as a w) (hL : AtLoud E ops rest)
    {i : Nat} {o : Oper} (hi : ops.toList[i]? = some o) (hlt : i < ops.size) (hn : ¬ ex i) (hr : ∀ m, m ∈ afterL o → ex m) {K' : Act → World → Prop}
    (hK : ∀ done rest q γ σ as a w, Sim P w0 mine E ops K Φ N (fun j => j = i ∨ ex j) done rest q γ σ as a w → AtLoud E ops rest → K' a w) : wpOp P ops Q i K' a w := by
  have hA := S.agree hself hi hlt hr
  have hbef := bef_sub S.cl i o hi hr
  have hio : ops[i]? = some o := by simpa using hi
  have hsel := hself.sel i o hi
  have hcl := closed_add S.cl hi hr
  rcases List.mem_append.mp (S.all i hlt) with hid | hid
  · -- a quiet one that has been told
    have hiq : i ∈ q := (S.dn i hid).resolve_right hn
    have hqi := S.qq i o hiq hi
    obtain ⟨d, hd⟩ := hself.isSome i o hi hqi
    have hstep := S.pend i o hiq hn hi d hd a hA
    have hdlt : d < a.tmps.size := by rw [S.sz, S.R.size, S.slen]; exact (hself.dst i o hi d hd).1
    have hnext : K' (a.put o.dst (as.tmps.getD d undef)) w := by
      refine hK done rest q γ σ as _ w ⟨S.R, hΦ o (List.mem_of_getElem? hi) _ _ S.d2, by rw [put_size]; exact S.sz, ?_, fun j oj hj hnj => S.pend j oj hj (fun c => hnj (.inr c)), S.run, S.po, S.sub, S.all, S.qq, ?_, ?_, hcl, S.slen⟩ hL
      · intro t
        rw [hd, getD_put]
        by_cases ht : t = d ∧ d < a.tmps.size
        · rw [if_pos ht, ht.1]; exact .inl rfl
        · rw [if_neg ht]
          rcases S.eq t with h | ⟨j, oj, hj, hnj, ho, hdj⟩
          · exact .inl h
          · refine .inr ⟨j, oj, hj, ?_, ho, hdj⟩
            rintro (rfl | c)
            · rw [hi] at ho; cases ho
              rw [hd] at hdj; cases hdj
              exact ht ⟨rfl, hdlt⟩
            · exact hnj c
      · intro j hj
        rcases S.dn j hj with h | h
        · exact .inl h
        · exact .inr (.inr h)
      · rintro j hj (rfl | c)
        · -- a quiet one done does not stand in the rest
          have hpo := (List.pairwise_append.mp S.po).2.2 j hid j hj
          exact ((hpo.quiet_later hi hi hqi hd).2 hd)
        · exact S.rs j hj c
    unfold wpOp
    simp only [hio]
    rcases hstep with ⟨hw, hrn⟩ | ⟨hw, hu⟩
    · rw [if_pos hw]
      refine .inl ?_
      unfold Oper.wp
      rw [hrn]; exact hnext
    · rw [if_neg (by rw [hw]; simp), ← hu]
      exact hnext
  · -- the loud one that comes next
    rcases hL with rfl | ⟨g, r, og, rfl, hg, hqg⟩
    · simp at hid
    have hig : i = g := by
      rcases List.mem_cons.mp hid with h | h
      · exact h
      · exfalso
        have hpo : PO E ops.toList g i := (List.pairwise_cons.mp (List.pairwise_append.mp S.po).2.1).1 i h
        exact S.rs g (by simp) (hbef g (hpo.loud hg hqg))
    subst hig
    rw [hi] at hg; cases hg
    have hrun := S.run
    simp only [opsG, nthO_getElem?, hi, hqg] at hrun
    have hst := stepP_sound hE S.R ops o hrun
    -- behind it
    have hnext : ∀ u w', Post w0 mine as (fun v σ' => recheckP std E (Csem P w0 mine) ops.toList (setD σ' o.dst v) (q.filter fun j => !(memN (getN [] (befL ops.toList []) i) j)) (opsG std E (Csem P w0 mine) ops.toList (befL ops.toList []) r q (setD σ' o.dst v) K)) u w' → K' (a.put o.dst u) w' := by
      intro u w' hp
      obtain ⟨V, σ', γ', hk, R', hv⟩ := hp
      have R1 := R'.set o.dst V u hv
      have hslen : (setD σ' o.dst V).slots.length = N := by rw [← R1.size, put_size, S.R.size, S.slen]
      have hpq : ([] ++ q.filter fun j => !(memN (getN [] (befL ops.toList []) i) j)).Pairwise (PO E ops.toList) := by
        rw [List.nil_append]
        exact (List.pairwise_append.mp S.po).1.sublist (List.filter_sublist.trans S.sub)
      obtain ⟨hrun', as', Ra, hda, hsa, hea, hpe⟩ := recheck_sound hE hself ex hslen _ [] _ hpq (fun j oj hj ho => S.qq j oj (by simp at hj; exact hj.1) ho) (fun j oj hj => by simp at hj) R1 hk
      have hnbef : ∀ j, j ∈ q → ¬ ex j → j ∈ q.filter fun j => !(memN (getN [] (befL ops.toList []) i) j) := by
        intro j hj hnj
        rw [List.mem_filter]
        refine ⟨hj, ?_⟩
        cases hm : memN (getN [] (befL ops.toList []) i) j with
        | false => rfl
        | true => exact absurd (hbef j ((memN_iff _ _).mp hm)) hnj
      have S1 : Sim P w0 mine E ops K Φ N (fun j => j = i ∨ ex j) (done ++ [i]) r q γ' (setD σ' o.dst V) as' (a.put o.dst u) w' := by
        refine ⟨Ra, hΦ o (List.mem_of_getElem? hi) _ _ S.d2, by rw [put_size, hsa, put_size]; exact S.sz, ?_, ?_, hrun', by simpa using S.po, S.sub.trans (List.sublist_append_left _ _), by simpa using S.all, S.qq, ?_, ?_, hcl, hslen⟩
        · intro t
          have hput : ∀ (b : Act), (b.put o.dst u).tmps.getD t undef = match o.dst with | some d => if t = d ∧ d < b.tmps.size then u else b.tmps.getD t undef | none => b.tmps.getD t undef := by
            intro b
            cases o.dst with
            | none => rfl
            | some d => exact getD_put b d t u
          have hne : ∀ j oj, j ∈ q → ¬ ex j → ops.toList[j]? = some oj → ¬ (j = i ∨ ex j) := by
            rintro j oj hj hnj ho (rfl | c)
            · rw [hi] at ho; cases ho
              have := S.qq j o hj hi
              rw [hqg] at this; cases this
            · exact hnj c
          rcases hea t with h | ⟨j, oj, hj, hnj, ho, hdj⟩
          · rw [h]
            rcases S.eq t with h2 | ⟨j, oj, hj, hnj, ho, hdj⟩
            · left
              rw [hput, hput]
              cases o.dst with
              | none => exact h2
              | some d => simp only [S.sz, h2]
            · exact .inr ⟨j, oj, hj, hne j oj hj hnj ho, ho, hdj⟩
          · have hj' : j ∈ q := by simp at hj; exact hj.1
            exact .inr ⟨j, oj, hj', hne j oj hj' hnj ho, ho, hdj⟩
        · intro j oj hj hnj ho
          have hnj' : ¬ ex j := fun c => hnj (.inr c)
          exact hpe j oj (by simpa using hnbef j hj hnj') hnj' ho
        · intro j hj
          rcases List.mem_append.mp hj with hj | hj
          · rcases S.dn j hj with h | h
            · exact .inl h
            · exact .inr (.inr h)
          · simp at hj; exact .inr (.inl hj)
        · rintro j hj (rfl | c)
          · have hpo : PO E ops.toList j j := (List.pairwise_cons.mp (List.pairwise_append.mp S.po).2.1).1 j hj
            -- a loud operation comes before itself: against the order
            have := hpo.loud hi hqg
            exact hn (hbef j this)
          · exact S.rs j (by simp [hj]) c
      obtain ⟨done', rest', q', γ'', σ'', as'', S2, hL'⟩ := settle hE hself _ _ _ _ _ _ S1
      exact hK _ _ _ _ _ _ _ _ S2 hL'
    unfold wpOp
    simp only [hio]
    rcases hst with ⟨hw, hd⟩ | ⟨hw, hp⟩
    · rw [← hA.wanted] at hw
      rw [if_pos hw]
      refine .inl ?_
      unfold Oper.wp
      rw [hA.exec hsel]
      rcases hd with ⟨u, w', hr', hp⟩ | ⟨w', hr', hp⟩ | ⟨f, args, hr', hc⟩
      · rw [hr']; exact hnext u w' hp
      · rw [hr']; exact hnext undef w' hp
      · rw [hr']
        refine Calls.mono hc (fun e w' he => ?_)
        obtain ⟨u, rfl, hp⟩ := he
        exact hnext u w' hp
    · rw [← hA.wanted] at hw
      rw [if_neg (by rw [hw]; simp)]
      exact hnext undef w hp
end
end Go.AW
