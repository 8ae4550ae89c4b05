/- The abstract calculus, part 15: slicing, conversions, fields, tuples of parts. -/
import Derived.Test.YtfidphaoddenlaaAw14
import Derived.Laws.Slices
import Derived.Laws.BytesString
import Derived.Laws.BytesArg
set_option linter.unusedVariables false
set_option linter.unusedSimpArgs false
namespace Go.AW

theorem shO_std (lo : Option Nat) (f : Nat → List DV) : shO std lo f = fun i => f (lo.getD 0 + i) := by
  cases lo <;> simp [shO, std]
theorem offO_std (lo : Option Nat) (off : Nat) : offO std lo off = off + lo.getD 0 := by
  cases lo with
  | none => simp [offO]
  | some a => cases off <;> simp [offO, std, Nat.add_comm]

section
variable {P : Program} {w0 w w' : World} {mine : FP} {γ γ' : Ghost} {σ : St} {a : Act} {k : V → St → Prop} {E : Env}

theorem intO_some {x : Option Operand} {r : Option Int} (R : Rel w0 mine γ σ a w) (h : intO σ x = some r) : ∃ kk : IntKind, x.map a.eval = r.map (Value.int kk) := by
  cases x with
  | none => simp [intO] at h; subst h; exact ⟨.i64, rfl⟩
  | some x =>
    simp only [intO] at h
    split at h
    · rename_i n hn
      simp at h; subst h
      obtain ⟨kk, hk⟩ := R.int hn
      exact ⟨kk, by simp [hk]⟩
    · simp at h

theorem boundsP_sound {lo hi : Option Int} {n : Nat} {K : Option Nat → Nat → Prop} (h : boundsP std lo hi n K) :
    ∃ l m, K l m ∧ l.getD 0 + m ≤ n ∧ ∀ (kl kh : IntKind) (b : Bool) (cap : Nat), n ≤ cap → (Instr.sliceBounds b n cap (lo.map (Value.int kl)) (hi.map (Value.int kh)) none).run P w = .ok (l.getD 0, l.getD 0 + m, cap) w := by
  unfold boundsP at h
  split at h <;> try simp only [need, std, decide_eq_true_eq] at h
  · rename_i l hh
    obtain ⟨h1, h2, h3, h4⟩ := h
    refine ⟨_, _, h4, by simp; omega, fun kl kh b cap hc => ?_⟩
    have e : l.toNat + (hh.toNat - l.toNat) = hh.toNat := by omega
    simp only [Instr.sliceBounds, Option.map_some, Sem.run_bind, Sem.run_pure, Result.andThen_ok, Option.getD_some, e]
    rw [run_sliceBound w kh hh cap _ (by omega) (by omega)]
    simp only [Result.andThen_ok, Sem.run_bind]
    rw [run_sliceBound w kl l _ _ (by omega) (by omega)]
    simp
  · rename_i l
    obtain ⟨h1, h2, h4⟩ := h
    refine ⟨_, _, h4, by simp; omega, fun kl kh b cap hc => ?_⟩
    have e : l.toNat + ((n : Int).toNat - l.toNat) = n := by omega
    simp only [Instr.sliceBounds, Option.map_some, Option.map_none, Sem.run_bind, Sem.run_pure, Result.andThen_ok, Option.getD_some, e]
    rw [run_sliceBound w kl l _ _ (by omega) (by omega)]
    simp
  · rename_i hh
    obtain ⟨h1, h3, h4⟩ := h
    refine ⟨_, _, h4, by simp; omega, fun kl kh b cap hc => ?_⟩
    simp only [Instr.sliceBounds, Option.map_some, Option.map_none, Sem.run_bind, Sem.run_pure, Result.andThen_ok, Option.getD_none, Nat.zero_add]
    rw [run_sliceBound w kh hh cap _ (by omega) (by omega)]
    simp
  · exact ⟨_, _, h, by simp, fun kl kh b cap hc => by simp [Instr.sliceBounds]⟩

theorem does_sliceS (hE : EnvOk P E) (R : Rel w0 mine γ σ a w) {d t p af g ty} {x : Operand} {lo hi : Option Operand} {l h : Option Int} {s : ByteArray} (hk : (E ty).k = .str) (hl : intO σ lo = some l) (hh : intO σ hi = some h)
    (hx : evA σ x = .one (.lf (.s (.string s)))) (hK : cutP std s l h fun s' => k (.one (.lf (.s (.string s')))) σ) : DoesQ P γ σ a w ⟨d, .slice ty x lo hi none, t, p, af, g⟩ k := by
  have hT := hE ty (by rw [hk]; simp)
  have hxv := R.ev x
  rw [hx] at hxv
  have hx2 : a.eval x = .string s := hxv.2
  obtain ⟨kl, hl'⟩ := intO_some R hl
  obtain ⟨kh, hh'⟩ := intO_some R hh
  have hB : boundsP std l h s.size fun L m => ∃ s', k (.one (.lf (.s (.string s')))) σ ∧ s' = s.extract (L.getD 0) (L.getD 0 + m) := by
    unfold cutP at hK
    unfold boundsP
    split at hK <;> try simp only [need, std, decide_eq_true_eq] at hK ⊢
    · obtain ⟨h1, h2, h3, h4⟩ := hK
      exact ⟨h1, h2, h3, _, h4, by simp only [Option.getD_some]; congr 1; omega⟩
    · obtain ⟨h1, h2, h4⟩ := hK
      exact ⟨h1, h2, _, h4, by simp only [Option.getD_some]; congr 1; omega⟩
    · obtain ⟨h1, h2, h4⟩ := hK
      exact ⟨h1, h2, _, h4, by simp⟩
    · exact ⟨s, hK, by simp⟩
  obtain ⟨L, m, ⟨s', hk', he⟩, hle, hrun⟩ := boundsP_sound (P := P) (w := w) hB
  refine .value R hk' (rv_s rfl) (u := .string s') ?_
  have hS := hT.str hk
  simp only [execOp, hx2, Option.map_none, Sem.run_bind, run_sliceAt_string w ty _ _ _ _ hS, Instr.slice, run_underlying hS, Result.andThen_ok]
  simp only [hl', hh', Option.isSome_none, Bool.false_eq_true, if_false, Sem.run_bind, Sem.run_pure, Result.andThen_ok, hrun kl kh false s.size (Nat.le_refl _), he]

theorem run_slice_sl (hE : EnvOk P E) {ty e : Nat} {A : Option Addr} {n cap L m : Nat} {lo hi : Option Value} (hk : (E ty).k = .sl e) (hke : okK (E e).k = true) (hr : (Instr.sliceBounds true n cap lo hi none).run P w = .ok (L, L + m, cap) w) :
    (Instr.sliceAt ty (.slice A n cap) lo hi none).run P w = .ok (.slice (if cap = L then A else A.map (·.add (L * (E e).size))) m (cap - L)) w := by
  have hT := hE ty (by rw [hk]; simp)
  have hS := hT.sl hk
  have hz := (hE e (okK_ne hke)).run_size w
  simp only [Instr.sliceAt, Sem.run_bind, run_underlying hS, Result.andThen_ok, Instr.slice, hr, hz, Sem.run_pure]
  congr 2
  omega

theorem rot_cut {F : FP} {A : Option Addr} {n cap L m sz z : Nat} {f : Nat → List DV} (h : RoT w F (.slice A n cap) (.l z n f)) (hlen : ∀ i, i < n → (f i).length = sz) (hle : L + m ≤ n) :
    RoT w F (.slice (if cap = L then A else A.map (·.add (L * sz))) m (cap - L)) (.l z m fun i => f (L + i)) := by
  rcases Nat.eq_zero_or_pos m with h0 | h0
  · subst h0
    exact .nl _ _ _ _
  · obtain ⟨A', cap', hu, hc⟩ := ro_slice h
    cases hu
    obtain ⟨sz', ad, hA, hR, hs⟩ := ro_shift (u := undef) h L m hle h0
    have e : sz' = sz := by rw [← hs]; exact hlen 0 (by omega)
    subst e
    rw [hA, if_neg (by omega)]
    exact hR

theorem does_sliceP (hE : EnvOk P E) (R : Rel w0 mine γ σ a w) {d t p af g ty e} {x : Operand} {lo hi : Option Operand} {l h : Option Int} (hk : (E ty).k = .sl e) (hke : okK (E e).k = true) (hl : intO σ lo = some l) (hh : intO σ hi = some h)
    (hK : sliceP std (E e).size σ (evA σ x) l h fun v => k v σ) : DoesQ P γ σ a w ⟨d, .slice ty x lo hi none, t, p, af, g⟩ k := by
  have hxv := R.ev x
  obtain ⟨kl, hl'⟩ := intO_some R hl
  obtain ⟨kh, hh'⟩ := intO_some R hh
  have fin : ∀ {A : Option Addr} {n cap L m : Nat} {V : V}, a.eval x = .slice A n cap → (Instr.sliceBounds true n cap (l.map (Value.int kl)) (h.map (Value.int kh)) none).run P w = .ok (L, L + m, cap) w → k V σ →
      RV γ w V (.slice (if cap = L then A else A.map (·.add (L * (E e).size))) m (cap - L)) → DoesQ P γ σ a w ⟨d, .slice ty x lo hi none, t, p, af, g⟩ k := by
    intro A n cap L m V he hr hk' hv
    refine .value R hk' hv ?_
    simp only [execOp, he, Option.map_none, Sem.run_bind, hl', hh', run_slice_sl hE hk hke hr, Result.andThen_ok, Sem.run_pure]
  unfold sliceP at hK
  split at hK
  · rename_i hx0
    rw [hx0] at hxv
    obtain ⟨L, m, hk', hle, hrun⟩ := boundsP_sound (P := P) (w := w) hK
    have hL : L.getD 0 = 0 := by omega
    have hm : m = 0 := by omega
    have := hrun kl kh true 0 (Nat.le_refl _)
    refine fin (A := none) hxv.2 this hk' ?_
    rw [hL, hm]
    exact ⟨rfl, rfl⟩
  · rename_i n f hx0
    rw [hx0] at hxv
    obtain ⟨L, m, ⟨hlen, hk'⟩, hle, hrun⟩ := boundsP_sound (P := P) (w := w) hK
    obtain ⟨A, cap, he, hc⟩ := ro_slice hxv.2
    have h2 := hxv.2
    rw [he] at h2
    refine fin he (hrun kl kh true cap hc) hk' ⟨rfl, ?_⟩
    rw [shO_std]
    exact rot_cut h2 hlen hle
  · rename_i id n f hx0
    rw [hx0] at hxv
    obtain ⟨L, m, ⟨hlen, hk'⟩, hle, hrun⟩ := boundsP_sound (P := P) (w := w) hK
    obtain ⟨A, cap, he, hc⟩ := ro_slice hxv.2.2
    have h2 := hxv.2.2
    rw [he] at h2
    refine fin he (hrun kl kh true cap hc) hk' ⟨rfl, hxv.2.1, ?_⟩
    rw [shO_std]
    exact rot_cut h2 hlen hle
  · rename_i id i j v n hx0
    rw [hx0] at hxv
    obtain ⟨hz, hK⟩ := hK
    obtain ⟨L, m, hk', hle, hrun⟩ := boundsP_sound (P := P) (w := w) hK
    obtain ⟨c, hc, hw⟩ := hxv.2
    obtain ⟨A, cap, he, hcap⟩ := view_slice hw
    refine fin he (hrun kl kh true cap hcap) hk' ⟨rfl, c, hc, ?_⟩
    have hsub : subV std (E e).size L v = some ((v.map (·.1)).getD 0 + L.getD 0, (E e).size) := by
      cases v with
      | none => simp [subV, offO_std]
      | some ov => simp [subV, offO_std]
    rw [hsub]
    rcases Nat.eq_zero_or_pos m with h0 | h0
    · subst h0
      exact .inl ⟨rfl, _, _, rfl⟩
    · obtain ⟨b, o, N, capc, cap', h1, h2, h3, h4⟩ := view_at hw hz (by omega)
      rw [he] at h2
      cases h2
      refine .inr ⟨b, o, N, capc, cap - L.getD 0, h1, ?_, by omega, by omega⟩
      rw [if_neg (by omega), Option.map_some, add_at, Nat.add_mul, Nat.add_assoc]
  · rename_i id off n hx0
    rw [hx0] at hxv
    split at hK
    · rename_i sz' n' f hst
      obtain ⟨hz, hK⟩ := hK
      have hz := Nat.eq_of_beq_eq_true hz
      obtain ⟨L, m, hk', hle, hrun⟩ := boundsP_sound (P := P) (w := w) hK
      obtain ⟨g1, A, cap, hg, he, hc, hgn, htot, had⟩ := hxv.2
      obtain ⟨g1', hg', ho⟩ := R.st.objs id _ hst
      rw [hg] at hg'; cases hg'
      have hgs : g1.sz = (E e).size := by rw [← hz]; exact ho.2.1
      refine fin he (hrun kl kh true cap hc) hk' ⟨rfl, g1, _, cap - L.getD 0, hg, rfl, by omega, by rw [offO_std]; omega, ?_, fun hpos => ?_⟩
      · rw [offO_std, show off + L.getD 0 + (cap - L.getD 0) = off + cap by omega]; exact htot
      · obtain ⟨b, hb, hA⟩ := had (by omega)
        refine ⟨b, hb, ?_⟩
        rw [if_neg (by omega), hA, Option.map_some, add_at, offO_std, hgs, Nat.add_mul, Nat.add_assoc]
    · exact hK.elim
  · exact hK.elim
end
end Go.AW
