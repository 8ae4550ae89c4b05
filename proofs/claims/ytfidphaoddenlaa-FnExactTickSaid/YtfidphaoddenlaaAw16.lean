/- The abstract calculus, part 16: structs built, fields, strings out of bytes, functions, min and max. -/
import Derived.Test.YtfidphaoddenlaaAw15
set_option linter.unusedVariables false
set_option linter.unusedSimpArgs false
namespace Go.AW

section
variable {P : Program} {w0 w w' : World} {mine : FP} {γ γ' : Ghost} {σ : St} {a : Act} {k : V → St → Prop} {E : Env}

theorem mapM_places : ∀ (gs : List Field) (fs : List (Nat × Nat)), gs.length = fs.length → (∀ (i : Nat) (x : Nat × Nat), fs[i]? = some x → ∃ g : Field, gs[i]? = some g ∧ g.offset = x.1 ∧ (P.info? g.type).map (·.size) = some x.2) →
    gs.mapM (fun f => (P.info? f.type).map fun i => (f.offset, i.size)) = some fs
  | [], fs, hl, h => by
    have : fs = [] := List.eq_nil_of_length_eq_zero hl.symm
    subst this; rfl
  | g :: gs, [], hl, h => by simp at hl
  | g :: gs, x :: fs, hl, h => by
    obtain ⟨g', hg', h1, h2⟩ := h 0 x rfl
    simp at hg'; subst hg'
    have ih := mapM_places gs fs (by simpa using hl) (fun i y hy => by simpa using h (i + 1) y (by simpa using hy))
    simp only [List.mapM_cons]
    cases hi : P.info? g.type with
    | none => simp [hi] at h2
    | some i =>
      simp only [hi, Option.map_some, Option.some.injEq] at h2
      simp [ih, h1, h2]

theorem fill_build {fs : List (Nat × Nat)} : ∀ (parts : List (Nat × Operand)) (ps : List (Nat × List Leaf)) (cells : Array Value) (ls r : List Leaf), RCells γ w ls cells.toList → Rel w0 mine γ σ a w → partsV σ parts = some ps → buildC fs ls ps = some r →
    ∃ cells', Instr.fill (fun i => fs[i]?) cells (parts.map fun x => (x.1, a.eval x.2)) = some cells' ∧ RCells γ w r cells'.toList
  | [], ps, cells, ls, r, hl, R, hp, hb => by
    simp [partsV] at hp; subst hp
    simp [buildC] at hb; subst hb
    exact ⟨cells, rfl, hl⟩
  | (i, x) :: t, ps, cells, ls, r, hl, R, hp, hb => by
    simp only [partsV] at hp
    split at hp
    · rename_i cs l hcs hl'
      simp at hp; subst hp
      simp only [buildC] at hb
      split at hb
      · rename_i off sz hn
        split at hb
        · rename_i ls' hbe hset
          have hbe := Nat.eq_of_beq_eq_true hbe
          obtain ⟨hrc, h1⟩ := cellsOf_sound (R.ev x) hcs
          obtain ⟨s1, s2, s3⟩ := setCells_spec _ _ _ _ hset
          have hvs : (a.eval x).cells.size = sz := by have := hrc.1; simp at this; omega
          have hcl : cells.size = ls.length := by have := hl.1; simpa using this
          rw [nthO_getElem?] at hn
          obtain ⟨cells', hf, hs', hg⟩ := fill_one (fun i => fs[i]?) cells i off (a.eval x) (t.map fun x => (x.1, a.eval x.2)) (by simp [hn, hvs]) (by omega)
          simp only [List.map_cons, hf]
          refine fill_build t l cells' ls' r ⟨by simp [hs', s1, hcl], fun j y hj => ?_⟩ R hl' hb
          rw [s3] at hj
          simp only [Array.getElem?_toList, hg, hvs]
          by_cases hin : off ≤ j ∧ j < off + cs.length
          · rw [if_pos hin] at hj
            rw [if_pos (by omega)]
            obtain ⟨u, hu, hr⟩ := hrc.2 _ y hj
            exact ⟨u, by simpa using hu, hr⟩
          · rw [if_neg hin] at hj
            rw [if_neg (by omega)]
            obtain ⟨u, hu, hr⟩ := hl.2 _ y hj
            exact ⟨u, by simpa using hu, hr⟩
        · simp at hb
      · simp at hb
    · simp at hp

theorem does_build (hE : EnvOk P E) (R : Rel w0 mine γ σ a w) {d ty p af g t} {parts : Array (Nat × Operand)} {fs : List (Nat × Nat)} {ps : List (Nat × List Leaf)} {cs : List Leaf} (hk : (E t).k = .st fs) (hps : partsV σ parts.toList = some ps)
    (hb : buildC fs ((E t).zero.map leafOfValue) ps = some cs) (h : k (.one (.ag cs)) σ) : DoesQ P γ σ a w ⟨d, .build t parts, ty, p, af, g⟩ k := by
  have hT := hE t (by rw [hk]; simp)
  obtain ⟨gs, hu, hgl, hgs⟩ := hT.st hk
  obtain ⟨z, hz, hc⟩ := hT.run_zero (w := w)
  have hpl := mapM_places (P := P) gs.toList fs (by simpa using hgl) (fun i x hx => by simpa using hgs i x hx)
  have hzc : RCells γ w ((E t).zero.map leafOfValue) z.cells.toList := by
    rw [hc]
    refine ⟨by simp, fun j l hl => ?_⟩
    simp only [List.getElem?_map, Option.map_eq_some_iff] at hl
    obtain ⟨u, hu, rfl⟩ := hl
    exact ⟨u, hu, rleaf_ofValue γ w u (List.all_eq_true.mp hT.one u (List.mem_of_getElem? hu))⟩
  obtain ⟨cells', hf, hr⟩ := fill_build parts.toList ps z.cells _ cs hzc R hps hb
  refine .value R h (u := .agg cells') ⟨cells'.toList, by simp, hr⟩ ?_
  have hparts : (parts.map fun (i, x) => (i, a.eval x)).toList = parts.toList.map fun x => (x.1, a.eval x.2) := by simp
  simp only [execOp, Instr.build, Sem.run_bind, hz, Result.andThen_ok, run_underlying hu]
  simp [Array.mapM_eq_mapM_toList, run_places w _ _ hpl]
  simp only [List.getElem?_toArray] at *
  simp [hf]

end
end Go.AW
