/- The abstract calculus, part 17: strings out of bytes, functions, min and max. -/
import Derived.Test.YtkbmgodbnjbhdaaAw16
set_option linter.unusedVariables false
set_option linter.unusedSimpArgs false
namespace Go.AW

section
variable {P : Program} {w0 w w' : World} {mine : FP} {γ γ' : Ghost} {σ : St} {a : Act} {k : V → St → Prop} {E : Env}

theorem does_convIS (hE : EnvOk P E) (R : Rel w0 mine γ σ a w) {d t p af g src dst} {x : Operand} {n : Int} {ks : IntKind} (hsrc : okK (E src).k = true) (hk : (E dst).k = .str) (hx : evA σ x = .one (.lf (.s (.int ks n))))
    (h : k (.one (.lf (.s (.string (std.encR n))))) σ) : DoesQ P γ σ a w ⟨d, .convert src dst x, t, p, af, g⟩ k := by
  have hT := hE dst (by rw [hk]; simp)
  obtain ⟨ds, hds, _⟩ := (hE src (okK_ne hsrc)).und
  have hxv := R.ev x
  rw [hx] at hxv
  have hx2 : a.eval x = .int ks n := hxv.2
  refine .value R h (rv_s rfl) (u := .string (Utf8.encode n)) ?_
  simp only [execOp, convert, hx2, Sem.run_bind, run_underlying hds, run_underlying (hT.str hk), Result.andThen_ok]
  cases ds <;> simp [Conv.intToString]

theorem does_convSS (hE : EnvOk P E) (R : Rel w0 mine γ σ a w) {d t p af g src dst} {x : Operand} {s : ByteArray} (hsrc : okK (E src).k = true) (hk : (E dst).k = .str) (hx : evA σ x = .one (.lf (.s (.string s))))
    (h : k (.one (.lf (.s (.string s)))) σ) : DoesQ P γ σ a w ⟨d, .convert src dst x, t, p, af, g⟩ k := by
  have hT := hE dst (by rw [hk]; simp)
  obtain ⟨ds, hds, _⟩ := (hE src (okK_ne hsrc)).und
  have hxv := R.ev x
  rw [hx] at hxv
  have hx2 : a.eval x = .string s := hxv.2
  refine .value R h (rv_s rfl) (u := .string s) ?_
  simp only [execOp, convert, hx2, Sem.run_bind, run_underlying hds, run_underlying (hT.str hk), Result.andThen_ok]
  cases ds <;> simp

/-- A leaf that is read as a datum reads so. -/
theorem roD_sound (R : RelS w0 mine γ σ.store σ.next w) {l : Leaf} {u : Value} (hl : RLeaf γ w l u) {d : DV} (h : roD std σ.store l = some d) : ∃ F : FP, RoT w F u d := by
  unfold roD at h
  split at h
  · simp at h; subst h; have : u = _ := hl.2; subst this; exact ⟨fun _ => False, .s _ hl.1⟩
  · simp at h; subst h; have : u = _ := hl.2; subst this; exact ⟨fun _ => False, .nl _ _ _ _⟩
  · simp at h; subst h; exact ⟨_, hl.2⟩
  · simp at h; subst h; exact ⟨_, hl.2.2⟩
  · rename_i id off len
    split at h
    · rename_i sz n f hst
      simp at h; subst h
      obtain ⟨F, hF, _⟩ := ownC_sound R hl (d := .l sz len (shF std off f)) (ids := [id]) (by simp [ownC, hst])
      exact ⟨F, hF.ro⟩
    · simp at h
  · simp at h

theorem does_convBS (hE : EnvOk P E) (R : Rel w0 mine γ σ a w) {d t p af g src dst e z n} {x : Operand} {l : Leaf} {f : Nat → List DV} (hsrc : (E src).k = .sl e) (hke : (E e).k = .int .u8) (hk : (E dst).k = .str) (hx : evA σ x = .one (.lf l))
    (hd : roD std σ.store l = some (.l z n f)) (hb : std.ByteRows n f) (h : k (.one (.lf (.s (.string (std.strF n f))))) σ) : DoesQ P γ σ a w ⟨d, .convert src dst x, t, p, af, g⟩ k := by
  have hT := hE dst (by rw [hk]; simp)
  have hTs := hE src (by rw [hsrc]; simp)
  have hTe := hE e (by rw [hke]; simp)
  have hxv := R.ev x
  rw [hx] at hxv
  obtain ⟨F, hF⟩ := roD_sound R.st hxv hd
  simp only [std] at hb
  -- the bytes' numbers
  let ns : List Int := (List.range n).map fun i => match f i with | [.s (.int _ c)] => c | _ => 0
  have hres : std.strF n f = ns.foldl (fun r n => r.push (UInt8.ofNat n.toNat)) ByteArray.empty := by
    rw [foldl_push_bytes]
    simp only [std, ns, List.map_map]
    have hE : (ByteArray.empty.data : Array UInt8) = #[] := rfl
    rw [hE, Array.empty_append]
    congr 2
    apply List.map_congr_left
    intro i hi
    obtain ⟨c, hc⟩ := hb i (List.mem_range.mp hi)
    simp [hc, unB]
  have hrun : ∃ s, (Conv.bytesToString (a.eval x)).run P w = .ok (.string s) w ∧ s = std.strF n f ∧ ∃ A cap, a.eval x = .slice A n cap := by
    generalize a.eval x = u at hF
    cases hF with
    | nl z A cap g =>
      refine ⟨ByteArray.empty, ?_, by simp [std]; rfl, A, cap, rfl⟩
      cases A with
      | none => simp [Conv.bytesToString]
      | some ad => 
        have := run_bytesToString (P := P) w ad 0 cap [] (by have := run_loadCells_list (P := P) w ad [] (by simp); simpa using this)
        simpa using this
    | bl z b off n cap sz g cs t fr vs hFb hbb hn hsz hv hdd =>
      rcases Nat.eq_zero_or_pos n with h0 | h0
      · subst h0
        have := run_bytesToString (P := P) w ⟨b, off, none⟩ 0 cap [] (by have := run_loadCells_list (P := P) w ⟨b, off, none⟩ [] (by simp); simpa using this)
        exact ⟨ByteArray.empty, by simpa using this, by simp [std]; rfl, _, cap, rfl⟩
      have hs1 : sz = 1 := by obtain ⟨c, hc⟩ := hb 0 h0; rw [← hsz 0 h0, hc]; rfl
      subst hs1
      have hcell : ∀ i, i < n → cs[off + i]? = some (Value.int .u8 (match f i with | [.s (.int _ c)] => c | _ => 0)) := by
        intro i hi
        obtain ⟨c, hc⟩ := hb i hi
        have h1 := hv i 0 (.s (.int .u8 c)) hi (by rw [hc]; rfl)
        have h2 := (hdd i 0 (.s (.int .u8 c)) hi (by rw [hc]; rfl)).s_inv.1
        rw [hc]
        simpa [h2] using h1
      have hload : (loadCells ⟨b, off, none⟩ n).run P w = .ok (ns.map (Value.int .u8)).toArray w := by
        have := run_loadCells_list (P := P) w ⟨b, off, none⟩ (ns.map (Value.int .u8)) (by
          intro q v hq
          simp only [ns, List.map_map, List.getElem?_map] at hq
          have hqn : q < n := by
            rcases Nat.lt_or_ge q n with h | h
            · exact h
            · rw [List.getElem?_eq_none (by simpa using h)] at hq; simp at hq
          rw [List.getElem?_range hqn] at hq
          simp at hq; subst hq
          rw [add_at, cell_at hbb]
          exact hcell q hqn)
        simpa [ns] using this
      exact ⟨_, run_bytesToString (P := P) w ⟨b, off, none⟩ n cap ns hload, hres.symm, _, cap, rfl⟩
  obtain ⟨s, hr, hs, A, cap, hA⟩ := hrun
  refine .value R h (rv_s rfl) (u := .string (std.strF n f)) ?_
  rw [hA] at hr
  simp only [execOp, hA, Sem.run_bind, run_convert_bytes_string w src dst e A n cap (hTs.sl hsrc) (hTe.int hke) (hT.str hk), hr, Result.andThen_ok, Sem.run_pure, hs]

theorem does_makeFunc (R : Rel w0 mine γ σ a w) {d t p af g f} {caps : Array Operand} {cs : List (Nat × Nat)} (hc : allS (fun x => match evA σ x with | .one (.lf (.p id j)) => some (id, j) | _ => none) caps.toList = some cs)
    (h : k (.one (.lf (.fn f cs))) σ) : DoesQ P γ σ a w ⟨d, .makeFunc (.func f) #[] caps, t, p, af, g⟩ k := by
  obtain ⟨h1, h2⟩ := allS_spec hc
  refine .value R h (u := .func (.func f) #[] (caps.map a.eval)) ⟨rfl, caps.toList.map a.eval, by congr 1; apply Array.ext'; simp, by simp [h1], fun k c hk => ?_⟩ (by simp [execOp, Instr.makeFunc])
  have hlt : k < caps.toList.length := by rw [← h1]; exact (List.getElem?_eq_some_iff.mp hk).1
  obtain ⟨y, hy, hm⟩ := h2 k _ (List.getElem?_eq_getElem hlt)
  rw [hk] at hy; cases hy
  split at hm
  · rename_i id j he
    simp at hm
    have hv := R.ev (caps.toList[k])
    rw [he] at hv
    obtain ⟨g', b, hg, hb, hu⟩ := hv.2
    refine ⟨g', b, by rw [← hm]; exact hg, hb, ?_⟩
    rw [List.getElem?_map, List.getElem?_eq_getElem hlt, Option.map_some, hu, ← hm]
  · simp at hm

theorem does_min (R : Rel w0 mine γ σ a w) {d t p af g} {x y : Operand} {ts : Array TypeId} {m n : Int} {kk kk' : IntKind} (hx : evA σ x = .one (.lf (.s (.int kk m)))) (hy : evA σ y = .one (.lf (.s (.int kk' n))))
    (h : k (.one (.lf (.s (.int kk (std.minI m n))))) σ) : DoesQ P γ σ a w ⟨d, .call { callee := .builtin .min, args := #[x, y], argTypes := ts }, t, p, af, g⟩ k := by
  have h1 := R.ev x; rw [hx] at h1
  have h2 := R.ev y; rw [hy] at h2
  have e1 : a.eval x = .int kk m := h1.2
  have e2 : a.eval y = .int kk' n := h2.2
  refine .value R h (rv_int _ _) ?_
  simp [execOp, resolve, invoke, builtin, e1, e2, Builtin.min_, Builtin.min2, std]
theorem does_max (R : Rel w0 mine γ σ a w) {d t p af g} {x y : Operand} {ts : Array TypeId} {m n : Int} {kk kk' : IntKind} (hx : evA σ x = .one (.lf (.s (.int kk m)))) (hy : evA σ y = .one (.lf (.s (.int kk' n))))
    (h : k (.one (.lf (.s (.int kk (std.maxI m n))))) σ) : DoesQ P γ σ a w ⟨d, .call { callee := .builtin .max, args := #[x, y], argTypes := ts }, t, p, af, g⟩ k := by
  have h1 := R.ev x; rw [hx] at h1
  have h2 := R.ev y; rw [hy] at h2
  have e1 : a.eval x = .int kk m := h1.2
  have e2 : a.eval y = .int kk' n := h2.2
  refine .value R h (rv_int _ _) ?_
  simp [execOp, resolve, invoke, builtin, e1, e2, Builtin.max_, Builtin.max2, std]
end
end Go.AW
