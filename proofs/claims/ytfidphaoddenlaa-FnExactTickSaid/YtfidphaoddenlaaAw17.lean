/- The abstract calculus, part 17: strings out of bytes, functions, min and max. -/
import Derived.Test.YtfidphaoddenlaaAw16
import Derived.WalkSpells
import Derived.Laws.Small
set_option linter.unusedVariables false
set_option linter.unusedSimpArgs false
namespace Go.AW

section
variable {P : Program} {w0 w w' : World} {mine : FP} {γ γ' : Ghost} {σ : St} {a : Act} {k : V → St → Prop} {E : Env}

theorem does_convIS (hE : EnvOk P E) (R : Rel w0 mine γ σ a w) {d t p af g src dst} {x : Operand} {n : Int} {ks : IntKind} (hsrc : okK (E src).k = true) (hk : (E dst).k = .str) (hx : evA σ x = .one (.lf (.s (.int ks n))))
    (h : k (.one (.lf (.s (.string (std.encR n))))) σ) : DoesQ P γ σ a w ⟨d, .convert src dst x, t, p, af, g⟩ k := by
  have hT := hE dst (by rw [hk]; simp)
  obtain ⟨ds, hds, _⟩ := (hE src (okK_ne hsrc)).und
  have hxv := R.ev x
  rw [hx] at hxv
  have hx2 : a.eval x = .int ks n := hxv.2
  refine .value R h (rv_s rfl) (u := .string (Utf8.encode n)) ?_
  simp only [execOp, convert, hx2, Sem.run_bind, run_underlying hds, run_underlying (hT.str hk), Result.andThen_ok]
  cases ds <;> simp [Conv.intToString]

theorem does_convSS (hE : EnvOk P E) (R : Rel w0 mine γ σ a w) {d t p af g src dst} {x : Operand} {s : ByteArray} (hsrc : okK (E src).k = true) (hk : (E dst).k = .str) (hx : evA σ x = .one (.lf (.s (.string s))))
    (h : k (.one (.lf (.s (.string s)))) σ) : DoesQ P γ σ a w ⟨d, .convert src dst x, t, p, af, g⟩ k := by
  have hT := hE dst (by rw [hk]; simp)
  obtain ⟨ds, hds, _⟩ := (hE src (okK_ne hsrc)).und
  have hxv := R.ev x
  rw [hx] at hxv
  have hx2 : a.eval x = .string s := hxv.2
  refine .value R h (rv_s rfl) (u := .string s) ?_
  simp only [execOp, convert, hx2, Sem.run_bind, run_underlying hds, run_underlying (hT.str hk), Result.andThen_ok]
  cases ds <;> simp

/-- A leaf that is read as a datum reads so. -/
theorem roD_sound (R : RelS w0 mine γ σ.store σ.next w) {l : Leaf} {u : Value} (hl : RLeaf γ w l u) {d : DV} (h : roD std σ.store l = some d) : ∃ F : FP, RoT w F u d ∧ ∀ b, F b → γ.ro b ∨ ∃ i o, look σ.store i = some o ∧ γ.fp i b := by
  unfold roD at h
  have hl := see_sound R hl
  revert hl h
  generalize see std σ.store l = l
  intro h hl
  split at h
  · simp at h; subst h; have : u = _ := hl.2; subst this; exact ⟨fun _ => False, .s _ hl.1, fun b hb => hb.elim⟩
  · simp at h; subst h; have : u = _ := hl.2; subst this; exact ⟨fun _ => False, .nl _ _ _ _, fun b hb => hb.elim⟩
  · simp at h; subst h; exact ⟨_, hl.2, fun b hb => .inl hb⟩
  · simp at h; subst h
    obtain ⟨⟨g, hg⟩, h2⟩ := hl.2
    obtain ⟨o, ho⟩ := R.dom _ g hg
    exact ⟨_, h2, fun b hb => .inr ⟨_, o, ho, hb⟩⟩
  · rename_i id off len
    split at h
    · rename_i sz n f hst
      simp at h; subst h
      have hF := own_obj R hl hst
      exact ⟨_, hF.ro, fun b hb => .inr ⟨id, _, hst, hb⟩⟩
    · rename_i c cs hst
      split at h
      · split at h
        · rename_i ds hds
          simp at h; subst h
          obtain ⟨g, A, cap, hg, hu, hle, hgn, htot, had⟩ := hl.2
          obtain ⟨g', hg', b, cur, et, fr, hb, hfp, hh, hun, hbase, hct, hcs, hgz, hrc⟩ := R.objs id _ hst
          rw [hg] at hg'; cases hg'
          obtain ⟨hdl, hdv⟩ := flatCs_sound hrc hds
          obtain ⟨b', hb', hA⟩ := had (by omega)
          rw [hb] at hb'; cases hb'
          subst hA hu
          refine ⟨γ.fp id, .bl _ b _ 1 cap (c :: cs).length _ cur et fr (fun _ j => cur.toList.getD j undef) hfp hh hle (fun i hi => hdl) (fun i j d hi hd => ?_) (fun i j d hi hd => ?_), fun b hb => .inr ⟨id, _, hst, hb⟩⟩
          · have : i = 0 := by omega
            subst this
            obtain ⟨v, hv, _⟩ := hdv j d hd
            rw [hbase]
            simp only [Nat.zero_mul, Nat.zero_add]
            rw [List.getD_eq_getElem?_getD, hv]
            simpa using hv
          · obtain ⟨v, hv, ho⟩ := hdv j d hd
            rw [List.getD_eq_getElem?_getD, hv]
            exact ho.ro.mono (fun x hx => hx.elim) (Ext.refl _ _)
        · simp at h
      · simp at h
    · simp at h
  · simp at h

theorem does_convBS (hE : EnvOk P E) (R : Rel w0 mine γ σ a w) {d t p af g src dst e z n} {x : Operand} {l : Leaf} {f : Nat → List DV} (hsrc : (E src).k = .sl e) (hke : (E e).k = .int .u8) (hk : (E dst).k = .str) (hx : evA σ x = .one (.lf l))
    (hd : roD std σ.store l = some (.l z n f)) (hb : std.ByteRows n f) (h : k (.one (.lf (.s (.string (std.strF n f))))) σ) : DoesQ P γ σ a w ⟨d, .convert src dst x, t, p, af, g⟩ k := by
  have hT := hE dst (by rw [hk]; simp)
  have hTs := hE src (by rw [hsrc]; simp)
  have hTe := hE e (by rw [hke]; simp)
  have hxv := R.ev x
  rw [hx] at hxv
  obtain ⟨F, hF, _⟩ := roD_sound R.st hxv hd
  simp only [std] at hb
  -- the bytes' numbers
  let ns : List Int := (List.range n).map fun i => match f i with | [.s (.int _ c)] => c | _ => 0
  have hres : std.strF n f = ns.foldl (fun r n => r.push (UInt8.ofNat n.toNat)) ByteArray.empty := by
    rw [foldl_push_bytes]
    simp only [std, ns, List.map_map]
    have hE : (ByteArray.empty.data : Array UInt8) = #[] := rfl
    rw [hE, Array.empty_append]
    congr 2
    apply List.map_congr_left
    intro i hi
    obtain ⟨c, hc⟩ := hb i (List.mem_range.mp hi)
    simp [hc, unB]
  have hrun : ∃ s, (Conv.bytesToString (a.eval x)).run P w = .ok (.string s) w ∧ s = std.strF n f ∧ ∃ A cap, a.eval x = .slice A n cap := by
    generalize a.eval x = u at hF
    cases hF with
    | nl z A cap g =>
      refine ⟨ByteArray.empty, ?_, by simp [std]; rfl, A, cap, rfl⟩
      cases A with
      | none => simp [Conv.bytesToString]
      | some ad => 
        have := run_bytesToString (P := P) w ad 0 cap [] (by have := run_loadCells_list (P := P) w ad [] (by simp); simpa using this)
        simpa using this
    | bl z b off n cap sz g cs t fr vs hFb hbb hn hsz hv hdd =>
      rcases Nat.eq_zero_or_pos n with h0 | h0
      · subst h0
        have := run_bytesToString (P := P) w ⟨b, off, none⟩ 0 cap [] (by have := run_loadCells_list (P := P) w ⟨b, off, none⟩ [] (by simp); simpa using this)
        exact ⟨ByteArray.empty, by simpa using this, by simp [std]; rfl, _, cap, rfl⟩
      have hs1 : sz = 1 := by obtain ⟨c, hc⟩ := hb 0 h0; rw [← hsz 0 h0, hc]; rfl
      subst hs1
      have hcell : ∀ i, i < n → cs[off + i]? = some (Value.int .u8 (match f i with | [.s (.int _ c)] => c | _ => 0)) := by
        intro i hi
        obtain ⟨c, hc⟩ := hb i hi
        have h1 := hv i 0 (.s (.int .u8 c)) hi (by rw [hc]; rfl)
        have h2 := (hdd i 0 (.s (.int .u8 c)) hi (by rw [hc]; rfl)).s_inv.1
        rw [hc]
        simpa [h2] using h1
      have hload : (loadCells ⟨b, off, none⟩ n).run P w = .ok (ns.map (Value.int .u8)).toArray w := by
        have := run_loadCells_list (P := P) w ⟨b, off, none⟩ (ns.map (Value.int .u8)) (by
          intro q v hq
          simp only [ns, List.map_map, List.getElem?_map] at hq
          have hqn : q < n := by
            rcases Nat.lt_or_ge q n with h | h
            · exact h
            · rw [List.getElem?_eq_none (by simpa using h)] at hq; simp at hq
          rw [List.getElem?_range hqn] at hq
          simp at hq; subst hq
          rw [add_at, cell_at hbb]
          exact hcell q hqn)
        simpa [ns] using this
      exact ⟨_, run_bytesToString (P := P) w ⟨b, off, none⟩ n cap ns hload, hres.symm, _, cap, rfl⟩
  obtain ⟨s, hr, hs, A, cap, hA⟩ := hrun
  refine .value R h (rv_s rfl) (u := .string (std.strF n f)) ?_
  rw [hA] at hr
  simp only [execOp, hA, Sem.run_bind, run_convert_bytes_string w src dst e A n cap (hTs.sl hsrc) (hTe.int hke) (hT.str hk), hr, Result.andThen_ok, Sem.run_pure, hs]

theorem does_makeFunc (R : Rel w0 mine γ σ a w) {d t p af g f} {caps : Array Operand} {cs : List (Nat × Nat)} (hc : allS (fun x => match evA σ x with | .one (.lf (.p id j)) => some (id, j) | _ => none) caps.toList = some cs)
    (h : k (.one (.lf (.fn f cs))) σ) : DoesQ P γ σ a w ⟨d, .makeFunc (.func f) #[] caps, t, p, af, g⟩ k := by
  obtain ⟨h1, h2⟩ := allS_spec hc
  refine .value R h (u := .func (.func f) #[] (caps.map a.eval)) ⟨rfl, caps.toList.map a.eval, by congr 1; apply Array.ext'; simp, by simp [h1], fun k c hk => ?_⟩ (by simp [execOp, Instr.makeFunc])
  have hlt : k < caps.toList.length := by rw [← h1]; exact (List.getElem?_eq_some_iff.mp hk).1
  obtain ⟨y, hy, hm⟩ := h2 k _ (List.getElem?_eq_getElem hlt)
  rw [hk] at hy; cases hy
  split at hm
  · rename_i id j he
    simp at hm
    have hv := R.ev (caps.toList[k])
    rw [he] at hv
    obtain ⟨g', b, hg, hb, hu⟩ := hv.2
    refine ⟨g', b, by rw [← hm]; exact hg, hb, ?_⟩
    rw [List.getElem?_map, List.getElem?_eq_getElem hlt, Option.map_some, hu, ← hm]
  · simp at hm

theorem does_min (R : Rel w0 mine γ σ a w) {d t p af g} {x y : Operand} {ts : Array TypeId} {m n : Int} {kk kk' : IntKind} (hx : evA σ x = .one (.lf (.s (.int kk m)))) (hy : evA σ y = .one (.lf (.s (.int kk' n))))
    (h : k (.one (.lf (.s (.int kk (std.minI m n))))) σ) : DoesQ P γ σ a w ⟨d, .call { callee := .builtin .min, args := #[x, y], argTypes := ts }, t, p, af, g⟩ k := by
  have h1 := R.ev x; rw [hx] at h1
  have h2 := R.ev y; rw [hy] at h2
  have e1 : a.eval x = .int kk m := h1.2
  have e2 : a.eval y = .int kk' n := h2.2
  refine .value R h (rv_int _ _) ?_
  simp [execOp, resolve, invoke, builtin, e1, e2, Builtin.min_, Builtin.min2, std]
theorem does_max (R : Rel w0 mine γ σ a w) {d t p af g} {x y : Operand} {ts : Array TypeId} {m n : Int} {kk kk' : IntKind} (hx : evA σ x = .one (.lf (.s (.int kk m)))) (hy : evA σ y = .one (.lf (.s (.int kk' n))))
    (h : k (.one (.lf (.s (.int kk (std.maxI m n))))) σ) : DoesQ P γ σ a w ⟨d, .call { callee := .builtin .max, args := #[x, y], argTypes := ts }, t, p, af, g⟩ k := by
  have h1 := R.ev x; rw [hx] at h1
  have h2 := R.ev y; rw [hy] at h2
  have e1 : a.eval x = .int kk m := h1.2
  have e2 : a.eval y = .int kk' n := h2.2
  refine .value R h (rv_int _ _) ?_
  simp [execOp, resolve, invoke, builtin, e1, e2, Builtin.max_, Builtin.max2, std]

def lenLf : Leaf → Option Nat
  | .r m _ | .sn _ m _ | .q _ _ _ _ m | .o _ _ m => some m
  | _ => none
theorem len_slice (R : RelS w0 mine γ σ.store σ.next w) {l : Leaf} {u : Value} (hl : RLeaf γ w l u) {n : Nat} (h : lenLf l = some n) : ∃ A c, u = .slice A n c ∧ (A = none → n = 0) := by
  have ro : ∀ {F : FP} {z : Nat} {f : Nat → List DV}, RoT w F u (.l z n f) → ∃ A c, u = .slice A n c ∧ (A = none → n = 0) := by
    intro F z f h
    cases h with
    | nl => exact ⟨_, _, rfl, fun _ => rfl⟩
    | bl => exact ⟨_, _, rfl, fun h => by cases h⟩
  cases l <;> simp only [lenLf, Option.some.injEq, reduceCtorEq] at h
  case r m f => subst h; exact ro hl.2
  case sn id m f => subst h; exact ro hl.2.2
  case q id i j v m =>
    subst h
    obtain ⟨c, _, hw⟩ := hl.2
    unfold ViewOf at hw
    split at hw
    · obtain ⟨rfl, A, cap, he, _, ha⟩ := hw
      refine ⟨A, cap, he, fun hn => ?_⟩
      rcases Nat.eq_zero_or_pos m with h0 | h0
      · exact h0
      · obtain ⟨b, o, hA⟩ := ha h0; rw [hn] at hA; cases hA
    · rcases hw with ⟨rfl, A, cap, he⟩ | ⟨b, o, N, cap, cap', _, he, _⟩
      · exact ⟨A, cap, he, fun _ => rfl⟩
      · exact ⟨_, _, he, fun h => by cases h⟩
  case o id off m =>
    subst h
    obtain ⟨g, A, cap, _, he, hle, _, _, had⟩ := hl.2
    refine ⟨A, cap, he, fun hn => ?_⟩
    rcases Nat.eq_zero_or_pos cap with h0 | h0
    · omega
    · obtain ⟨b, _, hA⟩ := had h0; rw [hn] at hA; cases hA

theorem does_binB (hE : EnvOk P E) (R : Rel w0 mine γ σ a w) {d t p af g op xt yt} {x y : Operand} {vx vy : Value} (hx : scalarV (evA σ x) = some vx) (hy : scalarV (evA σ y) = some vy)
    (h : binB std (E xt).k op vx vy fun v => k (.one (.lf (.s v))) σ) : DoesQ P γ σ a w ⟨d, .binOp op xt x y yt, t, p, af, g⟩ k := by
  unfold binB at h
  split at h
  · rename_i b1 b2
    obtain ⟨hk, h⟩ := h
    have hu : P.underlying xt = some .bool := by
      have hne : (E xt).k ≠ .other := by intro e; rw [e] at hk; simp [isBo] at hk
      obtain ⟨⟨dd, hd, hkk⟩, _⟩ := hE xt hne
      cases hkd : (E xt).k <;> rw [hkd] at hk hkk <;> simp [isBo] at hk
      cases dd <;> simp [Kok] at hkk
      exact hd
    have hq := run_equal_bool w xt b1 b2 hu
    cases op <;> first | exact h.elim | skip
    all_goals
      cases b1 <;> cases b2
      all_goals
        refine .value R h (rv_bool _) ?_
        simp only [execOp, R.scalar hx, R.scalar hy, eqGuard]
        simp [Sem.run_bind, binOp, hq]
  · exact does_binOp R hx hy h
def isEq : BinOp → Bool → Bool
  | .eql, b => b
  | _, b => !b
theorem does_nil (hE : EnvOk P E) (R : Rel w0 mine γ σ a w) {d t p af g op xt yt} {x y : Operand} {K : Bool → Prop} (ho : op = .eql ∨ op = .neq) (hy : evA σ y = .one (.lf .nil)) (hk : isSl (E xt).k = true) (h : nilP std (evA σ x) K) (hK : ∀ b, K b → k (.one (.lf (.s (.bool (isEq op b))))) σ) :
    DoesQ P γ σ a w ⟨d, .binOp op xt x y yt, t, p, af, g⟩ k := by
  have hyv := R.ev y
  rw [hy] at hyv
  have hy2 : a.eval y = .slice none 0 0 := hyv.2
  obtain ⟨e, hke⟩ : ∃ e, (E xt).k = .sl e := by
    unfold isSl at hk
    split at hk
    · exact ⟨_, by assumption⟩
    · cases hk
  have hu := (hE xt (by rw [hke]; simp)).sl hke
  have fin : ∀ {A : Option Addr} {n c : Nat}, a.eval x = .slice A n c → K A.isNone → DoesQ P γ σ a w ⟨d, .binOp op xt x y yt, t, p, af, g⟩ k := by
    intro A n c he hb
    refine .value R (hK _ hb) (rv_bool _) ?_
    rcases ho with rfl | rfl
    · have := Lib.run_eql_slice_nil (P := P) w xt e A n c 0 0 hu
      have hg : (eqGuard .eql xt x y (.slice A n c) (.slice none 0 0)).run P w = .ok () w := rfl
      simp only [execOp, he, hy2, Sem.run_bind, hg, this, Result.andThen_ok, Sem.run_pure, isEq]
    · have := run_neq_slice_nil_any (P := P) w xt e A n c 0 0 hu
      have hg : (eqGuard .neq xt x y (.slice A n c) (.slice none 0 0)).run P w = .ok () w := rfl
      simp only [execOp, he, hy2, Sem.run_bind, hg, this, Result.andThen_ok, Sem.run_pure, isEq]
  have hx := R.ev x
  have gen : ∀ {l : Leaf} {n : Nat}, evA σ x = .one (.lf l) → lenLf l = some n → nilN std n K → DoesQ P γ σ a w ⟨d, .binOp op xt x y yt, t, p, af, g⟩ k := by
    intro l n hl hm hn
    rw [hl] at hx
    obtain ⟨A, c, he, hA⟩ := len_slice R.st hx hm
    refine fin he ?_
    unfold nilN at hn
    simp only [std] at hn
    unfold condP at hn
    split at hn
    · cases A with
      | none => exact hn.1
      | some ad => exact hn.2
    · rename_i hc
      cases A with
      | none => have := hA rfl; subst this; simp [std] at hc
      | some ad => exact hn
  unfold nilP at h
  split at h
  · rename_i hl
    rw [hl] at hx
    exact fin hx.2 h
  · rename_i hl; exact gen hl rfl h
  · rename_i hl; exact gen hl rfl h
  · rename_i hl; exact gen hl rfl h
  · rename_i hl; exact gen hl rfl h
  · exact h.elim

theorem does_range (hE : EnvOk P E) (R : Rel w0 mine γ σ a w) {d t p af g xt} {x : Operand} {s : ByteArray} (hk : (E xt).k = .str) (hx : evA σ x = .one (.lf (.s (.string s))))
    (h : k (.one (.lf (.p σ.next 0))) (mkObj σ (.it s 0))) : Does P w0 mine a w ⟨d, .range xt x, t, p, af, g⟩ k := by
  have hxv := R.ev x
  rw [hx] at hxv
  have hx2 : a.eval x = .string s := hxv.2
  have hT := hE xt (by rw [hk]; simp)
  have R' := R.fresh (wext_push w (.stringIter s 0)) (keep_push R.st.keep _) (by simp) ⟨some w.heap.size, 0, 0, 0, 0⟩ (fun b => b = w.heap.size) (.it s 0) ⟨w.heap.size, rfl, rfl, by simp [Ghost.add], by simp⟩ (fun b hb => by subst hb; simp)
  refine .inl ⟨.pointer (some ⟨w.heap.size, 0, none⟩), _, ?_, _, _, _, h, R', ⟨rfl, ⟨some w.heap.size, 0, 0, 0, 0⟩, w.heap.size, by simp [Ghost.add], rfl, rfl⟩⟩
  simp [execOp, hx2, Instr.range, run_underlying (hT.str hk)]

theorem does_next (R : Rel w0 mine γ σ a w) {d t p af g} {x : Operand} {id : Nat} {s : ByteArray} {pos : Nat} (hx : evA σ x = .one (.lf (.p id 0))) (ho : look σ.store id = some (.it s pos))
    (h : std.cnd (std.ltN pos (std.lenS s))
        (fun _ => k (.tup [.lf (.s (.bool true)), .lf (.s (.int .i64 (std.ofN pos))), .lf (.s (.int .i32 (std.decR s pos)))]) (mapSt (killQ id) (putObj σ id (.it s (std.addN pos (std.decW s pos))))))
        (fun _ => k (.tup [.lf (.s (.bool false))]) σ)) : Does P w0 mine a w ⟨d, .next x true, t, p, af, g⟩ k := by
  have hxv := R.ev x
  rw [hx] at hxv
  obtain ⟨g1, b, hg, hb, hu⟩ := hxv.2
  obtain ⟨g1', hg', b', hb', hbase, hfp, hh⟩ := R.st.objs id _ ho
  rw [hg] at hg'; cases hg'
  rw [hb] at hb'; cases hb'
  have hu2 : a.eval x = .pointer (some ⟨b, 0, none⟩) := by rw [hu, hbase]
  have hget : (getObj b).run P w = .ok (.stringIter s pos) w := by simp [getObj, Sem.run, hh]
  simp only [std] at h
  unfold condP at h
  split at h
  · rename_i hc
    have hlt : pos < s.size := by simpa [std] using hc
    let w' : World := { w with heap := w.heap.setIfInBounds b (.stringIter s (pos + (Utf8.decode s pos).2)) }
    have hblt : b < w.heap.size := (Array.getElem?_eq_some_iff.mp hh).1
    have hset : (setObj b (.stringIter s (pos + (Utf8.decode s pos).2))).run P w = .ok () w' := by
      simp [setObj, Sem.run, hh, w']
    have hother : ∀ b' , b' ≠ b → w'.heap[b']? = w.heap[b']? := fun b' hne => by
      simp only [w', Array.getElem?_setIfInBounds]; rw [if_neg (Ne.symm hne)]
    have hbd := R.st.fp id _ ho b hfp
    have R' := R.write (o' := .it s (std.addN pos (std.decW s pos))) (g' := g1) (F := γ.fp id) (w' := w') (fun _ => False) (fun i => i = id) (killQ id) (kills_Q id) ho hg (fun _ => rfl) (fun h => absurd rfl h)
      (fun x hx => ⟨.inl hx, by have := R.st.fp id _ ho x hx; simpa [w'] using this⟩)
      (fun b' x hne hx => by rw [hother b' (by rintro rfl; exact hne hfp)]; exact hx) (by simp [w'])
      ⟨by simpa [w'] using R.st.keep.size, R.st.keep.os, R.st.keep.tape, R.st.keep.output, fun x hx hm => by
        rw [hother x (by rintro rfl; rcases hbd.2 with h | h; omega; exact hm h)]
        exact R.st.keep.old x hx hm⟩
      ⟨b, hb, hbase, by simpa [Ghost.grow] using hfp, by simp [w', std, hblt]⟩
    refine .inl ⟨.tuple #[.bool true, .int .i64 pos, .int .i32 (Utf8.decode s pos).1], w', ?_, _, _, _, h, R', ?_⟩
    · simp only [execOp, hu2, Instr.next, Sem.run_bind, hget, Result.andThen_ok, if_pos hlt, hset, Sem.run_pure]
      rfl
    · refine ⟨[.bool true, .int .i64 pos, .int .i32 (Utf8.decode s pos).1], rfl, rfl, fun j l hj => ?_⟩
      rcases j with _ | _ | _ | j
      · simp at hj; subst hj; exact ⟨_, rfl, rfl, rfl⟩
      · simp at hj; subst hj; exact ⟨_, rfl, rfl, rfl⟩
      · simp at hj; subst hj; exact ⟨_, rfl, rfl, rfl⟩
      · simp at hj
  · rename_i hc
    have hge : ¬ pos < s.size := by simpa [std] using hc
    refine .inl ⟨.tuple #[.bool false], w, ?_, _, _, _, h, R, ⟨[.bool false], rfl, rfl, fun j l hj => ?_⟩⟩
    · simp only [execOp, hu2, Instr.next, Sem.run_bind, hget, Result.andThen_ok, if_neg hge, Sem.run_pure]
    · rcases j with _ | j
      · simp at hj; subst hj; exact ⟨_, rfl, rfl, rfl⟩
      · simp at hj
end
end Go.AW
