/- The engine's operations are the model's, as the machine meets them. -/
import Derived.Test.YtmhehkkbmkmlkaaGreatEngF
import Derived.AtR
import Derived.Defers
namespace Go.Eng

/-- what an operation comes to, once it is through: a value, nothing, or a call that returns one -/
def Gives (P : Program) (cs : List Frame) (r : Result Next) (x : Value) (w' : World) : Prop :=
  r = .ok (.value x) w' ∨ (r = .ok .skip w' ∧ x = undef) ∨
    ∃ f ys w0, r = .ok (.enter f ys) w0 ∧ ∃ fr, Steps P (lone (Frame.enter P f ys .normal) cs w0) (lone fr cs w') ∧ fr.leaving P w' (.returned x)

/-- an outcome, held against the model's run of an operation -/
def OKN (E : Env) (cs : List Frame) (c : Cx) (H : Heap) (w : World) (o : OR) (r : Result Next) : Prop := match o with
  | .val v H' => ∃ x w' c', Gives E.P cs r x w' ∧ Stp E c H w c' H' w' ∧ V c' v x
  | .br l => ∃ p ∈ l, ∃ x w' c', Gives E.P cs r x w' ∧ Stp E c H w c' p.2 w' ∧ V c' p.1 x
  | .call f args => callKd E f = .body ∧ ∃ ys : Array Value, r = .ok (.enter f ys) w ∧ SL c args ys.toList
  | .yield l args => ∃ B, ∃ ys : Array Value, c.rho l = some (B, 0) ∧ r = (Instr.yield B ys).run E.P w ∧ SL c args ys.toList
  | .dfr f args => callKd E f = .body ∧ ∃ cap ys : Array Value, r = .ok (.defer { target := .fn (.func f) cap, args := ys }) w ∧ SL c args (ys.toList ++ cap.toList)
  | .pan v => ∃ x, r = .halt (.panic x) w ∧ V c v x
  | .rcv => r = .ok .recover w
  | .fail _ => True

/-- functions that the engine does not step into -/
def ExtsOK (E : Env) : Prop := ∀ f k, extOf f E.exts = .ext k → ∀ (cs : List Frame) (c : Cx) (H : Heap) (w : World) (l : List AV) (ys : Array Value), FactsOK E c → Hs E c H w → SL c l ys.toList →
  OKN E cs c H w (hExtern E k l H) ((callFunc f ys).run E.P w)

section
variable {E : Env} {cs : List Frame} {c : Cx} {H : Heap} {w : World}

theorem OKN.fail (n : Nat) (r : Result Next) : OKN E cs c H w (.fail n) r := trivial

theorem OKN.of_value {o : OR} {s : Sem Value} (h : OKV E c H w o (s.run E.P w)) : OKN E cs c H w o ((do pure (.value (← s)) : Sem Next).run E.P w) := by
  cases o <;> simp only [OKV] at h <;> first | exact h.elim | skip
  · obtain ⟨x, w', c', hr, h1, h2⟩ := h
    refine ⟨x, w', c', .inl ?_, h1, h2⟩
    simp only [Sem.run_bind, hr, Result.andThen_ok, Sem.run_pure]
  · obtain ⟨p, hp, x, w', c', hr, h1, h2⟩ := h
    refine ⟨p, hp, x, w', c', .inl ?_, h1, h2⟩
    simp only [Sem.run_bind, hr, Result.andThen_ok, Sem.run_pure]
  · trivial
theorem OKN.of_unit {o : OR} {s : Sem Unit} (h : OKU E c H w o (s.run E.P w)) : OKN E cs c H w o ((do s; pure .skip : Sem Next).run E.P w) := by
  cases o <;> simp only [OKU] at h <;> first | exact h.elim | skip
  · obtain ⟨rfl, w', c', hr, h1⟩ := h
    refine ⟨undef, w', c', .inr (.inl ⟨?_, rfl⟩), h1, V.undef c'⟩
    simp only [Sem.run_bind, hr, Result.andThen_ok, Sem.run_pure]
  · trivial

theorem evAll_spec {src : Operand → Src} {ρ : Operand → Value} {l : List AV} {tm : AH} : ∀ {os : List Operand}, (∀ x ∈ os, V c (ev (src x) l tm) (ρ x)) → SL c (evAll (os.map src) l tm []) (os.map ρ)
  | [], _ => rfl
  | x :: os, h => ⟨ρ x, os.map ρ, rfl, h x List.mem_cons_self, evAll_spec fun x hx => h x (List.mem_cons_of_mem _ hx)⟩

theorem callKd_body {f : Nat} (h : callKd E f = .body) : ∃ fn, E.P.funcs[f]? = some fn ∧ fn.body.isNone = false ∧ (fn.name == "runtime.NumGoroutine") = false := by
  unfold callKd at h
  split at h
  · split at h
    · rename_i fn hf
      split at h
      · rename_i b hb
        split at h
        · cases h
        · rename_i hn; exact ⟨fn, hf, by simp [hb], hn⟩
      · cases h
    · cases h
  · rename_i k hk
    exfalso
    have : ∀ l, extOf f l ≠ .body := by
      intro l
      induction l with
      | nil => intro h; cases h
      | cons p l ih => 
        obtain ⟨g, k⟩ := p
        intro h
        unfold extOf at h
        split at h
        · cases h
        · exact ih h
    exact this _ h
theorem callKd_ext {f : Nat} {k : ExtK} (h : callKd E f = .ext k) : extOf f E.exts = .ext k := by
  unfold callKd at h
  split at h
  · split at h
    · split at h
      · split at h <;> cases h
      · cases h
    · cases h
  · exact h
theorem run_callFunc_body {P : Program} {f : Nat} {fn : Func} (hf : P.funcs[f]? = some fn) (hb : fn.body.isNone = false) (hn : (fn.name == "runtime.NumGoroutine") = false) (args : Array Value) :
    (callFunc f args).run P w = .ok (.enter f args) w := by
  unfold callFunc
  simp only [Sem.run_bind, run_program, Result.andThen_ok, hf, hn, hb, Bool.false_eq_true, if_false, Sem.run_pure]

theorem hCall_ok (hE : FactsOK E c) (hX : ExtsOK E) (hH : Hs E c H w) {f : AV} {fv : Value} {l : List AV} {ys : Array Value} (hf : V c f fv) (hl : SL c l ys.toList) :
    OKN E cs c H w (hCall E f l H) ((do let d ← Deferred.ofValue fv ys; invoke d.target d.args : Sem Next).run E.P w) := by
  unfold hCall
  refine onFunc_spec (Φ := fun o => OKN E cs c H w o _) (OKN.fail _ _) (fun g a b e => ?_) fun L e => ?_
  · subst e
    obtain ⟨x, y, e, ha, hb⟩ := hf
    cases e
    have hargs : SL c (rlist a a (l ++ rlist b b [])) (x ++ ys ++ y).toList := by
      have h1 := rlist_spec (zs := []) (acc := []) hb rfl
      rw [List.append_nil] at h1
      have := rlist_spec ha (hl.append h1)
      simpa using this
    have hrun : (do let d ← Deferred.ofValue (.func (.func g) x y) ys; invoke d.target d.args : Sem Next).run E.P w = (callFunc g (x ++ ys ++ y)).run E.P w := rfl
    rw [hrun]
    cases hk : callKd E g with
    | body =>
      obtain ⟨fn, h1, h2, h3⟩ := callKd_body hk
      exact ⟨hk, _, run_callFunc_body h1 h2 h3 _, hargs⟩
    | ext k => exact hX g k (callKd_ext hk) cs c H w _ _ hE hH hargs
    | none => exact OKN.fail _ _
  · subst e
    obtain ⟨B, hr, e⟩ := hf
    cases e
    refine ⟨B, #[] ++ ys, hr, rfl, by simpa using hl⟩

theorem hDefer_ok {f : AV} {fv : Value} {l : List AV} {ys : Array Value} (hf : V c f fv) (hl : SL c l ys.toList) :
    OKN E cs c H w (hDefer E f l) ((do pure (.defer (← Deferred.ofValue fv ys)) : Sem Next).run E.P w) := by
  unfold hDefer
  split
  · rename_i g a b
    split
    · rename_i hk
      obtain ⟨x, y, e, ha, hb⟩ := hf
      cases e
      refine ⟨hk, y, x ++ ys, rfl, ?_⟩
      have h1 := rlist_spec (zs := []) (acc := []) hb rfl
      rw [List.append_nil] at h1
      have := rlist_spec ha (hl.append h1)
      simpa using this
    · exact OKN.fail _ _
  · exact OKN.fail _ _

theorem hPanic_ok {v : AV} {x : Value} (hv : V c v x) : OKN E cs c H w (hPanic v) ((do pure (.value (← Instr.panic x)) : Sem Next).run E.P w) := by
  unfold hPanic
  split
  · obtain ⟨y, e, hy⟩ := hv
    cases e
    exact ⟨.iface _ y, rfl, ⟨y, rfl, hy⟩⟩
  · exact OKN.fail _ _

theorem hBuiltin_ok (hE : FactsOK E c) (hH : Hs E c H w) {b : Builtin} {ts : Array TypeId} {ty : TypeId} {consts : Array Bool} {l : List AV} {ys : Array Value} (hl : SL c l ys.toList) :
    OKN E cs c H w (hBuiltin E b ts l H) ((builtin b ts ty consts ys).run E.P w) := by
  obtain ⟨ys⟩ := ys
  simp only at hl
  unfold hBuiltin
  split
  · obtain ⟨y, _, rfl, h1, z, _, rfl, h2, rfl⟩ := hl
    exact OKN.of_value (hAppend_ok hH h1 h2)
  · obtain ⟨y, _, rfl, h1, rfl⟩ := hl
    exact OKN.of_value (hLen_ok hE hH h1)
  · obtain ⟨y, _, rfl, h1, z, _, rfl, h2, rfl⟩ := hl
    exact OKN.of_value (hCopy_ok hH h1 h2)
  · obtain ⟨y, _, rfl, h1, rfl⟩ := hl
    exact OKN.of_value (hCap_ok hH h1)
  · obtain ⟨y, zs, rfl, h1, h2⟩ := hl
    exact OKN.of_value (minMax_ok hH (isMax := false) h1 h2)
  · obtain ⟨y, zs, rfl, h1, h2⟩ := hl
    exact OKN.of_value (minMax_ok hH (isMax := true) h1 h2)
  · obtain ⟨y, _, rfl, h1, z, _, rfl, h2, rfl⟩ := hl
    exact OKN.of_value (hDelete_ok hH h1 h2)
  · obtain ⟨y, _, rfl, h1, rfl⟩ := hl
    exact OKN.of_value (hClear_ok hH h1)
  · obtain ⟨y, _, rfl, h1, rfl⟩ := hl
    exact OKN.of_value (hSData_ok hH h1)
  · obtain ⟨y, _, rfl, h1, z, _, rfl, h2, rfl⟩ := hl
    exact OKN.of_value (hUStr_ok hH h1 h2)
  · exact rfl
  · exact OKN.fail _ _

theorem OKN.here (hH : Hs E c H w) {v : AV} {x : Value} {r : Result Next} (hr : r = .ok (.value x) w) (hv : V c v x) : OKN E cs c H w (.val v H) r :=
  ⟨x, w, c, .inl hr, .refl hH, hv⟩

theorem hNil_ok (hH : Hs E c H w) {v : AV} {x : Value} {o : Oper} {ρ : Operand → Value} {y : Operand} (ho : o.op = .nilCheck y) (hx : ρ y = x) (hv : V c v x) : OKN E cs c H w (hNil v H) ((execOp ρ o).run E.P w) := by
  have hrun : ∀ x, ρ y = x → (∀ n f g, x ≠ .func (.method n) f g) → x ≠ .pointer none → x ≠ .nilIface → x ≠ .nilFunc → (execOp ρ o).run E.P w = .ok (.value x) w := by
    intro x hx h1 h2 h3 h4
    unfold execOp
    simp only [ho, hx]
    rfl
  cases v <;> first | exact OKN.fail _ _ | skip
  · cases hv.bool_inv; exact OKN.here hH (hrun _ hx (by simp) (by simp) (by simp) (by simp)) hv
  · cases hv.int_inv; exact OKN.here hH (hrun _ hx (by simp) (by simp) (by simp) (by simp)) hv
  · obtain ⟨s, rfl, -⟩ := hv.str_inv; exact OKN.here hH (hrun _ hx (by simp) (by simp) (by simp) (by simp)) hv
  · have hv' := hv; obtain ⟨B, k, -, e⟩ := hv'; cases e; exact OKN.here hH (hrun _ hx (by simp) (by simp) (by simp) (by simp)) hv
  · have hv' := hv; obtain ⟨B, k, o', cp, -, rfl, -⟩ := hv'.slice_inv; exact OKN.here hH (hrun _ hx (by simp) (by simp) (by simp) (by simp)) hv
  · have hv' := hv; cases hv'; exact OKN.here hH (hrun _ hx (by simp) (by simp) (by simp) (by simp)) hv
  · have hv' := hv; obtain ⟨B, -, e⟩ := hv'; cases e; exact OKN.here hH (hrun _ hx (by simp) (by simp) (by simp) (by simp)) hv
  · have hv' := hv; cases hv'; exact OKN.here hH (hrun _ hx (by simp) (by simp) (by simp) (by simp)) hv
  · have hv' := hv; obtain ⟨a, b, e, -⟩ := hv'; cases e; exact OKN.here hH (hrun _ hx (by simp) (by simp) (by simp) (by simp)) hv
  · have hv' := hv; obtain ⟨B, -, e⟩ := hv'; cases e; exact OKN.here hH (hrun _ hx (by simp) (by simp) (by simp) (by simp)) hv
  · have hv' := hv; obtain ⟨y, e, -⟩ := hv'; cases e; exact OKN.here hH (hrun _ hx (by simp) (by simp) (by simp) (by simp)) hv
  · have hv' := hv; obtain ⟨cs, e, -⟩ := hv'; cases e; exact OKN.here hH (hrun _ hx (by simp) (by simp) (by simp) (by simp)) hv
  · have hv' := hv; obtain ⟨cs, e, -⟩ := hv'; cases e; exact OKN.here hH (hrun _ hx (by simp) (by simp) (by simp) (by simp)) hv

theorem hCallee_ok (hE : FactsOK E c) (hX : ExtsOK E) (hH : Hs E c H w) {k : Call} {ty : TypeId} {src : Operand → Src} {ρ : Operand → Value} {l : List AV} {tm : AH}
    (hs : ∀ x ∈ k.operands.toList, V c (ev (src x) l tm) (ρ x)) :
    OKN E cs c H w (hCallee E k.callee k.argTypes (k.operands.toList.map src) l tm H) ((do let d ← resolve ρ k ty; invoke d.target d.args : Sem Next).run E.P w) := by
  obtain ⟨callee, args, ts⟩ := k
  cases callee with
  | value f =>
    have e : (Call.operands ⟨.value f, args, ts⟩).toList = f :: args.toList := by simp [Call.operands]
    rw [e] at hs ⊢
    have h1 := hs f (by simp)
    have h2 : SL c (evAll (args.toList.map src) l tm []) (args.map ρ).toList := by
      rw [Array.toList_map]
      exact evAll_spec fun x hx => hs x (by simp [hx])
    exact hCall_ok hE hX hH h1 h2
  | invoke r m => exact OKN.fail _ _
  | builtin b =>
    have e : (Call.operands ⟨.builtin b, args, ts⟩).toList = args.toList := by simp [Call.operands]
    rw [e] at hs ⊢
    have h2 : SL c (evAll (args.toList.map src) l tm []) (args.map ρ).toList := by
      rw [Array.toList_map]
      exact evAll_spec fun x hx => hs x (by simp [hx])
    exact hBuiltin_ok hE hH h2

theorem hDeferC_ok {k : Call} {ty : TypeId} {src : Operand → Src} {ρ : Operand → Value} {l : List AV} {tm : AH}
    (hs : ∀ x ∈ k.operands.toList, V c (ev (src x) l tm) (ρ x)) :
    OKN E cs c H w (hDeferC E k.callee (k.operands.toList.map src) l tm) ((do pure (.defer (← resolve ρ k ty)) : Sem Next).run E.P w) := by
  obtain ⟨callee, args, ts⟩ := k
  cases callee with
  | value f =>
    have e : (Call.operands ⟨.value f, args, ts⟩).toList = f :: args.toList := by simp [Call.operands]
    rw [e] at hs ⊢
    have h1 := hs f (by simp)
    have h2 : SL c (evAll (args.toList.map src) l tm []) (args.map ρ).toList := by
      rw [Array.toList_map]
      exact evAll_spec fun x hx => hs x (by simp [hx])
    exact hDefer_ok h1 h2
  | invoke r m => exact OKN.fail _ _
  | builtin b => exact OKN.fail _ _

theorem hSliceOp_ok (hH : Hs E c H w) {t : TypeId} {x : Operand} {lo hi mx : Option Operand} {src : Operand → Src} {ρ : Operand → Value} {l : List AV} {tm : AH}
    (hs : ∀ y ∈ (Op.slice t x lo hi mx).operands.toList, V c (ev (src y) l tm) (ρ y)) :
    OKV E c H w (hSlice E t (arg ((Op.slice t x lo hi mx).operands.toList.map src) 0 l tm) (optArg lo ((Op.slice t x lo hi mx).operands.toList.map src) 1 l tm)
      (optArg hi ((Op.slice t x lo hi mx).operands.toList.map src) (1 + cnt lo) l tm) (optArg mx ((Op.slice t x lo hi mx).operands.toList.map src) (1 + cnt lo + cnt hi) l tm) H)
      ((Instr.sliceAt t (ρ x) (lo.map ρ) (hi.map ρ) (mx.map ρ)).run E.P w) := by
  have e : (Op.slice t x lo hi mx).operands.toList = x :: (lo.toList ++ (hi.toList ++ mx.toList)) := by
    cases lo <;> cases hi <;> cases mx <;> simp [Op.operands]
  rw [e] at hs ⊢
  have h0 := hs x (by simp)
  cases lo with
  | none => cases hi with
    | none => cases mx with
      | none => exact hSlice_ok hH h0 (lo := none) (hi := none) (mx := none) trivial trivial trivial
      | some m => exact hSlice_ok hH h0 (lo := none) (hi := none) (mx := some _) trivial trivial (hs m (by simp))
    | some h => cases mx with
      | none => exact hSlice_ok hH h0 (lo := none) (hi := some _) (mx := none) trivial (hs h (by simp)) trivial
      | some m => exact hSlice_ok hH h0 (lo := none) (hi := some _) (mx := some _) trivial (hs h (by simp)) (hs m (by simp))
  | some lo => cases hi with
    | none => cases mx with
      | none => exact hSlice_ok hH h0 (lo := some _) (hi := none) (mx := none) (hs lo (by simp)) trivial trivial
      | some m => exact hSlice_ok hH h0 (lo := some _) (hi := none) (mx := some _) (hs lo (by simp)) trivial (hs m (by simp))
    | some h => cases mx with
      | none => exact hSlice_ok hH h0 (lo := some _) (hi := some _) (mx := none) (hs lo (by simp)) (hs h (by simp)) trivial
      | some m => exact hSlice_ok hH h0 (lo := some _) (hi := some _) (mx := some _) (hs lo (by simp)) (hs h (by simp)) (hs m (by simp))

/-- an operation -/
theorem opA_ok (hE : FactsOK E c) (hX : ExtsOK E) (hH : Hs E c H w) {o : Oper} {src : Operand → Src} {ρ : Operand → Value} {l : List AV} {tm : AH}
    (hs : ∀ x ∈ o.op.operands.toList, V c (ev (src x) l tm) (ρ x)) :
    OKN E cs c H w (opA o.op E (o.op.operands.toList.map src) l tm H) ((execOp ρ o).run E.P w) := by
  have ho : o.op = o.op := rfl
  obtain ⟨dst, op, ty, pos, after, guard⟩ := o
  simp only at hs ho ⊢
  cases op with
  | move x => exact OKN.here hH rfl (hs x (by simp [Op.operands]))
  | assign x => exact OKN.here hH rfl (hs x (by simp [Op.operands]))
  | pick p a b =>
    have h1 := hs p (by simp [Op.operands]); have h2 := hs a (by simp [Op.operands]); have h3 := hs b (by simp [Op.operands])
    have := hPick_ok (E := E) hH h1 h2 h3
    have hh := OKN.of_value (cs := cs) this
    have e : (execOp ρ ⟨dst, .pick p a b, ty, pos, after, guard⟩).run E.P w = (do pure (.value (← (do pure (if ← asBool (ρ p) then ρ a else ρ b) : Sem Value))) : Sem Next).run E.P w := by
      simp only [execOp, Sem.run_bind, Sem.run_pure]
      cases (asBool (ρ p)).run E.P w <;> rfl
    rw [e]
    exact hh
  | alloc t => exact OKN.of_value (hAlloc_ok hH)
  | box t x => exact OKN.of_value (hBox_ok hH (hs x (by simp [Op.operands])))
  | build t ps =>
    refine OKN.of_value (hBuild_ok hH ?_)
    have h := evAll_spec (c := c) (l := l) (tm := tm) (os := ps.toList.map (·.2)) (src := src) (ρ := ρ) fun x hx => hs x (by simpa [Op.operands] using hx)
    rw [List.map_map] at h
    simpa [Op.operands, Function.comp_def] using h
  | buildSlice t n ps =>
    refine OKN.of_value (hBuildSlice_ok hH ?_)
    have h := evAll_spec (c := c) (l := l) (tm := tm) (os := ps.toList.map (·.2)) (src := src) (ρ := ρ) fun x hx => hs x (by simpa [Op.operands] using hx)
    rw [List.map_map] at h
    simpa [Op.operands, Function.comp_def] using h
  | insert t m k v => exact OKN.of_unit (hUpdate_ok hH (hs m (by simp [Op.operands])) (hs k (by simp [Op.operands])) (hs v (by simp [Op.operands])))
  | load t x => exact OKN.of_value (hLoad_ok hH (hs x (by simp [Op.operands])))
  | store t a v => exact OKN.of_unit (hStore_ok hH (hs a (by simp [Op.operands])) (hs v (by simp [Op.operands])))
  | ready g => exact OKN.fail _ _
  | waits g => exact OKN.fail _ _
  | nilCheck x => exact hNil_ok hH rfl rfl (hs x (by simp [Op.operands]))
  | binOp op t x y ty => exact OKN.of_value (hBin_ok hE hH op t x y (hs x (by simp [Op.operands])) (hs y (by simp [Op.operands])))
  | unOp op t x => exact OKN.of_value (hUn_ok hH (hs x (by simp [Op.operands])))
  | convert s d x => exact OKN.of_value (hConv_ok hH (hs x (by simp [Op.operands])))
  | sliceToArrayPointer a x => exact OKN.of_value (hS2ap_ok hH (hs x (by simp [Op.operands])))
  | makeInterface t x => exact OKN.of_value (hMakeIface_ok hH (hs x (by simp [Op.operands])))
  | makeFunc fn first cap =>
    have h := evAll_spec (c := c) (l := l) (tm := tm) (os := first.toList ++ cap.toList) (src := src) (ρ := ρ) fun x hx => hs x (by simpa [Op.operands] using hx)
    have h2 := hMakeFunc_ok (E := E) (w := w) hH (fn := fn) (first := first.map ρ) (cap := cap.map ρ) (l := evAll ((first.toList ++ cap.toList).map src) l tm []) (by simpa using h)
    refine OKN.of_value ?_
    have e : (Op.makeFunc fn first cap).operands.toList = first.toList ++ cap.toList := by simp [Op.operands]
    rw [e]
    rw [Array.size_map] at h2
    exact h2
  | makeMap t r => cases r with
    | none => exact OKN.of_value (hMakeMap_ok hH)
    | some _ => exact OKN.fail _ _
  | makeChan t x => exact OKN.fail _ _
  | makeSlice t a b => exact OKN.of_value (hMakeSlice_ok hH (hs a (by simp [Op.operands])) (hs b (by simp [Op.operands])))
  | slice t x lo hi mx => exact OKN.of_value (hSliceOp_ok hH hs)
  | fieldAddr s x f => exact OKN.of_value (hFieldAddr_ok hH (hs x (by simp [Op.operands])))
  | field s x f => exact OKN.of_value (hField_ok hH (hs x (by simp [Op.operands])))
  | indexAddr t x i => exact OKN.of_value (hIndexAddr_ok hH (hs x (by simp [Op.operands])) (hs i (by simp [Op.operands])))
  | index t x i => exact OKN.of_value (hIndex_ok hH (hs x (by simp [Op.operands])) (hs i (by simp [Op.operands])))
  | lookup t x i ok => exact OKN.of_value (hLookup_ok hH (hs x (by simp [Op.operands])) (hs i (by simp [Op.operands])))
  | mapUpdate t m k v => exact OKN.of_unit (hUpdate_ok hH (hs m (by simp [Op.operands])) (hs k (by simp [Op.operands])) (hs v (by simp [Op.operands])))
  | mapEntry t m k => exact OKN.fail _ _
  | entryStore t m k v => exact OKN.fail _ _
  | range t x => exact OKN.of_value (hRange_ok hH (hs x (by simp [Op.operands])))
  | next x isS => exact OKN.of_value (hNext_ok hH (hs x (by simp [Op.operands])))
  | entry x => exact OKN.of_value (hEntry_ok hH (hs x (by simp [Op.operands])))
  | typeAssert x t a ok => exact OKN.of_value (hAssert_ok hH (hs x (by simp [Op.operands])))
  | extract x i => exact OKN.of_value (hExtract_ok hH (hs x (by simp [Op.operands])))
  | call k => exact hCallee_ok hE hX hH hs
  | go k => exact OKN.fail _ _
  | defer k => exact hDeferC_ok hs
  | panic x => exact hPanic_ok (hs x (by simp [Op.operands]))
  | send a b => exact OKN.fail _ _
  | recv t x ok => exact OKN.fail _ _
  | select cs b => exact OKN.fail _ _
end
end Go.Eng
/- What the machine's state is held against; ordered regions. -/
namespace Go.Eng

/-! ### what stands for what -/
def PanOK (c : Cx) : List APan → List PanicEntry → Prop
  | [], l => l = []
  | p :: ps, l => ∃ q qs, l = q :: qs ∧ V c p.v q.v ∧ q.recovered = p.recovered ∧ q.goexit = false ∧ PanOK c ps qs
theorem PanOK.mono {c d : Cx} (h : c.Le d) : ∀ {l : List APan} {ch : List PanicEntry}, PanOK c l ch → PanOK d l ch
  | [], _, hp => hp
  | _ :: _, _, ⟨q, qs, e, hv, h1, h2, hp⟩ => ⟨q, qs, e, hv.mono h, h1, h2, PanOK.mono h hp⟩
def ModeOK (c : Cx) : AMode → FrameMode → Prop
  | .ret, m => m = .returning
  | .pan l, m => ∃ ch, m = .panicking ch ∧ PanOK c l ch
theorem ModeOK.mono {c d : Cx} (h : c.Le d) {a : AMode} {m : FrameMode} (hm : ModeOK c a m) : ModeOK d a m := by
  cases a with
  | ret => exact hm
  | pan l => obtain ⟨ch, e, hp⟩ := hm; exact ⟨ch, e, hp.mono h⟩
def DefOK (E : Env) (c : Cx) : ADef → Deferred → Prop
  | .call f args, d => callKd E f = .body ∧ ∃ cap ys : Array Value, d = { target := .fn (.func f) cap, args := ys } ∧ SL c args (ys.toList ++ cap.toList)
  | .collected r, d => ∃ B, c.rho r = some (B, 0) ∧ d = { target := .collected B, args := #[] }
theorem DefOK.mono {E : Env} {c d : Cx} (h : c.Le d) {x : ADef} {y : Deferred} (hd : DefOK E c x y) : DefOK E d x y := by
  cases x with
  | call f args => obtain ⟨h1, cap, ys, e, hs⟩ := hd; exact ⟨h1, cap, ys, e, hs.mono h⟩
  | collected r => obtain ⟨B, h1, e⟩ := hd; exact ⟨B, h.rho _ _ h1, e⟩
def DefsOK (E : Env) (c : Cx) : List ADef → List Deferred → Prop
  | [], l => l = []
  | x :: xs, l => ∃ y ys, l = y :: ys ∧ DefOK E c x y ∧ DefsOK E c xs ys
theorem DefsOK.mono {E : Env} {c d : Cx} (h : c.Le d) : ∀ {l : List ADef} {ys : List Deferred}, DefsOK E c l ys → DefsOK E d l ys
  | [], _, hp => hp
  | _ :: _, _, ⟨y, ys, e, hv, hp⟩ => ⟨y, ys, e, hv.mono h, DefsOK.mono h hp⟩
/-- the callers: of a deferred call, the caller's mode may have changed -/
def CallersOK (c : Cx) (dfd : Bool) (cm : AMode) (cs0 cs : List Frame) : Prop := match dfd with
  | false => cs = cs0
  | true => ∃ c0 rest m, cs0 = c0 :: rest ∧ cs = { c0 with mode := m } :: rest ∧ ModeOK c cm m
theorem CallersOK.mono {c d : Cx} (h : c.Le d) {dfd : Bool} {cm : AMode} {cs0 cs : List Frame} (hc : CallersOK c dfd cm cs0 cs) : CallersOK d dfd cm cs0 cs := by
  cases dfd with
  | false => exact hc
  | true => obtain ⟨c0, rest, m, h1, h2, h3⟩ := hc; exact ⟨c0, rest, m, h1, h2, h3.mono h⟩
def RoundOK (c : Cx) (rd : Option Nat) (b : Frame) : Prop := match rd with
  | none => b.roundOf = none
  | some l => ∃ B, c.rho l = some (B, 0) ∧ b.roundOf = some B
theorem RoundOK.mono {c d : Cx} (h : c.Le d) {rd : Option Nat} {b : Frame} (hr : RoundOK c rd b) : RoundOK d rd b := by
  cases rd with
  | none => exact hr
  | some l => obtain ⟨B, h1, h2⟩ := hr; exact ⟨B, h.rho _ _ h1, h2⟩
structure FrOK (E : Env) (c : Cx) (fr : Fr) (b : Frame) : Prop where
  M : fr.M = fM E.P fr.fn
  d : fr.d = fD E.P fr.fn
  nt : fr.nt = fT E.P fr.fn
  fn : b.fn = fr.fn
  kind : b.kind = if fr.deferred then .deferred else .normal
  round : RoundOK c fr.round b
theorem FrOK.mono {E : Env} {c d : Cx} (h : c.Le d) {fr : Fr} {b : Frame} (hf : FrOK E c fr b) : FrOK E d fr b := ⟨hf.M, hf.d, hf.nt, hf.fn, hf.kind, hf.round.mono h⟩

/-- the engine's state and the machine's -/
structure StOK (E : Env) (c : Cx) (fr : Fr) (cs0 : List Frame) (s : St) (a : Act) (w : World) (cs : List Frame) : Prop where
  hs : Hs E c s.H w
  tm : TM c fr.M fr.d s.tm a.tmps
  sz : fr.nt ≤ a.tmps.size
  ds : DefsOK E c s.ds a.defers
  cs : CallersOK c fr.deferred s.cm cs0 cs
theorem StOK.mono {E : Env} {c c' : Cx} {fr : Fr} {cs0 cs : List Frame} {tm : AH} {ds : List ADef} {cm : AMode} {H H' : Heap} {a : Act} {w w' : World}
    (h : StOK E c fr cs0 ⟨tm, ds, cm, H⟩ a w cs) (hle : c.Le c') (hH : Hs E c' H' w') : StOK E c' fr cs0 ⟨tm, ds, cm, H'⟩ a w' cs :=
  ⟨hH, h.tm.mono hle, h.sz, h.ds.mono hle, h.cs.mono hle⟩

/-- how code is left, on the machine -/
def Arr (P : Program) (c : Cx) (m : Machine) (b : Frame) (k : List Item) (cs : List Frame) (x : Ex) (a : Act) (w : World) : Prop := match x with
  | .normal => Steps P m (lone (b.atR a k) cs w)
  | .exit id => (∀ k', exitTo id k = some k' → Steps P m (lone (b.atR a k') cs w)) ∧
      (b.roundOf.isSome = true → exitTo id k = none → ∃ k₁, exitTo id k₁ = none ∧ Steps P m (lone (b.atR a (.code (.exit id) :: k₁)) cs w))
  | .goto l => (∀ k', gotoIn l k = some k' → Steps P m (lone (b.atR a k') cs w)) ∧
      (b.roundOf.isSome = true → gotoIn l k = none → ∃ k₁, gotoIn l k₁ = none ∧ Steps P m (lone (b.atR a (.code (.goto l) :: k₁)) cs w))
  | .ret => (b.roundOf = none → ∃ todo, Steps P m (lone { b.atR a todo with mode := .returning } cs w)) ∧
      (b.roundOf.isSome = true → ∃ k₁, Steps P m (lone (b.atR a (.code .ret :: k₁)) cs w))
  | .pan l => ∃ ch todo, PanOK c l ch ∧ Steps P m (lone { b.atR a todo with mode := .panicking ch } cs w)
theorem Arr.steps {P : Program} {c : Cx} {m m' : Machine} {b : Frame} {k : List Item} {cs : List Frame} {x : Ex} {a : Act} {w : World} (h : Steps P m m') (ha : Arr P c m' b k cs x a w) : Arr P c m b k cs x a w := by
  cases x with
  | normal => exact h.trans ha
  | exit id => exact ⟨fun k' hk => h.trans (ha.1 k' hk), fun hr hk => let ⟨k₁, h1, h2⟩ := ha.2 hr hk; ⟨k₁, h1, h.trans h2⟩⟩
  | goto l => exact ⟨fun k' hk => h.trans (ha.1 k' hk), fun hr hk => let ⟨k₁, h1, h2⟩ := ha.2 hr hk; ⟨k₁, h1, h.trans h2⟩⟩
  | ret => exact ⟨fun hr => let ⟨t, ht⟩ := ha.1 hr; ⟨t, h.trans ht⟩, fun hr => let ⟨t, ht⟩ := ha.2 hr; ⟨t, h.trans ht⟩⟩
  | pan l => obtain ⟨ch, todo, hp, hs⟩ := ha; exact ⟨ch, todo, hp, h.trans hs⟩

/-! ### outcomes -/
def ROf (One : Ex → St → Prop) : Res → Prop
  | .fail _ => True
  | .one x s => One x s
  | .many l => ∃ p ∈ l, One p.1 p.2
theorem ROf.mono {One Two : Ex → St → Prop} (h : ∀ x s, One x s → Two x s) {r : Res} (hr : ROf One r) : ROf Two r := by
  cases r with
  | fail n => trivial
  | one x s => exact h _ _ hr
  | many l => obtain ⟨p, hp, ho⟩ := hr; exact ⟨p, hp, h _ _ ho⟩
theorem ROf.append {One : Ex → St → Prop} {r s : Res} (h : ROf One r ∨ ROf One s) : ROf One (appRes r s) := by
  cases r with
  | fail n => cases s <;> trivial
  | one x t => cases s with
    | fail n => trivial
    | one y u => rcases h with h | h
                 · exact ⟨(x, t), by simp, h⟩
                 · exact ⟨(y, u), by simp, h⟩
    | many l => rcases h with h | ⟨p, hp, h⟩
                · exact ⟨(x, t), by simp, h⟩
                · exact ⟨p, by simp [hp], h⟩
  | many l => cases s with
    | fail n => trivial
    | one y u => rcases h with ⟨p, hp, h⟩ | h
                 · exact ⟨p, by simp [hp], h⟩
                 · exact ⟨(y, u), by simp, h⟩
    | many l' => rcases h with ⟨p, hp, h⟩ | ⟨p, hp, h⟩
                 · exact ⟨p, by simp [hp], h⟩
                 · exact ⟨p, by simp [hp], h⟩
theorem ROf.all {One : Ex → St → Prop} : ∀ {rs : List Res}, (∃ r ∈ rs, ROf One r) → ROf One (allRes rs)
  | [], h => by obtain ⟨_, h, _⟩ := h; cases h
  | [r], ⟨r', h, hr⟩ => by cases List.mem_singleton.1 h; exact hr
  | r :: r2 :: l, ⟨r', h, hr⟩ => by
    show ROf One (appRes r (allRes (r2 :: l)))
    rcases List.mem_cons.1 h with rfl | h
    · exact ROf.append (.inl hr)
    · exact ROf.append (.inr (ROf.all ⟨r', h, hr⟩))
theorem ROf.bind {One Two : Ex → St → Prop} {r : Res} {k : Ex → St → Res} (h : ROf One r) (hk : ∀ x s, One x s → ROf Two (k x s)) : ROf Two (bindR r k) := by
  cases r with
  | fail n => trivial
  | one x s => exact hk x s h
  | many l =>
    obtain ⟨p, hp, ho⟩ := h
    exact ROf.all ⟨_, List.mem_map.2 ⟨p, hp, rfl⟩, hk _ _ ho⟩

def COf (One : CRes → Prop) : CRes → Prop
  | .fail _ => True
  | .ret v m H => One (.ret v m H)
  | .pan l m H => One (.pan l m H)
  | .many l => ∃ r ∈ l, One r
theorem onC_eq (r : CRes) (kr : AV → AMode → Heap → Res) (kp : List APan → AMode → Heap → Res) : onC r kr kp = match r with
    | .fail n => .fail n
    | .ret v m H => kr v m H
    | .pan l m H => kp l m H
    | .many l => allRes (l.map fun x => onC1 x kr kp) := by cases r <;> rfl
theorem COf.onC {One : CRes → Prop} {Two : Ex → St → Prop} {r : CRes} {kr : AV → AMode → Heap → Res} {kp : List APan → AMode → Heap → Res} (h : COf One r)
    (hr : ∀ v m H, One (.ret v m H) → ROf Two (kr v m H)) (hp : ∀ l m H, One (.pan l m H) → ROf Two (kp l m H)) : ROf Two (onC r kr kp) := by
  rw [onC_eq]
  cases r with
  | fail n => trivial
  | ret v m H => exact hr _ _ _ h
  | pan l m H => exact hp _ _ _ h
  | many l =>
    obtain ⟨x, hx, ho⟩ := h
    refine ROf.all ⟨_, List.mem_map.2 ⟨x, hx, rfl⟩, ?_⟩
    cases x with
    | fail n => trivial
    | ret v m H => exact hr _ _ _ ho
    | pan l m H => exact hp _ _ _ ho
    | many l => trivial

section
variable {E : Env}

/-- one outcome of code -/
def One (E : Env) (c : Cx) (H : Heap) (w : World) (fr : Fr) (b : Frame) (cs0 : List Frame) (m : Machine) (k : List Item) (x : Ex) (s : St) : Prop :=
  ∃ a w' cs' c', Ext E c H w c' s.H w' ∧ StOK E c' fr cs0 s a w' cs' ∧ Arr E.P c' m b k cs' x a w'
theorem One.steps {c : Cx} {H : Heap} {w : World} {fr : Fr} {b : Frame} {cs0 : List Frame} {m m' : Machine} {k : List Item} {x : Ex} {s : St} (h : Steps E.P m m')
    (ho : One E c H w fr b cs0 m' k x s) : One E c H w fr b cs0 m k x s :=
  let ⟨a, w', cs', c', h1, h2, h3⟩ := ho; ⟨a, w', cs', c', h1, h2, h3.steps h⟩
theorem One.ext {c c1 : Cx} {H H1 : Heap} {w w1 : World} {fr : Fr} {b : Frame} {cs0 : List Frame} {m : Machine} {k : List Item} {x : Ex} {s : St} (h : Ext E c H w c1 H1 w1)
    (ho : One E c1 H1 w1 fr b cs0 m k x s) : One E c H w fr b cs0 m k x s :=
  let ⟨a, w', cs', c', h1, h2, h3⟩ := ho; ⟨a, w', cs', c', h.trans h1, h2, h3⟩

/-- one outcome of a call -/
def C1 (E : Env) (c : Cx) (H : Heap) (w : World) (f : Nat) (dfd : Bool) (cs0 : List Frame) (m : Machine) : CRes → Prop
  | .ret v cm H' => ∃ x w' c' fr' cs', Stp E c H w c' H' w' ∧ V c' v x ∧ CallersOK c' dfd cm cs0 cs' ∧ Steps E.P m (lone fr' cs' w') ∧ fr'.fn = f ∧
      fr'.kind = (if dfd then .deferred else .normal) ∧ fr'.mode = .returning ∧ fr'.defers = [] ∧ ∃ fn, E.P.funcs[fr'.fn]? = some fn ∧ (results fn fr'.tmps).run E.P w' = .ok x w'
  | .pan l cm H' => ∃ ch w' c' fr' cs', Stp E c H w c' H' w' ∧ PanOK c' l ch ∧ CallersOK c' dfd cm cs0 cs' ∧ Steps E.P m (lone fr' cs' w') ∧ fr'.fn = f ∧
      fr'.kind = (if dfd then .deferred else .normal) ∧ fr'.mode = .panicking ch ∧ fr'.defers = [] ∧ ∃ fn, E.P.funcs[fr'.fn]? = some fn
  | _ => False
/-- one outcome of a round -/
def Y1 (E : Env) (c : Cx) (H : Heap) (w : World) (c0 : Frame) (cs : List Frame) (m : Machine) : CRes → Prop
  | .ret v _ H' => ∃ x w' c', Stp E c H w c' H' w' ∧ V c' v x ∧ Steps E.P m (lone (c0.finish x) cs w')
  | .pan l _ H' => ∃ ch w' c' fr', Stp E c H w c' H' w' ∧ PanOK c' l ch ∧ Steps E.P m (lone fr' (c0 :: cs) w') ∧ fr'.mode = .panicking ch ∧ fr'.defers = [] ∧ ∃ fn, E.P.funcs[fr'.fn]? = some fn
  | _ => False
structure SelfOK (E : Env) (run : Cmd → CRes) : Prop where
  call : ∀ f args dfd cm H c w (ys : Array Value) cs0 cs, FactsOK E c → Hs E c H w → SL c args ys.toList → CallersOK c dfd cm cs0 cs → callKd E f = .body →
    COf (C1 E c H w f dfd cs0 (lone (Frame.enter E.P f ys (if dfd then .deferred else .normal)) cs w)) (run (.call f args dfd cm H))
  yield : ∀ l args H c w (ys : Array Value) B c0 cs, FactsOK E c → Hs E c H w → SL c args ys.toList → c.rho l = some (B, 0) →
    COf (fun r => ∃ fb tmps as bd, (Instr.yield B ys).run E.P w = .ok (.round B fb tmps as bd) w ∧ Y1 E c H w c0 cs (lone (Frame.round B fb tmps as bd .normal) (c0 :: cs) w) r) (run (.yield l args H))
end

/-! ### operands -/
/-- the values that a region has worked out so far -/
def Stk (c : Cx) (nt : Nat) (ks : List (Option Nat)) (l : List AV) (tmps : Array Value) : Prop := ∀ t i, idxOf t ks 0 = some i → t < nt → V c (nth i l) (tmps.getD t undef)
theorem Stk.mono {c d : Cx} (h : c.Le d) {nt : Nat} {ks : List (Option Nat)} {l : List AV} {tmps : Array Value} (hs : Stk c nt ks l tmps) : Stk d nt ks l tmps := fun t i h1 h2 => (hs t i h1 h2).mono h
theorem Stk.nil (c : Cx) (nt : Nat) (l : List AV) (tmps : Array Value) : Stk c nt [] l tmps := fun t i h => by simp [idxOf] at h

theorem idxOf_shift {t : Nat} : ∀ {ks : List (Option Nat)} {n i : Nat}, idxOf t ks n = some i → ∃ j, i = n + j ∧ ∀ m, idxOf t ks m = some (m + j)
  | [], _, _, h => by simp [idxOf] at h
  | none :: ks, n, i, h => by
    obtain ⟨j, e, h2⟩ := idxOf_shift (ks := ks) (n := n + 1) h
    exact ⟨j + 1, by omega, fun m => by show idxOf t ks (m + 1) = _; rw [h2]; congr 1; omega⟩
  | some u :: ks, n, i, h => by
    unfold idxOf at h
    simp only at h
    split at h
    · rename_i hu
      cases h
      refine ⟨0, rfl, fun m => ?_⟩
      unfold idxOf
      simp only [hu]
      rfl
    · rename_i hu
      obtain ⟨j, e, h2⟩ := idxOf_shift h
      refine ⟨j + 1, by omega, fun m => ?_⟩
      unfold idxOf
      simp only [hu]
      rw [h2]; congr 1; omega

theorem V.bad (c : Cx) (x : Value) : V c .bad x := ⟨x, rfl⟩

theorem srcOf_spec {c : Cx} {M d nt : Nat} {ks : List (Option Nat)} {l : List AV} {tm : AH} {a : Act} (ht : TM c M d tm a.tmps) (hs : Stk c nt ks l a.tmps) (x : Operand) :
    V c (ev (srcOf M d nt ks x) l tm) (a.eval x) := by
  cases x with
  | tmp t =>
    unfold srcOf
    simp only
    split
    · rename_i i hi
      split
      · rename_i hlt
        exact hs t i hi (by simpa using hlt)
      · exact V.bad _ _
    · split
      · rename_i hb
        exact (ht t hb).2.2
      · exact V.bad _ _
  | const v => exact absV_spec 8 v
  | global g => exact V.bad _ _
  | func f => exact ⟨#[], #[], rfl, rfl, rfl⟩

def putT (st : Option (List D4)) (v : AV) (tm : AH) : AH := match st with
  | none => tm
  | some p => tsetP p tm (.val v)
theorem put_eq (st : Option (List D4)) (v : AV) (tm : AH) (k : AH → Res) : put st v tm k = k (putT st v tm) := by
  cases st with
  | none => rfl
  | some p =>
    show forceR v (fun v => tsetR p tm (.val v) k) = _
    rw [forceR_eq, tsetR_eq]
    rfl

theorem TM.put {c : Cx} {M d : Nat} {tm : AH} {a : Act} (h : TM c M d tm a.tmps) {v : AV} {x : Value} (hv : V c v x) (dst : Option Tmp) :
    TM c M d (putT (stOf M d dst) v tm) (a.put dst x).tmps := by
  cases dst with
  | none => exact h
  | some t =>
    intro t' hb
    obtain ⟨h1, h2, h3⟩ := h t' hb
    refine ⟨h1, by simpa [Act.put] using h2, ?_⟩
    by_cases e : t' = t
    · subst e
      have e1 : stOf M d (some t') = some (digits d t') := by unfold stOf; simp only [hb]
      rw [e1]
      have e2 : tget (digits d t') (putT (some (digits d t')) v tm) = .val v := by
        unfold putT
        simp only
        rw [tget_tsetP _ _ _ _ rfl, if_pos rfl]
      rw [e2]
      show V c v _
      simpa [Act.put, h2] using hv
    · have e2 : tget (digits d t') (putT (stOf M d (some t)) v tm) = tget (digits d t') tm := by
        unfold stOf
        simp only
        split
        · rename_i hbt
          unfold putT
          simp only
          rw [tget_tsetP _ _ _ _ (by rw [digits_length, digits_length]), if_neg fun h0 => e (digits_inj d t' t h1 (h t hbt).1 h0)]
        · rfl
      rw [e2]
      have e3 : (a.put (some t) x).tmps.getD t' undef = a.tmps.getD t' undef := by
        simp [Act.put, Array.getElem?_setIfInBounds_ne (Ne.symm e)]
      rw [e3]
      exact h3

theorem Stk.put {c : Cx} {nt : Nat} {ks : List (Option Nat)} {l : List AV} {a : Act} (h : Stk c nt ks l a.tmps) (hsz : nt ≤ a.tmps.size) {v : AV} {x : Value} (hv : V c v x) (dst : Option Tmp) :
    Stk c nt (dst :: ks) (v :: l) (a.put dst x).tmps := by
  intro t i hi hlt
  cases dst with
  | none =>
    obtain ⟨j, e, h2⟩ := idxOf_shift (ks := ks) (n := 1) hi
    rw [e, Nat.add_comm]
    have := h t j (by rw [h2]; simp) hlt
    exact this
  | some u =>
    unfold idxOf at hi
    simp only at hi
    split at hi
    · rename_i hu
      cases hi
      have : u = t := Nat.eq_of_beq_eq_true hu
      subst this
      have h2 : u < a.tmps.size := Nat.lt_of_lt_of_le hlt hsz
      show V c v _
      simpa [Act.put, h2] using hv
    · rename_i hu
      have hne : u ≠ t := Nat.ne_of_beq_eq_false hu
      obtain ⟨j, e, h2⟩ := idxOf_shift hi
      have h3 := h t j (by rw [h2]; simp) hlt
      have e3 : (a.put (some u) x).tmps.getD t undef = a.tmps.getD t undef := by
        simp [Act.put, Array.getElem?_setIfInBounds_ne hne]
      rw [e3, e, Nat.add_comm]
      exact h3

theorem guard_spec {Φ : Res → Prop} (hf : ∀ n, Φ (.fail n)) {c : Cx} {M d nt : Nat} {ks : List (Option Nat)} {l : List AV} {tm : AH} {a : Act} (ht : TM c M d tm a.tmps) (hs : Stk c nt ks l a.tmps)
    {o : Oper} {ops : Array Oper} {yes no : Res} (hy : Region.wanted o (yielded ops a.tmps) = true → Φ yes) (hn : Region.wanted o (yielded ops a.tmps) = false → Φ no) :
    Φ (guardR (prepOp M d nt ops.toList ks o).gd l tm yes no) := by
  unfold prepOp
  simp only
  cases hg : o.guard with
  | none => exact hy (by simp [Region.wanted, hg])
  | some g =>
    obtain ⟨j, want⟩ := g
    simp only
    have hbad : Φ (guardR (some (Src.bad, want)) l tm yes no) := hf _
    cases hj : ops.toList[j]? with
    | none => exact hbad
    | some o' =>
      simp only
      cases ht' : o'.dst with
      | none => exact hbad
      | some t =>
        simp only
        have hj' : ops[j]? = some o' := by rw [← Array.getElem?_toList]; exact hj
        have hv := srcOf_spec ht hs (.tmp t)
        show Φ (onBoolTup (ev (srcOf M d nt ks (.tmp t)) l tm) _ _ _)
        rw [onBoolTup_eq]
        generalize ev (srcOf M d nt ks (.tmp t)) l tm = q at hv
        split
        · rename_i b
          have hb : a.tmps.getD t undef = .bool b := hv.bool_inv
          have hyd : yielded ops a.tmps j = some b := by
            unfold yielded
            simp only [hj', Option.bind_some, ht']
            rw [Array.getD_eq_getD_getElem?] at hb
            cases h2 : a.tmps[t]? with
            | none => rw [h2] at hb; cases hb
            | some y => rw [h2] at hb; simp only [Option.getD_some] at hb; subst hb; rfl
          have hw : Region.wanted o (yielded ops a.tmps) = (b == want) := by
            simp [Region.wanted, hg, hyd]
          cases b <;> cases want
          · exact hy (by rw [hw]; rfl)
          · exact hn (by rw [hw]; rfl)
          · exact hn (by rw [hw]; rfl)
          · exact hy (by rw [hw]; rfl)
        · rename_i y
          obtain ⟨cs, e, -⟩ := hv
          have e' : a.tmps.getD t undef = .tuple cs := by simpa [Act.eval] using e
          have hyd : yielded ops a.tmps j = none := by
            unfold yielded
            simp only [hj', Option.bind_some, ht']
            rw [Array.getD_eq_getD_getElem?] at e'
            cases h2 : a.tmps[t]? with
            | none => rfl
            | some y => rw [h2] at e'; simp only [Option.getD_some] at e'; subst e'; rfl
          exact hn (by simp [Region.wanted, hg, hyd])
        · exact hf _
end Go.Eng
/- Ordered regions: the engine's run of one is the machine's. -/
namespace Go.Eng

section
variable {E : Env} {self : Cmd → CRes}

theorem special_val (self : Cmd → CRes) (fr : Fr) (v : AV) (H' : Heap) (tm : AH) (ds : List ADef) (cm : AMode) (H : Heap) (go : AV → List ADef → AMode → Heap → Res) :
    special self fr (.val v H') tm ds cm H go = go v ds cm H' := rfl

theorem runOps_cons (E : Env) (self : Cmd → CRes) (fr : Fr) (p : POp) (ps : List POp) (l : List AV) (tm : AH) (ds : List ADef) (cm : AMode) (H : Heap) :
    runOps E self fr (p :: ps) l tm ds cm H = guardR p.gd l tm
      (special self fr (opA p.op E p.xs l tm H) tm ds cm H fun v ds cm H => put p.st v tm fun tm => runOps E self fr ps (v :: l) tm ds cm H)
      (put p.st undefA tm fun tm => runOps E self fr ps (undefA :: l) tm ds cm H) := by
  show guardR p.gd l tm (orVal (opA p.op E p.xs l tm H) _ _) _ = _
  congr 1
  cases opA p.op E p.xs l tm H <;> rfl

/-- a step of an operation, by what it comes to -/
theorem Gives.steps {P : Program} {b : Frame} {a : Act} {k : List Item} {cs : List Frame} {w w' : World} {ops : Array Oper} {i : Nat} {rest : List Nat} {o : Oper} {r : Result Next} {x : Value} (hg : Gives P (b.atR a (.inRegion ops (i :: rest) :: k) :: cs) r x w')
    (hr : stepG P true { frame := b.atR a (.inRegion ops (i :: rest) :: k), callers := cs, status := .running, dying := none } w =
      stepG.apply P true (b.atR a (.inRegion ops (i :: rest) :: k)) cs none (o.semAt b.roundOf a.eval) w) (hr2 : (o.semAt b.roundOf a.eval).run P w = r) (ho : ops[i]? = some o) :
    Steps P (lone (b.atR a (.inRegion ops (i :: rest) :: k)) cs w) (lone (b.atR (a.put o.dst x) (.inRegion ops rest :: k)) cs w') := by
  have hfin : ∀ v, (b.atR a (.inRegion ops (i :: rest) :: k)).finish v = b.atR (a.put o.dst v) (.inRegion ops rest :: k) := by
    intro v; rw [Frame.finish_atR, ho]; rfl
  rcases hg with h | ⟨h, rfl⟩ | ⟨f, ys, w0, h, hc⟩
  · refine .one (step_lone_go ?_)
    rw [hr, ← hfin]; simp [stepG.apply, hr2, h]
  · refine .one (step_lone_go ?_)
    rw [hr, ← hfin]; simp [stepG.apply, hr2, h]
  · obtain ⟨fr', hs, hl⟩ := hc
    have henter : step P (lone (b.atR a (.inRegion ops (i :: rest) :: k)) cs w) = .next (lone (Frame.enter P f ys .normal) (b.atR a (.inRegion ops (i :: rest) :: k) :: cs) w0) :=
      step_lone_go (by rw [hr]; simp [stepG.apply, hr2, h, Frame.atR])
    refine .head henter (hs.trans (.one ?_))
    rw [← hfin]; exact step_leave_returned hl

/-- what is done with an operation's outcome -/
theorem special_core (hself : SelfOK E self) {c : Cx} {H : Heap} {w : World} {fr : Fr} {b : Frame} {cs0 cs : List Frame} {k : List Item} {tm : AH} {ds : List ADef} {cm : AMode} {a : Act}
    (hE : FactsOK E c) (hfr : FrOK E c fr b) (hst : StOK E c fr cs0 ⟨tm, ds, cm, H⟩ a w cs) {ops : Array Oper} {i : Nat} {rest : List Nat} {o : Oper} (ho : ops[i]? = some o)
    (hw : Region.wanted o (yielded ops a.tmps) = true) (hsem : o.semAt b.roundOf a.eval = execOp a.eval o) {r : OR} (hN : OKN E (b.atR a (.inRegion ops (i :: rest) :: k) :: cs) c H w r ((execOp a.eval o).run E.P w))
    {go : AV → List ADef → AMode → Heap → Res} {Two : Ex → St → Prop}
    (hgo' : ∀ v ds' cm' H' x a' w' cs' c', Ext E c H w c' H' w' → StOK E c' fr cs0 ⟨tm, ds', cm', H'⟩ a' w' cs' → V c' v x → a'.tmps = a.tmps →
      Steps E.P (lone (b.atR a (.inRegion ops (i :: rest) :: k)) cs w) (lone (b.atR (a'.put o.dst x) (.inRegion ops rest :: k)) cs' w') → ROf Two (go v ds' cm' H'))
    (hpan : ∀ l s, One E c H w fr b cs0 (lone (b.atR a (.inRegion ops (i :: rest) :: k)) cs w) k (.pan l) s → Two (.pan l) s) :
    ROf Two (special self fr r tm ds cm H go) := by
  have hstep := stepGR_op (P := E.P) (b := b) (k := k) (cs := cs) (w := w) (rest := rest) ho hw
  have hfin : ∀ v, (b.atR a (.inRegion ops (i :: rest) :: k)).finish v = b.atR (a.put o.dst v) (.inRegion ops rest :: k) := by
    intro v; rw [Frame.finish_atR, ho]; rfl
  have hkind : (b.atR a (.inRegion ops (i :: rest) :: k)).kind = b.kind := rfl
  cases r with
  | fail n => trivial
  | val v H' =>
    obtain ⟨x, w', c', hg, hs, hv⟩ := hN
    exact hgo' v ds cm H' x a w' cs c' hs.2 (hst.mono hs.2.le hs.1) hv rfl (hg.steps hstep (by rw [hsem]) ho)
  | br l =>
    obtain ⟨p, hp, x, w', c', hg, hs, hv⟩ := hN
    exact ROf.all ⟨_, List.mem_map.2 ⟨p, hp, rfl⟩, hgo' p.1 ds cm p.2 x a w' cs c' hs.2 (hst.mono hs.2.le hs.1) hv rfl (hg.steps hstep (by rw [hsem]) ho)⟩
  | call f args =>
    obtain ⟨hk, ys, hr, hargs⟩ := hN
    have henter : step E.P (lone (b.atR a (.inRegion ops (i :: rest) :: k)) cs w) = .next (lone (Frame.enter E.P f ys .normal) (b.atR a (.inRegion ops (i :: rest) :: k) :: cs) w) :=
      step_lone_go (by rw [hstep, hsem]; simp [stepG.apply, hr, Frame.atR])
    refine COf.onC (hself.call f args false .ret H c w ys (b.atR a (.inRegion ops (i :: rest) :: k) :: cs) (b.atR a (.inRegion ops (i :: rest) :: k) :: cs) hE hst.hs hargs rfl hk) ?_ ?_
    · rintro v m H' ⟨x, w', c', fr', cs', hs, hv, hcs, hsteps, hfn, hkd, hm, hd, hfun⟩
      cases hcs
      refine hgo' v ds cm H' x a w' cs c' hs.2 (hst.mono hs.2.le hs.1) hv rfl (.head henter (hsteps.trans (.one ?_)))
      rw [← hfin]
      exact step_leave_returned ⟨hm, hd, hkd, hfun⟩
    · rintro l m H' ⟨ch, w', c', fr', cs', hs, hp, hcs, hsteps, hfn, hkd, hm, hd, hfun⟩
      cases hcs
      refine hpan _ _ ⟨a, w', cs, c', hs.2, hst.mono hs.2.le hs.1, ch, .inRegion ops (i :: rest) :: k, hp, .head henter (hsteps.trans (.one ?_))⟩
      rw [← Frame.raise_atR]
      exact step_leave_panicked ⟨hm, hd, hfun⟩
  | yield l args =>
    obtain ⟨B, ys, hl, hr, hargs⟩ := hN
    have hself' := hself.yield l args H c w ys B (b.atR a (.inRegion ops (i :: rest) :: k)) cs hE hst.hs hargs hl
    have henter : ∀ fb tmps as bd, (Instr.yield B ys).run E.P w = .ok (.round B fb tmps as bd) w → step E.P (lone (b.atR a (.inRegion ops (i :: rest) :: k)) cs w) = .next (lone (Frame.round B fb tmps as bd .normal) (b.atR a (.inRegion ops (i :: rest) :: k) :: cs) w) := by
      intro fb tmps as bd h
      exact step_lone_go (by rw [hstep, hsem]; simp [stepG.apply, hr, h, Frame.atR])
    refine COf.onC hself' ?_ ?_
    · rintro v m H' ⟨fb, tmps, as, bd, hy, x, w', c', hs, hv, hsteps⟩
      refine hgo' v ds cm H' x a w' cs c' hs.2 (hst.mono hs.2.le hs.1) hv rfl (.head (henter _ _ _ _ hy) ?_)
      rw [← hfin]
      exact hsteps
    · rintro l m H' ⟨fb, tmps, as, bd, hy, ch, w', c', fr', hs, hp, hst', hm, hd, hfun⟩
      refine hpan _ _ ⟨a, w', cs, c', hs.2, hst.mono hs.2.le hs.1, ch, .inRegion ops (i :: rest) :: k, hp, .head (henter _ _ _ _ hy) (hst'.trans (.one ?_))⟩
      rw [← Frame.raise_atR]
      exact step_leave_panicked ⟨hm, hd, hfun⟩
  | dfr f args =>
    unfold special
    dsimp only
    cases hrd : fr.round with
    | some l => trivial
    | none =>
      obtain ⟨hk, cap, ys, hr, hargs⟩ := hN
      have hst2 : StOK E c fr cs0 ⟨tm, .call f args :: ds, cm, H⟩ { a with defers := { target := .fn (.func f) cap, args := ys } :: a.defers } w cs :=
        ⟨hst.hs, hst.tm, hst.sz, ⟨_, _, rfl, ⟨hk, cap, ys, rfl, hargs⟩, hst.ds⟩, hst.cs⟩
      refine hgo' undefA _ cm H undef { a with defers := { target := .fn (.func f) cap, args := ys } :: a.defers } w cs c (.refl ..) hst2 (V.undef c) rfl (.one (step_lone_go ?_))
      have hfin2 := Frame.finish_atR b { a with defers := { target := .fn (.func f) cap, args := ys } :: a.defers } ops i rest k undef
      rw [ho] at hfin2
      rw [hstep, hsem]
      simp only [stepG.apply, Sem.runT_eq, hr, if_true, GStep.bare_after]
      exact congrArg (fun fr => GStep.go { frame := fr, callers := cs, status := .running, dying := none } w) hfin2
  | pan v =>
    obtain ⟨x, hr, hv⟩ := hN
    refine hpan _ _ ⟨a, w, cs, c, .refl .., hst, [{ v := x, recovered := false }], .inRegion ops (i :: rest) :: k, ⟨_, [], rfl, hv, rfl, rfl, rfl⟩, .one (step_lone_go ?_)⟩
    rw [hstep, hsem, ← Frame.raise_atR]; simp [stepG.apply, hr]
  | rcv =>
    have hr : (execOp a.eval o).run E.P w = .ok .recover w := hN
    unfold special
    dsimp only
    cases hrd : fr.round with
    | some l => trivial
    | none =>
      have hro : b.roundOf = none := by have := hfr.round; rw [hrd] at this; exact this
      have hnil : tryRecover (b.atR a (.inRegion ops (i :: rest) :: k)) cs = none → Steps E.P (lone (b.atR a (.inRegion ops (i :: rest) :: k)) cs w) (lone (b.atR (a.put o.dst .nilIface) (.inRegion ops rest :: k)) cs w) := by
        intro h
        refine .one (step_lone_go ?_)
        rw [hstep, hsem, ← hfin]
        have h1 : (b.atR a (.inRegion ops (i :: rest) :: k)).roundOf = none := hro
        simp only [stepG.apply, Sem.runT_eq, hr, if_true, GStep.bare_after, h1, h]
        rfl
      have hgoN : tryRecover (b.atR a (.inRegion ops (i :: rest) :: k)) cs = none → ROf Two (go .nili ds cm H) :=
        fun h => hgo' .nili ds cm H .nilIface a w cs c (.refl ..) hst rfl rfl (hnil h)
      have hkd := hfr.kind
      have hcs := hst.cs
      cases hdf : fr.deferred with
      | false =>
        rw [hdf] at hkd
        refine hgoN ?_
        unfold tryRecover
        rw [hkind, hkd]
        rfl
      | true =>
        rw [hdf] at hkd hcs
        obtain ⟨c0, rs, m, h1, h2, h3⟩ := hcs
        subst h2
        have hkd' : (b.atR a (.inRegion ops (i :: rest) :: k)).kind = .deferred := by rw [hkind, hkd]; rfl
        cases cm with
        | ret =>
          have hm : m = .returning := h3
          subst hm
          refine hgoN ?_
          unfold tryRecover
          rw [hkd']
        | pan l =>
          obtain ⟨ch, hm, hp⟩ := h3
          subst hm
          cases l with
          | nil =>
            cases hp
            refine hgoN ?_
            unfold tryRecover
            rw [hkd']
          | cons p l =>
            obtain ⟨q, qs, e, hv, h4, h5, h6⟩ := hp
            subst e
            obtain ⟨pv, pr⟩ := p
            obtain ⟨qv, qr, qg⟩ := q
            simp only at h4 h5 hv
            subst h4 h5
            cases qr with
            | true =>
              refine hgoN ?_
              unfold tryRecover
              rw [hkd']
            | false =>
              have hst2 : StOK E c fr cs0 ⟨tm, ds, .pan (⟨pv, true⟩ :: l), H⟩ a w ({ c0 with mode := .panicking ({ v := qv, recovered := true } :: qs) } :: rs) :=
                ⟨hst.hs, hst.tm, hst.sz, hst.ds, by rw [hdf]; exact ⟨c0, rs, _, h1, rfl, _, rfl, ⟨_, _, rfl, hv, rfl, rfl, h6⟩⟩⟩
              refine hgo' pv ds _ H qv a w _ c (.refl ..) hst2 hv rfl (.one (step_lone_go ?_))
              rw [hstep, hsem, ← hfin]
              have h1' : (b.atR a (.inRegion ops (i :: rest) :: k)).roundOf = none := hro
              have h2' : tryRecover (b.atR a (.inRegion ops (i :: rest) :: k)) ({ c0 with mode := .panicking ({ v := qv, recovered := false, goexit := false } :: qs) } :: rs) =
                  some (qv, { c0 with mode := .panicking ({ v := qv, recovered := true } :: qs) } :: rs) := by
                unfold tryRecover
                rw [hkd']
              simp only [stepG.apply, Sem.runT_eq, hr, if_true, GStep.bare_after, h1', h2']
              rfl

theorem special_ok (hself : SelfOK E self) {c : Cx} {H : Heap} {w : World} {fr : Fr} {b : Frame} {cs0 cs : List Frame} {k : List Item} {tm : AH} {ds : List ADef} {cm : AMode} {a : Act}
    (hE : FactsOK E c) (hfr : FrOK E c fr b) (hst : StOK E c fr cs0 ⟨tm, ds, cm, H⟩ a w cs) {ops : Array Oper} {i : Nat} {rest : List Nat} {o : Oper} (ho : ops[i]? = some o)
    (hw : Region.wanted o (yielded ops a.tmps) = true) (hsem : o.semAt b.roundOf a.eval = execOp a.eval o) {r : OR} (hN : OKN E (b.atR a (.inRegion ops (i :: rest) :: k) :: cs) c H w r ((execOp a.eval o).run E.P w))
    {go : AV → List ADef → AMode → Heap → Res}
    (hgo : ∀ v ds' cm' H' x a' w' cs' c', Ext E c H w c' H' w' → StOK E c' fr cs0 ⟨tm, ds', cm', H'⟩ a' w' cs' → V c' v x → a'.tmps = a.tmps →
      ROf (One E c' H' w' fr b cs0 (lone (b.atR (a'.put o.dst x) (.inRegion ops rest :: k)) cs' w') k) (go v ds' cm' H')) :
    ROf (One E c H w fr b cs0 (lone (b.atR a (.inRegion ops (i :: rest) :: k)) cs w) k) (special self fr r tm ds cm H go) :=
  special_core hself hE hfr hst ho hw hsem hN (fun v ds' cm' H' x a' w' cs' c' h1 h2 h3 h4 h5 => (hgo v ds' cm' H' x a' w' cs' c' h1 h2 h3 h4).mono fun _ _ ho => (ho.steps h5).ext h1) fun _ _ h => h

/-- in a round, deferred calls are not dealt with -/
theorem special_round_defer {One : Ex → St → Prop} {fr : Fr} {l : Nat} (h : fr.round = some l) {cl : Callee} {xs : List Src} {st : List AV} {tm0 : AH} {tm : AH} {ds : List ADef} {cm : AMode} {H : Heap} {go : AV → List ADef → AMode → Heap → Res} :
    ROf One (special self fr (hDeferC E cl xs st tm0) tm ds cm H go) := by
  cases cl with
  | value f =>
    show ROf One (special self fr (hDefer E _ _) tm ds cm H go)
    unfold hDefer
    split
    · split
      · show ROf One (match fr.round with | none => _ | some _ => .fail 204)
        rw [h]; trivial
      · trivial
    · trivial
  | invoke r m => trivial
  | builtin b => trivial

theorem runOps_ok (hX : ExtsOK E) (hself : SelfOK E self) {fr : Fr} {b : Frame} {cs0 : List Frame} {k : List Item} {ops : Array Oper} : ∀ (rest : List Oper) (i : Nat) (ks : List (Option Nat)) (l : List AV) (tm : AH) (ds : List ADef) (cm : AMode) (H : Heap) (c : Cx) (w : World) (a : Act) (cs : List Frame),
    (∀ j, ops[i + j]? = rest[j]?) → FactsOK E c → FrOK E c fr b → StOK E c fr cs0 ⟨tm, ds, cm, H⟩ a w cs → Stk c fr.nt ks l a.tmps →
    ROf (One E c H w fr b cs0 (lone (b.atR a (.inRegion ops (List.range' i rest.length) :: k)) cs w) k) (runOps E self fr (prep fr.M fr.d fr.nt ops.toList rest ks) l tm ds cm H)
  | [], i, ks, l, tm, ds, cm, H, c, w, a, cs, hops, hE, hfr, hst, hstk => ⟨a, w, cs, c, .refl .., hst, .one stepR_region_end⟩
  | o :: rest, i, ks, l, tm, ds, cm, H, c, w, a, cs, hops, hE, hfr, hst, hstk => by
    have ho : ops[i]? = some o := by have := hops 0; simpa using this
    have hrest : ∀ j, ops[i + 1 + j]? = rest[j]? := fun j => by
      have := hops (j + 1)
      rw [show i + 1 + j = i + (j + 1) by omega]; simpa using this
    show ROf _ (runOps E self fr (prepOp fr.M fr.d fr.nt ops.toList ks o :: prep fr.M fr.d fr.nt ops.toList rest (o.dst :: ks)) l tm ds cm H)
    rw [runOps_cons]
    have hnext : ∀ v ds' cm' H' x a' w' cs' c', Ext E c H w c' H' w' → StOK E c' fr cs0 ⟨tm, ds', cm', H'⟩ a' w' cs' → V c' v x → a'.tmps = a.tmps →
        ROf (One E c' H' w' fr b cs0 (lone (b.atR (a'.put o.dst x) (.inRegion ops (List.range' (i + 1) rest.length) :: k)) cs' w') k)
          (put (prepOp fr.M fr.d fr.nt ops.toList ks o).st v tm fun tm => runOps E self fr (prep fr.M fr.d fr.nt ops.toList rest (o.dst :: ks)) (v :: l) tm ds' cm' H') := by
      intro v ds' cm' H' x a' w' cs' c' hext hst' hv hat
      rw [put_eq]
      have hstk' : Stk c' fr.nt ks l a'.tmps := by rw [hat]; exact hstk.mono hext.le
      have hd : (a'.put o.dst x).defers = a'.defers := by cases o.dst <;> rfl
      have hsz : (a'.put o.dst x).tmps.size = a'.tmps.size := by cases o.dst <;> simp [Act.put]
      exact runOps_ok hX hself rest (i + 1) (o.dst :: ks) (v :: l) _ ds' cm' H' c' w' (a'.put o.dst x) cs' hrest (hE.mono hext.le) (hfr.mono hext.le)
        ⟨hst'.hs, hst'.tm.put hv o.dst, by rw [hsz]; exact hst'.sz, by rw [hd]; exact hst'.ds, hst'.cs⟩ (hstk'.put hst'.sz hv o.dst)
    have hr : List.range' i (o :: rest).length = i :: List.range' (i + 1) rest.length := by rw [List.length_cons, List.range'_succ]
    rw [hr]
    refine guard_spec (Φ := fun r => ROf _ r) (fun n => trivial) hst.tm hstk (fun hw => ?_) fun hw => ?_
    · have hsrc : ∀ x ∈ o.op.operands.toList, V c (ev (srcOf fr.M fr.d fr.nt ks x) l tm) (a.eval x) := fun x _ => srcOf_spec hst.tm hstk x
      have hN := opA_ok (E := E) (cs := b.atR a (.inRegion ops (i :: List.range' (i + 1) rest.length) :: k) :: cs) hE hX hst.hs (o := o) hsrc
      by_cases hdef : ∃ q, o.op = .defer q
      · obtain ⟨q, hq⟩ := hdef
        cases hrd : fr.round with
        | some lp =>
          have e : opA (prepOp fr.M fr.d fr.nt ops.toList ks o).op E (prepOp fr.M fr.d fr.nt ops.toList ks o).xs l tm H = hDeferC E q.callee (prepOp fr.M fr.d fr.nt ops.toList ks o).xs l tm := by
            show opA o.op E _ l tm H = _
            rw [hq]; rfl
          rw [e]
          exact special_round_defer hrd
        | none =>
          have hro : b.roundOf = none := by have := hfr.round; rw [hrd] at this; exact this
          exact special_ok hself hE hfr hst ho hw (by rw [hro]; rfl) hN hnext
      · exact special_ok hself hE hfr hst ho hw (Oper.semAt_eq _ _ _ fun q hq => hdef ⟨q, hq⟩) hN hnext
    · have hskip := stepR_op_skip (P := E.P) (b := b) (a := a) (k := k) (cs := cs) (w := w) (ops := ops) (i := i) (rest := List.range' (i + 1) rest.length) (by rw [ho]; simpa using hw)
      rw [ho] at hskip
      exact (hnext undefA ds cm H undef a w cs c (.refl ..) hst (V.undef c) rfl).mono fun _ _ h => h.steps (.one hskip)
end
end Go.Eng
/- Code: the engine's run of it is the machine's. -/
namespace Go.Eng

theorem exitTo_pl {x : Item} (hx : x.plain = true) (id : Nat) (k : List Item) : exitTo id (x :: k) = exitTo id k := by cases x <;> simp_all [exitTo, Item.plain]
theorem gotoIn_pl {x : Item} (hx : x.plain = true) (l : Nat) (k : List Item) : gotoIn l (x :: k) = gotoIn l k := by cases x <;> simp_all [gotoIn, Item.plain]
theorem Arr.pass {P : Program} {c : Cx} {m : Machine} {b : Frame} {y : Item} {k : List Item} {cs : List Frame} {x : Ex} {a : Act} {w : World} (hy : y.plain = true) (hx : x ≠ .normal)
    (h : Arr P c m b (y :: k) cs x a w) : Arr P c m b k cs x a w := by
  cases x with
  | normal => exact absurd rfl hx
  | exit id => exact ⟨fun k' hk => h.1 k' (by rw [exitTo_pl hy]; exact hk), fun hr hk => h.2 hr (by rw [exitTo_pl hy]; exact hk)⟩
  | goto l => exact ⟨fun k' hk => h.1 k' (by rw [gotoIn_pl hy]; exact hk), fun hr hk => h.2 hr (by rw [gotoIn_pl hy]; exact hk)⟩
  | ret => exact h
  | pan l => exact h

section
variable {P : Program} {b : Frame} {a : Act} {k : List Item} {cs : List Frame} {w : World}
theorem stpR_scope {c : Code} : step P (lone (b.atR a (.code (.scope c) :: k)) cs w) = .next (lone (b.atR a (.code c :: .inScope c :: k)) cs w) :=
  step_lone_go (by simp [stepG, stepG.exec, Frame.atR])
theorem stpR_inScope {c : Code} : step P (lone (b.atR a (.inScope c :: k)) cs w) = .next (lone (b.atR a k) cs w) :=
  step_lone_go (by simp [stepG, stepG.exec, Frame.atR])
end

section
variable {E : Env} {self : Cmd → CRes} {fr : Fr} {b : Frame} {cs0 : List Frame} {L : Nat} {again : Code → Code → St → Res}

theorem One.pass {c : Cx} {H : Heap} {w : World} {m : Machine} {y : Item} {k : List Item} {x : Ex} {s : St} (hy : y.plain = true) (hx : x ≠ .normal) (h : One E c H w fr b cs0 m (y :: k) x s) : One E c H w fr b cs0 m k x s :=
  let ⟨a, w', cs', c', h1, h2, h3⟩ := h; ⟨a, w', cs', c', h1, h2, h3.pass hy hx⟩

/-- going on behind a jump within a scope -/
def AgOK (E : Env) (fr : Fr) (b : Frame) (cs0 : List Frame) (again : Code → Code → St → Res) : Prop := ∀ (body rest : Code) (k : List Item) (s : St) (a : Act) (w : World) (cs : List Frame) (c : Cx), FactsOK E c → FrOK E c fr b → StOK E c fr cs0 s a w cs →
  ROf (One E c s.H w fr b cs0 (lone (b.atR a (.code rest :: .inScope body :: k)) cs w) k) (again body rest s)
/-- what is said of a piece of code -/
def CodeOK (E : Env) (fr : Fr) (b : Frame) (cs0 : List Frame) (c : Code) (run : St → Res) : Prop := ∀ (k : List Item) (s : St) (a : Act) (w : World) (cs : List Frame) (cx : Cx), FactsOK E cx → FrOK E cx fr b → StOK E cx fr cs0 s a w cs →
  ROf (One E cx s.H w fr b cs0 (lone (b.atR a (.code c :: k)) cs w) k) (run s)

theorem thenR_eq (r : Res) (k : St → Res) : thenR r k = bindR r fun x s => match x with | .normal => k s | .exit i => .one (.exit i) s | .goto i => .one (.goto i) s | .ret => .one .ret s | .pan l => .one (.pan l) s := by
  unfold thenR
  congr 1
  funext x s
  cases x <;> rfl
theorem blockR_eq (id : Nat) (r : Res) : blockR id r = bindR r fun x s => match x with | .normal => .one .normal s | .exit i => (if i = id then .one .normal s else .one (.exit i) s) | .goto i => .one (.goto i) s | .ret => .one .ret s | .pan l => .one (.pan l) s := by
  unfold blockR
  congr 1
  funext x s
  cases x <;> try rfl
  rename_i i
  show Bool.rec (motive := fun _ => Res) _ _ (Nat.beq i id) = _
  by_cases h : i = id
  · subst h; simp
  · have : Nat.beq i id = false := by
      cases hb : Nat.beq i id with
      | false => rfl
      | true => exact absurd (Nat.eq_of_beq_eq_true hb) h
    rw [this]; simp [h]

/-- going on behind what ends normally -/
theorem then_ok {c : Cx} {H : Heap} {w : World} {m : Machine} {y : Item} {k : List Item} {r : Res} {f : St → Res} (hE : FactsOK E c) (hfr : FrOK E c fr b) (hy : y.plain = true) (h : ROf (One E c H w fr b cs0 m (y :: k)) r)
    (hf : ∀ s a w cs cx, FactsOK E cx → FrOK E cx fr b → StOK E cx fr cs0 s a w cs → ROf (One E cx s.H w fr b cs0 (lone (b.atR a (y :: k)) cs w) k) (f s)) :
    ROf (One E c H w fr b cs0 m k) (thenR r f) := by
  rw [thenR_eq]
  refine h.bind fun x s ho => ?_
  cases x with
  | normal =>
    obtain ⟨a, w', cs', c', h1, h2, h3⟩ := ho
    exact (hf s a w' cs' c' (hE.mono h1.le) (hfr.mono h1.le) h2).mono fun _ _ h => (h.steps h3).ext h1
  | exit i => exact ho.pass hy (by simp)
  | goto i => exact ho.pass hy (by simp)
  | ret => exact ho.pass hy (by simp)
  | pan l => exact ho.pass hy (by simp)

theorem scopeR_ok {c : Cx} {H : Heap} {w : World} {m : Machine} {body : Code} {k : List Item} {r : Res} (hag : AgOK E fr b cs0 again) (hE : FactsOK E c) (hfr : FrOK E c fr b) (h : ROf (One E c H w fr b cs0 m (.inScope body :: k)) r) :
    ROf (One E c H w fr b cs0 m k) (scopeR again body r) := by
  unfold scopeR
  refine h.bind fun x s ho => ?_
  obtain ⟨a, w', cs', c', h1, h2, h3⟩ := ho
  cases x with
  | normal => exact ⟨a, w', cs', c', h1, h2, Steps.trans h3 (.one stpR_inScope)⟩
  | exit i => exact ⟨a, w', cs', c', h1, h2, fun k' hk => h3.1 k' (by simpa [exitTo] using hk), fun hr hk => h3.2 hr (by simpa [exitTo] using hk)⟩
  | goto l =>
    simp only
    cases hl : findLabel body l with
    | some rest =>
      simp only
      have hs := h3.1 (.code rest :: .inScope body :: k) (by simp [gotoIn, hl])
      exact (hag body rest k s a w' cs' c' (hE.mono h1.le) (hfr.mono h1.le) h2).mono fun _ _ h => (h.steps hs).ext h1
    | none =>
      simp only
      exact ⟨a, w', cs', c', h1, h2, fun k' hk => h3.1 k' (by simpa [gotoIn, hl] using hk), fun hr hk => h3.2 hr (by simpa [gotoIn, hl] using hk)⟩
  | ret => exact ⟨a, w', cs', c', h1, h2, h3⟩
  | pan l => exact ⟨a, w', cs', c', h1, h2, h3⟩

theorem loopN_ok {body : Code} {run : St → Res} (hb : CodeOK E fr b cs0 body run) : ∀ (n : Nat) (k : List Item) (s : St) (a : Act) (w : World) (cs : List Frame) (cx : Cx), FactsOK E cx → FrOK E cx fr b → StOK E cx fr cs0 s a w cs →
    ROf (One E cx s.H w fr b cs0 (lone (b.atR a (.code body :: .inLoop body :: k)) cs w) k) (loopN n run s)
  | 0, _, _, _, _, _, _, _, _, _ => trivial
  | n + 1, k, s, a, w, cs, cx, hE, hfr, hst => by
    show ROf _ (thenR (run s) (loopN n run))
    refine then_ok hE hfr (y := .inLoop body) rfl (hb (.inLoop body :: k) s a w cs cx hE hfr hst) fun s' a' w' cs' cx' hE' hfr' hst' => ?_
    exact (loopN_ok hb n k s' a' w' cs' cx' hE' hfr' hst').mono fun _ _ h => h.steps (.one stepR_inLoop)

theorem evR_spec {c : Cx} {s : St} {a : Act} {w : World} {cs : List Frame} (h : StOK E c fr cs0 s a w cs) (x : Operand) : V c (evR fr.M fr.d x s.tm) (a.eval x) :=
  srcOf_spec (nt := 0) (ks := []) h.tm (Stk.nil _ _ _ _) x

/-- what is asked of a region whose order is drawn -/
def DrawOK (E : Env) (self : Cmd → CRes) (fr : Fr) (b : Frame) (cs0 : List Frame) : Prop := ∀ (id : Nat) (ops : Array Oper) (ps : List DP), drawn E.P fr.M fr.d fr.nt ops = some ps →
  CodeOK E fr b cs0 (.region id ops true) fun s => runD E self fr (dstP fr.M fr.d ops.toList) ps [] s.tm s.ds s.cm s.H []
/-- of a range over a function -/
def RangeOK (E : Env) (self : Cmd → CRes) (fr : Fr) (b : Frame) (cs0 : List Frame) : Prop := ∀ (f : Operand) (ps : Array Nat) (as bd : Code), CodeOK E fr b cs0 (.rangeFunc f ps as bd) (rangeF E self fr f ps.toList as bd)

theorem evalC_ok (hX : ExtsOK E) (hself : SelfOK E self) (hD : DrawOK E self fr b cs0) (hR : RangeOK E self fr b cs0) (hag : AgOK E fr b cs0 again) (code : Code) : CodeOK E fr b cs0 code (evalC E self fr L again code) := by
  induction code with
  | skip => exact fun k s a w cs cx hE hfr hst => ⟨a, w, cs, cx, .refl .., hst, .one stepR_skip⟩
  | region id ops dr =>
    intro k s a w cs cx hE hfr hst
    cases dr with
    | false =>
      obtain ⟨tm, ds, cm, H⟩ := s
      show ROf _ (runOps E self fr (prep fr.M fr.d fr.nt ops.toList ops.toList []) [] tm ds cm H)
      have h := runOps_ok (E := E) hX hself (k := k) (ops := ops) ops.toList 0 [] [] tm ds cm H cx w a cs (fun j => by rw [Nat.zero_add, Array.getElem?_toList]) hE hfr hst (Stk.nil _ _ _ _)
      have e : List.range' 0 ops.toList.length = List.range ops.size := by rw [List.range_eq_range', Array.length_toList]
      rw [e] at h
      exact h.mono fun _ _ h => h.steps (.one stepR_region)
    | true =>
      obtain ⟨tm, ds, cm, H⟩ := s
      show ROf _ (Option.rec (motive := fun _ => Res) (.fail 238) (fun ps => runD E self fr (dstP fr.M fr.d ops.toList) ps [] tm ds cm H []) (drawn E.P fr.M fr.d fr.nt ops))
      cases hd : drawn E.P fr.M fr.d fr.nt ops with
      | none => trivial
      | some ps => exact hD id ops ps hd k ⟨tm, ds, cm, H⟩ a w cs cx hE hfr hst
  | seq x y ihx ihy =>
    intro k s a w cs cx hE hfr hst
    show ROf _ (thenR (evalC E self fr L again x s) (evalC E self fr L again y))
    refine (then_ok hE hfr (y := .code y) rfl (ihx (.code y :: k) s a w cs cx hE hfr hst) fun s' a' w' cs' cx' hE' hfr' hst' => ihy k s' a' w' cs' cx' hE' hfr' hst').mono fun _ _ h => h.steps (.one stepR_seq)
  | cond x u v ihu ihv =>
    intro k s a w cs cx hE hfr hst
    show ROf _ (onBoolR (evR fr.M fr.d x s.tm) (fun b => Bool.rec (motive := fun _ => Res) (evalC E self fr L again v s) (evalC E self fr L again u s) b) (.fail 213))
    have hv := evR_spec hst x
    rw [onBoolR_eq]
    split
    · rename_i q hq
      rw [hq] at hv
      have hv' : a.eval x = .bool q := hv.bool_inv
      have hs := stepR_cond (P := E.P) (b := b) (k := k) (cs := cs) (w := w) (x := u) (y := v) hv'
      cases q with
      | false => exact (ihv k s a w cs cx hE hfr hst).mono fun _ _ h => h.steps (.one hs)
      | true => exact (ihu k s a w cs cx hE hfr hst).mono fun _ _ h => h.steps (.one hs)
    · trivial
  | block id body ih =>
    intro k s a w cs cx hE hfr hst
    show ROf _ (blockR id (evalC E self fr L again body s))
    rw [blockR_eq]
    refine (ih (.inBlock id :: k) s a w cs cx hE hfr hst).bind fun x s' ho => ?_
    have hs0 := Steps.one (stepR_block (P := E.P) (b := b) (a := a) (k := k) (cs := cs) (w := w) (id := id) (c := body))
    obtain ⟨a', w', cs', c', h1, h2, h3⟩ := ho
    cases x with
    | normal => exact ⟨a', w', cs', c', h1, h2, hs0.trans (Steps.trans h3 (.one stepR_inBlock))⟩
    | exit i =>
      simp only
      split
      · rename_i hi
        exact ⟨a', w', cs', c', h1, h2, hs0.trans (h3.1 k (by simp [exitTo, hi]))⟩
      · rename_i hi
        have hne : (id == i) = false := by simp; exact fun h => hi h.symm
        have hx : exitTo i (.inBlock id :: k) = exitTo i k := by simp [exitTo, hne]
        exact ⟨a', w', cs', c', h1, h2, fun k' hk => hs0.trans (h3.1 k' (by rw [hx]; exact hk)), fun hr hk => let ⟨k₁, q1, q2⟩ := h3.2 hr (by rw [hx]; exact hk); ⟨k₁, q1, hs0.trans q2⟩⟩
    | goto l =>
      have hx : gotoIn l (.inBlock id :: k) = gotoIn l k := by simp [gotoIn]
      exact ⟨a', w', cs', c', h1, h2, fun k' hk => hs0.trans (h3.1 k' (by rw [hx]; exact hk)), fun hr hk => let ⟨k₁, q1, q2⟩ := h3.2 hr (by rw [hx]; exact hk); ⟨k₁, q1, hs0.trans q2⟩⟩
    | ret => exact ⟨a', w', cs', c', h1, h2, Arr.steps hs0 h3⟩
    | pan l => exact ⟨a', w', cs', c', h1, h2, Arr.steps hs0 h3⟩
  | loop body ih =>
    intro k s a w cs cx hE hfr hst
    exact (loopN_ok ih L k s a w cs cx hE hfr hst).mono fun _ _ h => h.steps (.one stepR_loop)
  | rangeFunc f ps x y ihx ihy => exact hR f ps x y
  | exit id => exact fun k s a w cs cx hE hfr hst => ⟨a, w, cs, cx, .refl .., hst, fun k' hk => .one (stepR_exit hk), fun _ hk => ⟨k, hk, .refl ..⟩⟩
  | scope body ih =>
    intro k s a w cs cx hE hfr hst
    show ROf _ (scopeR again body (evalC E self fr L again body s))
    exact scopeR_ok hag hE hfr ((ih (.inScope body :: k) s a w cs cx hE hfr hst).mono fun _ _ h => h.steps (.one stpR_scope))
  | label l => exact fun k s a w cs cx hE hfr hst => ⟨a, w, cs, cx, .refl .., hst, .one stepR_label⟩
  | goto l => exact fun k s a w cs cx hE hfr hst => ⟨a, w, cs, cx, .refl .., hst, fun k' hk => .one (stepR_goto hk), fun _ hk => ⟨k, hk, .refl ..⟩⟩
  | ret => exact fun k s a w cs cx hE hfr hst => ⟨a, w, cs, cx, .refl .., hst, fun hn => ⟨_, .one (stepR_ret hn)⟩, fun _ => ⟨k, .refl ..⟩⟩
  | refuse why => exact fun k s a w cs cx hE hfr hst => trivial

theorem evalS_ok (hX : ExtsOK E) (hself : SelfOK E self) (hD : DrawOK E self fr b cs0) (hR : RangeOK E self fr b cs0) : ∀ n, AgOK E fr b cs0 (evalS E self fr L n)
  | 0 => fun _ _ _ _ _ _ _ _ _ _ _ => trivial
  | n + 1 => fun body rest k s a w cs c hE hfr hst =>
    scopeR_ok (evalS_ok hX hself hD hR n) hE hfr (evalC_ok (L := L) hX hself hD hR (evalS_ok hX hself hD hR n) rest (.inScope body :: k) s a w cs c hE hfr hst)

theorem evalG_ok (hX : ExtsOK E) (hself : SelfOK E self) (hD : DrawOK E self fr b cs0) (hR : RangeOK E self fr b cs0) (G : Nat) (code : Code) : CodeOK E fr b cs0 code (evalG E self fr L G code) :=
  evalC_ok hX hself hD hR (evalS_ok hX hself hD hR G) code
end
end Go.Eng
/- Frames: arguments, results, deferred calls. -/
namespace Go.Eng

/-! ### outcomes of calls -/
theorem COf.mono {One Two : CRes → Prop} (h : ∀ r, One r → Two r) {r : CRes} (hr : COf One r) : COf Two r := by
  cases r with
  | fail n => trivial
  | ret v m H => exact h _ hr
  | pan l m H => exact h _ hr
  | many l => obtain ⟨x, hx, ho⟩ := hr; exact ⟨x, hx, h _ ho⟩
theorem COf.append {One : CRes → Prop} {r s : CRes} (h : COf One r ∨ COf One s) : COf One (appC r s) := by
  cases r with
  | fail n => cases s <;> trivial
  | many l => cases s with
    | fail n => trivial
    | many l' => rcases h with ⟨p, hp, h⟩ | ⟨p, hp, h⟩
                 · exact ⟨p, by simp [hp], h⟩
                 · exact ⟨p, by simp [hp], h⟩
    | ret v m H => rcases h with ⟨p, hp, h⟩ | h
                   · exact ⟨p, by simp [hp], h⟩
                   · exact ⟨_, List.mem_append_right _ List.mem_cons_self, h⟩
    | pan v m H => rcases h with ⟨p, hp, h⟩ | h
                   · exact ⟨p, by simp [hp], h⟩
                   · exact ⟨_, List.mem_append_right _ List.mem_cons_self, h⟩
  | ret v m H => cases s with
    | fail n => trivial
    | many l' => rcases h with h | ⟨p, hp, h⟩
                 · exact ⟨_, List.mem_cons_self, h⟩
                 · exact ⟨p, by simp [hp], h⟩
    | ret v m H => rcases h with h | h
                   · exact ⟨_, List.mem_cons_self, h⟩
                   · exact ⟨_, List.mem_cons_of_mem _ List.mem_cons_self, h⟩
    | pan v m H => rcases h with h | h
                   · exact ⟨_, List.mem_cons_self, h⟩
                   · exact ⟨_, List.mem_cons_of_mem _ List.mem_cons_self, h⟩
  | pan v m H => cases s with
    | fail n => trivial
    | many l' => rcases h with h | ⟨p, hp, h⟩
                 · exact ⟨_, List.mem_cons_self, h⟩
                 · exact ⟨p, by simp [hp], h⟩
    | ret v m H => rcases h with h | h
                   · exact ⟨_, List.mem_cons_self, h⟩
                   · exact ⟨_, List.mem_cons_of_mem _ List.mem_cons_self, h⟩
    | pan v m H => rcases h with h | h
                   · exact ⟨_, List.mem_cons_self, h⟩
                   · exact ⟨_, List.mem_cons_of_mem _ List.mem_cons_self, h⟩
theorem COf.all {One : CRes → Prop} : ∀ {rs : List CRes}, (∃ r ∈ rs, COf One r) → COf One (allC rs)
  | [], h => by obtain ⟨_, h, _⟩ := h; cases h
  | [r], ⟨r', h, hr⟩ => by cases List.mem_singleton.1 h; exact hr
  | r :: r2 :: l, ⟨r', h, hr⟩ => by
    show COf One (appC r (allC (r2 :: l)))
    rcases List.mem_cons.1 h with rfl | h
    · exact COf.append (.inl hr)
    · exact COf.append (.inr (COf.all ⟨r', h, hr⟩))
theorem bindC_eq (r : Res) (k : Ex → St → CRes) : bindC r k = match r with | .fail n => .fail n | .one x s => k x s | .many l => allC (l.map fun p => k p.1 p.2) := by cases r <;> rfl
theorem ROf.bindC {One : Ex → St → Prop} {Two : CRes → Prop} {r : Res} {k : Ex → St → CRes} (h : ROf One r) (hk : ∀ x s, One x s → COf Two (k x s)) : COf Two (bindC r k) := by
  rw [bindC_eq]
  cases r with
  | fail n => trivial
  | one x s => exact hk _ _ h
  | many l => obtain ⟨p, hp, ho⟩ := h; exact COf.all ⟨_, List.mem_map.2 ⟨p, hp, rfl⟩, hk _ _ ho⟩
theorem COf.onCC {One Two : CRes → Prop} {r : CRes} {kr : AV → AMode → Heap → CRes} {kp : List APan → AMode → Heap → CRes} (h : COf One r)
    (hr : ∀ v m H, One (.ret v m H) → COf Two (kr v m H)) (hp : ∀ l m H, One (.pan l m H) → COf Two (kp l m H)) : COf Two (onCC r kr kp) := by
  cases r with
  | fail n => trivial
  | ret v m H => exact hr _ _ _ h
  | pan l m H => exact hp _ _ _ h
  | many l =>
    obtain ⟨x, hx, ho⟩ := h
    show COf Two (allC (l.map fun x => onCC1 x kr kp))
    refine COf.all ⟨_, List.mem_map.2 ⟨x, hx, rfl⟩, ?_⟩
    cases x with
    | fail n => trivial
    | ret v m H => exact hr _ _ _ ho
    | pan l m H => exact hp _ _ _ ho
    | many l => trivial
theorem COf.trace {One : CRes → Prop} {r : CRes} (f : Nat) (h : COf One r) : COf One (traceC f r) := by
  cases r <;> first | trivial | exact h

/-! ### temporaries at the start -/
theorem tget_tfull (v : AV) : ∀ (d t : Nat), tget (digits d t) (tfull v d) = .val v
  | 0, _ => rfl
  | d + 1, t => by
    show tget (dig (Nat.land t 3) :: digits d (Nat.shiftRight t 2)) (.n _ _ _ _) = _
    rw [tget_n]
    have := tget_tfull v d (Nat.shiftRight t 2)
    cases dig (Nat.land t 3) <;> exact this

theorem bit_lt {M n t : Nat} (hM : M < 2 ^ n) (h : bit M t = true) : t < n := by
  apply Classical.byContradiction
  intro hn
  have : M >>> t = 0 := by
    rw [Nat.shiftRight_eq_div_pow]
    exact Nat.div_eq_of_lt (Nat.lt_of_lt_of_le hM (Nat.pow_le_pow_right (by omega) (by omega)))
  unfold bit at h
  rw [show Nat.shiftRight M t = 0 from this] at h
  cases h

theorem finfo_spec {P : Program} {f : Nat} {i : FInfo} (h : finfo P f = some i) : ∃ fn, P.funcs[f]? = some fn ∧ fn.body = some i.body ∧ i.res = fn.results.toList ∧ i.nt = fn.ntmps ∧ i.M < 2 ^ fn.ntmps ∧ fn.ntmps ≤ 4 ^ i.d := by
  unfold finfo at h
  split at h
  · rename_i fn hf
    split at h
    · rename_i body hb
      split at h
      · rename_i hc
        cases h
        rw [Bool.and_eq_true] at hc
        exact ⟨fn, hf, hb, rfl, rfl, by simpa using hc.1, Nat.le_of_ble_eq_true hc.2⟩
      · cases h
    · cases h
  · cases h

theorem TM.congr {c : Cx} {M d : Nat} {tm : AH} {t1 t2 : Array Value} (h : TM c M d tm t1) (hs : t1.size = t2.size) (hg : ∀ t, t1.getD t undef = t2.getD t undef) : TM c M d tm t2 :=
  fun t hb => ⟨(h t hb).1, by rw [← hs]; exact (h t hb).2.1, by rw [← hg]; exact (h t hb).2.2⟩

/-- temporaries are given values, one after the other -/
def setAll (ts : List Nat) (ys : List Value) (tmps : Array Value) : Array Value := (ts.zip ys).foldl (fun tmps p => tmps.setIfInBounds p.1 p.2) tmps
theorem setArgs_ok {Φ : CRes → Prop} (hf : ∀ n, Φ (.fail n)) {c : Cx} {M d : Nat} {k : AH → CRes} : ∀ (ts : List Nat) (args : List AV) (ys : List Value) (tm : AH) (tmps : Array Value), TM c M d tm tmps → SL c args ys →
    (∀ tm', TM c M d tm' (setAll ts ys tmps) → Φ (k tm')) → Φ (setArgs (ts.map fun t => stOf M d (some t)) args tm k)
  | ts, [], ys, tm, tmps, ht, hs, hk => by
    cases hs
    have e : setArgs (ts.map fun t => stOf M d (some t)) [] tm k = k tm := by cases ts <;> rfl
    rw [e]
    refine hk tm ?_
    have e2 : setAll ts [] tmps = tmps := by cases ts <;> rfl
    rw [e2]; exact ht
  | [], v :: l, ys, tm, tmps, ht, hs, hk => hf _
  | t :: ts, v :: l, ys, tm, tmps, ht, ⟨y, zs, e, hv, hs⟩, hk => by
    subst e
    have hput := ht.put (a := ⟨tmps, []⟩) hv (some t)
    have e : setArgs ((t :: ts).map fun t => stOf M d (some t)) (v :: l) tm k = setArgs (ts.map fun t => stOf M d (some t)) l (putT (stOf M d (some t)) v tm) k := by
      show (match stOf M d (some t) with | some p => tsetC p tm (.val v) fun tm => setArgs (ts.map fun t => stOf M d (some t)) l tm k | none => setArgs (ts.map fun t => stOf M d (some t)) l tm k) = _
      cases stOf M d (some t) with
      | none => rfl
      | some p => simp only; rw [tsetC_eq]; rfl
    rw [e]
    exact setArgs_ok hf ts l zs _ (tmps.setIfInBounds t y) hput hs hk

theorem argPaths_eq (M d : Nat) : ∀ n i, argPaths M d n i = (List.range' i n).map fun t => stOf M d (some t)
  | 0, _ => rfl
  | n + 1, i => by rw [List.range'_succ, List.map_cons, ← argPaths_eq M d n (i + 1)]; rfl
theorem setAll_size : ∀ (ts : List Nat) (ys : List Value) (tmps : Array Value), (setAll ts ys tmps).size = tmps.size
  | [], _, _ => rfl
  | _ :: _, [], _ => rfl
  | t :: ts, y :: ys, tmps => by
    show (setAll ts ys (tmps.setIfInBounds t y)).size = _
    rw [setAll_size]; simp
theorem setAll_range : ∀ (ys : List Value) (i : Nat) (tmps : Array Value) (t : Nat), i + ys.length ≤ tmps.size → (setAll (List.range' i ys.length) ys tmps).getD t undef = if i ≤ t ∧ t < i + ys.length then ys.getD (t - i) undef else tmps.getD t undef
  | [], i, tmps, t, _ => by
    have h : ¬ (i ≤ t ∧ t < i + ([] : List Value).length) := by simp
    rw [if_neg h]; rfl
  | y :: ys, i, tmps, t, hle => by
    simp only [List.length_cons] at hle ⊢
    rw [List.range'_succ]
    show (setAll (List.range' (i + 1) ys.length) ys (tmps.setIfInBounds i y)).getD t undef = _
    rw [setAll_range ys (i + 1) _ t (by simp; omega)]
    by_cases h1 : i + 1 ≤ t ∧ t < i + 1 + ys.length
    · rw [if_pos h1, if_pos (by omega), show t - i = (t - (i + 1)) + 1 by omega]; rfl
    · rw [if_neg h1]
      by_cases h2 : t = i
      · subst h2
        rw [if_pos (by omega), Nat.sub_self]
        have : t < tmps.size := by omega
        simp [this]
      · rw [if_neg (by omega)]
        simp [Array.getElem?_setIfInBounds_ne (Ne.symm h2)]

section
variable {E : Env} {self : Cmd → CRes}

/-! ### results -/
theorem tupV_spec {c : Cx} {l : List AV} {ys : List Value} (h : SL c l ys) : V c (tupV l) (if h : ys.toArray.size = 1 then ys.toArray[0] else .tuple ys.toArray) := by
  unfold tupV
  split
  · obtain ⟨y, _, rfl, hv, rfl⟩ := h
    exact hv
  · obtain ⟨y, _, rfl, hv, z, _, rfl, hw, rfl⟩ := h
    exact ⟨#[y, z], rfl, [y], [z], rfl, rfl, rfl, hv, hw⟩
  · obtain ⟨y, _, rfl, hv, z, _, rfl, hw, u, _, rfl, hu, rfl⟩ := h
    exact ⟨#[y, z, u], rfl, [y], [z, u], rfl, rfl, rfl, hv, [z], [u], rfl, rfl, rfl, hw, hu⟩
  · obtain ⟨y, _, rfl, hv, z, _, rfl, hw, u, _, rfl, hu, t, _, rfl, ht, rfl⟩ := h
    exact ⟨#[y, z, u, t], rfl, [y, z], [u, t], rfl, rfl, rfl, ⟨[y], [z], rfl, rfl, rfl, hv, hw⟩, [u], [t], rfl, rfl, rfl, hu, ht⟩
  · rename_i h1 _ _ _
    have hl : l.length ≠ 1 := fun e => by
      match l, e with
      | [v], _ => exact h1 v rfl
    have hl' : ¬ (ys.toArray.size = 1) := by rw [List.size_toArray, ← h.length]; exact hl
    rw [dif_neg hl']
    exact ⟨ys.toArray, rfl, rofList_spec h⟩

/-- a load leaves all as it is -/
def HereL (E : Env) (c : Cx) (w : World) (t : TypeId) (v : Value) (o : OR) : Prop := match o with
  | .val u _ => ∃ y, (do loadVar t (← asAddr v) : Sem Value).run E.P w = .ok y w ∧ V c u y
  | .fail _ => True
  | _ => False
theorem hLoad_here {c : Cx} {H : Heap} {w : World} (hH : Hs E c H w) {t : TypeId} {x : AV} {v : Value} (hx : V c x v) : HereL E c w t v (hLoad E t x H) := by
  unfold hLoad
  refine cellsAt_spec (Φ := HereL E c w t v) (fun n => trivial) fun b o fz e r ex hg => ?_
  subst ex
  obtain ⟨B, k, hr, hv⟩ := hx
  cases hv
  obtain ⟨hlt, cs, lo, hi, hB, hone, -, -, pre, ys, post, hcs, hk, hs⟩ := hH.cells hg hr
  refine partK_spec (c := c) (Φ := HereL E c w t _) (fun n => trivial) hs (fun y hy => hone y (by rw [hcs]; simp [hy])) fun a x hx hv => ?_
  refine ⟨x, ?_, hv⟩
  simp only [Sem.run_bind]
  exact run_loadVar_part hB hcs hk hx

def resOne (tmps : Array Value) : ResultVar → Sem Value
  | .tmp t => pure (tmps.getD t undef)
  | .cell a t => do loadVar t (← asAddr (tmps.getD a undef))
theorem run_results {P : Program} {fn : Func} {tmps : Array Value} {w : World} {ys : List Value} (h : (fn.results.toList.mapM (resOne tmps)).run P w = .ok ys w) :
    (results fn tmps).run P w = .ok (if h : ys.toArray.size = 1 then ys.toArray[0] else .tuple ys.toArray) w := by
  have e : results fn tmps = (do
      let vs ← fn.results.mapM (resOne tmps)
      pure (if h : vs.size = 1 then vs[0] else .tuple vs)) := by
    unfold results
    congr 1
  rw [e, Array.mapM_eq_mapM_toList]
  simp only [Sem.run_bind, Sem.run_map, h, Result.andThen_ok, Sem.run_pure]

theorem resVals_ok {c : Cx} {H : Heap} {w : World} {fr : Fr} {tm : AH} {a : Act} {Φ : CRes → Prop} (hf : ∀ n, Φ (.fail n)) (hH : Hs E c H w) (ht : TM c fr.M fr.d tm a.tmps) : ∀ (rs : List ResultVar) (k : List AV → CRes),
    (∀ l ys, SL c l ys → (rs.mapM (resOne a.tmps)).run E.P w = .ok ys w → Φ (k l)) → Φ (resVals E fr H tm rs k)
  | [], k, hk => hk [] [] rfl rfl
  | .tmp t :: l, k, hk => by
    refine resVals_ok hf hH ht l _ fun l' ys hs hr => hk _ (a.eval (.tmp t) :: ys) ⟨_, _, rfl, srcOf_spec (nt := 0) (ks := []) ht (Stk.nil _ _ _ _) (.tmp t), hs⟩ ?_
    rw [List.mapM_cons]
    simp only [Sem.run_bind, resOne, Sem.run_pure, Result.andThen_ok, hr]
    rfl
  | .cell p t :: l, k, hk => by
    have hv := srcOf_spec (nt := 0) (ks := []) (l := []) ht (Stk.nil _ _ _ _) (.tmp p)
    have hl := hLoad_here (E := E) (t := t) hH hv
    unfold resVals
    have e : evR fr.M fr.d (.tmp p) tm = ev (srcOf fr.M fr.d 0 [] (.tmp p)) [] tm := rfl
    rw [e]
    generalize hLoad E t (ev (srcOf fr.M fr.d 0 [] (.tmp p)) [] tm) H = o at hl
    cases o with
    | val v H' =>
      obtain ⟨x, hr, hv'⟩ := hl
      refine resVals_ok hf hH ht l _ fun l' ys hs hr' => hk _ (x :: ys) ⟨_, _, rfl, hv', hs⟩ ?_
      have hr2 : (resOne a.tmps (.cell p t)).run E.P w = .ok x w := hr
      rw [List.mapM_cons]
      simp only [Sem.run_bind, hr2, Sem.run_pure, Result.andThen_ok, hr']
    | fail n => exact hf _
    | _ => exact hl.elim
end
end Go.Eng
