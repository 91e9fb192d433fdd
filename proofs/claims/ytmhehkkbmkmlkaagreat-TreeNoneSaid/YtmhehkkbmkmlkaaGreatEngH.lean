/- Frames: leaving them; calls. -/
import Derived.Test.YtmhehkkbmkmlkaaGreatEngG
namespace Go.Eng

theorem PanOK.append {c : Cx} : ∀ {l : List APan} {ch : List PanicEntry} {l' : List APan} {ch' : List PanicEntry}, PanOK c l ch → PanOK c l' ch' → PanOK c (l ++ l') (ch ++ ch')
  | [], _, _, _, h, h' => by cases h; exact h'
  | _ :: _, _, _, _, ⟨q, qs, e, hv, h1, h2, h⟩, h' => by subst e; exact ⟨q, _, rfl, hv, h1, h2, PanOK.append h h'⟩
theorem PanOK.noexit {c : Cx} : ∀ {l : List APan} {ch : List PanicEntry}, PanOK c l ch → ch.dropWhile (!·.goexit) = []
  | [], _, h => by cases h; rfl
  | _ :: _, _, ⟨q, qs, e, _, _, h2, h⟩ => by
    subst e
    rw [List.dropWhile_cons_of_pos (by rw [h2]; rfl)]
    exact PanOK.noexit h

theorem settle_ok {c : Cx} {m : AMode} {u : FrameMode} (h : ModeOK c m u) : ModeOK c (settleA m) (settle u) := by
  cases m with
  | ret => cases (show u = .returning from h); rfl
  | pan l =>
    obtain ⟨ch, rfl, hp⟩ := h
    cases l with
    | nil => cases hp; exact ⟨[], rfl, rfl⟩
    | cons p l =>
      obtain ⟨q, qs, e, hv, h1, h2, h3⟩ := hp
      subst e
      obtain ⟨pv, pr⟩ := p
      obtain ⟨qv, qr, qg⟩ := q
      simp only at h1 h2 hv
      subst h1 h2
      cases qr with
      | false => exact ⟨_, rfl, _, _, rfl, hv, rfl, rfl, h3⟩
      | true =>
        show settle (.panicking (⟨qv, true, false⟩ :: qs)) = .returning
        unfold settle
        simp only
        rw [PanOK.noexit h3]
theorem raise_ok {c : Cx} {m : AMode} {u : FrameMode} (h : ModeOK c m u) {l : List APan} {ch : List PanicEntry} (hp : PanOK c l ch) : ModeOK c (raiseA m l) (raised u ch) := by
  cases m with
  | ret => cases (show u = .returning from h); exact ⟨ch, rfl, hp⟩
  | pan l' => obtain ⟨ch', rfl, hp'⟩ := h; exact ⟨ch ++ ch', rfl, hp.append hp'⟩

section
variable {E : Env} {self : Cmd → CRes}

theorem invoke_body {f : Nat} (hk : callKd E f = .body) (cap ys : Array Value) (w : World) : (invoke (.fn (.func f) cap) ys).run E.P w = .ok (.enter f (ys ++ cap)) w := by
  obtain ⟨fn, h1, h2, h3⟩ := callKd_body hk
  exact run_callFunc_body h1 h2 h3 _

theorem ModeOK.not_run {c : Cx} {m : AMode} {u : FrameMode} (h : ModeOK c m u) : u ≠ .run := by
  cases m with
  | ret => cases (show u = .returning from h); simp
  | pan l => obtain ⟨ch, rfl, -⟩ := h; simp

theorem C1.steps {c : Cx} {H : Heap} {w : World} {f : Nat} {dfd : Bool} {cs0 : List Frame} {m m' : Machine} (h : Steps E.P m m') : ∀ {r : CRes}, C1 E c H w f dfd cs0 m' r → C1 E c H w f dfd cs0 m r
  | .ret _ _ _, ⟨x, w', c', fr', cs', h1, h2, h3, h4, h5⟩ => ⟨x, w', c', fr', cs', h1, h2, h3, h.trans h4, h5⟩
  | .pan _ _ _, ⟨x, w', c', fr', cs', h1, h2, h3, h4, h5⟩ => ⟨x, w', c', fr', cs', h1, h2, h3, h.trans h4, h5⟩
theorem C1.ext {c c1 : Cx} {H H1 : Heap} {w w1 : World} {f : Nat} {dfd : Bool} {cs0 : List Frame} {m : Machine} (h : Ext E c H w c1 H1 w1) : ∀ {r : CRes}, C1 E c1 H1 w1 f dfd cs0 m r → C1 E c H w f dfd cs0 m r
  | .ret _ _ _, ⟨x, w', c', fr', cs', h1, h2, h3, h4, h5⟩ => ⟨x, w', c', fr', cs', ⟨h1.1, h.trans h1.2⟩, h2, h3, h4, h5⟩
  | .pan _ _ _, ⟨x, w', c', fr', cs', h1, h2, h3, h4, h5⟩ => ⟨x, w', c', fr', cs', ⟨h1.1, h.trans h1.2⟩, h2, h3, h4, h5⟩

/-- the block of a range over a function is taken -/
theorem step_collected {P : Program} {F : Frame} {cs : List Frame} {w : World} {B : Nat} {ds : List Deferred} (hm : F.mode ≠ .run) (hd : F.defers = { target := .collected B, args := #[] } :: ds) (hB : w.heap[B]? = some (.deferred (some []))) :
    step P (lone F cs w) = .next (lone { F with defers := ds } cs (World.setB w B (.deferred none))) := by
  have hr : (Instr.takeDeferred B).run P w = .ok [] (World.setB w B (.deferred none)) := by
    simp only [Instr.takeDeferred, Sem.run_bind, run_getObj' hB rfl, Result.andThen_ok, run_setObj' (P := P) hB rfl, Sem.run_pure]
  refine step_lone_go ?_
  cases hmode : F.mode with
  | run => exact absurd hmode hm
  | returning => simp [stepG, unwind, hmode, hd, Sem.runT_eq, hr]
  | panicking chain => simp [stepG, unwind, hmode, hd, Sem.runT_eq, hr]

/-- a frame that is being left -/
theorem unw_ok (hself : SelfOK E self) {fr : Fr} {res : List ResultVar} {tm : AH} {fn : Func} (hfn : E.P.funcs[fr.fn]? = some fn) (hres : res = fn.results.toList) :
    ∀ (ds : List ADef) (mode cm : AMode) (H : Heap) (c : Cx) (w : World) (F : Frame) (cs0 cs : List Frame), FactsOK E c → Hs E c H w → TM c fr.M fr.d tm F.tmps → DefsOK E c ds F.defers → ModeOK c mode F.mode → CallersOK c fr.deferred cm cs0 cs →
      F.fn = fr.fn → F.kind = (if fr.deferred then .deferred else .normal) →
      COf (C1 E c H w fr.fn fr.deferred cs0 (lone F cs w)) (unw E self fr res tm ds mode cm H)
  | [], mode, cm, H, c, w, F, cs0, cs, hE, hH, ht, hd, hm, hcs, hF, hk => by
    cases mode with
    | pan l =>
      obtain ⟨ch, hm1, hp⟩ := hm
      exact ⟨ch, w, c, F, cs, .refl hH, hp, hcs, .refl .., hF, hk, hm1, hd, fn, by rw [hF]; exact hfn⟩
    | ret =>
      show COf _ (resVals E fr H tm res fun l => .ret (tupV l) cm H)
      rw [hres]
      refine resVals_ok (E := E) (a := ⟨F.tmps, []⟩) (Φ := fun r => COf _ r) (fun n => trivial) hH ht _ _ fun l ys hs hr => ?_
      exact ⟨_, w, c, F, cs, .refl hH, tupV_spec hs, hcs, .refl .., hF, hk, hm, hd, fn, by rw [hF]; exact hfn, run_results hr⟩
  | .call f args :: ds, mode, cm, H, c, w, F, cs0, cs, hE, hH, ht, hd, hm, hcs, hF, hk => by
    obtain ⟨d, ds', hds, ⟨hbody, cap, ys, hdd, hargs⟩, hrest⟩ := hd
    subst hdd
    have hi := invoke_body (E := E) hbody cap ys w
    have h1 := step_defer (P := E.P) (cs := cs) (fr := F) (w := w) (fv := .func f) (cap := cap) hm.not_run hds rfl hi
    have hcall := hself.call f args true mode H c w (ys ++ cap) ({ F with defers := ds' } :: cs) ({ F with defers := ds' } :: cs) hE hH (by simpa using hargs)
      ⟨{ F with defers := ds' }, cs, F.mode, rfl, rfl, hm⟩ hbody
    show COf _ (onCC (self (.call f args true mode H)) (fun _ m H => unw E self fr res tm ds (settleA m) cm H) fun l m H => unw E self fr res tm ds (raiseA m l) cm H)
    refine COf.onCC hcall ?_ ?_
    · rintro v m H' ⟨x, w', c', fr', cs', hs, hv, hcs', hst, -, hkd, hmd, hde, hfun⟩
      obtain ⟨c0, rest, u, e1, e2, hu⟩ := hcs'
      cases e1
      subst e2
      have h2 := step_going_returned (P := E.P) (fr := fr') (c := { F with defers := ds', mode := u }) (cs := cs) (w := w') (v := x) hkd ⟨hmd, hde, hfun⟩
      refine (unw_ok hself hfn hres ds (settleA m) cm H' c' w' { F with defers := ds', mode := settle u } cs0 cs (hE.mono hs.2.le) hs.1 (ht.mono hs.2.le) (hrest.mono hs.2.le) (settle_ok hu) (hcs.mono hs.2.le) hF hk).mono fun r hr => ?_
      exact (hr.steps (.head h1 (hst.trans (.one h2)))).ext hs.2
    · rintro l m H' ⟨ch, w', c', fr', cs', hs, hp, hcs', hst, -, hkd, hmd, hde, hfun⟩
      obtain ⟨c0, rest, u, e1, e2, hu⟩ := hcs'
      cases e1
      subst e2
      have h2 := step_going_panicked (P := E.P) (fr := fr') (c := { F with defers := ds', mode := u }) (cs := cs) (w := w') (chain := ch) ⟨hmd, hde, hfun⟩
      refine (unw_ok hself hfn hres ds (raiseA m l) cm H' c' w' { F with defers := ds', mode := raised u ch } cs0 cs (hE.mono hs.2.le) hs.1 (ht.mono hs.2.le) (hrest.mono hs.2.le) (raise_ok hu hp) (hcs.mono hs.2.le) hF hk).mono fun r hr => ?_
      exact (hr.steps (.head h1 (hst.trans (.one h2)))).ext hs.2
  | .collected r :: ds, mode, cm, H, c, w, F, cs0, cs, hE, hH, ht, hd, hm, hcs, hF, hk => by
    obtain ⟨d, ds', hds, ⟨B, hr, hdd⟩, hrest⟩ := hd
    subst hdd
    show COf _ (onDfr (hget E H r) (fun b => match b with
          | true => hsetC E H r (.dfr false) fun H => unw E self fr res tm ds mode cm H
          | false => .fail 217) (.fail 218))
    rw [onDfr_eq]
    split
    · rename_i b hg
      cases b with
      | false => trivial
      | true =>
        have hlt := hH.rlt r _ hr
        have h2 := hH.blk r B 0 hlt (by rw [hg]; rfl) hr
        rw [hg] at h2
        have hB : w.heap[B]? = some (.deferred (some [])) := h2.2
        show COf _ (hsetC E H r (.dfr false) fun H => unw E self fr res tm ds mode cm H)
        have e : hsetC E H r (.dfr false) (fun H => unw E self fr res tm ds mode cm H) = unw E self fr res tm ds mode cm (putH E H r (.dfr false)) := by
          unfold hsetC
          rw [tsetC_eq]; rfl
        rw [e]
        have hs : Stp E c H w c (putH E H r (.dfr false)) (World.setB w B (.deferred none)) :=
          hH.upd hlt (by rw [hg]; rfl) hr (setB_size _ _ _) (fun B' h => setB_other _ h _) (fun en ck he => by rw [hB] at he; cases he) (fun cs2 e2 fr2 he => by rw [hB] at he; cases he) rfl rfl rfl fun _ => ⟨rfl, setB_same (block_lt hB) _⟩
        have h1 := step_collected (P := E.P) (cs := cs) hm.not_run hds hB
        refine (unw_ok hself hfn hres ds mode cm _ c _ { F with defers := ds' } cs0 cs hE hs.1 ht hrest hm hcs hF hk).mono fun r hr => ?_
        exact (hr.steps (.one h1)).ext hs.2
    · trivial

theorem leave_ok (hself : SelfOK E self) {fr : Fr} {b : Frame} {cs0 : List Frame} {res : List ResultVar} {fn : Func} (hfn : E.P.funcs[fr.fn]? = some fn) (hres : res = fn.results.toList) (hround : fr.round = none)
    {c : Cx} {H : Heap} {w : World} {m : Machine} {x : Ex} {s : St} (hE : FactsOK E c) (hfr : FrOK E c fr b) (ho : One E c H w fr b cs0 m [] x s) :
    COf (C1 E c H w fr.fn fr.deferred cs0 m) (leave E self fr res x s) := by
  obtain ⟨a, w', cs', c', h1, h2, h3⟩ := ho
  have hro : b.roundOf = none := by have := hfr.round; rw [hround] at this; exact this
  have hgo : ∀ (F : Frame) (mode : AMode), F.tmps = a.tmps → F.defers = a.defers → ModeOK c' mode F.mode → F.fn = b.fn → F.kind = b.kind → Steps E.P m (lone F cs' w') →
      COf (C1 E c H w fr.fn fr.deferred cs0 m) (unw E self fr res s.tm s.ds mode s.cm s.H) := by
    intro F mode e1 e2 hm e3 e4 hs
    refine (unw_ok hself hfn hres s.ds mode s.cm s.H c' w' F cs0 cs' (hE.mono h1.le) h2.hs (by rw [e1]; exact h2.tm) (by rw [e2]; exact h2.ds) hm h2.cs (by rw [e3, hfr.fn]) (by rw [e4, hfr.kind])).mono fun r hr => ?_
    exact (hr.steps hs).ext h1
  cases x with
  | normal => exact hgo { b.atR a [] with mode := .returning } .ret rfl rfl rfl rfl rfl (Steps.trans h3 (.one (stepR_end hro)))
  | exit i => trivial
  | goto i => trivial
  | ret => obtain ⟨todo, hs⟩ := h3.1 hro; exact hgo { b.atR a todo with mode := .returning } .ret rfl rfl rfl rfl rfl hs
  | pan l => obtain ⟨ch, todo, hp, hs⟩ := h3; exact hgo { b.atR a todo with mode := .panicking ch } (.pan l) rfl rfl ⟨ch, rfl, hp⟩ rfl rfl hs

/-- a call -/
theorem callA_ok (hX : ExtsOK E) (hself : SelfOK E self) (hD : ∀ fr b cs0, DrawOK E self fr b cs0) (hR : ∀ fr b cs0, RangeOK E self fr b cs0) (L G : Nat) (f : Nat) (args : List AV) (dfd : Bool) (cm : AMode) (H : Heap) (c : Cx) (w : World) (ys : Array Value) (cs0 cs : List Frame)
    (hE : FactsOK E c) (hH : Hs E c H w) (hargs : SL c args ys.toList) (hcs : CallersOK c dfd cm cs0 cs) :
    COf (C1 E c H w f dfd cs0 (lone (Frame.enter E.P f ys (if dfd then .deferred else .normal)) cs w)) (callA E L G self f args dfd cm H) := by
  unfold callA
  cases hi : finfo E.P f with
  | none => trivial
  | some i =>
    obtain ⟨fn, hf, hb, hres, hnt, hM, hd⟩ := finfo_spec hi
    simp only
    let kd : CallKind := if dfd then .deferred else .normal
    let b : Frame := { (default : Frame) with fn := f, kind := kd, roundOf := none }
    let fr : Fr := ⟨f, i.M, i.d, i.nt, dfd, none⟩
    have henter : Frame.enter E.P f ys kd = b.atR { tmps := ys ++ Array.replicate (fn.ntmps - ys.size) undef, defers := [] } [.code i.body] := by
      simp [Frame.enter, Frame.atR, hf, hb, b]
    have hlen : args.length = ys.toList.length := hargs.length
    rw [argPaths_eq]
    have hTM0 : TM c i.M i.d (tfull undefA i.d) (Array.replicate (ys.size + (fn.ntmps - ys.size)) undef) := by
      intro t hb
      have ht := bit_lt hM hb
      refine ⟨Nat.lt_of_lt_of_le ht hd, by simp; omega, ?_⟩
      rw [tget_tfull]
      have : (Array.replicate (ys.size + (fn.ntmps - ys.size)) undef).getD t undef = undef := by
        rw [Array.getD_eq_getD_getElem?, Array.getElem?_replicate]
        split <;> rfl
      rw [this]
      exact V.undef c
    refine setArgs_ok (Φ := fun r => COf _ r) (fun n => trivial) (List.range' 0 args.length) args ys.toList _ _ hTM0 hargs fun tm' htm => ?_
    refine COf.trace f ?_
    have htm2 : TM c i.M i.d tm' (ys ++ Array.replicate (fn.ntmps - ys.size) undef) := by
      refine htm.congr (by rw [setAll_size]; simp) fun t => ?_
      rw [hlen, setAll_range _ _ _ _ (by simp)]
      simp only [Nat.zero_le, true_and, Nat.zero_add, Nat.sub_zero, Array.length_toList]
      by_cases h : t < ys.size
      · rw [if_pos h, Array.getD_eq_getD_getElem?, Array.getElem?_append_left h]
        simp [List.getD]
      · rw [if_neg h]
        have e1 : (Array.replicate (ys.size + (fn.ntmps - ys.size)) undef).getD t undef = undef := by
          rw [Array.getD_eq_getD_getElem?, Array.getElem?_replicate]
          split <;> rfl
        have e2 : (ys ++ Array.replicate (fn.ntmps - ys.size) undef).getD t undef = undef := by
          rw [Array.getD_eq_getD_getElem?, Array.getElem?_append_right (by omega), Array.getElem?_replicate]
          split <;> rfl
        rw [e1, e2]
    have hfr : FrOK E c fr b := ⟨by simp [fr, fM, hi], by simp [fr, fD, hi], by simp [fr, fT, hi], rfl, rfl, rfl⟩
    have hst : StOK E c fr cs0 ⟨tm', [], cm, H⟩ { tmps := ys ++ Array.replicate (fn.ntmps - ys.size) undef, defers := [] } w cs :=
      ⟨hH, htm2, by show i.nt ≤ _; rw [hnt]; simp; omega, rfl, hcs⟩
    have hrun := evalG_ok (L := L) hX hself (hD fr b cs0) (hR fr b cs0) G i.body [] ⟨tm', [], cm, H⟩ _ w cs c hE hfr hst
    rw [← henter] at hrun
    exact hrun.bindC fun x s ho => leave_ok hself (fr := fr) hf hres rfl hE hfr ho
end
end Go.Eng
/- Ranges over functions: the loop's frame, the rounds. -/
namespace Go.Eng

section
variable {P : Program} {w : World}
theorem run_enterLoop_none (fn : FuncId) (tmps : Array Value) (ps : Array Tmp) (as bd : Code) :
    (Instr.enterLoop fn tmps ps as bd none).run P w = .ok (w.heap.size + 1, [{ target := .collected w.heap.size, args := #[] }])
      (World.push (World.push w (.deferred (some []))) (.loop { state := .ready, pending := none, fn, tmps, params := ps, assign := as, body := bd, defers := w.heap.size })) := by
  simp only [Instr.enterLoop, Sem.run_bind, run_newObj, Result.andThen_ok, Sem.run_pure, Array.size_push]
  rfl
theorem run_enterLoop_some {B : Nat} {r : Loop} (hB : w.heap[B]? = some (.loop r)) (fn : FuncId) (tmps : Array Value) (ps : Array Tmp) (as bd : Code) :
    (Instr.enterLoop fn tmps ps as bd (some B)).run P w = .ok (w.heap.size, [])
      (World.push w (.loop { state := .ready, pending := none, fn, tmps, params := ps, assign := as, body := bd, defers := r.defers })) := by
  simp only [Instr.enterLoop, Instr.getLoop, Sem.run_bind, run_getObj' hB rfl, run_newObj, Result.andThen_ok, Sem.run_pure]
  rfl
theorem run_endLoop {B : Nat} {r : Loop} (hB : w.heap[B]? = some (.loop r)) (hs : r.state ≠ .busy) : (Instr.endLoop B).run P w = .ok r.pending (World.setB w B (.loop { r with state := .exhausted })) := by
  have : (r.state == LoopState.busy) = false := by simpa using hs
  simp only [Instr.endLoop, Instr.getLoop, Sem.run_bind, run_getObj' hB rfl, Result.andThen_ok, Sem.run_pure, this, Bool.false_eq_true, if_false, run_setObj' (P := P) hB rfl]
theorem run_beginRound {B : Nat} {r : Loop} (hB : w.heap[B]? = some (.loop r)) (hs : r.state = .ready) : (Instr.beginRound B).run P w = .ok () (World.setB w B (.loop { r with state := .busy })) := by
  simp only [Instr.beginRound, Instr.getLoop, Sem.run_bind, run_getObj' hB rfl, Result.andThen_ok, Sem.run_pure, run_setObj' (P := P) hB rfl, hs]
theorem run_endRound {B : Nat} {r : Loop} (hB : w.heap[B]? = some (.loop r)) (jump : Option Code) :
    (Instr.endRound B jump).run P w = .ok (.bool jump.isNone) (World.setB w B (.loop { r with state := if jump.isNone then .ready else .done, pending := jump })) := by
  simp only [Instr.endRound, Instr.getLoop, Sem.run_bind, run_getObj' hB rfl, Result.andThen_ok, Sem.run_pure, run_setObj' (P := P) hB rfl]
theorem run_yield {B : Nat} {r : Loop} (hB : w.heap[B]? = some (.loop r)) {ys : Array Value} (hn : ys.size = r.params.size) :
    (Instr.yield B ys).run P w = .ok (.round B r.fn (setAll r.params.toList ys.toList r.tmps) r.assign r.body) w := by
  have h1 : ¬ (ys.size ≠ r.params.size) := by simp [hn]
  simp only [Instr.yield, Instr.getLoop, Sem.run_bind, run_getObj' hB rfl, Result.andThen_ok, Sem.run_pure, if_neg h1]
  congr 2
  unfold setAll
  rw [← Array.foldl_toList, Array.toList_zip]
end

section
variable {E : Env} {self : Cmd → CRes} {c : Cx} {H : Heap} {w : World}

/-- the block of a loop -/
theorem Hs.loopB (hH : Hs E c H w) {l : Nat} {st : LoopState} {pend : Option Code} {fn : Nat} {t : AH} {ps : List Nat} {as bd : Code} {df : Nat} (hg : hget E H l = .loop st pend fn t ps as bd df) {B : Nat} (hr : c.rho l = some (B, 0)) :
    l < H.next ∧ ∃ tmps D, c.rho df = some (D, 0) ∧ TM c (fM E.P fn) (fD E.P fn) t tmps ∧ fT E.P fn ≤ tmps.size ∧
      w.heap[B]? = some (.loop { state := st, pending := pend, fn := fn, tmps := tmps, params := ps.toArray, assign := as, body := bd, defers := D }) := by
  have hlt := hH.rlt l _ hr
  have h2 := hH.blk l B 0 hlt (by rw [hg]; rfl) hr
  rw [hg] at h2
  exact ⟨hlt, h2.2⟩
theorem Hs.loopUpd (hH : Hs E c H w) {l : Nat} {st st' : LoopState} {pend pend' : Option Code} {fn : Nat} {t : AH} {ps : List Nat} {as bd : Code} {df : Nat} (hg : hget E H l = .loop st pend fn t ps as bd df) {B : Nat} (hr : c.rho l = some (B, 0))
    {tmps : Array Value} {D : Nat} (hD : c.rho df = some (D, 0)) (ht : TM c (fM E.P fn) (fD E.P fn) t tmps) (hsz : fT E.P fn ≤ tmps.size)
    (hB : w.heap[B]? = some (.loop { state := st, pending := pend, fn := fn, tmps := tmps, params := ps.toArray, assign := as, body := bd, defers := D })) :
    Stp E c H w c (putH E H l (.loop st' pend' fn t ps as bd df)) (World.setB w B (.loop { state := st', pending := pend', fn := fn, tmps := tmps, params := ps.toArray, assign := as, body := bd, defers := D })) :=
  hH.upd (hH.rlt l _ hr) (by rw [hg]; rfl) hr (setB_size _ _ _) (fun B' h => setB_other _ h _) (fun en ck he => by rw [hB] at he; cases he) (fun cs2 e2 fr2 he => by rw [hB] at he; cases he) rfl rfl rfl
    fun _ => ⟨rfl, tmps, D, hD, ht, hsz, setB_same (block_lt hB) _⟩

theorem newR_eq (E : Env) (H : Heap) (x : AH) (k : Nat → Heap → Res) : newR E H x k = if H.next < E.lim then k H.next (newH E H x) else .fail 209 := by
  unfold newR
  cases h : Nat.blt H.next E.lim with
  | true =>
    have : H.next < E.lim := by simpa using h
    rw [if_pos this]
    simp only
    rw [tsetR_eq]; rfl
  | false =>
    have : ¬ H.next < E.lim := by
      intro h2
      rw [show Nat.blt H.next E.lim = true by simpa using h2] at h
      cases h
    rw [if_neg this]
theorem hsetR_eq (E : Env) (H : Heap) (b : Nat) (x : AH) (k : Heap → Res) : hsetR E H b x k = k (putH E H b x) := by
  unfold hsetR
  rw [tsetR_eq]; rfl
theorem hsetC_eq (E : Env) (H : Heap) (b : Nat) (x : AH) (k : Heap → CRes) : hsetC E H b x k = k (putH E H b x) := by
  unfold hsetC
  rw [tsetC_eq]; rfl

theorem step_endLoop {P : Program} {b : Frame} {a : Act} {k : List Item} {cs : List Frame} {w w' : World} {B : Nat} {jump : Option Code} (hr : (Instr.endLoop B).run P w = .ok jump w') :
    step P (lone (b.atR a (.endRangeFunc B :: k)) cs w) = .next (lone (b.atR a ((jump.map Item.code).toList ++ k)) cs w') :=
  step_lone_go (by simp [stepG, stepG.exec, Frame.atR, Sem.runT_eq, hr])

/-- behind the range's call -/
theorem endLoop_ok {fr : Fr} {b : Frame} {cs0 cs : List Frame} {k : List Item} {a : Act} {tm : AH} {ds : List ADef} {cm : AMode} (hfr : FrOK E c fr b) {l B : Nat} (hr : c.rho l = some (B, 0)) (hst : StOK E c fr cs0 ⟨tm, ds, cm, H⟩ a w cs) :
    ROf (One E c H w fr b cs0 (lone (b.atR a (.endRangeFunc B :: k)) cs w) k) (endLoop E l ⟨tm, ds, cm, H⟩ H) := by
  unfold endLoop
  rw [onLoop_eq]
  split
  · rename_i st pend fn t ps as bd df hg
    obtain ⟨hlt, tmps, D, hD, ht, hsz, hB⟩ := hst.hs.loopB hg hr
    have hgo : st ≠ .busy → ROf (One E c H w fr b cs0 (lone (b.atR a (.endRangeFunc B :: k)) cs w) k) (match exOf pend with
        | some x => hsetR E H l (.loop .exhausted pend fn t ps as bd df) fun H => .one x ⟨tm, ds, cm, H⟩
        | none => .fail 207) := by
      intro hne
      have hs := hst.hs.loopUpd (st' := .exhausted) (pend' := pend) hg hr hD ht hsz hB
      have hrun := run_endLoop (P := E.P) hB hne
      have hstep := step_endLoop (P := E.P) (b := b) (a := a) (k := k) (cs := cs) hrun
      have hst' := hst.mono hs.2.le hs.1
      cases pend with
      | none =>
        simp only [exOf]
        rw [hsetR_eq]
        exact ⟨a, _, cs, c, hs.2, hst', .one hstep⟩
      | some q =>
        cases q <;> first | trivial | skip
        · rename_i id
          simp only [exOf]
          rw [hsetR_eq]
          exact ⟨a, _, cs, c, hs.2, hst', fun k' hk => .head hstep (.one (stepR_exit hk)), fun _ hk => ⟨k, hk, .one hstep⟩⟩
        · rename_i lb
          simp only [exOf]
          rw [hsetR_eq]
          exact ⟨a, _, cs, c, hs.2, hst', fun k' hk => .head hstep (.one (stepR_goto hk)), fun _ hk => ⟨k, hk, .one hstep⟩⟩
        · simp only [exOf]
          rw [hsetR_eq]
          exact ⟨a, _, cs, c, hs.2, hst', fun hn => ⟨_, .head hstep (.one (stepR_ret hn))⟩, fun _ => ⟨k, .one hstep⟩⟩
    cases st with
    | busy => trivial
    | ready => exact hgo (by simp)
    | done => exact hgo (by simp)
    | exhausted => exact hgo (by simp)
  · trivial

/-- entering a range's function -/
theorem step_range {P : Program} {b : Frame} {a : Act} {k : List Item} {cs : List Frame} {w w2 : World} {f : Operand} {ps : Array Tmp} {as bd : Code} {B : Nat} {mark : List Deferred} {g : Nat} {ys : Array Value}
    (hr : (Instr.enterLoop b.fn a.tmps ps as bd b.roundOf).run P w = .ok (B, mark) w2) (hc : (do let d ← Deferred.ofValue (a.eval f) #[.func (.yield B) #[] #[]]; invoke d.target d.args : Sem Next).run P w2 = .ok (.enter g ys) w2) :
    step P (lone (b.atR a (.code (.rangeFunc f ps as bd) :: k)) cs w) = .next (lone (Frame.enter P g ys .normal) (b.atR { a with defers := mark ++ a.defers } (.inRangeFunc B :: k) :: cs) w2) := by
  refine step_lone_go ?_
  have he : (resolve (b.atR { a with defers := mark ++ a.defers } (.inRangeFunc B :: k)).eval { callee := .value f, args := #[.const (.func (.yield B) #[] #[])], argTypes := #[] } 0 >>= fun d => invoke d.target d.args) =
      (do let d ← Deferred.ofValue (a.eval f) #[.func (.yield B) #[] #[]]; invoke d.target d.args : Sem Next) := by
    rw [Frame.eval_atR]
    have : (Act.eval { a with defers := mark ++ a.defers } f) = a.eval f := by cases f <;> rfl
    simp only [resolve, this]
    simp only [List.map_toArray, List.map_cons, List.map_nil, Act.eval]
  have he2 : (resolve (Frame.eval { fn := b.fn, tmps := a.tmps, todo := .inRangeFunc B :: k, defers := mark ++ a.defers, mode := .run, kind := b.kind, roundOf := b.roundOf }) { callee := .value f, args := #[.const (.func (.yield B) #[] #[])], argTypes := #[] } 0 >>= fun d => invoke d.target d.args) =
      (do let d ← Deferred.ofValue (a.eval f) #[.func (.yield B) #[] #[]]; invoke d.target d.args : Sem Next) := he
  have hc2 : Sem.run P (resolve (Frame.eval { fn := b.fn, tmps := a.tmps, todo := .inRangeFunc B :: k, defers := mark ++ a.defers, mode := .run, kind := b.kind, roundOf := b.roundOf }) { callee := .value f, args := #[.const (.func (.yield B) #[] #[])], argTypes := #[] } 0 >>= fun d => invoke d.target d.args) w2 = .ok (.enter g ys) w2 := by rw [he2]; exact hc
  simp only [stepG, stepG.exec, Frame.atR, Sem.runT_eq, hr, GStep.bare_after, stepG.apply, if_true, hc2, GStep.bare_go]

theorem enter_ok (hX : ExtsOK E) (hself : SelfOK E self) {fr : Fr} {b : Frame} {cs0 cs : List Frame} {k : List Item} {f : Operand} {ps : Array Nat} {as bd : Code} {tm : AH} {ds ds' : List ADef} {cm : AMode} {a : Act} {mark : List Deferred} {w2 : World} {c2 : Cx} {H2 : Heap} {l B : Nat}
    (hE : FactsOK E c) (hfr : FrOK E c fr b) (hr : (Instr.enterLoop b.fn a.tmps ps as bd b.roundOf).run E.P w = .ok (B, mark) w2) (hs : Stp E c H w c2 H2 w2) (hl : c2.rho l = some (B, 0))
    (hst : StOK E c2 fr cs0 ⟨tm, ds', cm, H2⟩ { a with defers := mark ++ a.defers } w2 cs) :
    ROf (One E c H w fr b cs0 (lone (b.atR a (.code (.rangeFunc f ps as bd) :: k)) cs w) k)
      (match hCall E (evR fr.M fr.d f tm) [.yield l] H2 with
        | .call g args => onC (self (.call g args false .ret H2)) (fun _ _ H => endLoop E l ⟨tm, ds', cm, H⟩ H) fun p _ H => .one (.pan p) ⟨tm, ds', cm, H⟩
        | _ => .fail 210) := by
  have hE2 := hE.mono hs.2.le
  have hf : V c2 (evR fr.M fr.d f tm) (a.eval f) := by
    have := evR_spec hst f
    have e : (Act.eval { a with defers := mark ++ a.defers } f) = a.eval f := by cases f <;> rfl
    rw [e] at this; exact this
  have hN := hCall_ok (E := E) (cs := []) hE2 hX hs.1 (l := [.yield l]) (ys := #[.func (.yield B) #[] #[]]) hf ⟨_, [], rfl, ⟨B, hl, rfl⟩, rfl⟩
  generalize hCall E (evR fr.M fr.d f tm) [.yield l] H2 = o at hN
  cases o with
  | call g args =>
    obtain ⟨hk, ys, hrun, hargs⟩ := hN
    have hstep := step_range (P := E.P) (k := k) (cs := cs) hr hrun
    refine COf.onC (hself.call g args false .ret H2 c2 w2 ys (b.atR { a with defers := mark ++ a.defers } (.inRangeFunc B :: k) :: cs) (b.atR { a with defers := mark ++ a.defers } (.inRangeFunc B :: k) :: cs) hE2 hs.1 hargs rfl hk) ?_ ?_
    · rintro v m H' ⟨x, w', c', fr', cs', hs', hv, hcs, hsteps, hfn, hkd, hm, hd, hfun⟩
      cases hcs
      have h1 := endLoop_ok (k := k) (hfr.mono (hs.2.le.trans hs'.2.le)) (hs'.2.le.rho _ _ hl) (hst.mono hs'.2.le hs'.1)
      refine h1.mono fun _ _ ho => (ho.steps (.head hstep (hsteps.trans (.one ?_)))).ext (hs.2.trans hs'.2)
      exact step_leave_returned (c := b.atR { a with defers := mark ++ a.defers } (.inRangeFunc B :: k)) ⟨hm, hd, hkd, hfun⟩
    · rintro p m H' ⟨ch, w', c', fr', cs', hs', hp, hcs, hsteps, hfn, hkd, hm, hd, hfun⟩
      cases hcs
      refine ⟨{ a with defers := mark ++ a.defers }, w', cs, c', hs.2.trans hs'.2, hst.mono hs'.2.le hs'.1, ch, .inRangeFunc B :: k, hp, .head hstep (hsteps.trans (.one ?_))⟩
      rw [← Frame.raise_atR]
      exact step_leave_panicked ⟨hm, hd, hfun⟩
  | _ => trivial

theorem rangeF_ok (hX : ExtsOK E) (hself : SelfOK E self) (fr : Fr) (b : Frame) (cs0 : List Frame) : RangeOK E self fr b cs0 := by
  intro f ps as bd k s a w cs c hE hfr hst
  obtain ⟨tm, ds, cm, H⟩ := s
  have hM : ∀ c', c.Le c' → TM c' (fM E.P fr.fn) (fD E.P fr.fn) tm a.tmps := fun c' hle => by rw [← hfr.M, ← hfr.d]; exact hst.tm.mono hle
  have hT : fT E.P fr.fn ≤ a.tmps.size := by rw [← hfr.nt]; exact hst.sz
  unfold rangeF
  simp only
  cases hrd : fr.round with
  | none =>
    have hro : b.roundOf = none := by have := hfr.round; rw [hrd] at this; exact this
    simp only
    rw [newR_eq]
    split
    · rename_i hlim
      rw [newR_eq]
      split
      · rename_i hlim2
        have s1 : Stp E c H w (c.at H.next w.heap.size 0) (newH E H (.dfr true)) (World.push w (.deferred (some []))) :=
          hst.hs.new hlim (push_size _ _) (fun B h => push_old _ _ h) rfl rfl rfl ⟨rfl, push_new _ _⟩
        have hle1 := s1.2.le
        have hsz1 : (World.push w (.deferred (some []))).heap.size = w.heap.size + 1 := Array.size_push _
        have hn1 : (newH E H (.dfr true)).next = H.next + 1 := rfl
        have s2 := s1.1.new (x := .loop .ready none fr.fn tm ps.toList as bd H.next) (w' := World.push (World.push w (.deferred (some []))) (.loop { state := .ready, pending := none, fn := b.fn, tmps := a.tmps, params := ps, assign := as, body := bd, defers := w.heap.size })) hlim2
          (push_size _ _) (fun B h => push_old _ _ h) rfl rfl rfl
          ⟨rfl, a.tmps, w.heap.size, (Cx.at_le (s1.1.rho_next (Nat.le_refl _))).rho _ _ (at_self _ _ _ _), hM _ (hle1.trans (Cx.at_le (s1.1.rho_next (Nat.le_refl _)))), hT, by rw [hfr.fn]; exact push_new _ _⟩
        have s12 := s1.trans s2
        have hrun := run_enterLoop_none (P := E.P) (w := w) b.fn a.tmps ps as bd
        rw [← hro] at hrun
        refine enter_ok (ds := ds) hX hself hE hfr hrun s12 (l := (newH E H (.dfr true)).next) ?_ ?_
        · rw [← hsz1]; exact at_self _ _ _ _
        · have h2 := hst.mono s12.2.le s12.1
          exact ⟨h2.hs, h2.tm, h2.sz, ⟨_, _, rfl, ⟨w.heap.size, s2.2.le.rho _ _ (at_self _ _ _ _), rfl⟩, h2.ds⟩, h2.cs⟩
      · trivial
    · trivial
  | some l0 =>
    have hr0 := hfr.round
    rw [hrd] at hr0
    obtain ⟨B0, hl0, hro⟩ := hr0
    simp only
    rw [onLoop_eq]
    split
    · rename_i st pend fn0 t0 ps0 as0 bd0 df hg
      obtain ⟨hlt, tmps0, D, hD, -, -, hB⟩ := hst.hs.loopB hg hl0
      rw [newR_eq]
      split
      · rename_i hlim
        have s1 := hst.hs.new (x := .loop .ready none fr.fn tm ps.toList as bd df) (w' := World.push w (.loop { state := .ready, pending := none, fn := b.fn, tmps := a.tmps, params := ps, assign := as, body := bd, defers := D })) hlim
          (push_size _ _) (fun B h => push_old _ _ h) rfl rfl rfl
          ⟨rfl, a.tmps, D, (Cx.at_le (hst.hs.rho_next (Nat.le_refl _))).rho _ _ hD, hM _ (Cx.at_le (hst.hs.rho_next (Nat.le_refl _))), hT, by rw [hfr.fn]; exact push_new _ _⟩
        have hrun := run_enterLoop_some (P := E.P) hB b.fn a.tmps ps as bd
        rw [← hro] at hrun
        exact enter_ok (ds := ds) hX hself hE hfr hrun s1 (at_self _ _ _ _) (hst.mono s1.2.le s1.1)
      · trivial
    · trivial

/-! ### rounds -/
theorem pPaths_eq (M d : Nat) : ∀ ps : List Nat, pPaths M d ps = ps.map fun t => stOf M d (some t)
  | [] => rfl
  | p :: ps => by rw [List.map_cons, ← pPaths_eq M d ps]; rfl

theorem roundEnd_ok {fr : Fr} {b : Frame} {l B : Nat} {fn : Func} {m : Machine} {c0 : Frame} {cs : List Frame} (hrd : fr.round = some l) (hdf : fr.deferred = false) (hfn : E.P.funcs[fr.fn]? = some fn) (hfr : FrOK E c fr b) (hl : c.rho l = some (B, 0)) (hB : b.roundOf = some B)
    {x : Ex} {s : St} (ho : One E c H w fr b (c0 :: cs) m [] x s) :
    COf (Y1 E c H w c0 cs m) (roundEnd E l x s) := by
  obtain ⟨a, w', cs', c', h1, h2, h3⟩ := ho
  have hcs : cs' = c0 :: cs := by have := h2.cs; rw [hdf] at this; exact this
  subst hcs
  have hk : b.kind = .normal := by rw [hfr.kind, hdf]; rfl
  have hsome : b.roundOf.isSome = true := by rw [hB]; rfl
  have hl' := h1.le.rho _ _ hl
  have hgo : ∀ (jump : Option Code) (st' : LoopState), (if jump.isNone then LoopState.ready else .done) = st' → (∀ v w2, (Instr.endRound B jump).run E.P w' = .ok v w2 → Steps E.P m (lone (c0.finish v) cs w2)) →
      COf (Y1 E c H w c0 cs m) (onLoopC (hget E s.H l) (fun _ _ fn t ps a b df =>
        hsetC E s.H l (.loop st' jump fn t ps a b df) fun H => .ret (.bool jump.isNone) .ret H) (.fail 225)) := by
    intro jump st' e hst
    rw [onLoopC_eq]
    split
    · rename_i st pend fn0 t ps as bd df hg
      obtain ⟨hlt, tmps, D, hD, ht, hsz, hBl⟩ := h2.hs.loopB hg hl'
      rw [hsetC_eq]
      have hrun := run_endRound (P := E.P) hBl jump
      rw [e] at hrun
      have hs := h2.hs.loopUpd (st' := st') (pend' := jump) hg hl' hD ht hsz hBl
      exact ⟨.bool jump.isNone, _, c', ⟨hs.1, h1.trans hs.2⟩, rfl, hst _ _ hrun⟩
    · trivial
  cases x with
  | normal => exact hgo none _ rfl fun v w2 hr => Steps.trans h3 (.one (stepR_round_end hB hk hr))
  | exit id =>
    obtain ⟨k₁, q1, q2⟩ := h3.2 hsome rfl
    exact hgo (some (.exit id)) _ rfl fun v w2 hr => q2.trans (.one (stepR_round_exit hB hk q1 hr))
  | goto id =>
    obtain ⟨k₁, q1, q2⟩ := h3.2 hsome rfl
    exact hgo (some (.goto id)) _ rfl fun v w2 hr => q2.trans (.one (stepR_round_goto hB hk q1 hr))
  | ret =>
    obtain ⟨k₁, q2⟩ := h3.2 hsome
    exact hgo (some .ret) _ rfl fun v w2 hr => q2.trans (.one (stepR_round_ret hB hk hr))
  | pan p =>
    show COf _ (match s.ds with | [] => .pan p .ret s.H | _ :: _ => .fail 225)
    have hdd := h2.ds
    generalize s.ds = ds at hdd
    cases ds with
    | cons d ds => trivial
    | nil =>
      obtain ⟨ch, todo, hp, hs⟩ := h3
      exact ⟨ch, w', c', _, ⟨h2.hs, h1⟩, hp, hs, rfl, hdd, fn, by show E.P.funcs[b.fn]? = _; rw [hfr.fn]; exact hfn⟩

theorem roundBody_ok (hX : ExtsOK E) (hself : SelfOK E self) (hD : ∀ fr b cs0, DrawOK E self fr b cs0) (L G : Nat) {fr : Fr} {b : Frame} {cs0 cs : List Frame} {l B : Nat} {bd : Code} {s : St} {a : Act} (hE : FactsOK E c) (hfr : FrOK E c fr b) (hrd : fr.round = some l) (hB : b.roundOf = some B) (hl : c.rho l = some (B, 0)) (hst : StOK E c fr cs0 s a w cs) :
    ROf (One E c s.H w fr b cs0 (lone (b.atR a [.beginRound, .code bd]) cs w) []) (roundBody E L G self l fr bd s) := by
  obtain ⟨tm, ds, cm, H⟩ := s
  unfold roundBody
  rw [onLoop_eq]
  split
  · rename_i st pend fn0 t ps as bd' df hg
    obtain ⟨hlt, tmps, D, hD', ht, hsz, hBl⟩ := hst.hs.loopB hg hl
    split
    · rw [hsetR_eq]
      have hrun := run_beginRound (P := E.P) hBl rfl
      have hs := hst.hs.loopUpd (st' := .busy) (pend' := pend) hg hl hD' ht hsz hBl
      have h := evalG_ok (L := L) hX hself (hD fr b cs0) (rangeF_ok hX hself fr b cs0) G bd [] ⟨tm, ds, cm, _⟩ a _ cs c hE hfr (hst.mono hs.2.le hs.1)
      exact h.mono fun _ _ ho => (ho.steps (.one (stepR_beginRound hB hrun))).ext hs.2
    · trivial
  · trivial

theorem yieldA_ok (hX : ExtsOK E) (hself : SelfOK E self) (hD : ∀ fr b cs0, DrawOK E self fr b cs0) (L G : Nat) (l : Nat) (args : List AV) (H : Heap) (c : Cx) (w : World) (ys : Array Value) (B : Nat) (c0 : Frame) (cs : List Frame)
    (hE : FactsOK E c) (hH : Hs E c H w) (hargs : SL c args ys.toList) (hl : c.rho l = some (B, 0)) :
    COf (fun r => ∃ fb tmps as bd, (Instr.yield B ys).run E.P w = .ok (.round B fb tmps as bd) w ∧ Y1 E c H w c0 cs (lone (Frame.round B fb tmps as bd .normal) (c0 :: cs) w) r) (yieldA E L G self l args H) := by
  unfold yieldA
  rw [onLoopC_eq]
  split
  · rename_i st pend fn t ps as bd df hg
    obtain ⟨hlt, tmps, D, hD', ht, hsz, hB⟩ := hH.loopB hg hl
    split
    · rename_i i hn hi
      obtain ⟨fd, hf, hb, hres, hnt, hM, hd⟩ := finfo_spec hi
      have hlen : args.length = ps.length := Nat.eq_of_beq_eq_true hn
      have hy := run_yield (P := E.P) hB (ys := ys) (by have h1 := hargs.length; have h2 : ps.toArray.size = ps.length := List.size_toArray; have h3 := Array.length_toList (xs := ys); show ys.size = ps.toArray.size; omega)
      let fr : Fr := ⟨fn, i.M, i.d, i.nt, false, some l⟩
      have eM : fM E.P fn = i.M := by simp [fM, hi]
      have ed : fD E.P fn = i.d := by simp [fD, hi]
      have eT : fT E.P fn = i.nt := by simp [fT, hi]
      rw [eM, ed] at ht
      rw [eT] at hsz
      let b : Frame := { (default : Frame) with fn := fn, kind := .normal, roundOf := some B }
      have hfr : FrOK E c fr b := ⟨eM.symm, ed.symm, eT.symm, rfl, rfl, B, hl, rfl⟩
      rw [pPaths_eq]
      refine setArgs_ok (Φ := fun r => COf _ r) (fun n => trivial) ps args ys.toList _ _ ht hargs fun tm' htm => ?_
      have hround : Frame.round B fn (setAll ps ys.toList tmps) as bd .normal = b.atR ⟨setAll ps ys.toList tmps, []⟩ [.code as, .beginRound, .code bd] := rfl
      have hst : StOK E c fr (c0 :: cs) ⟨tm', [], .ret, H⟩ ⟨setAll ps ys.toList tmps, []⟩ w (c0 :: cs) := ⟨hH, htm, by show i.nt ≤ _; rw [setAll_size]; exact hsz, rfl, rfl⟩
      have hR := rangeF_ok (self := self) hX hself
      have h1 := evalG_ok (L := L) hX hself (hD fr b (c0 :: cs)) (hR fr b (c0 :: cs)) G as [.beginRound, .code bd] ⟨tm', [], .ret, H⟩ _ w (c0 :: cs) c hE hfr hst
      have h2 : ROf (One E c H w fr b (c0 :: cs) (lone (b.atR ⟨setAll ps ys.toList tmps, []⟩ [.code as, .beginRound, .code bd]) (c0 :: cs) w) [])
          (thenR (evalG E self fr L G as ⟨tm', [], .ret, H⟩) (roundBody E L G self l fr bd)) := by
        rw [thenR_eq]
        refine h1.bind fun x s ho => ?_
        have hpass : x ≠ .normal → One E c H w fr b (c0 :: cs) (lone (b.atR ⟨setAll ps ys.toList tmps, []⟩ [.code as, .beginRound, .code bd]) (c0 :: cs) w) [] x s := fun hx => One.pass (y := .code bd) rfl hx (One.pass (y := .beginRound) rfl hx ho)
        cases x with
        | normal =>
          obtain ⟨a', w', cs', c', q1, q2, q3⟩ := ho
          exact (roundBody_ok hX hself hD L G (hE.mono q1.le) (hfr.mono q1.le) rfl rfl (q1.le.rho _ _ hl) q2).mono fun _ _ h => (h.steps q3).ext q1
        | exit i => exact hpass (by simp)
        | goto i => exact hpass (by simp)
        | ret => exact hpass (by simp)
        | pan i => exact hpass (by simp)
      rw [← hround] at h2
      refine h2.bindC fun x s ho => ?_
      have := roundEnd_ok (fn := fd) rfl rfl hf hfr hl rfl ho
      exact this.mono fun r hr => ⟨fn, _, as, bd, hy, hr⟩
    · trivial
  · trivial
end
end Go.Eng
/- Outcomes joined; the engine's run of a call is the machine's. -/
namespace Go.Eng

theorem joinR_spec {c : Cx} : ∀ {x y z : AV}, joinR x y = some z → (∀ ys, S c x ys → S c z ys) ∧ (∀ ys, S c y ys → S c z ys) := by
  intro x
  have leafcase : ∀ {x y z : AV}, (match decide (x = y) with | true => some x | false => match oneV x && oneV y with | true => some AV.bad | false => none) = some z → (∀ ys, S c x ys → S c z ys) ∧ (∀ ys, S c y ys → S c z ys) := by
    intro x y z h
    split at h
    · rename_i he
      have he' : x = y := of_decide_eq_true he
      cases h
      subst he'
      exact ⟨fun _ h => h, fun _ h => h⟩
    · split at h
      · rename_i ho
        cases h
        rw [Bool.and_eq_true] at ho
        have hl : ∀ {a : AV}, oneV a = true → leafB a = true := by
          intro a ha
          cases a <;> first | rfl | (simp [oneV] at ha)
        exact ⟨fun ys h => S.leaf (hl ho.1) h, fun ys h => S.leaf (hl ho.2) h⟩
      · cases h
  induction x with
  | cat a b l r ihl ihr =>
    intro y z h
    unfold joinR at h
    split at h
    · split at h
      · rename_i a' b' l' r' hab
        rw [Bool.and_eq_true] at hab
        have h1 := Nat.eq_of_beq_eq_true hab.1
        have h2 := Nat.eq_of_beq_eq_true hab.2
        subst h1 h2
        split at h
        · rename_i u v hu hv
          cases h
          obtain ⟨p1, p2⟩ := ihl hu
          obtain ⟨q1, q2⟩ := ihr hv
          exact ⟨fun ys ⟨y, z, e, hl, hr, h1, h2⟩ => ⟨y, z, e, hl, hr, p1 _ h1, q1 _ h2⟩, fun ys ⟨y, z, e, hl, hr, h1, h2⟩ => ⟨y, z, e, hl, hr, p2 _ h1, q2 _ h2⟩⟩
        · cases h
      · cases h
    · cases h
  | _ => intro y z h; exact leafcase h

theorem eraseE_spec {c : Cx} {e : AV × AV} : ∀ {l r : List (AV × AV)} {ents : List MapEntry}, eraseE e l = some r → ES c l ents → ∃ m rest, ents.Perm (m :: rest) ∧ keyAV e.1 = true ∧ V c e.1 m.key ∧ V c e.2 m.val ∧ ES c r rest
  | [], r, _, h, _ => by simp [eraseE] at h
  | f :: l, r, ents, h, hs => by
    unfold eraseE at h
    split at h
    · rename_i he
      have he' : f = e := of_decide_eq_true he
      subst he'
      cases h
      obtain ⟨m, rest, hp, hk, h1, h2, h3⟩ := hs
      exact ⟨m, rest, hp, hk, h1, h2, h3⟩
    · split at h
      · rename_i r' hr'
        cases h
        obtain ⟨m, rest, hp, hk, h1, h2, h3⟩ := hs
        obtain ⟨m', rest', hp', hk', h1', h2', h3'⟩ := eraseE_spec hr' h3
        refine ⟨m', m :: rest', hp.trans ((hp'.cons m).trans (List.Perm.swap _ _ _)), hk', h1', h2', m, rest', .refl _, hk, h1, h2, h3'⟩
      · cases h
theorem sameEs_spec {c : Cx} : ∀ {es l : List (AV × AV)} {ents : List MapEntry}, sameEs es l = true → ES c l ents → ES c es ents
  | [], l, ents, h, hs => by
    cases l with
    | nil => exact hs
    | cons e l => simp [sameEs] at h
  | e :: es, l, ents, h, hs => by
    unfold sameEs at h
    split at h
    · rename_i r hr
      obtain ⟨m, rest, hp, hk, h1, h2, h3⟩ := eraseE_spec hr hs
      exact ⟨m, rest, hp, hk, h1, h2, sameEs_spec h h3⟩
    · cases h

theorem joinB_left {E : Env} {c : Cx} {w : World} {x y : AH} (hr : real (joinB x y) = true) : real x = true ∧ ∀ B k, Bk E c w x B k → Bk E c w (joinB x y) B k := by
  unfold joinB at hr ⊢
  split at hr
  · split at hr
    · split at hr
      · rename_i he hj
        refine ⟨rfl, fun B k ⟨h0, cs, lo, hi, h1, h2, h3, h4, pre, ys, post, h5, h6, h7⟩ => ⟨h0, cs, lo, hi, h1, h2, fun hf => h3 (by cases ‹Bool› <;> simp_all), h4, pre, ys, post, h5, h6, (joinR_spec hj).1 _ h7⟩⟩
      · simp [real] at hr
    · simp [real] at hr
  · split at hr
    · split at hr
      · rename_i hb
        exact ⟨rfl, fun B k h => h⟩
      · simp [real] at hr
    · simp [real] at hr
  · simp [real] at hr
theorem joinB_right {E : Env} {c : Cx} {w : World} {x y : AH} (hr : real (joinB x y) = true) : real y = true ∧ ∀ B k, Bk E c w y B k → Bk E c w (joinB x y) B k := by
  unfold joinB at hr ⊢
  split at hr
  · split at hr
    · split at hr
      · rename_i he hj
        have he' := Nat.eq_of_beq_eq_true he
        subst he'
        refine ⟨rfl, fun B k ⟨h0, cs, lo, hi, h1, h2, h3, h4, pre, ys, post, h5, h6, h7⟩ => ⟨h0, cs, lo, hi, h1, h2, fun hf => h3 (by cases ‹Bool› <;> simp_all), h4, pre, ys, post, h5, h6, (joinR_spec hj).2 _ h7⟩⟩
      · simp [real] at hr
    · simp [real] at hr
  · split at hr
    · split at hr
      · rename_i hb
        rw [Bool.and_eq_true] at hb
        have he' := Nat.eq_of_beq_eq_true hb.1
        subst he'
        exact ⟨rfl, fun B k ⟨h0, ents, h1, h2, h3⟩ => ⟨h0, ents, h1, h2, sameEs_spec hb.2 h3⟩⟩
      · simp [real] at hr
    · simp [real] at hr
  · simp [real] at hr

section
variable {E : Env} {self : Cmd → CRes}

theorem hget_putH_path (H : Heap) (b b' : Nat) (x : AH) : hget E (putH E H b x) b' = if pth E b' = pth E b then x else hget E H b' := by
  unfold hget putH
  simp only
  rw [tget_tsetP _ _ _ _ (by rw [pth_length, pth_length])]

noncomputable def jfold (E : Env) (H1 H2 : Heap) (l : List Nat) (H : Heap) : Heap := l.foldl (fun H b => putH E H b (joinB (hget E H1 b) (hget E H2 b))) H
theorem joinIds_ok {Φ : CRes → Prop} (hf : ∀ n, Φ (.fail n)) (H1 H2 : Heap) : ∀ (l : List Nat) (H : Heap) (k : Heap → CRes), ((∀ b ∈ l, b < E.lim) → Φ (k (jfold E H1 H2 l H))) → Φ (joinIds E H1 H2 l H k)
  | [], _, _, h => h (by simp)
  | b :: l, H, k, h => by
    unfold joinIds
    split
    · rename_i hb
      rw [hsetC_eq]
      refine joinIds_ok hf H1 H2 l _ k fun hl => h fun b' hb' => ?_
      rcases List.mem_cons.1 hb' with rfl | h2
      · simpa using hb
      · exact hl b' h2
    · exact hf _
theorem jfold_get (H1 H2 : Heap) (b' : Nat) : ∀ (l : List Nat) (H : Heap), hget E (jfold E H1 H2 l H) b' = if (∃ b ∈ l, pth E b' = pth E b) then joinB (hget E H1 b') (hget E H2 b') else hget E H b'
  | [], H => by
    rw [if_neg (by rintro ⟨b, hb, -⟩; cases hb)]; rfl
  | b :: l, H => by
    show hget E (jfold E H1 H2 l (putH E H b _)) b' = _
    rw [jfold_get H1 H2 b' l]
    by_cases h1 : ∃ b ∈ l, pth E b' = pth E b
    · rw [if_pos h1, if_pos (let ⟨b, hb, e⟩ := h1; ⟨b, List.mem_cons_of_mem _ hb, e⟩)]
    · rw [if_neg h1, hget_putH_path]
      by_cases h2 : pth E b' = pth E b
      · rw [if_pos h2, if_pos ⟨b, List.mem_cons_self, h2⟩]
        have e1 : hget E H1 b = hget E H1 b' := by unfold hget; rw [h2]
        have e2 : hget E H2 b = hget E H2 b' := by unfold hget; rw [h2]
        rw [e1, e2]
      · rw [if_neg h2, if_neg]
        rintro ⟨b2, hb2, e⟩
        rcases List.mem_cons.1 hb2 with rfl | hb2
        · exact h2 e
        · exact h1 ⟨b2, hb2, e⟩
theorem jfold_log (H1 H2 : Heap) : ∀ (l : List Nat) (H : Heap), (jfold E H1 H2 l H).log = l.reverse ++ H.log
  | [], _ => rfl
  | b :: l, H => by
    show (jfold E H1 H2 l (putH E H b _)).log = _
    rw [jfold_log H1 H2 l]
    simp [putH]

/-- what is so of an outcome with the one heap is so with the other -/
def Cov (E : Env) (H0 Ha Hb : Heap) : Prop := ∀ c w c' w', Hs E c H0 w → Stp E c H0 w c' Ha w' → Stp E c H0 w c' Hb w'
noncomputable def joinH (E : Env) (H0 H1 H2 : Heap) : Heap := ⟨maxN H1.next H2.next, (jfold E H1 H2 (H1.log ++ H2.log) H0).t, H0.caps, maxN H1.ncap H2.ncap, (jfold E H1 H2 (H1.log ++ H2.log) H0).log⟩
theorem le_maxN2 (a b : Nat) : b ≤ maxN a b := by
  unfold maxN
  cases h : Nat.ble a b with
  | true => exact Nat.le_refl _
  | false => exact Nat.le_of_lt (Nat.lt_of_not_le fun h2 => by rw [Nat.ble_eq_true_of_le h2] at h; cases h)

theorem joinH_cov {H0 H1 H2 Ha : Heap} (h0 : H0.log = []) (hids : ∀ b ∈ H1.log ++ H2.log, b < E.lim) (hlim : maxN H1.next H2.next ≤ E.lim) (hn : Ha.next ≤ maxN H1.next H2.next) (hc : Ha.ncap ≤ maxN H1.ncap H2.ncap) (hlog : ∀ b ∈ Ha.log, b ∈ H1.log ++ H2.log)
    (hj : ∀ b, real (joinB (hget E H1 b) (hget E H2 b)) = true → real (hget E Ha b) = true ∧ ∀ (c : Cx) (w : World) B k, Bk E c w (hget E Ha b) B k → Bk E c w (joinB (hget E H1 b) (hget E H2 b)) B k) : Cov E H0 Ha (joinH E H0 H1 H2) := by
  intro c w c' w' hH0 hs
  have hget' : ∀ b, hget E (joinH E H0 H1 H2) b = if (∃ b' ∈ H1.log ++ H2.log, pth E b = pth E b') then joinB (hget E H1 b) (hget E H2 b) else hget E H0 b := fun b => jfold_get H1 H2 b (H1.log ++ H2.log) H0
  obtain ⟨hA, hE⟩ := hs
  obtain ⟨pre, hpre, hkeep⟩ := hE.log
  rw [h0, List.append_nil] at hpre
  have hall : ∀ b, b < E.lim → real (hget E (joinH E H0 H1 H2) b) = true → real (hget E Ha b) = true ∧ ∀ B k, Bk E c' w' (hget E Ha b) B k → Bk E c' w' (hget E (joinH E H0 H1 H2) b) B k := by
    intro b hb hr
    rw [hget'] at hr ⊢
    split at hr
    · rename_i h
      rw [if_pos h]
      exact ⟨(hj b hr).1, fun B k => (hj b hr).2 c' w' B k⟩
    · rename_i h
      rw [if_neg h]
      have hnot : b ∉ pre := fun hm => h ⟨b, hlog b (by rw [hpre]; exact hm), rfl⟩
      have e := hkeep b hb hnot
      rw [e]
      exact ⟨hr, fun B k h => h⟩
  refine ⟨⟨hA.limD, hA.N, hA.sig, hlim, fun b hb hr => Nat.lt_of_lt_of_le (hA.dom b hb (hall b hb hr).1) hn, fun b x hx => Nat.lt_of_lt_of_le (hA.rlt b x hx) hn, ?_, ?_, hA.base, ?_, fun j g hg => Nat.lt_of_lt_of_le (hA.glt j g hg) hc, fun j g hg => Nat.lt_of_lt_of_le (hA.olt j g hg) hc, hA.own⟩,
    ⟨hE.le, hE.size, hE.keep, hE.im, hE.tape, hE.os, hE.output, Nat.le_trans hE.next hn, Nat.le_trans hE.ncap hc, hE.rhoOld, (joinH E H0 H1 H2).log, by rw [h0]; simp, ?_⟩⟩
  · intro b B k hb hr hrho
    have hb2 : b < E.lim := Nat.lt_of_lt_of_le hb hlim
    obtain ⟨h1, h2⟩ := hall b hb2 hr
    exact h2 B k (hA.blk b B k (hA.rlt b _ hrho) h1 hrho)
  · intro b b' B k k' hb hb' hr hr' h1 h2
    have hb2 : b < E.lim := Nat.lt_of_lt_of_le hb hlim
    have hb2' : b' < E.lim := Nat.lt_of_lt_of_le hb' hlim
    exact hA.inj b b' B k k' (hA.rlt b _ h1) (hA.rlt b' _ h2) (hall b hb2 hr).1 (hall b' hb2' hr').1 h1 h2
  · intro j lo hi hj'
    obtain ⟨g, h1, h2⟩ := hH0.cap j lo hi hj'
    exact ⟨g, hE.le.gam _ _ h1, h2⟩
  · intro b hb hn'
    rw [hget', if_neg]
    rintro ⟨b2, hb2, e⟩
    refine hn' ?_
    have : (joinH E H0 H1 H2).log = (H1.log ++ H2.log).reverse ++ H0.log := jfold_log H1 H2 _ H0
    rw [this, h0, List.append_nil, List.mem_reverse]
    rw [pth_inj hH0.limD hb (hids b2 hb2) e]
    exact hb2

theorem join2_ok {Φ : CRes → Prop} (hf : ∀ n, Φ (.fail n)) {H0 H1 H2 : Heap} (h0 : H0.log = []) {k : Heap → CRes} (hk : ∀ HJ, Cov E H0 H1 HJ → Cov E H0 H2 HJ → Φ (k HJ)) : Φ (join2 E H0 H1 H2 k) := by
  unfold join2
  split
  · rename_i hl
    have hlim : maxN H1.next H2.next ≤ E.lim := Nat.le_of_ble_eq_true hl
    refine joinIds_ok hf H1 H2 _ _ _ fun hids => hk (joinH E H0 H1 H2) ?_ ?_
    · exact joinH_cov h0 hids hlim (le_maxN _ _) (le_maxN _ _) (fun b hb => List.mem_append_left _ hb) fun b hr => ⟨(joinB_left (E := E) (c := ⟨0, fun _ => none, fun _ => undef, fun _ => none, fun _ => none⟩) (w := default) hr).1, fun c w => (joinB_left hr).2⟩
    · exact joinH_cov h0 hids hlim (le_maxN2 _ _) (le_maxN2 _ _) (fun b hb => List.mem_append_right _ hb) fun b hr => ⟨(joinB_right (E := E) (c := ⟨0, fun _ => none, fun _ => undef, fun _ => none, fun _ => none⟩) (w := default) hr).1, fun c w => (joinB_right hr).2⟩
  · exact hf _

theorem Cov.refl (H0 H : Heap) : Cov E H0 H H := fun _ _ _ _ _ h => h

/-- of no deferred call: the mode does not matter -/
theorem C1.cov {c : Cx} {H0 Ha Hb : Heap} {w : World} {f : Nat} {cs0 : List Frame} {m : Machine} {v : AV} {cm : AMode} (hc : Cov E H0 Ha Hb) (hH : Hs E c H0 w) (h : C1 E c H0 w f false cs0 m (.ret v cm Ha)) : C1 E c H0 w f false cs0 m (.ret v cm Hb) := by
  obtain ⟨x, w', c', fr', cs', h1, h2⟩ := h
  exact ⟨x, w', c', fr', cs', hc _ _ _ _ hH h1, h2⟩

theorem joinAll_ok {c : Cx} {w : World} {f : Nat} {cs0 : List Frame} {m : Machine} {Two : CRes → Prop} {H0 : Heap} (h0 : H0.log = []) (hH : Hs E c H0 w) {v : AV} : ∀ (l : List CRes) (H : Heap) (k : Heap → CRes),
    (C1 E c H0 w f false cs0 m (.ret v .ret H) ∨ ∃ r ∈ l, C1 E c H0 w f false cs0 m r) → (∀ H, C1 E c H0 w f false cs0 m (.ret v .ret H) → COf Two (k H)) → COf Two (joinAll E H0 v l H k)
  | [], H, k, h, hk => by
    rcases h with h | ⟨r, hr, -⟩
    · exact hk H h
    · cases hr
  | r :: l, H, k, h, hk => by
    unfold joinAll
    split
    · rename_i v' H'
      split
      · rename_i hv
        have hv' : v' = v := of_decide_eq_true hv
        subst hv'
        refine join2_ok (Φ := fun r => COf Two r) (fun n => trivial) h0 fun HJ c1 c2 => joinAll_ok h0 hH l HJ k ?_ hk
        rcases h with h | ⟨r', hr', h⟩
        · exact .inl (h.cov c1 hH)
        · rcases List.mem_cons.1 hr' with rfl | hr'
          · exact .inl (h.cov c2 hH)
          · exact .inr ⟨r', hr', h⟩
      · trivial
    · trivial

theorem joined_ok {c : Cx} {w : World} {f : Nat} {cs0 : List Frame} {m : Machine} {H0 : Heap} (hH : Hs E c H0 w) {r : CRes} (h : COf (C1 E c ⟨H0.next, H0.t, H0.caps, H0.ncap, []⟩ w f false cs0 m) r) :
    COf (C1 E c H0 w f false cs0 m) (joined E H0 r) := by
  have hstp : ∀ {c' : Cx} {H' : Heap} {w' : World}, Stp E c ⟨H0.next, H0.t, H0.caps, H0.ncap, []⟩ w c' H' w' → Stp E c H0 w c' ⟨H'.next, H'.t, H'.caps, H'.ncap, H'.log ++ H0.log⟩ w' := by
    intro c' H' w' ⟨hs, he⟩
    refine ⟨⟨hs.limD, hs.N, hs.sig, hs.next, hs.dom, hs.rlt, hs.blk, hs.inj, hs.base, hs.cap, hs.glt, hs.olt, hs.own⟩, ⟨he.le, he.size, he.keep, he.im, he.tape, he.os, he.output, he.next, he.ncap, he.rhoOld, H'.log, rfl, ?_⟩⟩
    obtain ⟨pre, hp, hk⟩ := he.log
    rw [List.append_nil] at hp
    intro b hb hn
    exact hk b hb (by rw [← hp]; exact hn)
  have hH00 : Hs E c ⟨H0.next, H0.t, H0.caps, H0.ncap, []⟩ w := ⟨hH.limD, hH.N, hH.sig, hH.next, hH.dom, hH.rlt, hH.blk, hH.inj, hH.base, hH.cap, hH.glt, hH.olt, hH.own⟩
  have hret : ∀ v cm H', C1 E c ⟨H0.next, H0.t, H0.caps, H0.ncap, []⟩ w f false cs0 m (.ret v cm H') → C1 E c H0 w f false cs0 m (.ret v cm ⟨H'.next, H'.t, H'.caps, H'.ncap, H'.log ++ H0.log⟩) :=
    fun v cm H' ⟨x, w', c', fr', cs', h1, h2⟩ => ⟨x, w', c', fr', cs', hstp h1, h2⟩
  unfold joined
  split
  · exact hret _ _ _ h
  · obtain ⟨x, w', c', fr', cs', h1, h2⟩ := h
    exact ⟨x, w', c', fr', cs', hstp h1, h2⟩
  · rename_i v H' l
    refine joinAll_ok rfl hH00 l H' _ ?_ fun H h => hret _ _ _ h
    obtain ⟨r', hr', h⟩ := h
    rcases List.mem_cons.1 hr' with rfl | hr'
    · exact .inl h
    · exact .inr ⟨r', hr', h⟩
  · trivial
  · trivial

/-- the engine's run of calls and rounds is the machine's -/
theorem run_ok (hX : ExtsOK E) (hD : ∀ self, SelfOK E self → ∀ fr b cs0, DrawOK E self fr b cs0) (L G : Nat) : ∀ n, SelfOK E (run E L G n)
  | 0 => ⟨fun _ _ _ _ _ _ _ _ _ _ _ _ _ _ _ => trivial, fun _ _ _ _ _ _ _ _ _ _ _ _ _ => trivial⟩
  | n + 1 => by
    have ih := run_ok hX hD L G n
    refine ⟨fun f args dfd cm H c w ys cs0 cs hE hH hargs hcs hk => ?_, fun l args H c w ys B c0 cs hE hH hargs hl => ?_⟩
    · show COf _ (callJ E L G (run E L G n) f args dfd cm H)
      have hA := fun dfd cm H hH hcs => callA_ok hX ih (hD _ ih) (rangeF_ok hX ih) L G f args dfd cm H c w ys cs0 cs hE hH hargs hcs
      cases dfd with
      | true =>
        have e : callJ E L G (run E L G n) f args true cm H = callA E L G (run E L G n) f args true cm H := by
          unfold callJ
          cases inJ f E.joins <;> rfl
        rw [e]
        exact hA true cm H hH hcs
      | false =>
        cases hj : inJ f E.joins with
        | false =>
          have e : callJ E L G (run E L G n) f args false cm H = callA E L G (run E L G n) f args false cm H := by
            unfold callJ
            rw [hj]
          rw [e]
          exact hA false cm H hH hcs
        | true =>
          have e : callJ E L G (run E L G n) f args false cm H = joined E H (callA E L G (run E L G n) f args false .ret ⟨H.next, H.t, H.caps, H.ncap, []⟩) := by
            unfold callJ
            rw [hj]
          rw [e]
          have hH00 : Hs E c ⟨H.next, H.t, H.caps, H.ncap, []⟩ w := ⟨hH.limD, hH.N, hH.sig, hH.next, hH.dom, hH.rlt, hH.blk, hH.inj, hH.base, hH.cap, hH.glt, hH.olt, hH.own⟩
          exact joined_ok hH (hA false .ret ⟨H.next, H.t, H.caps, H.ncap, []⟩ hH00 hcs)
    · exact yieldA_ok hX ih (hD _ ih) L G l args H c w ys B c0 cs hE hH hargs hl

end
end Go.Eng
/- Light operations leave the heap; silent ones lay a block. -/
namespace Go.Eng

/-- the same heap, but for what was written down of it -/
structure Alike (E : Env) (H K : Heap) : Prop where
  next : K.next = H.next
  caps : K.caps = H.caps
  ncap : K.ncap = H.ncap
  get : ∀ b, hget E K b = hget E H b
theorem Alike.refl (E : Env) (H : Heap) : Alike E H H := ⟨rfl, rfl, rfl, fun _ => rfl⟩

section
variable {Φ : OR → Prop}
/-! ### eliminators, of any outcome -/
theorem rget_all {a : AV} {d : OR} (hd : Φ d) {k : AV → OR} (hk : ∀ v, Φ (k v)) : ∀ {i : Nat}, Φ (rget a i k d) := by
  unfold rget
  suffices ∀ (a : AV) {i : Nat}, Φ (rget0 a a i k d) from fun {i} => this a
  intro a
  induction a with
  | rnil => intro i; exact hd
  | cat nl nr l r ihl ihr =>
    intro i
    rw [rget_cat]
    split
    · exact ihl
    · exact ihr
  | _ =>
    intro i
    rw [rget0_leaf rfl]
    split
    · exact hk _
    · exact hd
theorem rmk_all {l r : AV} {k : AV → OR} (hk : ∀ x, Φ (k x)) : Φ (rmk l r k) := by
  unfold rmk
  simp only [bool_rec]
  split
  · exact hk _
  · split
    · exact hk _
    · rw [forceN_eq, forceN_eq]; exact hk _
theorem rtake_all {a : AV} : ∀ {k : AV → OR} {n : Nat}, (∀ x, Φ (k x)) → Φ (rtake a n k) := by
  unfold rtake
  induction a with
  | rnil => intro k n hk; exact hk _
  | cat nl nr l r ihl ihr =>
    intro k n hk
    rw [rtake_cat]
    split
    · exact ihl hk
    · split
      · exact hk _
      · exact ihr fun x => rmk_all hk
  | _ =>
    intro k n hk
    rw [rtake0_leaf rfl]
    split <;> exact hk _
theorem rdrop_all {a : AV} : ∀ {k : AV → OR} {n : Nat}, (∀ x, Φ (k x)) → Φ (rdrop a n k) := by
  unfold rdrop
  induction a with
  | rnil => intro k n hk; exact hk _
  | cat nl nr l r ihl ihr =>
    intro k n hk
    rw [rdrop_cat]
    split
    · exact hk _
    · split
      · exact ihr hk
      · exact ihl fun x => rmk_all hk
  | _ =>
    intro k n hk
    rw [rdrop0_leaf rfl]
    split <;> exact hk _
theorem rslice_all {a : AV} {d : OR} (hd : Φ d) {k : AV → OR} {lo n : Nat} (hk : ∀ x, Φ (k x)) : Φ (rslice a lo n k d) := by
  unfold rslice
  rw [bool_rec]
  split
  · exact rdrop_all fun x => rtake_all hk
  · exact hd
theorem rover_all {a y : AV} {d : OR} (hd : Φ d) {k : AV → OR} {lo : Nat} (hk : ∀ x, Φ (k x)) : Φ (rover a lo y k d) := by
  unfold rover
  rw [bool_rec]
  split
  · exact rtake_all fun a => rdrop_all fun b => rmk_all fun c => rmk_all hk
  · exact hd
theorem partK_all (hf : ∀ n, Φ (.fail n)) {ty : TK} {r : AV} {o : Nat} {k : AV → OR} (hk : ∀ v, Φ (k v)) : Φ (partK ty r o k) := by
  unfold partK
  cases ty with
  | bad => exact hf _
  | one => exact rget_all (hf _) hk
  | agg n => exact rslice_all (hf _) fun y => hk _
theorem fillK_all (hf : ∀ n, Φ (.fail n)) : ∀ {l : List (Nat × Nat × AV)} {r : AV} {k : AV → OR}, (∀ v, Φ (k v)) → Φ (fillK l r k)
  | [], _, _, hk => hk _
  | (o, n, v) :: l, r, k, hk => by
    unfold fillK cellsK
    have hone : ∀ y : AV, Φ (match Nat.beq (rsize y) n with | true => rover r o y (fun r' => fillK l r' k) (.fail 22) | false => .fail 23) := by
      intro y
      split
      · exact rover_all (hf _) fun r => fillK_all hf hk
      · exact hf _
    exact onAgg_spec (fun _ => boolRec_spec (fun _ => hf _) fun _ => hone _) fun r _ => hone _
theorem bnd_all (hf : ∀ n, Φ (.fail n)) {x : Option AV} {d m : Nat} {k : Nat → OR} (hk : ∀ n, Φ (k n)) : Φ (bnd x d m k) := by
  unfold bnd
  split
  · exact hk _
  · refine onNat_spec hf fun j m _ => ?_
    split
    · exact hk _
    · exact hf _
theorem bnds_all (hf : ∀ n, Φ (.fail n)) {lo hi mx : Option AV} {len cap : Nat} {k : Nat → Nat → Nat → OR} (hk : ∀ a b c, Φ (k a b c)) : Φ (bnds lo hi mx len cap k) := by
  unfold bnds
  split
  · exact bnd_all hf fun h => bnd_all hf fun l => hk _ _ _
  · split
    · exact hf _
    · exact bnd_all hf fun m => bnd_all hf fun h => bnd_all hf fun l => hk _ _ _
theorem slen_all {l : List Nat} {k : Nat → OR} (hk : ∀ n, Φ (k n)) : Φ (slen l k) := slen_spec (hk _)
end

/-- an outcome that leaves the heap -/
def Still (E : Env) (H : Heap) (o : OR) : Prop := ∀ v K, o = .val v K → Alike E H K

section
variable {E : Env} {H : Heap}
theorem Still.fail (n : Nat) : Still E H (.fail n) := fun v K h => by cases h
theorem Still.val (v : AV) : Still E H (.val v H) := fun _ _ h => by cases h; exact .refl ..
theorem Still.mkN (k : IntKind) (n : Nat) : Still E H (mkN k n H) := by rw [mkN_eq]; exact .val _
theorem Still.mkI (k : IntKind) (n : Int) : Still E H (mkI k n H) := by rw [mkI_eq]; exact .val _
theorem Still.mkB (b : Bool) : Still E H (mkB b H) := by rw [mkB_eq]; exact .val _
theorem Still.orOf (s : Sem Value) : Still E H (orOf H s) := by
  unfold Eng.orOf
  split
  · split <;> exact .val _
  · split
    · split <;> exact .val _
    · split <;> exact .val _
  · exact .fail _
theorem Still.forceN (o : Nat) {k : Nat → OR} (h : Still E H (k o)) : Still E H (forceN o k) := by rw [forceN_eq]; exact h

theorem still_ptrTo (b o : Nat) : Still E H (ptrTo b o H) := by unfold ptrTo; rw [forceN_eq]; exact .val _
theorem still_wrapN (op : BinOp) (k : IntKind) (a b s : Nat) : Still E H (wrapN op k a b s H) := by
  unfold wrapN
  exact boolRec_spec (Φ := Still E H) (fun _ => .orOf _) fun _ => .mkN _ _
theorem still_bitN (op : BinOp) (k : IntKind) (m n r : Nat) : Still E H (bitN op k m n r H) := by
  unfold bitN
  exact boolRec_spec (Φ := Still E H) (fun _ => .orOf _) fun _ => .mkN _ _
theorem still_onNats (op : BinOp) (k : IntKind) (a b : Int) {f : Nat → Nat → OR} (hf : ∀ m n, Still E H (f m n)) : Still E H (onNats op k a b H f) :=
  onNats_spec (Φ := Still E H) (.orOf _) fun m n _ _ => hf m n
theorem still_sameK (k j : IntKind) {x : OR} (h : Still E H x) : Still E H (sameK k j x) := sameK_spec (Φ := Still E H) (Still.fail ·) fun _ => h
theorem still_binII (op : BinOp) (k : IntKind) (a : Int) (j : IntKind) (b : Int) : Still E H (binII op k a j b H) := by
  cases op
  · exact still_sameK _ _ (still_onNats _ _ _ _ fun m n => still_wrapN _ _ _ _ _)
  · exact still_sameK _ _ (still_onNats _ _ _ _ fun m n => boolRec_spec (Φ := Still E H) (fun _ => .orOf _) fun _ => still_wrapN _ _ _ _ _)
  · exact still_sameK _ _ (still_onNats _ _ _ _ fun m n => still_wrapN _ _ _ _ _)
  · exact .orOf _
  · exact .orOf _
  · exact still_sameK _ _ (still_onNats _ _ _ _ fun m n => still_bitN _ _ _ _ _)
  · exact still_sameK _ _ (still_onNats _ _ _ _ fun m n => still_bitN _ _ _ _ _)
  · exact still_sameK _ _ (still_onNats _ _ _ _ fun m n => still_bitN _ _ _ _ _)
  · exact .orOf _
  · exact .orOf _
  · exact .orOf _
  all_goals exact still_sameK _ _ (.mkB _)
theorem still_strOp (op : BinOp) (a b : List Nat) : Still E H (strOp op a b H) := by
  unfold strOp
  split
  · exact .mkB _
  · exact .mkB _
  · exact .mkB _
  · exact .mkB _
  · exact .mkB _
  · exact .mkB _
  · exact slen_all (Φ := Still E H) fun m => slen_all (Φ := Still E H) fun n => by
      split
      · exact .val _
      · exact .fail _
  · exact .fail _
theorem still_cmpCap (op : BinOp) (c : Int) (j off : Nat) : Still E H (cmpCap op c H j off) := by
  unfold cmpCap
  split
  · split
    · exact .val _
    · split
      · split
        · exact .val _
        · exact .fail _
      · intro v K h; cases h
  · exact .fail _
theorem still_eqPtr {x y : AV} {sz : Nat} {k : Bool → OR} (hk : ∀ b, Still E H (k b)) : Still E H (eqPtr E H x y sz k) := by
  have hc : ∀ (b : Nat) (o : OR), Still E H o → Still E H (cleanK E H b o) := fun b o h => cleanK_spec (Φ := Still E H) (Still.fail ·) fun _ _ _ _ _ => h
  unfold eqPtr
  split
  · exact hk _
  · exact hk _
  · exact hk _
  · split
    · exact .fail _
    · split
      · exact hk _
      · exact hc _ _ (hc _ _ (hk _))
  · exact .fail _
theorem still_eqFields {P : Program} {again : TypeId → AV → AV → (Bool → OR) → OR} (ha : ∀ t x y k, (∀ b, Still E H (k b)) → Still E H (again t x y k)) {rx ry : AV} : ∀ (fs : List Field) {k : Bool → OR}, (∀ b, Still E H (k b)) → Still E H (eqFieldsK P again rx ry fs k)
  | [], k, hk => hk _
  | f :: fs, k, hk => by
    unfold eqFieldsK
    split
    · exact still_eqFields ha fs hk
    · refine partK_all (Φ := Still E H) (Still.fail ·) fun a => partK_all (Φ := Still E H) (Still.fail ·) fun b => ha _ _ _ _ fun r => ?_
      cases r
      · exact hk _
      · exact still_eqFields ha fs hk
theorem still_eqItems {P : Program} {again : TypeId → AV → AV → (Bool → OR) → OR} (ha : ∀ t x y k, (∀ b, Still E H (k b)) → Still E H (again t x y k)) {e sz : Nat} {rx ry : AV} : ∀ (m i : Nat) {k : Bool → OR}, (∀ b, Still E H (k b)) → Still E H (eqItemsK P again e sz rx ry m i k)
  | 0, _, k, hk => hk _
  | m + 1, i, k, hk => by
    unfold eqItemsK
    refine partK_all (Φ := Still E H) (Still.fail ·) fun a => partK_all (Φ := Still E H) (Still.fail ·) fun b => ha _ _ _ _ fun r => ?_
    cases r
    · exact hk _
    · exact still_eqItems ha m (i + 1) hk
theorem still_eqK : ∀ (n : Nat) (t : TypeId) (x y : AV) (k : Bool → OR), (∀ b, Still E H (k b)) → Still E H (eqK E H n t x y k)
  | 0, _, _, _, _, _ => .fail _
  | n + 1, t, x, y, k, hk => by
    have ih := still_eqK n
    unfold eqK
    split
    · split <;> first | exact hk _ | exact .fail _
    · split
      · split <;> first | exact hk _ | exact .fail _
      · exact .fail _
    · split <;> first | exact hk _ | exact .fail _
    · exact still_eqPtr hk
    · split <;> first | exact hk _ | exact .fail _
    · split <;> first | exact hk _ | exact .fail _
    · split <;> first | exact hk _ | exact .fail _
    · split
      · exact hk _
      · exact hk _
      · exact hk _
      · split
        · exact hk _
        · split
          · split
            · exact ih _ _ _ _ hk
            · exact .fail _
          · exact .fail _
      · exact .fail _
    · split
      · exact still_eqFields ih _ hk
      · exact .fail _
    · split
      · exact still_eqItems ih _ _ hk
      · exact .fail _
    · exact .fail _
theorem still_eqTop {t : TypeId} {cst : Bool} {x y : AV} {k : Bool → OR} (hk : ∀ b, Still E H (k b)) : Still E H (eqTop E t cst x y H k) := by
  unfold eqTop
  split
  · exact still_eqK _ _ _ _ _ hk
  · exact .fail _
theorem still_binSlow (op : BinOp) (t : TypeId) (cst : Bool) (x y : AV) : Still E H (binSlow E op t cst x y H) := by
  unfold binSlow
  split
  · exact still_strOp _ _ _
  · split
    · exact findFact_spec (Φ := Still E H) (.fail _) _ fun _ _ _ _ _ => .val _
    · exact .fail _
  · split
    · exact still_cmpCap _ _ _ _
    · exact .fail _
  · split
    · exact still_eqTop fun b => .mkB _
    · exact still_eqTop fun b => .mkB _
    · exact .fail _
theorem still_hBin (op : BinOp) (t : TypeId) (cst : Bool) (x y : AV) : Still E H (hBin E op t cst x y H) := by
  unfold hBin
  exact onInt_spec (Φ := Still E H) (still_binSlow _ _ _ _ _) fun _ _ _ => onInt_spec (Φ := Still E H) (still_binSlow _ _ _ _ _) fun _ _ _ => still_binII _ _ _ _ _
theorem still_minMax (isMax : Bool) : ∀ (l : List AV) (x : AV), Still E H (minMax isMax l x H)
  | [], x => .val _
  | y :: l, x => by
    unfold minMax
    split
    · exact still_minMax isMax l _
    · exact .fail _
theorem still_findK {key : AV} {es : List (AV × AV)} {k : Option AV → OR} (hk : ∀ o, Still E H (k o)) : Still E H (findK key es k) :=
  findK_spec (Φ := Still E H) (Still.fail ·) (fun _ _ _ _ _ _ _ _ => hk _) fun _ => hk _
end
end Go.Eng
/- Light operations leave the heap; pure ones do not look at it. -/
namespace Go.Eng

section
variable {E : Env} {H : Heap}

theorem still_sameSz {b : Nat} {cap : ACap} {l sz : Nat} {k : OR} (hk : Still E H k) : Still E H (sameSz E H b cap l sz k) := by
  unfold sameSz
  split
  · exact hk
  · split
    · exact hk
    · refine onCells_spec (Φ := Still E H) (.fail _) fun f e r _ => ?_
      split
      · exact hk
      · exact .fail _
theorem still_sliceArr {len sz b o : Nat} {lo hi mx : Option AV} : Still E H (sliceArr len sz b o lo hi mx H) := by
  unfold sliceArr
  refine bnds_all (Φ := Still E H) (Still.fail ·) fun l h m => ?_
  rw [forceN_eq, forceN_eq, forceN_eq]
  exact .val _
theorem still_hSlice {t : TypeId} {x : AV} {lo hi mx : Option AV} : Still E H (hSlice E t x lo hi mx H) := by
  unfold hSlice
  split
  · split
    · exact slen_all (Φ := Still E H) fun n => bnds_all (Φ := Still E H) (Still.fail ·) fun l h m => .val _
    · exact .fail _
  · exact bnds_all (Φ := Still E H) (Still.fail ·) fun l h m => .val _
  · refine bnds_all (Φ := Still E H) (Still.fail ·) fun l h m => still_sameSz ?_
    rw [forceN_eq, forceN_eq]
    exact .val _
  · exact still_sliceArr
  · exact still_sliceArr
  · exact .fail _
theorem still_srcK {sz n : Nat} {x : AV} {k : AV → OR} (hk : ∀ r, Still E H (k r)) : Still E H (srcK E H sz n x k) := by
  unfold srcK
  split
  · split
    · exact hk _
    · exact .fail _
  · split
    · exact hk _
    · exact .fail _
  · split
    · exact hk _
    · exact onCells_spec (Φ := Still E H) (.fail _) fun f e r _ => rslice_all (Φ := Still E H) (.fail _) hk
  · exact .fail _
theorem still_hConv {s d : TypeId} {x : AV} (h : ∀ e, convK E.P s d ≠ .strBytes e) : Still E H (hConv E s d x H) := by
  unfold hConv
  generalize hk : convK E.P s d = ck at h
  cases ck with
  | int k =>
    refine onInt_spec (Φ := Still E H) (.fail _) fun j n _ => ?_
    cases n with
    | ofNat m => exact boolRec_spec (Φ := Still E H) (fun _ => .mkI _ _) fun _ => .val _
    | negSucc m => exact .mkI _ _
  | strBytes e => exact absurd rfl (h e)
  | bytesStr =>
    show Still E H (bytesK E H x _)
    unfold bytesK
    split
    · exact .val _
    · refine still_srcK fun r => ?_
      unfold bytesOfL
      split
      · exact .val _
      · exact .fail _
    · exact .fail _
  | same => exact onStr_spec (Φ := Still E H) (.fail _) fun l _ => .val _
  | mark =>
    refine onSlice_spec (Φ := Still E H) (.fail _) (fun b o n cp _ => ?_) fun _ => .fail _
    refine onCells_spec (Φ := Still E H) (.fail _) fun f e r hg => ?_
    split
    · rw [hset_eq]
      intro v K hv
      cases hv
      refine ⟨rfl, rfl, rfl, fun b' => ?_⟩
      rw [hget_putH_path]
      split
      · rename_i hp
        rw [← hg]
        unfold hget; rw [hp]
      · rfl
    · exact .fail _
  | toU =>
    refine cellsAt_spec (Φ := Still E H) (Still.fail ·) fun b o fz e r _ _ => ?_
    split
    · exact .val _
    · exact .fail _
  | fromU u =>
    refine cellsAt_spec (Φ := Still E H) (Still.fail ·) fun b o fz e r _ _ => ?_
    split
    · split
      · exact .val _
      · exact .fail _
    · exact .fail _
  | other => exact .fail _
theorem still_hLen {ts : Array TypeId} {x : AV} : Still E H (hLen E ts x H) := by
  unfold hLen
  split
  · exact .mkN _ _
  · split
    · exact .val _
    · exact .val _
    · exact .fail _
  · split
    · exact slen_all (Φ := Still E H) fun n => .val _
    · exact findFact_spec (Φ := Still E H) (.fail _) _ fun _ _ _ _ _ => .val _
    · exact .fail _
  · split
    · exact .val _
    · exact onMapB_spec (Φ := Still E H) (.fail _) fun c es _ => .mkN _ _
    · exact .fail _
  · exact .fail _
theorem still_hCap {ts : Array TypeId} {x : AV} : Still E H (hCap E ts x H) := by
  unfold hCap
  split
  · exact .fail _
  · split
    · exact .val _
    · split
      · exact .val _
      · exact .val _
    · exact .fail _

theorem still_call {c : Call} (h : kindOf E.P (.call c) = .light ∨ kindOf E.P (.call c) = .pure) {xs : List Src} {l : List AV} {tm : AH} : Still E H (opA (.call c) E xs l tm H) := by
  obtain ⟨cl, args, ts⟩ := c
  cases cl with
  | value f => simp [kindOf] at h
  | invoke r m => simp [kindOf] at h
  | builtin b =>
    show Still E H (hBuiltin E b ts (evAll xs l tm []) H)
    generalize evAll xs l tm [] = ys
    cases b <;> first | (simp [kindOf] at h; done) | skip
    all_goals
      unfold hBuiltin
      split <;> first
        | exact .fail _
        | exact still_hLen
        | exact still_hCap
        | exact still_minMax _ _ _
        | contradiction
        | skip

theorem still_opA {op : Op} (h : kindOf E.P op = .light ∨ kindOf E.P op = .pure) {xs : List Src} {l : List AV} {tm : AH} : Still E H (opA op E xs l tm H) := by
  cases op <;> first
    | (simp [kindOf] at h; done)
    | skip
  case move => exact .val _
  case assign => exact .val _
  case pick => exact onBool_spec (Φ := Still E H) (.fail _) fun b _ => boolRec_spec (Φ := Still E H) (fun _ => .val _) fun _ => .val _
  case build t ps =>
    show Still E H (hBuild E t ps _ H)
    unfold hBuild
    split
    · exact fillK_all (Φ := Still E H) (Still.fail ·) fun v => .val _
    · exact .fail _
  case load t a =>
    exact cellsAt_spec (Φ := Still E H) (Still.fail ·) fun b o fz e r _ _ => partK_all (Φ := Still E H) (Still.fail ·) fun v => .val _
  case nilCheck x =>
    show Still E H (hNil _ H)
    cases arg xs 0 l tm <;> first | exact .val _ | exact .fail _
  case binOp => exact still_hBin _ _ _ _ _
  case unOp op t x =>
    show Still E H (hUn op _ H)
    unfold hUn
    split
    · exact .mkB _
    · exact .orOf _
    · exact .fail _
  case convert s d x =>
    refine still_hConv fun e he => ?_
    simp [kindOf, he] at h
  case sliceToArrayPointer a x =>
    show Still E H (hS2ap E a _ H)
    unfold hS2ap
    split
    · split
      · exact .val _
      · exact .fail _
    · exact .fail _
  case makeInterface t x => exact boolRec_spec (Φ := Still E H) (fun _ => .fail _) fun _ => .val _
  case makeFunc fn first cap =>
    show Still E H (hMakeFunc fn _ _ H)
    unfold hMakeFunc
    split
    · exact .val _
    · exact .fail _
  case slice => exact still_hSlice
  case fieldAddr s x f =>
    show Still E H (hFieldAddr E s _ f H)
    unfold hFieldAddr
    refine onPtr_spec (Φ := Still E H) (.fail _) fun b o _ => ?_
    cases fOff E.P s f with
    | none => exact .fail _
    | some off => exact still_ptrTo _ _
  case field s x f =>
    show Still E H (hField E s _ f H)
    unfold hField
    refine onAgg_spec (Φ := Still E H) (fun _ => .fail _) fun r _ => ?_
    cases fOff E.P s f with
    | none => exact .fail _
    | some off => exact partK_all (Φ := Still E H) (Still.fail ·) fun v => .val _
  case indexAddr t x i =>
    show Still E H (hIndexAddr E t _ _ H)
    unfold hIndexAddr
    refine onNat_spec (Φ := Still E H) (Still.fail ·) fun j n _ => ?_
    cases idxK E.P t with
    | arr len sz => exact onPtr_spec (Φ := Still E H) (.fail _) fun b o _ => boolRec_spec (Φ := Still E H) (fun _ => .fail _) fun _ => still_ptrTo _ _
    | sl sz => exact onSlice_spec (Φ := Still E H) (.fail _) (fun b o n cp _ => boolRec_spec (Φ := Still E H) (fun _ => .fail _) fun _ => still_ptrTo _ _) fun _ => .fail _
    | str => exact .fail _
    | ptrArr len sz => exact .fail _
    | other => exact .fail _
  case index t x i =>
    show Still E H (hIndex E t _ _ H)
    unfold hIndex
    refine onNat_spec (Φ := Still E H) (Still.fail ·) fun j n _ => ?_
    cases idxK E.P t with
    | arr len sz => exact onAgg_spec (Φ := Still E H) (fun _ => .fail _) fun r _ => boolRec_spec (Φ := Still E H) (fun _ => .fail _) fun _ => partK_all (Φ := Still E H) (Still.fail ·) fun v => .val _
    | sl sz => exact .fail _
    | str => exact onStr_spec (Φ := Still E H) (.fail _) fun s _ => snth_spec (Φ := Still E H) (.fail _) fun c _ => .val _
    | ptrArr len sz => exact .fail _
    | other => exact .fail _
  case lookup t x i ok =>
    show Still E H (hLookup E t _ _ ok H)
    unfold hLookup
    split
    · refine onMap_spec (Φ := Still E H) (.fail _) (fun r _ => onMapB_spec (Φ := Still E H) (.fail _) fun c es _ => still_findK fun o => ?_) fun _ => .val _
      cases o <;> exact .val _
    · exact .fail _
  case typeAssert x t a ok =>
    show Still E H (hAssert E _ a ok H)
    unfold hAssert
    split
    · exact .fail _
    · split
      · exact .val _
      · exact .val _
      · exact .fail _
    · split
      · exact .val _
      · exact .fail _
    · exact .fail _
  case extract x i => exact onTup_spec (Φ := Still E H) (.fail _) fun r _ => rget_all (Φ := Still E H) (.fail _) fun v => .val _
  case call c => exact still_call h
end
end Go.Eng
