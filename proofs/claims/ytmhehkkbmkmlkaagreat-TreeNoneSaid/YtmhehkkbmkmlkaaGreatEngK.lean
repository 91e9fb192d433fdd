/- Functions without a body: what the engine tells of them is so. -/
import Derived.Test.YtmhehkkbmkmlkaaGreatEngJ
import Derived.Conc.AtomicLaws2
import Derived.KernelRfl
import Derived.Lib.Overlaps
import Derived.MapKept
import Derived.Deep.Draws
namespace Go.Eng

/-- a function without a body, told by a row of the model's table -/
def IsExt (P : Program) (f : Nat) (g : Array Value → Sem Value) : Prop := ∃ fn, P.funcs[f]? = some fn ∧ (fn.name == "runtime.NumGoroutine") = false ∧ fn.body.isNone = true ∧ Extern.findNext fn = none ∧ Extern.find fn = some g
theorem IsExt.run {P : Program} {f : Nat} {g : Array Value → Sem Value} (h : IsExt P f g) (ys : Array Value) (w : World) : (callFunc f ys).run P w = ((do pure (.value (← g ys))) : Sem Next).run P w := by
  obtain ⟨fn, h1, h2, h3, h4, h5⟩ := h
  unfold callFunc
  simp only [Sem.run_bind, run_program, Result.andThen_ok, h1, h2, h3, Bool.false_eq_true, if_false, if_true, h4, h5]
  rfl

section
variable {E : Env} {c : Cx} {H : Heap} {w : World}

theorem ext_of {f : Nat} {g : Array Value → Sem Value} (h : IsExt E.P f g) {k : ExtK} (hk : ∀ (c : Cx) (H : Heap) (w : World) (l : List AV) (ys : Array Value), Hs E c H w → SL c l ys.toList → OKV E c H w (hExtern E k l H) ((g ys).run E.P w)) :
    ∀ (cs : List Frame) (c : Cx) (H : Heap) (w : World) (l : List AV) (ys : Array Value), FactsOK E c → Hs E c H w → SL c l ys.toList → OKN E cs c H w (hExtern E k l H) ((callFunc f ys).run E.P w) := by
  intro cs c H w l ys _ hH hl
  rw [h.run]
  exact OKN.of_value (hk c H w l ys hH hl)

theorem SL.one {l : AV} {ys : Array Value} (h : SL c [l] ys.toList) : ∃ y, ys = #[y] ∧ V c l y := by
  obtain ⟨y, _, e, hv, rfl⟩ := h
  exact ⟨y, by rw [← Array.toList_inj]; exact e, hv⟩
theorem SL.two {l m : AV} {ys : Array Value} (h : SL c [l, m] ys.toList) : ∃ y z, ys = #[y, z] ∧ V c l y ∧ V c m z := by
  obtain ⟨y, _, e, hv, z, _, rfl, hw, rfl⟩ := h
  exact ⟨y, z, by rw [← Array.toList_inj]; exact e, hv, hw⟩
theorem SL.three {l m n : AV} {ys : Array Value} (h : SL c [l, m, n] ys.toList) : ∃ y z u, ys = #[y, z, u] ∧ V c l y ∧ V c m z ∧ V c n u := by
  obtain ⟨y, _, e, hv, z, _, rfl, hw, u, _, rfl, hu, rfl⟩ := h
  exact ⟨y, z, u, by rw [← Array.toList_inj]; exact e, hv, hw, hu⟩

/-- a cell is laid anew -/
theorem cell_set (hH : Hs E c H w) {b o : Nat} {e : Nat} {r : AV} (hg : hget E H b = .cells false e r) {B k : Nat} (hr : c.rho b = some (B, k)) {v : AV} {x : Value} (hv : V c v x) (hx : x.oneCell' = true) {d : OR} {kk : Heap → OR} {Φ : OR → Prop} (hd : Φ d)
    (hk : ∀ r' w', Stp E c H w c (putH E H b (.cells false e r')) w' → (∀ m, (store ⟨B, k + o, none⟩ x m).run E.P w = .ok () w') → Φ (kk (putH E H b (.cells false e r')))) :
    Φ (rset r o v (fun r' => hset E H b (.cells false e r') kk) d) := by
  obtain ⟨hlt, cs, lo, hi, hB, hone, hfz, hu8, pre, ys, post, hcs, hkk, hs⟩ := hH.cells hg hr
  have hsz : cs.size = pre.length + (ys.length + post.length) := by rw [← Array.length_toList, hcs]; simp
  refine rset_spec hd hv hs fun r' hlt' hr' => ?_
  rw [hset_eq]
  refine hk r' _ (hH.cellsUpd hg hr hB (cs' := cs.setIfInBounds (k + o) x) ?_ (by simp) (pre := pre) (ys := ys.set o x) (post := post) ?_ hkk hr') fun m => ?_
  · intro y hy
    rw [Array.toList_setIfInBounds] at hy
    rcases List.mem_or_eq_of_mem_set hy with h | h
    · exact hone y h
    · subst h; exact hx
  · rw [Array.toList_setIfInBounds, hcs, List.set_append_right _ _ (by omega), List.set_append_left _ _ (by omega), show k + o - pre.length = o by omega]
  · exact run_store_at hB hx (by omega) (hfz rfl _ (by omega)) m
/-- a cell is read -/
theorem cell_get (hH : Hs E c H w) {b o : Nat} {fz : Bool} {e : Nat} {r : AV} (hg : hget E H b = .cells fz e r) {B k : Nat} (hr : c.rho b = some (B, k)) {d : OR} {kk : AV → OR} {Φ : OR → Prop} (hd : Φ d)
    (hk : ∀ v x, V c v x → (∀ m, (load ⟨B, k + o, none⟩ m).run E.P w = .ok x w) → Φ (kk v)) : Φ (rget r o kk d) := by
  obtain ⟨hlt, cs, lo, hi, hB, hone, hfz, hu8, pre, ys, post, hcs, hkk, hs⟩ := hH.cells hg hr
  refine rget_spec hd hs fun v y hy hv => hk v y hv fun m => ?_
  have hlt : o < ys.length := (List.getElem?_eq_some_iff.1 hy).1
  refine run_load_at hB ?_ m
  rw [← Array.getElem?_toList, hcs, List.getElem?_append_right (by omega), List.getElem?_append_left (by omega), show k + o - pre.length = o by omega]
  exact hy

theorem ext_nop {g : Array Value → Sem Value} (hg : ∀ ys w, (g ys).run E.P w = .ok (.tuple #[]) w) : ∀ (c : Cx) (H : Heap) (w : World) (l : List AV) (ys : Array Value), Hs E c H w → SL c l ys.toList → OKV E c H w (hExtern E .nop l H) ((g ys).run E.P w) :=
  fun c _ w _ ys hH _ => OKV.here hH (hg ys w) (V.undef c)
theorem ext_nopA (m : Addr → Mark) : ∀ (c : Cx) (H : Heap) (w : World) (l : List AV) (ys : Array Value), Hs E c H w → SL c l ys.toList → OKV E c H w (hExtern E .nopA l H) ((Extern.Race.marked m ys).run E.P w) := by
  intro c H w l ys hH hl
  match l, hl with
  | [], _ => exact OKV.fail _ _
  | _ :: _ :: _, _ => exact OKV.fail _ _
  | [x], hl =>
    show OKV E c H w (onPtr x (fun _ _ => .val undefA H) (.fail 129)) _
    obtain ⟨y, rfl, hv⟩ := hl.one
    refine onPtr_spec (Φ := fun o => OKV E c H w o _) (OKV.fail _ _) fun b o e => ?_
    subst e
    obtain ⟨B, k, hr, e⟩ := hv; cases e
    exact OKV.here hH rfl (V.undef c)
theorem ext_same : ∀ (c : Cx) (H : Heap) (w : World) (l : List AV) (ys : Array Value), Hs E c H w → SL c l ys.toList → OKV E c H w (hExtern E .same l H) ((Extern.AbiNoEscape.same ys).run E.P w) := by
  intro c H w l ys hH hl
  match l, hl with
  | [], _ => exact OKV.fail _ _
  | _ :: _ :: _, _ => exact OKV.fail _ _
  | [x], hl =>
    obtain ⟨y, rfl, hv⟩ := hl.one
    exact OKV.here hH rfl hv
theorem ext_load (k : IntKind) : ∀ (c : Cx) (H : Heap) (w : World) (l : List AV) (ys : Array Value), Hs E c H w → SL c l ys.toList → OKV E c H w (hExtern E (.load k) l H) ((Extern.Atomic.loadT (.int k) ys).run E.P w) := by
  intro c H w l ys hH hl
  match l, hl with
  | [], _ => exact OKV.fail _ _
  | _ :: _ :: _, _ => exact OKV.fail _ _
  | [p], hl =>
    unfold hExtern
    obtain ⟨y, rfl, hv⟩ := hl.one
    refine cellsAt_spec (Φ := fun o => OKV E c H w o _) (OKV.fail · _) fun b o fz e r ep hg => ?_
    subst ep
    obtain ⟨B, kk, hr, e⟩ := hv; cases e
    refine cell_get hH hg hr (Φ := fun o => OKV E c H w o _) (OKV.fail _ _) fun v x hvx hld => ?_
    refine onInt_spec (Φ := fun o => OKV E c H w o _) (OKV.fail _ _) fun j n e => ?_
    subst e
    cases hvx.int_inv
    cases hk : kEq k j with
    | false => exact OKV.fail _ _
    | true =>
      cases kEq_spec hk
      refine OKV.here hH ?_ hvx
      change Sem.run E.P (do Extern.Atomic.read (.int k) (← asAddr (.pointer (some ⟨B, kk + o, none⟩)))) w = _
      simp [Extern.Atomic.read, asAddr, Sem.run_bind, hld]
theorem ext_store : ∀ (c : Cx) (H : Heap) (w : World) (l : List AV) (ys : Array Value), Hs E c H w → SL c l ys.toList → OKV E c H w (hExtern E .store l H) ((Extern.Atomic.storeT ys).run E.P w) := by
  intro c H w l ys hH hl
  match l, hl with
  | [], _ => exact OKV.fail _ _
  | [_], _ => exact OKV.fail _ _
  | _ :: _ :: _ :: _, _ => exact OKV.fail _ _
  | [p, v], hl =>
    unfold hExtern
    obtain ⟨y, z, rfl, hv, hz⟩ := hl.two
    refine cellsAt_spec (Φ := fun o => OKV E c H w o _) (OKV.fail · _) fun b o fz e r ep hg => ?_
    subst ep
    obtain ⟨B, kk, hr, e⟩ := hv; cases e
    cases fz with
    | true => exact OKV.fail _ _
    | false =>
      refine onInt_spec (Φ := fun o => OKV E c H w o _) (OKV.fail _ _) fun j n e => ?_
      subst e
      cases hz.int_inv
      refine cell_set hH hg hr hz rfl (Φ := fun o => OKV E c H w o _) (OKV.fail _ _) fun r' w' hst hrun => ?_
      refine ⟨.tuple #[], w', c, ?_, hst, V.undef c⟩
      change Sem.run E.P (do store (← asAddr (.pointer (some ⟨B, kk + o, none⟩))) (.int j n) .atomic; pure Extern.Atomic.none_) w = _
      simp [asAddr, Sem.run_bind, hrun, Extern.Atomic.none_]
theorem ext_add (k : IntKind) : ∀ (c : Cx) (H : Heap) (w : World) (l : List AV) (ys : Array Value), Hs E c H w → SL c l ys.toList → OKV E c H w (hExtern E (.add k) l H) ((Extern.Atomic.update (Op.intArith .add) k true ys).run E.P w) := by
  intro c H w l ys hH hl
  match l, hl with
  | [], _ => exact OKV.fail _ _
  | [_], _ => exact OKV.fail _ _
  | _ :: _ :: _ :: _, _ => exact OKV.fail _ _
  | [p, y'], hl =>
    unfold hExtern
    obtain ⟨y, z, rfl, hv, hz⟩ := hl.two
    refine cellsAt_spec (Φ := fun o => OKV E c H w o _) (OKV.fail · _) fun b o fz e r ep hg => ?_
    subst ep
    obtain ⟨B, kk, hr, e⟩ := hv; cases e
    cases fz with
    | true => exact OKV.fail _ _
    | false =>
      refine cell_get hH hg hr (Φ := fun o => OKV E c H w o _) (OKV.fail _ _) fun v x hvx hld => ?_
      refine onInt_spec (Φ := fun o => OKV E c H w o _) (OKV.fail _ _) fun j n e => ?_
      subst e
      cases hvx.int_inv
      refine onInt_spec (Φ := fun o => OKV E c H w o _) (OKV.fail _ _) fun k2 n2 e => ?_
      subst e
      cases hz.int_inv
      cases hk : kEq k j with
      | false => exact OKV.fail _ _
      | true =>
        cases kEq_spec hk
        show OKV E c H w (forceV _ _) _
        rw [forceV_eq]
        refine cell_set hH hg hr (v := .int k (k.wrap (n + n2))) (x := .int k (k.wrap (n + n2))) rfl rfl (Φ := fun o => OKV E c H w o _) (OKV.fail _ _) fun r' w' hst hrun => ?_
        refine ⟨.int k (k.wrap (n + n2)), w', c, ?_, hst, rfl⟩
        change Sem.run E.P (do
          let a' ← asAddr (.pointer (some ⟨B, kk + o, none⟩))
          let old ← Extern.Atomic.read (.int k) a'
          let new ← Op.intArith .add k (← asInt old) (← asInt (.int k2 n2))
          store a' new .atomic
          pure (if true then new else old)) w = _
        simp [Extern.Atomic.read, asAddr, asInt, asIntOf, Op.intArith, Sem.run_bind, hld, hrun]
/-- a cell of a block that is not frozen -/
theorem cell_fact (hH : Hs E c H w) {b o : Nat} {e : Nat} {r : AV} (hg : hget E H b = .cells false e r) {B k : Nat} (hr : c.rho b = some (B, k)) {d : OR} {kk : AV → OR} {Φ : OR → Prop} (hd : Φ d)
    (hk : ∀ v x, V c v x → w.cell? ⟨B, k + o, none⟩ = some x → w.frozen? ⟨B, k + o, none⟩ = false → Φ (kk v)) : Φ (rget r o kk d) := by
  obtain ⟨hlt, cs, lo, hi, hB, hone, hfz, hu8, pre, ys, post, hcs, hkk, hs⟩ := hH.cells hg hr
  refine rget_spec hd hs fun v y hy hv => ?_
  have hlt : o < ys.length := (List.getElem?_eq_some_iff.1 hy).1
  have hsz : cs.size = pre.length + (ys.length + post.length) := by rw [← Array.length_toList, hcs]; simp
  refine hk v y hv ?_ ?_
  · rw [cell_at hB, ← Array.getElem?_toList, hcs, List.getElem?_append_right (by omega), List.getElem?_append_left (by omega), show k + o - pre.length = o by omega]
    exact hy
  · simp only [World.frozen?, hB]
    simpa using hfz rfl (k + o) (by omega)
theorem ext_cas (k : IntKind) : ∀ (c : Cx) (H : Heap) (w : World) (l : List AV) (ys : Array Value), Hs E c H w → SL c l ys.toList → OKV E c H w (hExtern E (.cas k) l H) ((Extern.Atomic.casT (.int k) ys).run E.P w) := by
  intro c H w l ys hH hl
  match l, hl with
  | [], _ => exact OKV.fail _ _
  | [_], _ => exact OKV.fail _ _
  | [_, _], _ => exact OKV.fail _ _
  | _ :: _ :: _ :: _ :: _, _ => exact OKV.fail _ _
  | [p, y0, v0], hl =>
    unfold hExtern
    obtain ⟨y, z, u, rfl, hv, hz, hu⟩ := hl.three
    refine cellsAt_spec (Φ := fun o => OKV E c H w o _) (OKV.fail · _) fun b o fz e r ep hg => ?_
    subst ep
    obtain ⟨B, kk, hr, e⟩ := hv; cases e
    cases fz with
    | true => exact OKV.fail _ _
    | false =>
      refine cell_fact hH hg hr (Φ := fun o => OKV E c H w o _) (OKV.fail _ _) fun v x hvx hc hzf => ?_
      refine onInt_spec (Φ := fun o => OKV E c H w o _) (OKV.fail _ _) fun j n e => ?_
      subst e
      cases hvx.int_inv
      refine onInt_spec (Φ := fun o => OKV E c H w o _) (OKV.fail _ _) fun k2 n2 e => ?_
      subst e
      cases hz.int_inv
      refine onInt_spec (Φ := fun o => OKV E c H w o _) (OKV.fail _ _) fun k3 n3 e => ?_
      subst e
      cases hu.int_inv
      cases hk : kEq k j && (kEq k k2 && kEq k k3) with
      | false => exact OKV.fail _ _
      | true =>
        rw [Bool.and_eq_true, Bool.and_eq_true] at hk
        cases kEq_spec hk.1
        cases kEq_spec hk.2.1
        cases kEq_spec hk.2.2
        rw [Conc.casT_eq]
        cases he : eqI n n2 with
        | true =>
          rw [eqI_eq] at he
          cases eq_of_beq he
          refine cell_set hH hg hr hu rfl (Φ := fun o => OKV E c H w o _) (OKV.fail _ _) fun r' w' hst hrun => ?_
          refine ⟨.bool true, w', c, ?_, hst, rfl⟩
          rw [Conc.run_cas_hit_entry hc hzf]
          have := hrun .atomic
          rw [run_store _ w _ _ .atomic rfl, hc] at this
          simpa [hzf] using this
        | false =>
          rw [eqI_eq] at he
          refine OKV.here hH ?_ rfl
          exact Conc.run_cas_miss_entry hc hzf fun h => by rw [h] at he; simp at he
end
end Go.Eng
/- Functions without a body: maps.clone, slices.overlaps. -/
namespace Go.Eng
section
variable {E : Env} {c : Cx} {H : Heap} {w : World}

theorem ext_clone : ∀ (c : Cx) (H : Heap) (w : World) (l : List AV) (ys : Array Value), Hs E c H w → SL c l ys.toList → OKV E c H w (hExtern E .clone l H) ((Extern.MapsClone.clone ys).run E.P w) := by
  intro c H w l ys hH hl
  match l, hl with
  | [], _ => exact OKV.fail _ _
  | x :: _ :: _, _ =>
    cases x with
    | iface t v => cases v <;> exact (trivial : OKV E c H w (.fail _) _)
    | _ => exact (trivial : OKV E c H w (.fail _) _)
  | [x], hl =>
    obtain ⟨y, rfl, hv⟩ := hl.one
    cases x <;> first | exact (OKV.fail _ _ : OKV E c H w _ _) | skip
    rename_i t v
    cases v <;> first | exact (OKV.fail _ _ : OKV E c H w _ _) | skip
    rename_i r
    obtain ⟨z, e, hz⟩ := hv
    cases e
    obtain ⟨B, hr, e⟩ := hz
    cases e
    show OKV E c H w (onMapB (hget E H r) (fun k es => hnew E H (.map k es) fun r' H' => .val (.iface t (.mapv r')) H') (.fail 127)) _
    refine onMapB_spec (Φ := fun o => OKV E c H w o _) (OKV.fail _ _) fun clk es hg => ?_
    have hb := hH.blk r B 0 (hH.rlt r _ hr) (by rw [hg]; rfl) hr
    rw [hg] at hb
    obtain ⟨-, ents, hB, hok, hes⟩ := hb
    refine hnew_spec (Φ := fun o => OKV E c H w o _) (fun _ => trivial) fun hlim => ?_
    have hle : c.Le (c.at H.next w.heap.size 0) := Cx.at_le (hH.rho_next (Nat.le_refl _))
    refine ⟨.iface t (.map (some w.heap.size)), World.push w (.map ents clk), _, ?_, hH.new hlim (push_size _ _) (fun B h => push_old _ _ h) rfl rfl rfl ⟨rfl, ents, push_new _ _, hok, hes.mono hle⟩, ?_⟩
    · have e : Extern.MapsClone.clone #[.iface t (.map (some B))] = (getObj B >>= fun o => match o with
          | .map entries clock => (newObj (.map entries clock) >>= fun n => pure (.iface t (.map (some n))))
          | _ => stuck "maps.clone: a map expected") := rfl
      rw [e]
      simp only [Sem.run_bind, MapKept.run_getObj_map hB, Result.andThen_ok, run_newObj, Sem.run_pure]
      rfl
    · exact ⟨_, rfl, w.heap.size, at_self _ _ _ _, rfl⟩

theorem ext_overlaps {tS tR e : TypeId} {i : TypeInfo} (ht : E.P.underlying tS = some (.slice e)) (hi : E.P.info? e = some i) :
    ∀ (c : Cx) (H : Heap) (w : World) (l : List AV) (ys : Array Value), Hs E c H w → SL c l ys.toList → OKV E c H w (hExtern E .overlaps l H) ((Extern.SlicesOverlaps.overlaps #[tS, tS] #[tR] ys).run E.P w) := by
  intro c H w l ys hH hl
  match l, hl with
  | [], _ => exact OKV.fail _ _
  | [x], _ => cases x <;> exact OKV.fail _ _
  | x :: y :: _ :: _, _ => cases x <;> first | exact OKV.fail _ _ | (cases y <;> exact OKV.fail _ _)
  | [x, y], hl =>
    cases x <;> first | exact OKV.fail _ _ | skip
    cases y <;> first | exact OKV.fail _ _ | skip
    rename_i a o1 n1 k1 b o2 n2 k2
    obtain ⟨y, z, rfl, hv, hz⟩ := hl.two
    obtain ⟨B1, p1, q1, m1, hr1, e1, -⟩ := hv
    obtain ⟨B2, p2, q2, m2, hr2, e2, -⟩ := hz
    cases e1
    cases e2
    show OKV E c H w (match Nat.beq a b with
      | true => .fail 128
      | false => cleanK E H a (cleanK E H b (onCells (hget E H b) (fun _ _ r => match Nat.ble 1 (rsize r) with | true => .val (.bool false) H | false => .fail 128) (.fail 128)))) _
    cases hab : Nat.beq a b with
    | true => exact OKV.fail _ _
    | false =>
      have hab' : a ≠ b := Nat.ne_of_beq_eq_false hab
      refine cleanK_spec (Φ := fun o => OKV E c H w o _) (OKV.fail · _) fun f1 t1 r1 hg1 hu1 => cleanK_spec (Φ := fun o => OKV E c H w o _) (OKV.fail · _) fun f2 t2 r2 hg2 hu2 => ?_
      rw [hg2]
      show OKV E c H w (match Nat.ble 1 (rsize r2) with | true => .val (.bool false) H | false => .fail 128) _
      cases hz : Nat.ble 1 (rsize r2) with
      | false => exact OKV.fail _ _
      | true =>
        obtain ⟨l1, cs1, lo1, hi1, hB1, -, -, hu1', -⟩ := hH.cells hg1 hr1
        obtain ⟨l2, cs2, lo2, hi2, hB2, -, -, hu2', pre, zs, post, hcs, -, hs⟩ := hH.cells hg2 hr2
        cases hu1' hu1; cases hu2' hu2
        have hsz := rsize_spec hs
        have h2 : cs2.size ≠ 0 := by
          have h3 : cs2.size = pre.length + (zs.length + post.length) := by rw [← Array.length_toList, hcs]; simp
          have := Nat.le_of_ble_eq_true hz
          omega
        refine OKV.here hH (Go.Lib.run_overlaps_apart w tS tR e ht i.size (fun w => run_sizeOf' hi) ⟨B1, _, none⟩ ⟨B2, _, none⟩ _ _ _ _ (fun h => hab' ?_) t1 t2 cs1.size cs2.size (shape_at hB1) (shape_at hB2) h2 ?_ ?_) rfl
        · simp only at h
          subst h
          exact hH.inj a b B1 _ _ l1 l2 (by rw [hg1]; rfl) (by rw [hg2]; rfl) hr1 hr2
        · simp only [World.frozen?, hB1, Bool.and_eq_false_iff, decide_eq_false_iff_not]; omega
        · simp only [World.frozen?, hB1, Bool.and_eq_false_iff, decide_eq_false_iff_not]; omega
end
end Go.Eng
/- Functions that are told by what they do: a call behind so many blocks; true and nothing else; the table of sums. -/
namespace Go.Eng

theorem Hs.grow {E : Env} {c : Cx} {H : Heap} {w w' : World} (h : Hs E c H w) (hsz : w.heap.size ≤ w'.heap.size) (hk : ∀ B, B < w.heap.size → w'.heap[B]? = w.heap[B]?)
    (ht : w'.tape = w.tape) (hos : w'.os = w.os) (hout : w'.output = w.output) : Stp E c H w c H w' := by
  have hmm : ∀ B, MapMono w w' B := fun B => by
    by_cases hB : B < w.heap.size
    · exact .of_eq (hk B hB)
    · intro ents clock he
      rw [Array.getElem?_eq_none (by omega)] at he; cases he
  have hrk : ∀ B, RowKeep w w' B := fun B => by
    by_cases hB : B < w.heap.size
    · exact .of_eq (hk B hB)
    · intro cs e fr he
      rw [Array.getElem?_eq_none (by omega)] at he; cases he
  refine ⟨⟨h.limD, Nat.le_trans h.N hsz, h.sig, h.next, h.dom, h.rlt, ?_, h.inj, ?_, h.cap, h.glt, h.olt, fun j g b sz h1 h2 => own_mono (.refl c) hrk (h.own j g b sz h1 h2)⟩, ⟨.refl c, hsz, fun B hB _ => hk B hB, fun _ _ h => h, ht, hos, hout, Nat.le_refl _, Nat.le_refl _, fun _ _ => rfl, [], rfl, fun _ _ _ => rfl⟩⟩
  · intro b B k hb hr h1
    exact (h.blk b B k hb hr h1).mono (.refl c) (hk B (h.base b B k h1).2) hmm
  · intro b B k hr
    have := h.base b B k hr
    exact ⟨this.1, Nat.lt_of_lt_of_le this.2 hsz⟩

/-! ### what is told of a heap -/
theorem isHCells_not {x : AH} {k : Bool → Nat → AV → Bool} (h : isHCells x k = true) : isN x = false := by
  obtain ⟨a, b, d, rfl, -⟩ := isHCells_spec h; rfl
theorem real_e : real .e = false := rfl
/-- what is told of a trie's blocks is so in the other one -/
theorem coverT_spec : ∀ {x y : AH}, coverT x y = true → ∀ p, real (tget p x) = true → tget p y = tget p x := by
  intro x
  induction x with
  | n a1 a2 a3 a4 iha ihb ihd ihe =>
    intro y h p hr
    obtain ⟨b1, b2, b3, b4, rfl, h⟩ := isHN_spec h
    cases p with
    | nil => cases hr
    | cons i p =>
      rw [tget_n] at hr ⊢
      rw [tget_n]
      have h1 := and_t h
      have h2 := and_t h1.2
      have h3 := and_t h2.2
      cases i
      · exact iha h1.1 p hr
      · exact ihb h2.1 p hr
      · exact ihd h3.1 p hr
      · exact ihe h3.2 p hr
  | cells f t r =>
    intro y h p hr
    obtain ⟨f', t', r', rfl, h⟩ := isHCells_spec h
    have h1 := and_t h
    have h2 := and_t h1.2
    rw [eqBb_spec h1.1, Nat.eq_of_beq_eq_true h2.1, eqV_spec h2.2]
  | map k es =>
    intro y h p hr
    obtain ⟨k', es', rfl, h⟩ := isHMap_spec h
    have h1 := and_t h
    rw [Nat.eq_of_beq_eq_true h1.1, eqEs_spec h1.2]
  | e => intro y h p hr; rw [tget_e] at hr; cases hr
  | dead =>
    intro y h p hr
    cases p with
    | nil => cases hr
    | cons i p => rw [tget_other rfl] at hr; cases hr
  | _ => intro y h; cases h

theorem Hs.covered {E : Env} {c : Cx} {L H : Heap} {w : World} (hc : covers L H = true) (h : Hs E c H w) : Hs E c L w := by
  have h1 := and_t hc
  have h2 := and_t h1.2
  have h3 := and_t h2.2
  have hn : L.next = H.next := Nat.eq_of_beq_eq_true h1.1
  have hk : L.ncap = H.ncap := Nat.eq_of_beq_eq_true h2.1
  have hg : ∀ b, real (hget E L b) = true → hget E H b = hget E L b := fun b hr => coverT_spec h3.2 (pth E b) hr
  refine ⟨h.limD, h.N, h.sig, by rw [hn]; exact h.next, fun b hb hr => ?_, fun b x hx => by rw [hn]; exact h.rlt b x hx, fun b B k hb hr hx => ?_, fun b b' B k k' hb hb' hr hr' hx hx' => ?_, h.base, fun j lo hi hl => h.cap j lo hi (capsIn_spec h3.1 j _ hl), fun j g hj => by rw [hk]; exact h.glt j g hj, fun j g hj => by rw [hk]; exact h.olt j g hj, h.own⟩
  · rw [hn]; exact h.dom b hb (by rw [hg b hr]; exact hr)
  · have := h.blk b B k (by rw [← hn]; exact hb) (by rw [hg b hr]; exact hr) hx
    rw [hg b hr] at this
    exact this
  · exact h.inj b b' B k k' (by rw [← hn]; exact hb) (by rw [← hn]; exact hb') (by rw [hg b hr]; exact hr) (by rw [hg b' hr']; exact hr') hx hx'

theorem gives_spec {v : AV} {H : Heap} {r : CRes} (h : gives v H r = true) : ∃ v' H', r = .ret v' .ret H' ∧ v = v' ∧ covers H H' = true := by
  cases r with
  | ret v' m H' =>
    cases m with
    | pan l => cases h
    | ret =>
      have h : Bool.and (eqV v v') (covers H H') = true := h
      exact ⟨v', H', rfl, eqV_spec (and_t h).1, (and_t h).2⟩
  | _ => cases h

/-! ### another list of summaries: the same meaning of heaps -/
structure SameE (E0 E : Env) : Prop where
  P : E0.P = E.P
  D : E0.D = E.D
  lim : E0.lim = E.lim
  tbl : E0.tbl = E.tbl
theorem SameE.hget {E0 E : Env} (h : SameE E0 E) (H : Heap) (b : Nat) : hget E0 H b = hget E H b := by
  unfold Go.Eng.hget pth; rw [h.D]
theorem SameE.row {E0 E : Env} (h : SameE E0 E) {w : World} {e B k : Nat} (hr : RowB E0 w e B k) : RowB E w e B k := by
  unfold RowB at *; rw [← h.P, ← h.tbl]; exact hr
theorem SameE.bk {E0 E : Env} (h : SameE E0 E) {c : Cx} {w : World} {x : AH} {B k : Nat} (hb : Bk E0 c w x B k) : Bk E c w x B k := by
  cases x with
  | cells fz e r => obtain ⟨h1, h2⟩ := hb; rw [h.P] at h2; exact ⟨h.row h1, h2⟩
  | loop st pend fn tm ps a b df => unfold Bk at *; rw [h.P] at hb; exact hb
  | _ => exact hb

/-- the heap of so many blocks that stand for nothing -/
def Hn (n : Nat) : Heap := { next := n, t := .e, caps := [], ncap := 0, log := [] }
def Cx.blank (c : Cx) (w : World) (sig : Nat → Value) : Cx := ⟨c.N, fun _ => Option.none, sig, fun _ => Option.none, fun _ => Option.none⟩
theorem Hs.blank {E : Env} {c : Cx} {w : World} {sig : Nat → Value} {n : Nat} (hl : E.lim = 4 ^ E.D) (hN : c.N ≤ w.heap.size) (hn : n ≤ E.lim) (hs : ∀ i, (sig i).oneCell' = true) : Hs E (c.blank w sig) (Hn n) w := by
  have hg : ∀ b, hget E (Hn n) b = .e := fun b => tget_e _
  exact ⟨hl, hN, hs, hn, fun b _ hr => (by rw [hg] at hr; cases hr), fun b x h => (by cases h), fun b B k _ _ h => (by cases h), fun b b' B k k' _ _ _ _ h => (by cases h), fun b B k h => (by cases h), fun j lo hi h => (by cases h), fun j g h => (by cases h), fun j g h => (by cases h), fun j g b sz h => (by cases h)⟩

noncomputable def keepP (E : Env) (H : Heap) : Nat → AH → AH
  | 0, t => t
  | n + 1, t => keepP E H n (tsetP (pth E n) t (hget E H n))
theorem keepOld_eq (E : Env) (H : Heap) (k : AH → OR) : ∀ (n : Nat) (t : AH), keepOld E H n t k = k (keepP E H n t)
  | 0, t => rfl
  | n + 1, t => by
    unfold keepOld keepP
    rw [tset_eq, keepOld_eq E H k n]
theorem keepP_get {E : Env} (hl : E.lim = 4 ^ E.D) (H : Heap) : ∀ (n : Nat) (t : AH) (b : Nat), n ≤ E.lim → b < E.lim → tget (pth E b) (keepP E H n t) = if b < n then hget E H b else tget (pth E b) t
  | 0, t, b, _, _ => by simp [keepP]
  | n + 1, t, b, hn, hb => by
    unfold keepP
    rw [keepP_get hl H n _ b (by omega) hb]
    by_cases h1 : b < n
    · rw [if_pos h1, if_pos (by omega)]
    · rw [if_neg h1, tget_tsetP _ _ _ _ (by rw [pth_length, pth_length])]
      by_cases h2 : b = n
      · subst h2; rw [if_pos rfl, if_pos (by omega)]
      · rw [if_neg fun h => h2 (pth_inj hl hb (by omega) h), if_neg (by omega)]

/-- words that are numbers stand in any context -/
def plainA : List AV → Bool
  | [] => true
  | .int _ _ :: l => plainA l
  | _ => false
theorem SL.plain {c d : Cx} : ∀ {l : List AV} {ys : List Value}, plainA l = true → SL c l ys → SL d l ys
  | [], _, _, h => h
  | a :: l, _, hp, ⟨y, zs, e, hv, hs⟩ => by
    cases a <;> simp only [plainA, Bool.false_eq_true] at hp
    exact ⟨y, zs, e, hv, SL.plain hp hs⟩

theorem ext_start {E0 E : Env} (hS : SameE E0 E) (hX : ExtsOK E0) (hfacts : ∀ c, FactsOK E0 c) {L G n f n0 : Nat} {xs : List AV} {v : AV} {H1 : Heap} (hxs : plainA xs = true) (hk0 : callKd E0 f = .body)
    (hrun : gives v H1 (run E0 L G n (.call f xs false .ret (Hn n0))) = true) :
    ∀ (cs : List Frame) (c : Cx) (H : Heap) (w : World) (l : List AV) (ys : Array Value), FactsOK E c → Hs E c H w → SL c l ys.toList → OKN E cs c H w (hExtern E (.start n0 xs v H1) l H) ((callFunc f ys).run E.P w) := by
  intro cs c H w l ys _ hH hl
  unfold hExtern
  simp only
  split
  · rename_i h1 h2 h3
    rw [Bool.and_eq_true] at h1
    have hnext : H.next = n0 := Nat.eq_of_beq_eq_true h1.1
    have hncap : H.ncap = 0 := Nat.eq_of_beq_eq_true h1.2
    have hlx : l = xs := of_decide_eq_true h3
    subst hlx
    subst hnext
    rw [keepOld_eq]
    have hlim0 : E0.lim = 4 ^ E0.D := by rw [hS.lim, hS.D]; exact hH.limD
    have hself := (run_sound hX L G n).call f l false .ret (Hn H.next) (c.blank w c.sig) w ys cs cs (hfacts _) (Hs.blank hlim0 hH.N (by rw [hS.lim]; exact hH.next) hH.sig) (SL.plain hxs hl) rfl hk0
    generalize run E0 L G n (.call f l false .ret (Hn H.next)) = res at hrun hself
    obtain ⟨v', H2, rfl, hv2, hcov⟩ := gives_spec hrun
    subst hv2
    obtain ⟨x, w', c', fr', cs', ⟨hs2, hext⟩, hv, hcs, hsteps, hfn, hkd, hm, hd, hfun⟩ := hself
    have hs' : Hs E0 c' H1 w' := hs2.covered hcov
    have hcov1 := and_t hcov
    have hn21 : H1.next = H2.next := Nat.eq_of_beq_eq_true hcov1.1
    have hcs' : cs' = cs := hcs
    subst hcs'
    obtain ⟨fn, hf1, hf2, hf3⟩ := callKd_body hk0
    rw [hS.P] at hf1 hsteps hfun
    -- the context in which both stand
    have hrho0 : ∀ b, b < H.next → c'.rho b = none := fun b hb => hext.rhoOld b hb
    have hge : ∀ b x, c'.rho b = some x → ¬ b < H.next := fun b x hx hb => by rw [hrho0 b hb] at hx; cases hx
    have hnew : ∀ b B k, c'.rho b = some (B, k) → w.heap.size ≤ B := fun b B k h => by
      rcases Nat.lt_or_ge B w.heap.size with hB | hB
      · obtain ⟨b', k', h'⟩ := hext.im B hB ⟨b, k, h⟩
        cases h'
      · exact hB
    let d : Cx := ⟨c.N, fun b => if b < H.next then c.rho b else c'.rho b, c.sig, c'.gam, c'.own⟩
    have hcd : c.Le d := ⟨rfl, rfl, fun b x hx => by
      show (if b < H.next then c.rho b else c'.rho b) = some x
      rw [if_pos (hH.rlt b x hx)]; exact hx, fun j g hg => absurd (hH.glt j g hg) (by omega), fun j g hg => absurd (hH.olt j g hg) (by omega)⟩
    have hcd' : c'.Le d := ⟨hext.le.N.symm, hext.le.sig.symm, fun b x hx => by
      show (if b < H.next then c.rho b else c'.rho b) = some x
      rw [if_neg (hge b x hx)]; exact hx, fun _ _ h => h, fun _ _ h => h⟩
    have hkeep : ∀ B, B < w.heap.size → w'.heap[B]? = w.heap[B]? := fun B hB => hext.keep B hB (by rintro ⟨b, k, h⟩; cases h)
    have hmm : ∀ B, MapMono w w' B := fun B => by
      by_cases hB : B < w.heap.size
      · exact .of_eq (hkeep B hB)
      · intro ents clock he
        rw [Array.getElem?_eq_none (by omega)] at he; cases he
    have hn1 : H.next ≤ H1.next := by rw [hn21]; exact hext.next
    have hl1 : H1.next ≤ E.lim := by rw [← hS.lim]; exact hs'.next
    generalize hHr : (Heap.mk H1.next (keepP E H H.next H1.t) H1.caps H1.ncap (List.range E.lim ++ H.log)) = Hr
    have hget' : ∀ b, b < E.lim → hget E Hr b = if b < H.next then hget E H b else hget E H1 b := fun b hb => by
      subst hHr
      exact keepP_get hH.limD H H.next H1.t b hH.next hb
    have hrn : Hr.next = H1.next := by subst hHr; rfl
    have hrc : Hr.caps = H1.caps := by subst hHr; rfl
    have hrk : Hr.ncap = H1.ncap := by subst hHr; rfl
    have hrl : Hr.log = List.range E.lim ++ H.log := by subst hHr; rfl
    refine ⟨x, w', d, .inr (.inr ⟨f, ys, w, run_callFunc_body hf1 hf2 hf3 ys, fr', hsteps, hm, hd, hkd, hfun⟩), ⟨⟨hH.limD, Nat.le_trans hH.N hext.size, hH.sig, by rw [hrn]; exact hl1, ?_, ?_, ?_, ?_, ?_, ?_, ?_, ?_, ?_⟩, ⟨hcd, hext.size, fun B hB _ => hkeep B hB, ?_, hext.tape, hext.os, hext.output, by rw [hrn]; exact hn1, by rw [hrk, hncap]; exact Nat.zero_le _, ?_, List.range E.lim, hrl, ?_⟩⟩, hv.mono hcd'⟩
    · intro b hb hr
      rw [hget' b hb] at hr
      rw [hrn]
      split at hr
      · omega
      · rw [← hS.hget] at hr
        exact hs'.dom b (by rw [hS.lim]; exact hb) hr
    · intro b x hx
      rw [hrn]
      have hx : (if b < H.next then c.rho b else c'.rho b) = some x := hx
      split at hx
      · omega
      · exact hs'.rlt b x hx
    · intro b B k hb hr hx
      have hx : (if b < H.next then c.rho b else c'.rho b) = some (B, k) := hx
      rw [hrn] at hb
      have hbl : b < E.lim := Nat.lt_of_lt_of_le hb hl1
      rw [hget' b hbl] at hr ⊢
      by_cases h : b < H.next
      · simp only [if_pos h] at hx hr ⊢
        exact (hH.blk b B k h hr hx).mono hcd (hkeep B (hH.base b B k hx).2) hmm
      · simp only [if_neg h] at hx hr ⊢
        rw [← hS.hget] at hr ⊢
        exact (hS.bk (hs'.blk b B k hb hr hx)).mono hcd' rfl fun _ => .of_eq rfl
    · intro b b' B k k' hb hb' hr hr' hx hx'
      have hx : (if b < H.next then c.rho b else c'.rho b) = some (B, k) := hx
      have hx' : (if b' < H.next then c.rho b' else c'.rho b') = some (B, k') := hx'
      rw [hrn] at hb hb'
      have hbl : b < E.lim := Nat.lt_of_lt_of_le hb hl1
      have hbl' : b' < E.lim := Nat.lt_of_lt_of_le hb' hl1
      rw [hget' b hbl] at hr
      rw [hget' b' hbl'] at hr'
      by_cases h : b < H.next <;> by_cases h' : b' < H.next
      · simp only [if_pos h, if_pos h'] at hx hx' hr hr'
        exact hH.inj b b' B k k' h h' hr hr' hx hx'
      · simp only [if_pos h, if_neg h'] at hx hx' hr hr'
        have := (hH.base b B k hx).2
        have := hnew b' B k' hx'
        omega
      · simp only [if_neg h, if_pos h'] at hx hx' hr hr'
        have := (hH.base b' B k' hx').2
        have := hnew b B k hx
        omega
      · simp only [if_neg h, if_neg h'] at hx hx' hr hr'
        rw [← hS.hget] at hr hr'
        exact hs'.inj b b' B k k' hb hb' hr hr' hx hx'
    · intro b B k hx
      have hx : (if b < H.next then c.rho b else c'.rho b) = some (B, k) := hx
      split at hx
      · have := hH.base b B k hx
        exact ⟨this.1, Nat.lt_of_lt_of_le this.2 hext.size⟩
      · have := hs'.base b B k hx
        rw [hext.le.N] at this
        exact this
    · rw [hrc]; exact hs'.cap
    · rw [hrk]; exact hs'.glt
    · rw [hrk]; exact hs'.olt
    · intro j g b sz h1 h2
      obtain ⟨B, k, cs, e, fr, h3, h4, h5, h6⟩ := hs'.own j g b sz h1 h2
      exact ⟨B, k, cs, e, fr, hcd'.rho _ _ h3, h4, by rw [← hS.P]; exact h5, h6⟩
    · rintro B hB ⟨b, k, hx⟩
      have hx : (if b < H.next then c.rho b else c'.rho b) = some (B, k) := hx
      split at hx
      · exact ⟨b, k, hx⟩
      · have := hnew b B k hx
        omega
    · intro b hb
      show (if b < H.next then c.rho b else c'.rho b) = c.rho b
      rw [if_pos hb]
    · intro b hb hn
      exact absurd (List.mem_range.2 hb) hn
  · exact OKN.fail _ _

/-- all outcomes tell true: one of them is the machine's -/
theorem true_spec {E : Env} {c : Cx} {H : Heap} {w : World} {f : Nat} {cs : List Frame} {m : Machine} {r : CRes} (hr : isTrue r = true) (h : COf (C1 E c H w f false cs m) r) :
    ∃ w' c' H' fr', Stp E c H w c' H' w' ∧ Steps E.P m (lone fr' cs w') ∧ fr'.leaving E.P w' (.returned (.bool true)) := by
  have hend : ∀ r, isTrue r = true → C1 E c H w f false cs m r → ∃ w' c' H' fr', Stp E c H w c' H' w' ∧ Steps E.P m (lone fr' cs w') ∧ fr'.leaving E.P w' (.returned (.bool true)) := by
    intro r hr hc
    cases r with
    | ret v cm H' =>
      cases v <;> first | (simp [isTrue] at hr; done) | skip
      rename_i q
      have hq : q = true := hr
      subst hq
      obtain ⟨x, w', c', fr', cs', hst, hv, hcs, hsteps, hfn, hkd, hm, hd, hfun⟩ := hc
      have hcs' : cs' = cs := hcs
      subst hcs'
      cases hv.bool_inv
      exact ⟨w', c', H', fr', hst, hsteps, hm, hd, hkd, hfun⟩
    | fail n => simp [isTrue] at hr
    | pan l m H' => simp [isTrue] at hr
    | many l => exact hc.elim
  cases r with
  | fail n => simp [isTrue] at hr
  | pan l m H' => simp [isTrue] at hr
  | ret v m H' => exact hend _ hr h
  | many l =>
    obtain ⟨x, hx, hc⟩ := h
    refine hend x ?_ hc
    have := List.all_eq_true.1 (show l.all _ = true from hr) x hx
    cases x with
    | ret v m H' => cases v <;> first | exact this | (simp at this; done)
    | _ => simp at this

/-- a call that tells true, whatever lies there -/
theorem ext_yes {E0 E : Env} (hS : SameE E0 E) (hX : ExtsOK E0) (hfacts : ∀ c, FactsOK E0 c) {L G n f k : Nat} (hk0 : callKd E0 f = .body) (hkl : k ≤ E0.lim) (hrun : isTrue (run E0 L G n (.call f [] false .ret (Hn k))) = true) :
    ∀ (cs : List Frame) (c : Cx) (H : Heap) (w : World) (l : List AV) (ys : Array Value), FactsOK E c → Hs E c H w → SL c l ys.toList → OKN E cs c H w (hExtern E .yes l H) ((callFunc f ys).run E.P w) := by
  intro cs c H w l ys _ hH hl
  cases l with
  | cons a l => exact OKN.fail _ _
  | nil =>
    have hlim0 : E0.lim = 4 ^ E0.D := by rw [hS.lim, hS.D]; exact hH.limD
    have hself := (run_sound hX L G n).call f [] false .ret (Hn k) (c.blank w c.sig) w ys cs cs (hfacts _) (Hs.blank hlim0 hH.N hkl hH.sig) hl rfl hk0
    obtain ⟨w', c', H', fr', ⟨-, hext⟩, hsteps, hleave⟩ := true_spec hrun hself
    obtain ⟨fn, hf1, hf2, hf3⟩ := callKd_body hk0
    rw [hS.P] at hf1 hsteps hleave
    exact ⟨.bool true, w', c, .inr (.inr ⟨f, ys, w, run_callFunc_body hf1 hf2 hf3 ys, fr', hsteps, hleave⟩), hH.grow hext.size (fun B hB => hext.keep B hB (by rintro ⟨b, k, h⟩; cases h)) hext.tape hext.os hext.output, rfl⟩
end Go.Eng
/- The table of sums is made: told by the engine's own run from a heap of one block. -/
namespace Go.Eng

def crcCells (x : AV) (l : List AV) : List AV := .sym 0 :: .sym 1 :: .sym 2 :: x :: l
/-- the heap before: a row of 260 cells, of which the fourth is 0 -/
def crcH (E : Env) : Heap := { next := 1, t := tsetP (pth E 0) .e (.cells false E.tbl (rofList (crcCells (.int .i64 (.ofNat 0)) (repL .bad 256)))), caps := [], ncap := 0, log := [] }
/-- is the outcome the table? -/
noncomputable def crcGood (E : Env) : CRes → Bool
  | .ret v .ret H1 => decide (v = undefA) && (match hget E H1 0 with
      | .cells false e r => Nat.beq e E.tbl && decide (rlist r r [] = crcCells (.int .i64 (.ofNat 256)) (crcList 256 0))
      | _ => false)
  | _ => false

theorem SL.split {c : Cx} : ∀ {l m : List AV} {ys : List Value}, SL c (l ++ m) ys → ∃ y z, ys = y ++ z ∧ SL c l y ∧ SL c m z
  | [], m, ys, h => ⟨[], ys, rfl, rfl, h⟩
  | a :: l, m, ys, ⟨y, zs, e, hv, hs⟩ => by
    obtain ⟨u, z, rfl, h1, h2⟩ := SL.split (l := l) hs
    exact ⟨y :: u, z, by rw [e]; rfl, ⟨y, u, rfl, hv, h1⟩, h2⟩
theorem repL_bad_SL {c : Cx} : ∀ {n : Nat} {ys : List Value}, ys.length = n → SL c (repL .bad n) ys
  | 0, ys, h => by cases ys with
    | nil => rfl
    | cons a l => simp at h
  | n + 1, ys, h => by
    cases ys with
    | nil => simp at h
    | cons a l => exact ⟨a, l, rfl, V.bad c a, repL_bad_SL (by simpa using h)⟩
/-- the table's words stand for the same in any context -/
theorem crcList_SL {c d : Cx} : ∀ (n i : Nat) {ys zs : List Value}, SL c (crcList n i) ys → SL d (crcList n i) zs → ys = zs
  | 0, _, ys, zs, h, h' => by cases h; cases h'; rfl
  | n + 1, i, _, _, ⟨y, ys, e, hv, hs⟩, ⟨z, zs, e', hv', hs'⟩ => by
    cases hv; cases hv'
    rw [e, e', crcList_SL n (i + 1) hs hs']
theorem crcList_have (c : Cx) : ∀ (n i : Nat), ∃ ys : List Value, ys.length = n ∧ SL c (crcList n i) ys
  | 0, _ => ⟨[], rfl, rfl⟩
  | n + 1, i => by
    obtain ⟨ys, h1, h2⟩ := crcList_have c n (i + 1)
    exact ⟨.int .u32 (.ofNat (crcTurn 8 i)) :: ys, by simp [h1], _, ys, rfl, rfl, h2⟩

set_option maxRecDepth 20000 in
theorem ext_crc {E0 E : Env} (hS : SameE E0 E) (hX : ExtsOK E0) (hfacts : ∀ c, FactsOK E0 c) {L G n f : Nat} (hk0 : callKd E0 f = .body) (hcell : E.P.cellsOf E.tbl = 260) (hu8 : isU8 E.P E.tbl = false)
    (hrun : crcGood E0 (run E0 L G n (.call f [.ptr 0 0] false .ret (crcH E0))) = true) :
    ∀ (cs : List Frame) (c : Cx) (H : Heap) (w : World) (l : List AV) (ys : Array Value), FactsOK E c → Hs E c H w → SL c l ys.toList → OKN E cs c H w (hExtern E .crc l H) ((callFunc f ys).run E.P w) := by
  intro cs c H w l ys _ hH hl
  match l, hl with
  | [], _ => exact OKN.fail _ _
  | _ :: _ :: _, _ => exact OKN.fail _ _
  | [p], hl =>
    unfold hExtern
    obtain ⟨y, rfl, hv⟩ := hl.one
    refine cellsAt_spec (Φ := fun o => OKN E cs c H w o _) (OKN.fail · _) fun b o fz e r ep hg => ?_
    subst ep
    split
    · rename_i hcond
      rw [Bool.and_eq_true] at hcond
      have ho : o = 0 := Nat.eq_of_beq_eq_true hcond.1
      have he : e = E.tbl := Nat.eq_of_beq_eq_true hcond.2
      subst ho
      subst he
      obtain ⟨B, k, hr, e⟩ := hv; cases e
      have hbm := hH.baseMod hg hr
      obtain ⟨hlt, cells, lo, hi, hB, hone, hfz, hlohi, pre, vs, post, hcs, hk, hs⟩ := hH.rawCells hg hr
      have hk0' : k = 0 := (hbm.2 rfl).1
      subst hk0'
      have hsz : cells.size = 260 := by rw [(hbm.2 rfl).2 _ _ hB, hcell]
      have hpre : pre = [] := List.eq_nil_of_length_eq_zero hk
      subst hpre
      refine rget_spec (Φ := fun o => OKN E cs c H w o _) (OKN.fail _ _) hs fun v x hx hvx => ?_
      split
      · rename_i hv0
        cases hvx.int_inv
        have hV : V c (.int .i64 (.ofNat 256)) (.int .i64 256) := rfl
        refine rset_spec (Φ := fun o => OKN E cs c H w o _) (OKN.fail _ _) hV hs fun r1 hlt1 hs1 => ?_
        obtain ⟨tb, htl, htb⟩ := crcList_have c 256 0
        have hcr : S c crcRope tb := by unfold crcRope; exact rofList_spec htb
        generalize crcRope = cr at hcr ⊢
        refine rover_spec (Φ := fun o => OKN E cs c H w o _) (OKN.fail _ _) hs1 hcr fun r2 hle2 hs2 => ?_
        rw [hset_eq]
        -- how many cells
        have hlen : vs.length + post.length = 260 := by rw [← hsz, ← Array.length_toList, hcs]; simp
        have h260 : 260 ≤ vs.length := by simp only [List.length_set, htl] at hle2; omega
        have hvl : vs.length = 260 := by omega
        have hpost : post = [] := List.eq_nil_of_length_eq_zero (by omega)
        subst hpost
        have hcs' : cells.toList = vs := by simpa using hcs
        obtain ⟨y0, y1, y2, y3, rest, hvs, hrl⟩ : ∃ y0 y1 y2 y3 rest, vs = y0 :: y1 :: y2 :: y3 :: rest ∧ rest.length = 256 := by
          match vs, hvl with
          | y0 :: y1 :: y2 :: y3 :: rest, h => exact ⟨y0, y1, y2, y3, rest, rfl, by simpa using h⟩
        subst hvs
        have hy3 : y3 = .int .i64 0 := by simpa using hx
        subst hy3
        have hvs2 : ((y0 :: y1 :: y2 :: Value.int .i64 0 :: rest).set 3 (.int .i64 256)).take 4 ++ (tb ++ ((y0 :: y1 :: y2 :: Value.int .i64 0 :: rest).set 3 (.int .i64 256)).drop (4 + tb.length)) = y0 :: y1 :: y2 :: .int .i64 256 :: tb := by
          simp [htl, hrl]
        rw [hvs2] at hs2
        -- the run's own context
        let sg : Nat → Value := fun i => match i with | 0 => y0 | 1 => y1 | 2 => y2 | _ => .bool true
        have hsg : ∀ i, (sg i).oneCell' = true := fun i => match i with
          | 0 => hone y0 (by rw [hcs']; simp)
          | 1 => hone y1 (by rw [hcs']; simp)
          | 2 => hone y2 (by rw [hcs']; simp)
          | _ + 3 => rfl
        let c1 : Cx := ⟨c.N, fun b => if b = 0 then some (B, 0) else none, sg, fun _ => none, fun _ => none⟩
        have hl0 : E0.lim = 4 ^ E0.D := by rw [hS.lim, hS.D]; exact hH.limD
        have hnx : 1 ≤ E0.lim := by have := hH.next; rw [hS.lim]; omega
        have hg1 : ∀ b', b' < E0.lim → hget E0 (crcH E0) b' = if b' = 0 then .cells false E0.tbl (rofList (crcCells (.int .i64 (.ofNat 0)) (repL .bad 256))) else .e := fun b' hb' => by
          unfold crcH Go.Eng.hget
          simp only
          rw [tget_tsetP _ _ _ _ (by rw [pth_length, pth_length]), tget_e]
          by_cases h : b' = 0
          · subst h; rw [if_pos rfl, if_pos rfl]
          · rw [if_neg h, if_neg fun h2 => h (pth_inj hl0 hb' (by omega) h2)]
        have hbase := hH.base b B 0 hr
        have hH1 : Hs E0 c1 (crcH E0) w := by
          refine ⟨hl0, hH.N, hsg, hnx, ?_, ?_, ?_, ?_, ?_, ?_, ?_, ?_, ?_⟩
          · intro b' hb' hr'
            rw [hg1 b' hb'] at hr'
            split at hr'
            · rename_i h; subst h; exact Nat.zero_lt_one
            · cases hr'
          · intro b' x hx
            have hx : (if b' = 0 then some (B, 0) else none) = some x := hx
            split at hx
            · rename_i h; subst h; exact Nat.zero_lt_one
            · cases hx
          · intro b' B' k' hb' hr' hx
            have hb0 : b' = 0 := Nat.lt_one_iff.1 hb'
            subst hb0
            rw [hg1 0 (by omega), if_pos rfl]
            have hx : some (B, 0) = some (B', k') := hx
            cases hx
            refine ⟨?_, cells, lo, hi, by rw [hS.tbl]; exact hB, hone, hfz, by rw [hS.P, hS.tbl]; exact hlohi, [], _, [], by rw [hcs']; simp; rfl, rfl, ?_⟩
            · unfold RowB at *
              rw [hS.P, hS.tbl]
              exact hbm
            · refine rofList_spec ⟨y0, _, rfl, rfl, y1, _, rfl, rfl, y2, _, rfl, rfl, _, rest, rfl, rfl, repL_bad_SL hrl⟩
          · intro b1 b2 B1 k1 k2 hb1 hb2 _ _ _ _
            have : b1 = 0 := Nat.lt_one_iff.1 hb1
            have : b2 = 0 := Nat.lt_one_iff.1 hb2
            omega
          · intro b' B' k' hx
            have hx : (if b' = 0 then some (B, 0) else none) = some (B', k') := hx
            split at hx
            · cases hx; exact hbase
            · cases hx
          · intro j lo hi h; cases h
          · intro j g h; cases h
          · intro j g h; cases h
          · intro j g b sz h; cases h
        have hself := (run_sound hX L G n).call f [.ptr 0 0] false .ret (crcH E0) c1 w #[.pointer (some ⟨B, 0, none⟩)] cs cs (hfacts _) hH1
          ⟨_, [], rfl, ⟨B, 0, rfl, rfl⟩, rfl⟩ rfl hk0
        generalize run E0 L G n (.call f [.ptr 0 0] false .ret (crcH E0)) = res at hrun hself
        unfold crcGood at hrun
        split at hrun
        · rename_i v1 H1
          obtain ⟨x, w', c', fr', cs', ⟨hs', hext⟩, hv', hcs2, hsteps, hfn, hkd, hm, hd, hfun⟩ := hself
          have hcs2 : cs' = cs := hcs2
          subst hcs2
          rw [Bool.and_eq_true] at hrun
          have hv1 : v1 = undefA := of_decide_eq_true hrun.1
          subst hv1
          have hrun2 := hrun.2
          split at hrun2
          · rename_i e1 r3 hg3
            rw [Bool.and_eq_true] at hrun2
            have he1 : e1 = E0.tbl := Nat.eq_of_beq_eq_true hrun2.1
            subst he1
            have hrl3 : rlist r3 r3 [] = crcCells (.int .i64 (.ofNat 256)) (crcList 256 0) := of_decide_eq_true hrun2.2
            have hr3 : c'.rho 0 = some (B, 0) := hext.le.rho 0 (B, 0) rfl
            have hbm3 := hs'.baseMod hg3 hr3
            obtain ⟨hlt3, cells3, lo3, hi3, hB3, hone3, hfz3, hlohi3, pre3, vs3, post3, hcs3, hk3, hs3⟩ := hs'.rawCells hg3 hr3
            rw [hS.tbl] at hB3
            have hsz3 : cells3.size = 260 := by
              have := (hbm3.2 rfl).2 _ _ (by rw [hS.tbl]; exact hB3)
              rw [this, hS.P, hS.tbl, hcell]
            have hpre3 : pre3 = [] := List.eq_nil_of_length_eq_zero hk3
            subst hpre3
            have hsl3 := rlist_spec (zs := []) (acc := []) hs3 rfl
            rw [hrl3, List.append_nil] at hsl3
            obtain ⟨z0, _, e0, hz0, z1, _, e1, hz1, z2, _, e2, hz2, z3, tb', e3, hz3, htb'⟩ := hsl3
            subst e3 e2 e1
            have htt : tb' = tb := crcList_SL 256 0 htb' htb
            subst htt
            have hsig : c'.sig = sg := hext.le.sig
            have hz0 : z0 = y0 := by
              have h : [z0] = [c'.sig 0] := hz0
              rw [hsig] at h; exact (List.cons.inj h).1
            have hz1 : z1 = y1 := by
              have h : [z1] = [c'.sig 1] := hz1
              rw [hsig] at h; exact (List.cons.inj h).1
            have hz2 : z2 = y2 := by
              have h : [z2] = [c'.sig 2] := hz2
              rw [hsig] at h; exact (List.cons.inj h).1
            have hz3 : z3 = .int .i64 256 := by
              have h : [z3] = [Value.int .i64 256] := hz3
              exact (List.cons.inj h).1
            subst hz0 hz1 hz2 hz3
            have hpost3 : post3 = [] := by
              have : cells3.toList.length = 260 := by rw [Array.length_toList, hsz3]
              rw [hcs3, e0] at this
              simp only [List.nil_append, List.length_append, List.length_cons, htl] at this
              exact List.eq_nil_of_length_eq_zero (by omega)
            subst hpost3
            have hc3 : cells3.toList = z0 :: z1 :: z2 :: .int .i64 256 :: tb' := by rw [hcs3, e0]; simp
            have hlohi3' : lo3 = hi3 := hlohi3 (by rw [hS.P, hS.tbl]; exact hu8)
            obtain ⟨fn, hf1, hf2, hf3⟩ := callKd_body hk0
            rw [hS.P] at hf1 hsteps hfun
            have hstp : Stp E c H w c (putH E H b (.cells false E.tbl r2)) (World.setB w B (.cells cells3 E.tbl (lo3, hi3))) := by
              refine hH.upd hlt (by rw [hg]; rfl) hr (setB_size _ _ _) (fun B' h => setB_other _ h _) ?_ (fun cs2 e2 fr2 he => by
                rw [hB] at he; cases he; exact ⟨cells3, _, setB_same (block_lt hB) _, by rw [hsz3, hsz]⟩) rfl rfl rfl fun _ => ?_
              · intro ents clock he
                rw [hB] at he; cases he
              · exact ⟨hbm.upd hB (setB_same (block_lt hB) _) (by rw [hsz3, hsz]), cells3, lo3, hi3, setB_same (block_lt hB) _, hone3, fun _ => .inl hlohi3', fun _ => hlohi3', [], _, [], by rw [hc3]; simp, rfl, hs2⟩
            refine ⟨x, w', c, .inr (.inr ⟨f, _, w, run_callFunc_body hf1 hf2 hf3 _, fr', hsteps, hm, hd, hkd, hfun⟩), hstp.trans (hstp.1.grow ?_ ?_ hext.tape hext.os hext.output), ?_⟩
            · rw [setB_size]; exact hext.size
            · intro B' hB'
              rw [setB_size] at hB'
              by_cases h : B' = B
              · subst h; rw [hB3, setB_same (block_lt hB)]
              · rw [setB_other _ h]
                refine hext.keep B' hB' ?_
                rintro ⟨b2, k2, h2⟩
                have h2 : (if b2 = 0 then some (B, 0) else none) = some (B', k2) := h2
                split at h2
                · cases h2; exact h rfl
                · cases h2
            · obtain ⟨q, e, hq⟩ := hv'
              have hq : q.toList = [] := hq
              have : q = #[] := Array.toList_inj.1 hq
              subst this
              cases e
              exact V.undef c
          · cases hrun2
        · cases hrun
      · exact OKN.fail _ _
    · exact OKN.fail _ _
end Go.Eng
/- Calls that are told ahead, from a heap that is told. -/
namespace Go.Eng

theorem findTold_spec {xs : List AV} {H : Heap} {d : OR} {k : AV → Heap → OR} {Φ : OR → Prop} (hd : Φ d) : ∀ {l : List Told}, (∀ t ∈ l, t.xs = xs → covers t.H H = true → Φ (k t.v t.H1)) → Φ (findTold xs H d k l)
  | [], _ => hd
  | t :: l, h => by
    unfold findTold
    split
    · rename_i h1
      exact h t List.mem_cons_self (eqVs_spec (and_t h1).1) (and_t h1).2
    · exact findTold_spec hd fun t ht => h t (List.mem_cons_of_mem _ ht)

theorem SameE.hs {E0 E : Env} (hS : SameE E0 E) {c : Cx} {H : Heap} {w : World} (h : Hs E c H w) : Hs E0 c H w :=
  ⟨by rw [hS.lim, hS.D]; exact h.limD, h.N, h.sig, by rw [hS.lim]; exact h.next, fun b hb hr => h.dom b (by rw [← hS.lim]; exact hb) (by rw [← hS.hget]; exact hr), h.rlt, fun b B k hb hr hx => by
    rw [hS.hget] at hr ⊢
    have hS' : SameE E E0 := ⟨hS.P.symm, hS.D.symm, hS.lim.symm, hS.tbl.symm⟩
    exact hS'.bk (h.blk b B k hb hr hx), fun b b' B k k' hb hb' hr hr' hx hx' => by
    rw [hS.hget] at hr hr'
    exact h.inj b b' B k k' hb hb' hr hr' hx hx', h.base, h.cap, h.glt, h.olt, fun j g b sz h1 h2 => by rw [hS.P]; exact h.own j g b sz h1 h2⟩
theorem SameE.symm {E0 E : Env} (hS : SameE E0 E) : SameE E E0 := ⟨hS.P.symm, hS.D.symm, hS.lim.symm, hS.tbl.symm⟩

/-- what is told of a call is what the engine's run tells -/
def ToldOK (E : Env) (f : Nat) (t : Told) : Prop := ∃ (E0 : Env) (L G n : Nat), SameE E0 E ∧ ExtsOK E0 ∧ (∀ c, FactsOK E c → FactsOK E0 c) ∧ callKd E0 f = .body ∧ gives t.v t.H1 (run E0 L G n (.call f t.xs false .ret t.H)) = true

theorem ext_told {E : Env} {f : Nat} {ts : List Told} (hts : ∀ t ∈ ts, ToldOK E f t) :
    ∀ (cs : List Frame) (c : Cx) (H : Heap) (w : World) (l : List AV) (ys : Array Value), FactsOK E c → Hs E c H w → SL c l ys.toList → OKN E cs c H w (hExtern E (.told ts) l H) ((callFunc f ys).run E.P w) := by
  intro cs c H w l ys hF hH hl
  unfold hExtern
  refine findTold_spec (Φ := fun o => OKN E cs c H w o _) (OKN.fail _ _) fun t ht hx hcov => ?_
  obtain ⟨E0, L, G, n, hS, hX, hfacts, hk0, hg⟩ := hts t ht
  obtain ⟨fn, hf1, hf2, hf3⟩ := callKd_body hk0
  have hH0 : Hs E c t.H w := hH.covered hcov
  have hself := (run_sound hX L G n).call f l false .ret t.H c w ys cs cs (hfacts c hF) (hS.hs hH0) hl rfl hk0
  rw [hx] at hg
  generalize run E0 L G n (.call f l false .ret t.H) = r at hg hself
  have hcov' := and_t hcov
  have hn : t.H.next = H.next := Nat.eq_of_beq_eq_true hcov'.1
  have hk : t.H.ncap = H.ncap := Nat.eq_of_beq_eq_true (and_t hcov'.2).1
  cases r with
  | ret v m H' =>
    cases m with
    | pan l => cases hg
    | ret =>
      have hg : Bool.and (eqV t.v v) (covers t.H1 H') = true := hg
      obtain ⟨x, w', c', fr', cs', ⟨hs', hext⟩, hv, hcs, hsteps, hfn, hkd, hm, hd, hfun⟩ := hself
      have hcs' : cs' = cs := hcs
      subst hcs'
      have hv' : t.v = v := eqV_spec (and_t hg).1
      subst hv'
      have hcov1 := (and_t hg).2
      have hs1 : Hs E c' t.H1 w' := (hS.symm.hs hs').covered hcov1
      have hc1 := and_t hcov1
      have hn1 : t.H1.next = H'.next := Nat.eq_of_beq_eq_true hc1.1
      have hk1 : t.H1.ncap = H'.ncap := Nat.eq_of_beq_eq_true (and_t hc1.2).1
      rw [hS.P] at hf1 hsteps hfun
      generalize hHr : (Heap.mk t.H1.next t.H1.t t.H1.caps t.H1.ncap (List.range E.lim ++ H.log)) = Hr
      have hsr : Hs E c' Hr w' := by
        subst hHr
        exact ⟨hs1.limD, hs1.N, hs1.sig, hs1.next, hs1.dom, hs1.rlt, hs1.blk, hs1.inj, hs1.base, hs1.cap, hs1.glt, hs1.olt, hs1.own⟩
      have hrn : Hr.next = H'.next := by subst hHr; exact hn1
      have hrk : Hr.ncap = H'.ncap := by subst hHr; exact hk1
      have hrl : Hr.log = List.range E.lim ++ H.log := by subst hHr; rfl
      refine ⟨x, w', c', .inr (.inr ⟨f, ys, w, run_callFunc_body hf1 hf2 hf3 ys, fr', hsteps, hm, hd, hkd, hfun⟩), ⟨hsr, ⟨hext.le, hext.size, hext.keep, hext.im, hext.tape, hext.os, hext.output, by rw [hrn, ← hn]; exact hext.next, by rw [hrk, ← hk]; exact hext.ncap, fun b hb => hext.rhoOld b (by rw [hn]; exact hb), List.range E.lim, hrl, fun b hb hnb => absurd (List.mem_range.2 hb) hnb⟩⟩, hv⟩
  | _ => cases hg
end Go.Eng
/- Two slices of bytes: whether they are equal, told at once. -/
namespace Go.Eng

/-- what is known of the function -/
structure EqOK (P : Program) (f : Nat) : Prop where
  body : ∃ fn, P.funcs[f]? = some fn ∧ fn.body.isNone = false ∧ (fn.name == "runtime.NumGoroutine") = false
  bytes : ∀ (b1 o1 n c b2 o2 d : Nat) (w : World) (_ : n ≤ 1000000000) (k0 : Nat) (_ : k0 ≤ n) (xs : Nat → Int)
    (_ : ∀ j, j < k0 → w.cell? ⟨b1, o1 + j, none⟩ = some (.int .u8 (xs j))) (_ : ∀ j, j < k0 → w.cell? ⟨b2, o2 + j, none⟩ = some (.int .u8 (xs j)))
    (x y : Int) (_ : (x != y) = true) (_ : k0 < n → w.cell? ⟨b1, o1 + k0, none⟩ = some (.int .u8 x) ∧ w.cell? ⟨b2, o2 + k0, none⟩ = some (.int .u8 y)),
    Calls P f #[.slice (some ⟨b1, o1, none⟩) n c, .slice (some ⟨b2, o2, none⟩) n d] w fun e w' => e = .returned (.bool (decide (k0 = n))) ∧ ∃ q, w' = w.drewN q
  lens : ∀ (a1 a2 : Option Addr) (n c m d : Nat) (w : World) (_ : n ≠ m),
    Calls P f #[.slice a1 n c, .slice a2 m d] w fun e w' => e = .returned (.bool false) ∧ ∃ q, w' = w.drewN q
  empty : ∀ (a1 a2 : Option Addr) (c d : Nat) (w : World),
    Calls P f #[.slice a1 0 c, .slice a2 0 d] w fun e w' => e = .returned (.bool true) ∧ ∃ q, w' = w.drewN q

section
variable {E : Env} {c : Cx} {H : Heap} {w : World}

theorem EqOK.out {f : Nat} (h : EqOK E.P f) (hH : Hs E c H w) {cs : List Frame} {ys : Array Value} {b : Bool} (hc : Calls E.P f ys w fun e w' => e = .returned (.bool b) ∧ ∃ q, w' = w.drewN q) :
    OKN E cs c H w (.val (.bool b) H) ((callFunc f ys).run E.P w) := by
  obtain ⟨fn, hf1, hf2, hf3⟩ := h.body
  obtain ⟨e, w', fr', ⟨rfl, q, rfl⟩, hsteps, hfn, hleave⟩ := hc cs
  exact ⟨.bool b, w.drewN q, c, .inr (.inr ⟨f, ys, w, run_callFunc_body hf1 hf2 hf3 ys, fr', hsteps, hleave⟩), hH.world rfl rfl rfl rfl, rfl⟩

/-- the cells of a slice -/
def RowAt (c : Cx) (w : World) (n : Nat) (l : List AV) (v : Value) : Prop := ∃ p cp, v = .slice p n cp ∧ (n = 0 → l = []) ∧ (n ≠ 0 → ∃ B q ys, p = some ⟨B, q, none⟩ ∧ SL c l ys ∧ ys.length = n ∧ ∀ j, j < n → w.cell? ⟨B, q + j, none⟩ = ys[j]?)

theorem rowK_spec (hH : Hs E c H w) {Φ : OR → Prop} (hf : ∀ n, Φ (.fail n)) {x : AV} {v : Value} (hv : V c x v) {k : Nat → List AV → OR} (hk : ∀ n l, RowAt c w n l v → Φ (k n l)) : Φ (rowK E H x k) := by
  unfold rowK
  split
  · cases hv
    exact hk 0 [] ⟨none, 0, rfl, fun _ => rfl, fun h => absurd rfl h⟩
  · rename_i b o n cap
    obtain ⟨B, kk, o', cp, hr, e, hcap, hle, ho⟩ := hv
    cases e
    split
    · rename_i h0
      have : n = 0 := Nat.eq_of_beq_eq_true h0
      subst this
      exact hk 0 [] ⟨_, cp, rfl, fun _ => rfl, fun h => absurd rfl h⟩
    · rename_i h0
      have h0 : n ≠ 0 := Nat.ne_of_beq_eq_false h0
      refine onCells_spec (hf _) fun fz e r hg => ?_
      obtain ⟨hlt, cs, lo, hi, hB, hone, -, -, pre, ys, post, hcs, hkk, hs⟩ := hH.cells hg hr
      refine rslice_spec (hf _) hs fun y hle2 hy => hk n _ ⟨_, cp, rfl, fun h => absurd h h0, fun _ => ⟨B, o', (ys.drop o).take n, rfl, ?_, ?_, fun j hj => ?_⟩⟩
      · have := rlist_spec (zs := []) (acc := []) hy rfl
        simpa using this
      · rw [List.length_take, List.length_drop]; omega
      · have ho' : o' = kk + o := by rcases ho with h | h; exact h; omega
        rw [cell_at hB, ← Array.getElem?_toList, hcs, List.getElem?_append_right (by omega), List.getElem?_append_left (by omega), List.getElem?_take_of_lt hj, List.getElem?_drop]
        congr 1; omega
  · exact hf _

def Same8 (ys zs : List Value) (k : Nat) : Prop := ∀ j, j < k → ∃ z, ys[j]? = some (.int .u8 z) ∧ zs[j]? = some (.int .u8 z)
theorem cmpL_spec {Φ : OR → Prop} {yes no bad : OR} (hbad : Φ bad) : ∀ {a b : List AV} {ys zs : List Value}, SL c a ys → SL c b zs →
    (ys.length = zs.length → Same8 ys zs ys.length → Φ yes) →
    (∀ k x y, k < ys.length → Same8 ys zs k → ys[k]? = some (.int .u8 x) → zs[k]? = some (.int .u8 y) → (x != y) = true → Φ no) → Φ (cmpL a b yes no bad)
  | [], [], ys, zs, h1, h2, hy, _ => by
    cases h1; cases h2
    exact hy rfl fun j hj => by cases hj
  | [], _ :: _, _, _, _, _, _, _ => hbad
  | _ :: _, [], _, _, _, _, _, _ => hbad
  | u :: a, v :: b, ys, zs, ⟨y, ys', e1, hu, h1⟩, ⟨z, zs', e2, hv, h2⟩, hyes, hno => by
    show Φ (cmp1 u v (cmpL a b yes no bad) no bad)
    unfold cmp1
    refine onInt_spec hbad fun k m e => onInt_spec hbad fun j n e' => ?_
    subst e e' e1 e2
    cases hu.int_inv
    cases hv.int_inv
    split
    · rename_i hk he
      rw [Bool.and_eq_true] at hk
      cases kEq_spec hk.1
      cases kEq_spec hk.2
      have hmn : m = n := by rw [eqI_eq] at he; exact eq_of_beq he
      subst hmn
      have hst : ∀ k, Same8 ys' zs' k → Same8 (.int .u8 m :: ys') (.int .u8 m :: zs') (k + 1) := fun k h j hj => by
        cases j with
        | zero => exact ⟨m, rfl, rfl⟩
        | succ j => exact h j (by omega)
      refine cmpL_spec hbad h1 h2 (fun hl hs => hyes (by simp [hl]) (hst _ hs)) fun k x y hk hs hx hy hxy => hno (k + 1) x y (by simp; omega) (hst k hs) hx hy hxy
    · rename_i hk he
      rw [Bool.and_eq_true] at hk
      cases kEq_spec hk.1
      cases kEq_spec hk.2
      refine hno 0 m n (by simp) (fun j hj => by cases hj) rfl rfl ?_
      rw [eqI_eq] at he
      simp only [bne, he, Bool.not_false]
    · exact hbad

theorem ext_eqB {f : Nat} (h : EqOK E.P f) :
    ∀ (cs : List Frame) (c : Cx) (H : Heap) (w : World) (l : List AV) (ys : Array Value), FactsOK E c → Hs E c H w → SL c l ys.toList → OKN E cs c H w (hExtern E .eqB l H) ((callFunc f ys).run E.P w) := by
  intro cs c H w l ys _ hH hl
  match l, hl with
  | [], _ => exact OKN.fail _ _
  | [_], _ => exact OKN.fail _ _
  | _ :: _ :: _ :: _, _ => exact OKN.fail _ _
  | [x, y], hl =>
    obtain ⟨u, v, rfl, hu, hv⟩ := hl.two
    show OKN E cs c H w (rowK E H x fun n a => rowK E H y fun m b => match Nat.beq n m with
      | true => match Nat.ble n 1000000000 with
        | true => cmpL a b (.val (.bool true) H) (.val (.bool false) H) (.fail 146)
        | false => .fail 146
      | false => .val (.bool false) H) _
    refine rowK_spec hH (Φ := fun o => OKN E cs c H w o _) (OKN.fail · _) hu fun n a ha => rowK_spec hH (Φ := fun o => OKN E cs c H w o _) (OKN.fail · _) hv fun m b hb => ?_
    obtain ⟨p1, c1, rfl, hn1, h1⟩ := ha
    obtain ⟨p2, c2, rfl, hn2, h2⟩ := hb
    cases hnm : Nat.beq n m with
    | false => exact h.out hH (h.lens p1 p2 n c1 m c2 w (Nat.ne_of_beq_eq_false hnm))
    | true =>
      have hnm := Nat.eq_of_beq_eq_true hnm
      subst hnm
      cases hbig : Nat.ble n 1000000000 with
      | false => exact OKN.fail _ _
      | true =>
        have hbig := Nat.le_of_ble_eq_true hbig
        by_cases h0 : n = 0
        · subst h0
          rw [hn1 rfl, hn2 rfl]
          exact h.out hH (h.empty p1 p2 c1 c2 w)
        · obtain ⟨B1, q1, ys, rfl, hs1, hl1, hc1⟩ := h1 h0
          obtain ⟨B2, q2, zs, rfl, hs2, hl2, hc2⟩ := h2 h0
          refine cmpL_spec (Φ := fun o => OKN E cs c H w o _) (OKN.fail _ _) hs1 hs2 (fun _ hs => ?_) fun k x y hk hs hx hy hxy => ?_
          · rw [hl1] at hs
            have := h.bytes B1 q1 n c1 B2 q2 c2 w hbig n (Nat.le_refl _) (fun j => match ys[j]? with | some (.int _ z) => z | _ => 0)
              (fun j hj => by obtain ⟨z, e1, e2⟩ := hs j hj; rw [hc1 j hj, e1]) (fun j hj => by obtain ⟨z, e1, e2⟩ := hs j hj; rw [hc2 j hj, e2]; simp only [e1]) 0 1 rfl (fun hn => absurd hn (Nat.lt_irrefl _))
            rw [decide_eq_true rfl] at this
            exact h.out hH this
          · rw [hl1] at hk
            have := h.bytes B1 q1 n c1 B2 q2 c2 w hbig k (Nat.le_of_lt hk) (fun j => match ys[j]? with | some (.int _ z) => z | _ => 0)
              (fun j hj => by obtain ⟨z, e1, e2⟩ := hs j hj; rw [hc1 j (by omega), e1]) (fun j hj => by obtain ⟨z, e1, e2⟩ := hs j hj; rw [hc2 j (by omega), e2]; simp only [e1]) x y hxy (fun _ => ⟨by rw [hc1 k hk, hx], by rw [hc2 k hk, hy]⟩)
            rw [decide_eq_false (by omega)] at this
            exact h.out hH this
end
end Go.Eng
/- What is told of symbols: lengths, and numbers held against constants. -/
namespace Go.Eng
section
variable {P : Program} {sig : Nat → Value}

theorem tagOf_inj {a b : BinOp} (h : tagOf a = tagOf b) : a = b := by cases a <;> cases b <;> first | rfl | (exact absurd h (by decide))
theorem tagOf_100 (a : BinOp) : 100 ≠ tagOf a := by cases a <;> decide

/-- a string's length -/
theorem FactOK.len {i j : Nat} {s : ByteArray} (hi : sig i = .string s) (hj : sig j = .int .i64 s.size) : FactOK P sig ⟨100, i, 0, .sym j⟩ := by
  refine ⟨fun _ ts t w hk => ?_, fun op t w h => absurd h (tagOf_100 op)⟩
  have : ∃ t, ts[0]? = some t ∧ P.underlying t = some .string := by
    unfold lenKd at hk
    split at hk
    · rename_i t ht
      split at hk <;> first | (cases hk; done) | skip
      · split at hk <;> cases hk
      · rename_i hu; exact ⟨_, ht, hu⟩
    · cases hk
  obtain ⟨t, ht, hu⟩ := this
  refine ⟨.int .i64 s.size, ?_, fun c hc => ?_⟩
  · rw [hi]
    simp only [Builtin.len_, ht, List.getElem?_toArray, List.getElem?_cons_zero, Sem.run_bind, run_underlying hu, Result.andThen_ok, Sem.run_pure]
    rfl
  · show [Value.int .i64 s.size] = [c.sig j]
    rw [hc, hj]
/-- the answer of a comparison -/
def cmpI (op : BinOp) (a b : Int) : Bool := match op with
  | .eql => decide (a = b)
  | .neq => decide (a ≠ b)
  | .lss => decide (a < b)
  | .leq => decide (a ≤ b)
  | .gtr => decide (b < a)
  | .geq => decide (b ≤ a)
  | _ => false
def isCmp : BinOp → Bool
  | .eql | .neq | .lss | .leq | .gtr | .geq => true
  | _ => false
theorem FactOK.cmp {op : BinOp} (ho : isCmp op = true) {i : Nat} {n y : Int} {b : Bool} (hi : sig i = .int .i64 n) (hb : cmpI op n y = b) : FactOK P sig ⟨tagOf op, i, y, .bool b⟩ := by
  refine ⟨fun h => absurd h.symm (tagOf_100 op), fun op' t w h => ?_⟩
  have := tagOf_inj h
  subst this
  refine ⟨.bool b, ?_, fun c _ => rfl⟩
  rw [hi, ← hb]
  cases op <;> first | (cases ho; done) | skip
  all_goals (rw [run_binII P w t _ ⟨by decide, by decide⟩]; simp [Op.intCmp, cmpI])
  all_goals first | rfl | (by_cases h : n = y <;> simp [h]) | skip
/-- whatever an operation tells -/
theorem FactOK.val {op : BinOp} {i j : Nat} {y z : Int} (hi : ∀ t w, (Go.binOp op t (sig i) (.int .i64 y)).run P w = .ok (.int .i64 z) w) (hj : sig j = .int .i64 z) : FactOK P sig ⟨tagOf op, i, y, .sym j⟩ := by
  refine ⟨fun h => absurd h.symm (tagOf_100 op), fun op' t w h => ?_⟩
  have := tagOf_inj h
  subst this
  refine ⟨.int .i64 z, hi t w, fun c hc => ?_⟩
  show [Value.int .i64 z] = [c.sig j]
  rw [hc, hj]
end
end Go.Eng
