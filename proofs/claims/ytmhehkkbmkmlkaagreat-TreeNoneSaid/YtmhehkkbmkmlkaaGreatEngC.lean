/- The engine's operations are the model's: loads, stores, new blocks, parts. -/
import Derived.Test.YtmhehkkbmkmlkaaGreatEngB
import Derived.Defers
namespace Go.Eng

/-- an outcome, held against the model's run of a value -/
def OKV (E : Env) (c : Cx) (H : Heap) (w : World) (o : OR) (r : Result Value) : Prop := match o with
  | .val v H' => ∃ x w' c', r = .ok x w' ∧ Stp E c H w c' H' w' ∧ V c' v x
  | .br l => ∃ p ∈ l, ∃ x w' c', r = .ok x w' ∧ Stp E c H w c' p.2 w' ∧ V c' p.1 x
  | .fail _ => True
  | _ => False
/-- of something that yields nothing -/
def OKU (E : Env) (c : Cx) (H : Heap) (w : World) (o : OR) (r : Result Unit) : Prop := match o with
  | .val v H' => v = undefA ∧ ∃ w' c', r = .ok () w' ∧ Stp E c H w c' H' w'
  | .fail _ => True
  | _ => False

theorem V.undef (c : Cx) : V c undefA undef := ⟨#[], rfl, rfl⟩

section
variable {E : Env} {c : Cx} {H : Heap} {w : World}

theorem OKV.fail (n : Nat) (r : Result Value) : OKV E c H w (.fail n) r := trivial
theorem OKU.fail (n : Nat) (r : Result Unit) : OKU E c H w (.fail n) r := trivial
theorem OKV.here (hH : Hs E c H w) {v : AV} {x : Value} {r : Result Value} (hr : r = .ok x w) (hv : V c v x) : OKV E c H w (.val v H) r :=
  ⟨x, w, c, hr, .refl hH, hv⟩

/-! ### eliminators, as predicates see them -/
theorem onPtr_spec {Φ : OR → Prop} {x : AV} {k : Nat → Nat → OR} {d : OR} (hd : Φ d) (hk : ∀ b o, x = .ptr b o → Φ (k b o)) : Φ (onPtr x k d) := by
  rw [onPtr_eq]; split
  · exact hk _ _ rfl
  · exact hd
theorem onInt_spec {Φ : OR → Prop} {x : AV} {k : IntKind → Int → OR} {d : OR} (hd : Φ d) (hk : ∀ j n, x = .int j n → Φ (k j n)) : Φ (onInt x k d) := by
  rw [onInt_eq]; split
  · exact hk _ _ rfl
  · exact hd
theorem onAgg_spec {Φ : OR → Prop} {x : AV} {k : AV → OR} {d : OR} (hd : (∀ r, x ≠ .agg r) → Φ d) (hk : ∀ r, x = .agg r → Φ (k r)) : Φ (onAgg x k d) := by
  rw [onAgg_eq]; split
  · exact hk _ rfl
  · rename_i h; exact hd fun r e => h r e
theorem onTup_spec {Φ : OR → Prop} {x : AV} {k : AV → OR} {d : OR} (hd : Φ d) (hk : ∀ r, x = .tup r → Φ (k r)) : Φ (onTup x k d) := by
  rw [onTup_eq]; split
  · exact hk _ rfl
  · exact hd
theorem onBool_spec {Φ : OR → Prop} {x : AV} {k : Bool → OR} {d : OR} (hd : Φ d) (hk : ∀ b, x = .bool b → Φ (k b)) : Φ (onBool x k d) := by
  rw [onBool_eq]; split
  · exact hk _ rfl
  · exact hd
theorem onStr_spec {Φ : OR → Prop} {x : AV} {k : List Nat → OR} {d : OR} (hd : Φ d) (hk : ∀ l, x = .str l → Φ (k l)) : Φ (onStr x k d) := by
  rw [onStr_eq]; split
  · exact hk _ rfl
  · exact hd
theorem onSlice_spec {Φ : OR → Prop} {x : AV} {k : Nat → Nat → Nat → ACap → OR} {k1 d : OR} (hd : Φ d) (hk : ∀ b o n cp, x = .slice b o n cp → Φ (k b o n cp)) (h1 : x = .nils → Φ k1) : Φ (onSlice x k k1 d) := by
  rw [onSlice_eq]; split
  · exact hk _ _ _ _ rfl
  · exact h1 rfl
  · exact hd
theorem onMap_spec {Φ : OR → Prop} {x : AV} {k : Nat → OR} {k1 d : OR} (hd : Φ d) (hk : ∀ r, x = .mapv r → Φ (k r)) (h1 : x = .nilm → Φ k1) : Φ (onMap x k k1 d) := by
  rw [onMap_eq]; split
  · exact hk _ rfl
  · exact h1 rfl
  · exact hd
theorem onFunc_spec {Φ : OR → Prop} {x : AV} {k : Nat → AV → AV → OR} {k1 : Nat → OR} {d : OR} (hd : Φ d) (hk : ∀ f a b, x = .func f a b → Φ (k f a b)) (h1 : ∀ l, x = .yield l → Φ (k1 l)) : Φ (onFunc x k k1 d) := by
  rw [onFunc_eq]; split
  · exact hk _ _ _ rfl
  · exact h1 _ rfl
  · exact hd
theorem onCells_spec {Φ : OR → Prop} {x : AH} {k : Bool → Nat → AV → OR} {d : OR} (hd : Φ d) (hk : ∀ f e r, x = .cells f e r → Φ (k f e r)) : Φ (onCells x k d) := by
  rw [onCells_eq]; split
  · exact hk _ _ _ rfl
  · exact hd
theorem onMapB_spec {Φ : OR → Prop} {x : AH} {k : Nat → List (AV × AV) → OR} {d : OR} (hd : Φ d) (hk : ∀ c es, x = .map c es → Φ (k c es)) : Φ (onMapB x k d) := by
  rw [onMapB_eq]; split
  · exact hk _ _ rfl
  · exact hd
theorem onMiter_spec {Φ : OR → Prop} {x : AH} {k : Option Nat → Nat → List AV → OR} {d : OR} (hd : Φ d) (hk : ∀ m c s, x = .miter m c s → Φ (k m c s)) : Φ (onMiter x k d) := by
  rw [onMiter_eq]; split
  · exact hk _ _ _ rfl
  · exact hd
theorem onSiter_spec {Φ : OR → Prop} {x : AH} {k : List Nat → Nat → OR} {d : OR} (hd : Φ d) (hk : ∀ s p, x = .siter s p → Φ (k s p)) : Φ (onSiter x k d) := by
  rw [onSiter_eq]; split
  · exact hk _ _ rfl
  · exact hd
theorem boolRec_spec {Φ : OR → Prop} {b : Bool} {x y : OR} (hx : b = false → Φ x) (hy : b = true → Φ y) : Φ (Bool.rec (motive := fun _ => OR) x y b) := by
  cases b
  · exact hx rfl
  · exact hy rfl
theorem onNat_spec {Φ : OR → Prop} (hf : ∀ n, Φ (.fail n)) {x : AV} {k : Nat → OR} (hk : ∀ j m, x = .int j (.ofNat m) → Φ (k m)) : Φ (onNat x k) := by
  unfold onNat
  refine onInt_spec (hf _) fun j n e => ?_
  cases n with
  | ofNat m => exact hk j m e
  | negSucc m => exact hf _

/-! ### parts -/
/-- the value at a place of a row, of a kind of type -/
def partV (ty : TK) (ys : List Value) (o : Nat) : Option Value := match ty with
  | .bad => none
  | .one => ys[o]?
  | .agg n => if o + n ≤ ys.length then some (.agg ((ys.drop o).take n).toArray) else none

theorem partK_spec {Φ : OR → Prop} (hf : ∀ n, Φ (.fail n)) {ty : TK} {r : AV} {o : Nat} {k : AV → OR} {ys : List Value} (hs : S c r ys) (h1 : ∀ y ∈ ys, y.oneCell' = true)
    (hk : ∀ a x, partV ty ys o = some x → V c a x → Φ (k a)) : Φ (partK ty r o k) := by
  unfold partK
  cases ty with
  | bad => exact hf _
  | one => exact rget_spec (hf _) hs fun v y hy hv => hk v y hy hv
  | agg n =>
    refine rslice_spec (hf _) hs fun x hle hx => hk _ (.agg ((ys.drop o).take n).toArray) (by simp [partV, hle]) ⟨_, rfl, by simpa using hx, ?_⟩
    intro y hy
    exact h1 y (List.mem_of_mem_drop (List.mem_of_mem_take (by simpa using hy)))

theorem run_loadVar_part {P : Program} {w : World} {t : TypeId} {B k o : Nat} {cs : Array Value} {e : TypeId} {fr : Nat × Nat} {pre ys post : List Value} {x : Value}
    (h : w.heap[B]? = some (.cells cs e fr)) (hcs : cs.toList = pre ++ (ys ++ post)) (hk : pre.length = k) (hx : partV (tyK P t) ys o = some x) :
    (loadVar t ⟨B, k + o, none⟩).run P w = .ok x w := by
  cases hty : tyK P t with
  | bad => rw [hty] at hx; simp [partV] at hx
  | one =>
    rw [hty] at hx
    obtain ⟨i, d, hi, hu, h1, hag⟩ := tyK_one hty
    simp only [loadVar, Sem.run_bind, run_isAgg' hu, hag, Result.andThen_ok, Bool.false_eq_true, if_false]
    have hlt : o < ys.length := (List.getElem?_eq_some_iff.1 hx).1
    have : cs[k + o]? = some x := by
      rw [← Array.getElem?_toList, hcs, List.getElem?_append_right (by omega), List.getElem?_append_left (by omega)]
      rw [show k + o - pre.length = o by omega]; exact hx
    exact run_load_at h this .plain
  | agg n =>
    rw [hty] at hx
    obtain ⟨i, d, hi, hu, h1, hag⟩ := tyK_agg hty
    simp only [partV] at hx
    split at hx
    · rename_i hle
      cases hx
      simp only [loadVar, Sem.run_bind, run_isAgg' hu, hag, Result.andThen_ok, if_true, run_sizeOf' hi, h1]
      have hsz : cs.size = pre.length + (ys.length + post.length) := by rw [← Array.length_toList, hcs]; simp
      rw [run_loadCells_own h (by omega)]
      simp only [Result.andThen_ok, Sem.run_pure]
      rw [hcs, List.drop_append, List.drop_of_length_le (by omega), List.nil_append, hk, show k + o - k = o by omega, List.drop_append_of_le_length (by omega), List.take_append_of_le_length (by simp; omega)]
    · cases hx

theorem run_part_of {P : Program} {w : World} {t : TypeId} {cs : Array Value} {o : Nat} {x : Value} (hx : partV (tyK P t) cs.toList o = some x) : (part t cs o).run P w = .ok x w := by
  cases hty : tyK P t with
  | bad => rw [hty] at hx; simp [partV] at hx
  | one =>
    rw [hty] at hx
    obtain ⟨i, d, hi, hu, h1, hag⟩ := tyK_one hty
    simp only [part, Sem.run_bind, run_isAgg' hu, hag, Result.andThen_ok, Bool.false_eq_true, if_false]
    have : cs[o]? = some x := by simpa [partV] using hx
    rw [this]; rfl
  | agg n =>
    rw [hty] at hx
    obtain ⟨i, d, hi, hu, h1, hag⟩ := tyK_agg hty
    simp only [partV] at hx
    split at hx
    · rename_i hle
      cases hx
      simp only [part, Sem.run_bind, run_isAgg' hu, hag, Result.andThen_ok, if_true, run_sizeOf' hi, h1, Sem.run_pure]
      congr 2
      apply Array.ext'
      simp only [Array.toList_extract, List.extract_eq_take_drop]
      rw [List.take_drop, List.take_drop]
      simp
    · cases hx

/-! ### blocks of cells -/
theorem Hs.rawCells (hH : Hs E c H w) {b : Nat} {fz : Bool} {e : Nat} {r : AV} (hg : hget E H b = .cells fz e r) {B k : Nat} (hr : c.rho b = some (B, k)) :
    b < H.next ∧ ∃ cs lo hi, w.heap[B]? = some (.cells cs e (lo, hi)) ∧ (∀ y ∈ cs.toList, y.oneCell' = true) ∧ (fz = false → lo = hi ∨ cs.size ≤ lo) ∧
      (isU8 E.P e = false → lo = hi) ∧ ∃ pre ys post, cs.toList = pre ++ (ys ++ post) ∧ pre.length = k ∧ S c r ys := by
  have hlt := hH.rlt b _ hr
  have h2 := hH.blk b B k hlt (by rw [hg]; rfl) hr
  rw [hg] at h2
  exact ⟨hlt, h2.2⟩
theorem Hs.baseMod (hH : Hs E c H w) {b : Nat} {fz : Bool} {e : Nat} {r : AV} (hg : hget E H b = .cells fz e r) {B k : Nat} (hr : c.rho b = some (B, k)) : RowB E w e B k := by
  have h2 := hH.blk b B k (hH.rlt b _ hr) (by rw [hg]; rfl) hr
  rw [hg] at h2
  exact h2.1
theorem Hs.cells (hH : Hs E c H w) {b : Nat} {fz : Bool} {e : Nat} {r : AV} (hg : hget E H b = .cells fz e r) {B k : Nat} (hr : c.rho b = some (B, k)) :
    b < H.next ∧ ∃ cs lo hi, w.heap[B]? = some (.cells cs e (lo, hi)) ∧ (∀ y ∈ cs.toList, y.oneCell' = true) ∧ (fz = false → ∀ o, o < cs.size → ¬ (lo ≤ o ∧ o < hi)) ∧
      (isU8 E.P e = false → lo = hi) ∧ ∃ pre ys post, cs.toList = pre ++ (ys ++ post) ∧ pre.length = k ∧ S c r ys := by
  obtain ⟨h0, cs, lo, hi, h1, h2, h3, h4⟩ := hH.rawCells hg hr
  exact ⟨h0, cs, lo, hi, h1, h2, fun h o ho hh => by rcases h3 h with h5 | h5 <;> omega, h4⟩

/-- where a pointer leads to a row of cells -/
theorem cellsAt_spec {Φ : OR → Prop} (hf : ∀ n, Φ (.fail n)) {x : AV} {k : Nat → Nat → Bool → Nat → AV → OR}
    (hk : ∀ b o fz e r, x = .ptr b o → hget E H b = .cells fz e r → Φ (k b o fz e r)) : Φ (cellsAt E H x k) := by
  unfold cellsAt
  exact onPtr_spec (hf _) fun b o e => onCells_spec (hf _) fun f t r h => hk b o f t r e h

theorem run_sureAddr (P : Program) (w : World) (a : Addr) : (Instr.sureAddr (.pointer (some a))).run P w = .ok a w := rfl

theorem hLoad_ok (hH : Hs E c H w) {t : TypeId} {x : AV} {v : Value} (hx : V c x v) : OKV E c H w (hLoad E t x H) ((Instr.loadAt t v).run E.P w) := by
  unfold hLoad
  refine cellsAt_spec (Φ := fun o => OKV E c H w o _) (fun n => trivial) fun b o fz e r ex hg => ?_
  subst ex
  obtain ⟨B, k, hr, hv⟩ := hx
  cases hv
  obtain ⟨hlt, cs, lo, hi, hB, hone, -, -, pre, ys, post, hcs, hk, hs⟩ := hH.cells hg hr
  refine partK_spec (c := c) (Φ := fun o => OKV E c H w o _) (fun n => trivial) hs (fun y hy => hone y (by rw [hcs]; simp [hy])) fun a x hx hv => ?_
  refine OKV.here hH ?_ hv
  simp only [Instr.loadAt, Sem.run_bind, run_sureAddr, Result.andThen_ok]
  exact run_loadVar_part hB hcs hk hx

/-- a row of cells is laid anew, with cells of its own -/
theorem Hs.cellsUpd (hH : Hs E c H w) {b : Nat} {fz : Bool} {e : Nat} {r r' : AV} (hg : hget E H b = .cells fz e r) {B k : Nat} (hr : c.rho b = some (B, k))
    {cs cs' : Array Value} {lo hi : Nat} (hB : w.heap[B]? = some (.cells cs e (lo, hi))) (hone : ∀ y ∈ cs'.toList, y.oneCell' = true) (hsz : cs'.size = cs.size)
    {pre ys post : List Value} (hcs : cs'.toList = pre ++ (ys ++ post)) (hk : pre.length = k) (hs : S c r' ys) :
    Stp E c H w c (putH E H b (.cells fz e r')) (World.setB w B (.cells cs' e (lo, hi))) := by
  have hlt := hH.rlt b _ hr
  obtain ⟨-, cs0, lo0, hi0, hB0, -, hfz, hu8, -⟩ := hH.rawCells hg hr
  rw [hB] at hB0
  cases hB0
  refine hH.upd hlt (by rw [hg]; rfl) hr (setB_size _ _ _) (fun B' h => setB_other _ h _) ?_ (fun cs2 e2 fr2 he => by
    rw [hB] at he; cases he; exact ⟨cs', _, setB_same (block_lt hB) _, hsz⟩) rfl rfl rfl fun _ => ?_
  · intro ents clock he
    rw [hB] at he; cases he
  · exact ⟨(hH.baseMod hg hr).upd hB (setB_same (block_lt hB) _) hsz, cs', lo, hi, setB_same (block_lt hB) _, hone, fun h => by rw [hsz]; exact hfz h, hu8, pre, ys, post, hcs, hk, hs⟩

theorem S.cells_len {r : AV} {ys : List Value} (h : S c r ys) : rsize r = ys.length := rsize_spec h

/-- known values of one cell -/
theorem oneV_spec (hH : Hs E c H w) {v : AV} (h : oneV v = true) {x : Value} (hv : V c v x) : x.oneCell' = true := by
  cases v <;> simp only [oneV, Bool.false_eq_true] at h <;> simp only [V, S] at hv
  case sym i => cases hv; exact hH.sig i
  case bool b => cases hv; rfl
  case int k n => cases hv; rfl
  case str l => obtain ⟨s, e, -⟩ := hv; cases e; rfl
  case capv j o => obtain ⟨g, -, -, e⟩ := hv; cases e; rfl
  case ptr b o => obtain ⟨B, k, -, e⟩ := hv; cases e; rfl
  case nilp => cases hv; rfl
  case slice b o n cp => obtain ⟨B, k, o', cp, -, e, -⟩ := hv; cases e; rfl
  case nils => cases hv; rfl
  case mapv r => obtain ⟨B, -, e⟩ := hv; cases e; rfl
  case nilm => cases hv; rfl
  case func f a b => obtain ⟨x, y, e, -⟩ := hv; cases e; rfl
  case yield l => obtain ⟨B, -, e⟩ := hv; cases e; rfl
  case nilf => cases hv; rfl
  case iface t v => obtain ⟨x, e, -⟩ := hv; cases e; rfl
  case nili => cases hv; rfl

theorem cells_one {x : Value} (h : x.oneCell' = true) : x.cells = #[x] := by cases x <;> first | rfl | (simp [Value.oneCell'] at h)

theorem hStore_ok (hH : Hs E c H w) {t : TypeId} {p v : AV} {a x : Value} (hp : V c p a) (hv : V c v x) : OKU E c H w (hStore E t p v H) ((Instr.storeAt t a x).run E.P w) := by
  unfold hStore
  refine cellsAt_spec (Φ := fun o => OKU E c H w o _) (fun n => trivial) fun b o fz e r ex hg => ?_
  subst ex
  obtain ⟨B, k, hr, ha⟩ := hp
  cases ha
  obtain ⟨hlt, cs, lo, hi, hB, hone, hfz, hu8, pre, ys, post, hcs, hk, hs⟩ := hH.cells hg hr
  have hsz : cs.size = pre.length + (ys.length + post.length) := by rw [← Array.length_toList, hcs]; simp
  refine boolRec_spec (Φ := fun o => OKU E c H w o _) (fun hfz' => ?_) fun _ => trivial
  have hfz2 := hfz hfz'
  subst hfz'
  cases hty : tyK E.P t with
  | bad => exact trivial
  | one =>
    obtain ⟨i, d, hi', hu, h1, hag⟩ := tyK_one hty
    show OKU E c H w (forceV v _) _
    rw [forceV_eq]
    refine boolRec_spec (Φ := fun o => OKU E c H w o _) (fun _ => trivial) fun ho => ?_
    have hx1 := oneV_spec hH ho hv
    refine rset_spec (Φ := fun o => OKU E c H w o _) (OKU.fail _ _) hv hs fun r' hlt' hr' => ?_
    rw [hset_eq]
    refine ⟨rfl, _, c, ?_, hH.cellsUpd hg hr hB (cs' := cs.setIfInBounds (k + o) x) ?_ (by simp) (pre := pre) (ys := ys.set o x) (post := post) ?_ hk hr'⟩
    · simp only [Instr.storeAt, Sem.run_bind, run_sureAddr, Result.andThen_ok, storeVar, cells_one hx1, run_sizeOf' hi', h1, List.size_toArray, List.length_cons, List.length_nil]
      simp only [ne_eq, Nat.zero_add, not_true_eq_false, if_false, Sem.run_pure, storeCells, Sem.run_bind, addr_add, Nat.add_zero]
      rw [run_store_at hB hx1 (by omega) (hfz2 _ (by omega)) .plain]
      rfl
    · intro y hy
      rw [Array.toList_setIfInBounds] at hy
      rcases List.mem_or_eq_of_mem_set hy with h | h
      · exact hone y h
      · subst h; exact hx1
    · rw [Array.toList_setIfInBounds, hcs, List.set_append_right _ _ (by omega), List.set_append_left _ _ (by omega), show k + o - pre.length = o by omega]
  | agg n =>
    obtain ⟨i, d, hi', hu, h1, hag⟩ := tyK_agg hty
    refine onAgg_spec (Φ := fun o => OKU E c H w o _) (fun _ => trivial) fun rv ev => ?_
    subst ev
    obtain ⟨vs, ev, hvs, hvone⟩ := hv
    cases ev
    refine boolRec_spec (Φ := fun o => OKU E c H w o _) (fun _ => trivial) fun hn => ?_
    have hn' : vs.toList.length = n := by rw [← rsize_spec hvs]; simpa using hn
    refine rover_spec (Φ := fun o => OKU E c H w o _) (OKU.fail _ _) hs hvs fun r' hle hr' => ?_
    rw [hset_eq]
    have hov : overL cs.toList (k + o) vs.toList = pre ++ ((ys.take o ++ (vs.toList ++ ys.drop (o + vs.toList.length))) ++ post) := by
      unfold overL
      rw [hcs, List.take_append, List.take_of_length_le (l := pre) (by omega), hk, show k + o - k = o by omega, List.take_append_of_le_length (by omega)]
      rw [List.drop_append, List.drop_of_length_le (l := pre) (by omega), List.nil_append, hk, show k + o + vs.toList.length - k = o + vs.toList.length by omega, List.drop_append_of_le_length (by omega)]
      simp
    refine ⟨rfl, _, c, ?_, hH.cellsUpd hg hr hB (cs' := (overL cs.toList (k + o) vs.toList).toArray) ?_ ?_ (pre := pre) (ys := ys.take o ++ (vs.toList ++ ys.drop (o + vs.toList.length))) (post := post) hov hk hr'⟩
    · simp only [Instr.storeAt, Sem.run_bind, run_sureAddr, Result.andThen_ok, storeVar, run_sizeOf' hi', h1]
      rw [if_neg (show ¬ ((Value.agg vs).cells.size ≠ n) from by simpa [Value.cells] using hn')]
      have := run_storeCells_own (P := E.P) (o := k + o) vs.toList 0 cs w hB hvone (by omega) hfz2
      simpa [Value.cells] using this
    · intro y hy
      rw [hov] at hy
      simp only [List.mem_append] at hy
      rcases hy with h | (h | h | h) | h
      · exact hone y (by rw [hcs]; simp [h])
      · exact hone y (by rw [hcs]; simp [List.mem_of_mem_take h])
      · exact hvone y h
      · exact hone y (by rw [hcs]; simp [List.mem_of_mem_drop h])
      · exact hone y (by rw [hcs]; simp [h])
    · rw [List.size_toArray, hov]; simp only [List.length_append, List.length_take, List.length_drop]; omega

end
end Go.Eng
/- The engine's operations are the model's: constants, zero values, new blocks, structs, addresses, indexes. -/
namespace Go.Eng

section
variable {E : Env} {c : Cx} {H : Heap} {w : World}

/-! ### constants -/
theorem oneC_eq (v : Value) : oneC v = v.oneCell' := by cases v <;> rfl
theorem SL.map_abs {n : Nat} (h : ∀ v, V c (absV n v) v) : ∀ l : List Value, SL c (l.map (absV n)) l
  | [] => rfl
  | v :: l => ⟨v, l, rfl, h v, SL.map_abs h l⟩
theorem rofList_spec {l : List AV} {ys : List Value} (h : SL c l ys) : S c (rofList l) ys := by
  refine ofRs_spec _ (SR.of_SL h) ?_ (by omega)
  rw [Nat.add_sub_cancel]
  exact Nat.le_of_lt Nat.lt_two_pow_self
theorem absV_spec : ∀ (n : Nat) (v : Value), V c (absV n v) v
  | 0, v => ⟨v, rfl⟩
  | n + 1, v => by
    have ih := absV_spec n
    unfold absV
    split
    · exact rfl
    · exact rfl
    · exact ⟨_, rfl, rfl⟩
    · exact rfl
    · exact rfl
    · exact rfl
    · exact rfl
    · exact rfl
    · rename_i cs
      cases hall : cs.toList.all oneC with
      | true =>
        refine ⟨cs, rfl, rofList_spec (SL.map_abs ih _), fun y hy => ?_⟩
        rw [List.all_eq_true] at hall
        rw [← oneC_eq]; exact hall y hy
      | false => exact ⟨_, rfl⟩
    · exact ⟨_, rfl, rofList_spec (SL.map_abs ih _)⟩
    · exact ⟨_, rfl, ih _⟩
    · exact ⟨_, _, rfl, rofList_spec (SL.map_abs ih _), rofList_spec (SL.map_abs ih _)⟩
    · exact ⟨_, rfl⟩

theorem allOne_leaf {a : AV} (h : leafB a = true) : allOne a = oneV a := by cases a <;> first | (simp [leafB] at h; done) | rfl
theorem allOne_spec (hH : Hs E c H w) {a : AV} : ∀ {ys : List Value}, allOne a = true → S c a ys → ∀ y ∈ ys, y.oneCell' = true := by
  induction a with
  | rnil => rintro ys - h; cases h; simp
  | cat nl nr l r ihl ihr =>
    rintro ys h ⟨y, z, rfl, -, -, a, b⟩ x hx
    simp only [allOne, Bool.and_eq_true] at h
    rcases List.mem_append.1 hx with h' | h'
    · exact ihl h.1 a x h'
    · exact ihr h.2 b x h'
  | _ =>
    intro ys h hs y hy
    obtain ⟨x, rfl⟩ := S.leaf rfl hs
    rw [List.mem_singleton] at hy
    subst hy
    exact oneV_spec hH (by rw [← allOne_leaf rfl]; exact h) hs

theorem cellsV_spec (hH : Hs E c H w) {a : AV} {z : Value} (h : V c a z) (ho : allOne (cellsV a) = true) : S c (cellsV a) z.cells.toList := by
  cases a with
  | agg r => obtain ⟨cs, e, hs, -⟩ := h; cases e; exact hs
  | _ =>
    have := allOne_spec hH ho h z (by simp)
    rw [cells_one this]
    exact h
theorem zOK_spec (hH : Hs E c H w) {t : TypeId} (h : zOK E.P t = true) : ∃ i z, E.P.info? t = some i ∧ i.zero = some z ∧ V c (zeroT E.P t) z ∧
    S c (zeroC E.P t) z.cells.toList ∧ (∀ y ∈ z.cells.toList, y.oneCell' = true) ∧ z.cells.size = i.size ∧ rmkP.rsizeP (zeroC E.P t) = i.size := by
  unfold zOK at h
  cases e : E.P.info? t with
  | none => rw [e] at h; cases h
  | some i =>
    rw [e] at h
    simp only at h
    cases e2 : i.zero with
    | none => rw [e2] at h; cases h
    | some z =>
      rw [e2] at h
      simp only [Bool.and_eq_true] at h
      have hv : V c (zeroT E.P t) z := by simp only [zeroT, e, e2]; exact absV_spec _ _
      have hs : S c (zeroC E.P t) z.cells.toList := cellsV_spec hH hv h.1
      have hsz : rmkP.rsizeP (zeroC E.P t) = i.size := by simpa using h.2
      refine ⟨i, z, rfl, e2, hv, hs, allOne_spec hH h.1 hs, ?_, hsz⟩
      rw [← hsz, rsizeP_spec hs]; simp

/-! ### new blocks -/
def World.push (w : World) (o : Obj) : World := { w with heap := w.heap.push o }
theorem push_old (w : World) (o : Obj) {B : Nat} (h : B < w.heap.size) : (World.push w o).heap[B]? = w.heap[B]? := by
  show (w.heap.push o)[B]? = _
  rw [Array.getElem?_push, if_neg (Nat.ne_of_lt h)]
theorem push_new (w : World) (o : Obj) : (World.push w o).heap[w.heap.size]? = some o := by
  show (w.heap.push o)[w.heap.size]? = _
  rw [Array.getElem?_push, if_pos rfl]
theorem push_size (w : World) (o : Obj) : w.heap.size < (World.push w o).heap.size := by
  show _ < (w.heap.push o).size
  rw [Array.size_push]; omega

/-- a new row of cells, the world having drawn in between -/
theorem Hs.newCells (hH : Hs E c H w) (hlim : H.next < E.lim) {w' : World} {fz : Bool} {e : Nat} {r : AV} {cs : Array Value} {lo hi : Nat}
    (hsz : w.heap.size < w'.heap.size) (hoth : ∀ B', B' < w.heap.size → w'.heap[B']? = w.heap[B']?) (hn : w'.heap[w.heap.size]? = some (.cells cs e (lo, hi)))
    (ht : w'.tape = w.tape) (hos : w'.os = w.os) (hout : w'.output = w.output)
    (hone : ∀ y ∈ cs.toList, y.oneCell' = true) (hfz : fz = false → lo = hi ∨ cs.size ≤ lo) (hu8 : isU8 E.P e = false → lo = hi)
    (hwh : e = E.tbl → cs.size = E.P.cellsOf e)
    {ys post : List Value} (hcs : cs.toList = ys ++ post) (hs : S c r ys) :
    Stp E c H w (c.at H.next w.heap.size 0) (newH E H (.cells fz e r)) w' :=
  hH.new hlim hsz hoth ht hos hout ⟨⟨Nat.zero_mod _, fun he => ⟨rfl, fun cs2 fr2 h2 => by rw [hn] at h2; cases h2; exact hwh he⟩⟩, cs, lo, hi, hn, hone, hfz, hu8, [], ys, post, by simpa using hcs, rfl, hs.mono (Cx.at_le (hH.rho_next (Nat.le_refl _)))⟩
theorem at_self (c : Cx) (b B k : Nat) : (c.at b B k).rho b = some (B, k) := by simp [Cx.at]

theorem hnew_spec {Φ : OR → Prop} (hf : ∀ n, Φ (.fail n)) {x : AH} {k : Nat → Heap → OR} (hk : H.next < E.lim → Φ (k H.next (newH E H x))) : Φ (hnew E H x k) := by
  rw [hnew_eq]; split
  · rename_i h; exact hk h
  · exact hf _

theorem hnewR_spec {Φ : OR → Prop} (hf : ∀ n, Φ (.fail n)) {e : Nat} {r : AV} {k : Nat → Heap → OR} (hk : Nat.beq e E.tbl = false → H.next < E.lim → Φ (k H.next (newH E H (.cells false e r)))) : Φ (hnewR E H e r k) := by
  unfold hnewR
  cases hb : Nat.beq e E.tbl with
  | true => exact hf _
  | false => exact hnew_spec hf fun hlim => hk hb hlim

theorem hnewW_spec {Φ : OR → Prop} (hf : ∀ n, Φ (.fail n)) {e : Nat} {r : AV} {k : Nat → Heap → OR} (hk : (e = E.tbl → rsize r = E.P.cellsOf e) → H.next < E.lim → Φ (k H.next (newH E H (.cells false e r)))) : Φ (hnewW E H e r k) := by
  unfold hnewW
  cases hb : wholeB E e r with
  | false => exact hf _
  | true =>
    refine hnew_spec hf fun hlim => hk (fun he => ?_) hlim
    subst he
    unfold wholeB at hb
    rw [show Nat.beq E.tbl E.tbl = true from Nat.beq_refl _] at hb
    exact Nat.eq_of_beq_eq_true hb

theorem hAlloc_ok (hH : Hs E c H w) {t : TypeId} : OKV E c H w (hAlloc E t H) ((Instr.alloc t true (.tuple #[])).run E.P w) := by
  unfold hAlloc
  refine boolRec_spec (Φ := fun o => OKV E c H w o _) (fun _ => trivial) fun hz => ?_
  obtain ⟨i, z, hi, hz, hv, hs, hone, hsz, -⟩ := zOK_spec hH hz
  refine hnew_spec (Φ := fun o => OKV E c H w o _) (fun _ => trivial) fun hlim => ?_
  refine ⟨.pointer (some ⟨w.heap.size, 0, none⟩), World.push w (.cells z.cells t), _, ?_, hH.newCells hlim (cs := z.cells) (lo := 0) (hi := 0) (push_size _ _) (fun B h => push_old _ _ h) (push_new _ _) rfl rfl rfl hone (by omega) (fun _ => rfl) (fun _ => by rw [cellsOf_eq hi]; exact hsz) (ys := z.cells.toList) (post := []) (by simp) hs, ?_⟩
  · simp only [Instr.alloc, Sem.run_bind, run_zeroValue' hi hz, Result.andThen_ok, newVar, newRow, run_newObj, Sem.run_pure]
    rfl
  · exact ⟨w.heap.size, 0, at_self _ _ _ _, by simp⟩

theorem cellsK_spec (hH : Hs E c H w) {Φ : OR → Prop} (hf : ∀ n, Φ (.fail n)) {v : AV} {x : Value} {k : AV → OR} (hv : V c v x)
    (hk : ∀ r, S c r x.cells.toList → (∀ y ∈ x.cells.toList, y.oneCell' = true) → Φ (k r)) : Φ (cellsK v k) := by
  unfold cellsK
  refine onAgg_spec (fun _ => boolRec_spec (fun _ => hf _) fun ho => ?_) fun r e => ?_
  · have := oneV_spec hH ho hv
    exact hk v (by rw [cells_one this]; exact hv) (by rw [cells_one this]; simpa using this)
  · subst e
    obtain ⟨cs, e, hs, hone⟩ := hv
    cases e
    exact hk r hs hone

theorem hBox_ok (hH : Hs E c H w) {t : TypeId} {v : AV} {x : Value} (hv : V c v x) : OKV E c H w (hBox E t v H) ((Instr.box t x).run E.P w) := by
  unfold hBox
  refine cellsK_spec hH (Φ := fun o => OKV E c H w o _) (fun _ => trivial) hv fun r hs hone => ?_
  refine hnewW_spec (Φ := fun o => OKV E c H w o _) (fun _ => trivial) fun hne hlim => ?_
  refine ⟨.pointer (some ⟨w.heap.size, 0, none⟩), World.push w (.cells x.cells t), _, ?_, hH.newCells hlim (cs := x.cells) (lo := 0) (hi := 0) (push_size _ _) (fun B h => push_old _ _ h) (push_new _ _) rfl rfl rfl hone (by omega) (fun _ => rfl) (fun h => by rw [← hne h, rsize_spec hs, Array.length_toList]) (ys := x.cells.toList) (post := []) (by simp) hs, ?_⟩
  · simp only [Instr.box, Sem.run_bind, newVar, newRow, run_newObj, Result.andThen_ok, Sem.run_pure]
    rfl
  · exact ⟨w.heap.size, 0, at_self _ _ _ _, by simp⟩

/-! ### addresses -/
theorem ptrTo_ok (hH : Hs E c H w) {b o : Nat} {B k : Nat} (hr : c.rho b = some (B, k)) {r : Result Value} (h : r = .ok (.pointer (some ⟨B, k + o, none⟩)) w) : OKV E c H w (ptrTo b o H) r := by
  unfold ptrTo
  rw [forceN_eq]
  exact OKV.here hH h ⟨B, k, hr, rfl⟩

theorem fOff_spec {P : Program} {s : TypeId} {f off : Nat} (h : fOff P s f = some off) : ∃ fs x i, P.underlying s = some (.struct fs) ∧ fs[f]? = some x ∧ x.offset = off ∧ P.info? x.type = some i ∧ i.size ≠ 0 ∧ fType P s f = x.type := by
  unfold fOff at h
  split at h
  · rename_i fs hu
    split at h
    · rename_i x hx
      split at h
      · rename_i i hi
        split at h
        · cases h
        · rename_i hz
          cases h
          exact ⟨fs, x, i, hu, hx, rfl, hi, (fun h0 => by rw [h0] at hz; cases hz), by simp [fType, hu, hx]⟩
      · cases h
    · cases h
  · cases h

theorem hFieldAddr_ok (hH : Hs E c H w) {s : TypeId} {p : AV} {a : Value} {f : Nat} (hp : V c p a) : OKV E c H w (hFieldAddr E s p f H) ((Instr.fieldAt s a f).run E.P w) := by
  unfold hFieldAddr
  refine onPtr_spec (Φ := fun o => OKV E c H w o _) trivial fun b o e => ?_
  subst e
  obtain ⟨B, k, hr, ha⟩ := hp
  cases ha
  cases hoff : fOff E.P s f with
  | none => exact trivial
  | some off =>
    obtain ⟨fs, x, i, hu, hx, rfl, hi, hz, -⟩ := fOff_spec hoff
    refine ptrTo_ok hH hr ?_
    simp only [Instr.fieldAt, Sem.run_bind, run_underlying hu, Result.andThen_ok, hx, run_sureAddr, fieldPlace, run_sizeOf' hi]
    rw [if_neg hz, addr_add]
    simp only [Sem.run_pure, Result.andThen_ok, Nat.add_assoc]
    rfl

theorem hField_ok (hH : Hs E c H w) {s : TypeId} {v : AV} {x : Value} {f : Nat} (hv : V c v x) : OKV E c H w (hField E s v f H) ((Instr.field s x f).run E.P w) := by
  unfold hField
  refine onAgg_spec (Φ := fun o => OKV E c H w o _) (fun _ => trivial) fun r e => ?_
  subst e
  obtain ⟨cs, e, hs, hone⟩ := hv
  cases e
  cases hoff : fOff E.P s f with
  | none => exact trivial
  | some off =>
    obtain ⟨fs, y, i, hu, hx, rfl, hi, hz, hft⟩ := fOff_spec hoff
    refine partK_spec (c := c) (Φ := fun o => OKV E c H w o _) (fun n => trivial) hs hone fun a x hx' hv => ?_
    refine OKV.here hH ?_ hv
    rw [hft] at hx'
    simp only [Instr.field, Sem.run_bind, run_underlying hu, Result.andThen_ok, hx, asAgg, Sem.run_pure]
    exact run_part_of hx'

inductive IdxS (P : Program) (t : TypeId) : IdxK → Prop
  | arr (n : Nat) (e : TypeId) (i : TypeInfo) (h : P.underlying t = some (.array n e)) (hi : P.info? e = some i) (he : elemT P t = e) : IdxS P t (.arr n i.size)
  | sl (e : TypeId) (i : TypeInfo) (h : P.underlying t = some (.slice e)) (hi : P.info? e = some i) (he : elemT P t = e) : IdxS P t (.sl i.size)
  | str (h : P.underlying t = some .string) : IdxS P t .str
  | ptrArr (a : TypeId) (n : Nat) (e : TypeId) (i : TypeInfo) (h : P.underlying t = some (.pointer a)) (h' : P.underlying a = some (.array n e)) (hi : P.info? e = some i) : IdxS P t (.ptrArr n i.size)
  | other : IdxS P t .other
theorem idxK_spec (P : Program) (t : TypeId) : IdxS P t (idxK P t) := by
  unfold idxK
  split
  · rename_i n e h
    split
    · rename_i i hi; exact .arr n e i h hi (by simp [elemT, h])
    · exact .other
  · rename_i e h
    split
    · rename_i i hi; exact .sl e i h hi (by simp [elemT, h])
    · exact .other
  · rename_i h; exact .str h
  · rename_i a h
    split
    · rename_i n e h'
      split
      · rename_i i hi; exact .ptrArr a n e i h h' hi
      · exact .other
    · exact .other
  · exact .other

theorem V.int_inv {k : IntKind} {n : Int} {x : Value} (h : V c (.int k n) x) : x = .int k n := by simpa [S] using h

theorem hIndexAddr_ok (hH : Hs E c H w) {t : TypeId} {v i : AV} {x y : Value} (hv : V c v x) (hi : V c i y) : OKV E c H w (hIndexAddr E t v i H) ((Instr.indexAt t x y).run E.P w) := by
  unfold hIndexAddr
  refine onNat_spec (Φ := fun o => OKV E c H w o _) (fun _ => trivial) fun j m e => ?_
  subst e
  cases hi.int_inv
  have hs := idxK_spec E.P t
  cases hk : idxK E.P t with
  | arr len sz =>
    rw [hk] at hs
    cases hs with
    | arr _ e ti hu hti he =>
    refine onPtr_spec (Φ := fun o => OKV E c H w o _) trivial fun b o e => boolRec_spec (Φ := fun o => OKV E c H w o _) (fun _ => trivial) fun hlt => ?_
    subst e
    obtain ⟨B, k, hr, ha⟩ := hv
    cases ha
    have hlt' : m < len := by simpa using hlt
    refine ptrTo_ok hH hr ?_
    simp only [Instr.indexAt, Sem.run_bind, asIntOf, Sem.run_pure, Result.andThen_ok, run_underlying hu, run_sureAddr]
    rw [if_pos ⟨by simp only [Int.ofNat_eq_natCast]; omega, by simp only [Int.ofNat_eq_natCast]; omega⟩]
    simp only [Sem.run_bind, run_sizeOf' hti, Result.andThen_ok, Sem.run_pure, addr_add]
    simp only [Nat.add_assoc, Int.ofNat_eq_natCast, Int.toNat_natCast]
    rfl
  | sl sz =>
    rw [hk] at hs
    cases hs with
    | sl e ti hu hti he =>
    refine onSlice_spec (Φ := fun o => OKV E c H w o _) trivial (fun b o len cap e => boolRec_spec (Φ := fun o => OKV E c H w o _) (fun _ => trivial) fun hlt => ?_) fun _ => trivial
    subst e
    obtain ⟨B, k, o', cp, hr, ha, hc, hle, ho⟩ := hv
    cases ha
    have hlt' : m < len := by simpa using hlt
    have ho' : o' = k + o := by rcases ho with h | h <;> omega
    subst ho'
    refine ptrTo_ok hH hr ?_
    simp only [Instr.indexAt, Sem.run_bind, asIntOf, Sem.run_pure, Result.andThen_ok, run_underlying hu]
    rw [if_pos ⟨by simp only [Int.ofNat_eq_natCast]; omega, by simp only [Int.ofNat_eq_natCast]; omega⟩]
    simp only [Sem.run_bind, run_sizeOf' hti, Result.andThen_ok, Sem.run_pure, addr_add]
    simp only [Nat.add_assoc, Int.ofNat_eq_natCast, Int.toNat_natCast]
    rfl
  | _ => exact trivial

end
end Go.Eng
/- The engine's operations are the model's: indexes, slices, parts of literals, tuples, functions, interfaces. -/
namespace Go.Eng

section
variable {E : Env} {c : Cx} {H : Heap} {w : World}

theorem V.str_inv {l : List Nat} {x : Value} (h : V c (.str l) x) : ∃ s : ByteArray, x = .string s ∧ s.data.toList.map UInt8.toNat = l := by
  obtain ⟨s, e, hl⟩ := h
  cases e
  exact ⟨s, rfl, hl⟩

theorem snth_spec {Φ : OR → Prop} {d : OR} (hd : Φ d) {k : Nat → OR} : ∀ {l : List Nat} {i : Nat}, (∀ x, l[i]? = some x → Φ (k x)) → Φ (snth l i k d) := by
  intro l i
  induction i generalizing l with
  | zero =>
    intro h
    cases l with
    | nil => exact hd
    | cons x l => exact h x rfl
  | succ i ih =>
    intro h
    cases l with
    | nil => exact hd
    | cons x l => exact ih (l := l) fun y hy => h y (by simpa using hy)

theorem hIndex_ok (hH : Hs E c H w) {t : TypeId} {v i : AV} {x y : Value} (hv : V c v x) (hi : V c i y) : OKV E c H w (hIndex E t v i H) ((Instr.index t x y).run E.P w) := by
  unfold hIndex
  refine onNat_spec (Φ := fun o => OKV E c H w o _) (fun _ => trivial) fun j m e => ?_
  subst e
  cases hi.int_inv
  have hs := idxK_spec E.P t
  cases hk : idxK E.P t with
  | arr len sz =>
    rw [hk] at hs
    cases hs with
    | arr _ e ti hu hti he =>
    refine onAgg_spec (Φ := fun o => OKV E c H w o _) (fun _ => trivial) fun r er => boolRec_spec (Φ := fun o => OKV E c H w o _) (fun _ => trivial) fun hlt => ?_
    subst er
    obtain ⟨cs, e2, hs, hone⟩ := hv
    cases e2
    have hlt' : m < len := by simpa using hlt
    refine partK_spec (c := c) (Φ := fun o => OKV E c H w o _) (fun n => trivial) hs hone fun a x hx' hv => OKV.here hH ?_ hv
    rw [he] at hx'
    simp only [Instr.index, Sem.run_bind, asIntOf, Sem.run_pure, Result.andThen_ok, run_underlying hu]
    rw [if_pos ⟨by simp only [Int.ofNat_eq_natCast]; omega, by simp only [Int.ofNat_eq_natCast]; omega⟩]
    simp only [Sem.run_bind, run_sizeOf' hti, Result.andThen_ok, Int.ofNat_eq_natCast, Int.toNat_natCast]
    exact run_part_of hx'
  | str =>
    rw [hk] at hs
    cases hs with
    | str hu =>
    refine onStr_spec (Φ := fun o => OKV E c H w o _) trivial fun l el => snth_spec (Φ := fun o => OKV E c H w o _) (OKV.fail _ _) fun x hx => ?_
    subst el
    obtain ⟨s, rfl, hl⟩ := hv.str_inv
    subst hl
    rw [List.getElem?_map] at hx
    cases hb : s.data.toList[m]? with
    | none => rw [hb] at hx; cases hx
    | some b =>
      rw [hb] at hx
      simp only [Option.map_some, Option.some.injEq] at hx
      subst hx
      refine OKV.here hH (x := .int .u8 (b.toNat : Int)) ?_ rfl
      have : s[m]? = some b := by
        have hm : m < s.size := by
          have := (List.getElem?_eq_some_iff.1 hb).1
          simpa using this
        have h2 : s.data[m]? = some b := by rw [← Array.getElem?_toList]; exact hb
        rw [getElem?_pos s m hm]
        rw [Array.getElem?_eq_getElem (by simpa using hm)] at h2
        exact h2
      simp only [Instr.index, Sem.run_bind, asIntOf, Sem.run_pure, Result.andThen_ok, run_underlying hu]
      rw [if_pos (by simp only [Int.ofNat_eq_natCast]; omega)]
      simp only [Int.ofNat_eq_natCast, Int.toNat_natCast, this]
      rfl
  | _ => exact trivial

/-! ### slice expressions -/
/-- an optional bound, as the engine and as the model have it -/
def OptV (c : Cx) : Option AV → Option Value → Prop
  | none, none => True
  | some a, some x => V c a x
  | _, _ => False

theorem run_sliceBound {P : Program} {n most : Nat} (h : n ≤ most) (code : BoundsCode) (k : IntKind) : (Instr.sliceBound (.int k (.ofNat n)) most code).run P w = .ok n w := by
  simp only [Instr.sliceBound, asIntOf, Sem.run_bind, Sem.run_pure, Result.andThen_ok]
  rw [if_pos ⟨by simp only [Int.ofNat_eq_natCast]; omega, by simp only [Int.ofNat_eq_natCast]; omega⟩]
  simp only [Int.ofNat_eq_natCast, Int.toNat_natCast]
  rfl

/-- a bound that is told: the same number on both sides, at most so much -/
theorem bnd_spec {Φ : OR → Prop} (hf : ∀ n, Φ (.fail n)) {a : Option AV} {x : Option Value} (hv : OptV c a x) {dflt most : Nat} {k : Nat → OR}
    (hn : x = none → Φ (k dflt)) (hs : ∀ j n, x = some (.int j (.ofNat n)) → n ≤ most → Φ (k n)) : Φ (bnd a dflt most k) := by
  unfold bnd
  cases a with
  | none => cases x with
    | none => exact hn rfl
    | some y => exact hv.elim
  | some v => cases x with
    | none => exact hv.elim
    | some y =>
      refine onNat_spec hf fun j m e => ?_
      subst e
      cases V.int_inv (c := c) hv
      split
      · rename_i h; exact hs j m rfl (by simpa using h)
      · exact hf _

theorem slen_spec {Φ : OR → Prop} {l : List Nat} {k : Nat → OR} (h : Φ (k l.length)) : Φ (slen l k) := by
  unfold slen
  rw [forceN_eq]
  have : ∀ l : List Nat, List.rec (motive := fun _ => Nat) 0 (fun _ _ ih => Nat.succ ih) l = l.length := by
    intro l
    induction l with
    | nil => rfl
    | cons x l ih => show Nat.succ _ = _; rw [ih]; rfl
  rw [this]; exact h

theorem capBounds_spec (hH : Hs E c H w) {b o : Nat} {cap : ACap} {cp : Nat} (h : capOK c b o cap cp) : (capBounds cap H).1 ≤ cp ∧ ∀ h, (capBounds cap H).2 = some h → cp ≤ h := by
  unfold capBounds
  cases cap with
  | known n => cases h; exact ⟨Nat.le_refl _, fun h e => by cases e; exact Nat.le_refl _⟩
  | var j off =>
    obtain ⟨g, sz, hg, ho, rfl, -⟩ := h
    simp only
    split
    · rename_i lo hi e
      obtain ⟨g', h1, h2, h3⟩ := hH.cap j _ _ e
      rw [hg] at h1; cases h1
      exact ⟨by simp only [Nat.sub_eq]; omega, fun h e => by cases e; have := h3 _ rfl; simp only [Nat.sub_eq]; omega⟩
    · rename_i lo e
      obtain ⟨g', h1, h2, h3⟩ := hH.cap j _ _ e
      rw [hg] at h1; cases h1
      exact ⟨by simp only [Nat.sub_eq]; omega, fun h e => by cases e⟩
    · exact ⟨Nat.zero_le _, fun h e => by cases e⟩
theorem le_maxN (a b : Nat) : a ≤ maxN a b := by
  unfold maxN
  cases h : Nat.ble a b with
  | true => exact Nat.le_of_ble_eq_true h
  | false => exact Nat.le_refl _
theorem maxN_le {a b n : Nat} (h1 : a ≤ n) (h2 : b ≤ n) : maxN a b ≤ n := by unfold maxN; split <;> assumption

theorem subCap_ok {cap : ACap} {b o cp l sz : Nat} (h : capOK c b o cap cp) (hl : l ≤ cp) (hsz : ∀ j off, cap = .var j off → ∀ q, c.own j = some (b, q) → l * q = l * sz) :
    capOK c b (o + l * sz) (subCap cap l) (cp - l) := by
  cases cap with
  | known n => cases h; rfl
  | var j off =>
    obtain ⟨g, q, hg, ho, rfl, hq, rfl⟩ := h
    exact ⟨g, q, hg, by show off + l ≤ g; omega, by show g - off - l = g - (off + l); omega, hq, by
      show _ = (off + l) * q
      rw [Nat.add_mul, hsz j off rfl q hq]⟩

theorem sameSz_spec (hH : Hs E c H w) {Φ : OR → Prop} (hf : ∀ n, Φ (.fail n)) {b : Nat} {cap : ACap} {l sz : Nat} {k : OR} {B' k' : Nat} (hr : c.rho b = some (B', k'))
    (hg : ∀ j off, cap = .var j off → ∃ g, c.gam j = some g)
    (hk : (∀ j off, cap = .var j off → ∀ q, c.own j = some (b, q) → l * q = l * sz) → Φ k) : Φ (sameSz E H b cap l sz k) := by
  unfold sameSz
  split
  · exact hk fun j off e => by cases e
  · rename_i j off
    split
    · rename_i h
      have := Nat.eq_of_beq_eq_true h
      subst this
      exact hk fun j off e q hq => by simp
    · refine onCells_spec (hf _) fun f e r hget => ?_
      split
      · rename_i h
        refine hk fun j' off' e' q hq => ?_
        cases e'
        obtain ⟨g, hg⟩ := hg j off rfl
        obtain ⟨B, k2, cs, e2, fr, h1, h2, h3, h4⟩ := hH.own j g b q hg hq
        obtain ⟨-, cs', lo, hi, hB, -⟩ := hH.cells hget h1
        rw [h2] at hB
        cases hB
        rw [h3, Nat.eq_of_beq_eq_true h]
      · exact hf _

/-- the bounds of a slice expression, run -/
theorem run_sliceBounds {P : Program} {isS : Bool} {len cap : Nat} {lo hi mx : Option Value} {l h m : Nat}
    (hm : (mx = none ∧ m = cap) ∨ ∃ j, mx = some (.int j (.ofNat m)) ∧ m ≤ cap)
    (hh : (hi = none ∧ mx = none ∧ h = len) ∨ ∃ j, hi = some (.int j (.ofNat h)) ∧ h ≤ m)
    (hl : (lo = none ∧ l = 0) ∨ ∃ j, lo = some (.int j (.ofNat l)) ∧ l ≤ h) :
    (Instr.sliceBounds isS len cap lo hi mx).run P w = .ok (l, h, m) w := by
  unfold Instr.sliceBounds
  rcases hm with ⟨rfl, rfl⟩ | ⟨jm, rfl, hm⟩
  · rcases hh with ⟨rfl, -, rfl⟩ | ⟨jh, rfl, hh⟩
    · rcases hl with ⟨rfl, rfl⟩ | ⟨jl, rfl, hl⟩
      · rfl
      · simp only [Sem.run_bind, Sem.run_pure, Result.andThen_ok, run_sliceBound hl]
    · rcases hl with ⟨rfl, rfl⟩ | ⟨jl, rfl, hl⟩
      · simp only [Sem.run_bind, Sem.run_pure, Result.andThen_ok, run_sliceBound hh]
      · simp only [Sem.run_bind, Sem.run_pure, Result.andThen_ok, run_sliceBound hh, run_sliceBound hl]
  · rcases hh with ⟨-, h0, -⟩ | ⟨jh, rfl, hh⟩
    · cases h0
    · rcases hl with ⟨rfl, rfl⟩ | ⟨jl, rfl, hl⟩
      · simp only [Sem.run_bind, Sem.run_pure, Result.andThen_ok, run_sliceBound hm, run_sliceBound hh]
      · simp only [Sem.run_bind, Sem.run_pure, Result.andThen_ok, run_sliceBound hm, run_sliceBound hh, run_sliceBound hl]

theorem sliceAt_of_not_array {P : Program} {t : TypeId} {d : TypeDesc} (hu : P.underlying t = some d) (hd : ∀ n e, d ≠ .array n e) (x : Value) (lo hi mx : Option Value) :
    (Instr.sliceAt t x lo hi mx).run P w = (Instr.slice t x lo hi mx).run P w := by
  simp only [Instr.sliceAt, Sem.run_bind, run_underlying hu, Result.andThen_ok]

/-- what three bounds come to, as both sides have them -/
structure Bnds (lo hi mx : Option Value) (len cap l h m : Nat) : Prop where
  hm : (mx = none ∧ m = cap) ∨ ∃ j, mx = some (.int j (.ofNat m)) ∧ m ≤ cap
  hh : (hi = none ∧ mx = none ∧ h = len) ∨ ∃ j, hi = some (.int j (.ofNat h)) ∧ h ≤ m
  hl : (lo = none ∧ l = 0) ∨ ∃ j, lo = some (.int j (.ofNat l)) ∧ l ≤ h

theorem bnds_spec {Φ : OR → Prop} (hf : ∀ n, Φ (.fail n)) {lo hi mx : Option AV} {xlo xhi xmx : Option Value} (hlo : OptV c lo xlo) (hhi : OptV c hi xhi) (hmx : OptV c mx xmx)
    {len cap : Nat} {k : Nat → Nat → Nat → OR} (hk : ∀ l h m, Bnds xlo xhi xmx len cap l h m → Φ (k l h m)) : Φ (bnds lo hi mx len cap k) := by
  unfold bnds
  cases mx with
  | none =>
    cases xmx with
    | some _ => exact hmx.elim
    | none =>
      refine bnd_spec hf hhi (fun eh => ?_) fun jh h eh hh => ?_
      · exact bnd_spec hf hlo (fun el => hk _ _ _ ⟨.inl ⟨rfl, rfl⟩, .inl ⟨eh, rfl, rfl⟩, .inl ⟨el, rfl⟩⟩) fun jl l el hl => hk _ _ _ ⟨.inl ⟨rfl, rfl⟩, .inl ⟨eh, rfl, rfl⟩, .inr ⟨jl, el, hl⟩⟩
      · exact bnd_spec hf hlo (fun el => hk _ _ _ ⟨.inl ⟨rfl, rfl⟩, .inr ⟨jh, eh, hh⟩, .inl ⟨el, rfl⟩⟩) fun jl l el hl => hk _ _ _ ⟨.inl ⟨rfl, rfl⟩, .inr ⟨jh, eh, hh⟩, .inr ⟨jl, el, hl⟩⟩
  | some vm =>
    cases xmx with
    | none => exact hmx.elim
    | some ym =>
      cases hi with
      | none => exact hf _
      | some vh =>
        cases xhi with
        | none => exact hhi.elim
        | some yh =>
          refine bnd_spec hf hmx (fun em => by cases em) fun jm m em hm => ?_
          refine bnd_spec hf hhi (fun eh => by cases eh) fun jh h eh hh => ?_
          exact bnd_spec hf hlo (fun el => hk _ _ _ ⟨.inr ⟨jm, em, hm⟩, .inr ⟨jh, eh, hh⟩, .inl ⟨el, rfl⟩⟩) fun jl l el hl => hk _ _ _ ⟨.inr ⟨jm, em, hm⟩, .inr ⟨jh, eh, hh⟩, .inr ⟨jl, el, hl⟩⟩

theorem Bnds.run {P : Program} {isS : Bool} {lo hi mx : Option Value} {len cap l h m : Nat} (b : Bnds lo hi mx len cap l h m) :
    (Instr.sliceBounds isS len cap lo hi mx).run P w = .ok (l, h, m) w := run_sliceBounds b.hm b.hh b.hl
theorem Bnds.le {lo hi mx : Option Value} {len cap l h m : Nat} (b : Bnds lo hi mx len cap l h m) (hle : len ≤ cap) : l ≤ h ∧ h ≤ m ∧ m ≤ cap := by
  obtain ⟨hm, hh, hl⟩ := b
  have h1 : m ≤ cap := by rcases hm with ⟨-, rfl⟩ | ⟨_, -, h⟩ <;> omega
  have h2 : h ≤ m := by
    rcases hh with ⟨-, h0, rfl⟩ | ⟨_, -, h⟩
    · rcases hm with ⟨-, rfl⟩ | ⟨_, h3, -⟩
      · exact hle
      · rw [h0] at h3; cases h3
    · exact h
  have h3 : l ≤ h := by rcases hl with ⟨-, rfl⟩ | ⟨_, -, h⟩ <;> omega
  exact ⟨h3, h2, h1⟩

/-- the address behind a slice expression -/
theorem slice_addr {B k o l sz m o' : Nat} (h : o' = k + o ∨ m = 0) (hl : l ≤ m) :
    (if m = l then (some ⟨B, o', none⟩ : Option Addr) else (some ⟨B, o', none⟩ : Option Addr).map (·.add (l * sz))) = some ⟨B, if m = l then o' else o' + l * sz, none⟩ := by
  split
  · rfl
  · simp [addr_add]

theorem sliceArr_ok (hH : Hs E c H w) {len sz b o : Nat} {B k : Nat} (hr : c.rho b = some (B, k)) {lo hi mx : Option AV} {xlo xhi xmx : Option Value}
    (hlo : OptV c lo xlo) (hhi : OptV c hi xhi) (hmx : OptV c mx xmx) {r : Result Value}
    (h : ∀ l h m, Bnds xlo xhi xmx len len l h m → r = .ok (.slice (some (if m = l then ⟨B, k + o, none⟩ else Addr.add ⟨B, k + o, none⟩ (l * sz))) (h - l) (m - l)) w) :
    OKV E c H w (sliceArr len sz b o lo hi mx H) r := by
  unfold sliceArr
  refine bnds_spec (Φ := fun o => OKV E c H w o _) (fun _ => trivial) hlo hhi hmx fun l h' m hb => ?_
  rw [forceN_eq, forceN_eq, forceN_eq]
  have hle := hb.le (Nat.le_refl _)
  refine OKV.here hH (h l h' m hb) ⟨B, k, if m = l then k + o else k + o + l * sz, m - l, hr, ?_, rfl, by show h' - l ≤ m - l; omega, ?_⟩
  · split
    · rfl
    · rw [addr_add]; rfl
  · split
    · right; omega
    · left; show k + o + l * sz = k + (o + l * sz); omega

theorem hSlice_ok (hH : Hs E c H w) {t : TypeId} {v : AV} {x : Value} {lo hi mx : Option AV} {xlo xhi xmx : Option Value} (hv : V c v x)
    (hlo : OptV c lo xlo) (hhi : OptV c hi xhi) (hmx : OptV c mx xmx) : OKV E c H w (hSlice E t v lo hi mx H) ((Instr.sliceAt t x xlo xhi xmx).run E.P w) := by
  have hf : ∀ (r : Result Value) (n : Nat), OKV E c H w (.fail n) r := fun _ _ => trivial
  have hs := idxK_spec E.P t
  unfold hSlice
  split
  · -- a string
    rename_i s hk
    rw [hk] at hs
    cases hs with
    | str hu =>
    rw [sliceAt_of_not_array hu (fun _ _ h => by cases h)]
    obtain ⟨str, rfl, hl⟩ := hv.str_inv
    cases mx with
    | some m => exact trivial
    | none =>
      cases xmx with
      | some _ => exact hmx.elim
      | none =>
        have hsz : s.length = str.size := by rw [← hl]; simp
        refine slen_spec (Φ := fun o => OKV E c H w o _) ?_
        refine bnds_spec (Φ := fun o => OKV E c H w o _) (hf _) hlo hhi hmx fun l h m hb => ?_
        refine OKV.here hH (x := .string (str.extract l h)) ?_ ⟨_, rfl, ?_⟩
        · simp only [Instr.slice, Sem.run_bind, run_underlying hu, Result.andThen_ok, Option.isSome_none, Bool.false_eq_true, if_false, Sem.run_pure]
          rw [← hsz, hb.run]
          rfl
        · rw [ByteArray.data_extract, Array.toList_extract, List.extract_eq_take_drop, List.map_take, List.map_drop, hl]
          rfl
  · -- a nil slice
    rename_i sz hk
    rw [hk] at hs
    cases hs with
    | sl e ti hu hti he =>
    rw [sliceAt_of_not_array hu (fun _ _ h => by cases h)]
    have hx : x = .slice none 0 0 := by simpa [S] using hv
    subst hx
    refine bnds_spec (Φ := fun o => OKV E c H w o _) (hf _) hlo hhi hmx fun l h m hb => ?_
    have hle := hb.le (Nat.le_refl _)
    have m0 : m = 0 := by omega
    have h0 : h = 0 := by omega
    have l0 : l = 0 := by omega
    subst m0 h0 l0
    refine OKV.here hH (x := .slice none 0 0) ?_ rfl
    simp only [Instr.slice, Sem.run_bind, run_underlying hu, Result.andThen_ok]
    rw [hb.run]
    simp only [Result.andThen_ok, Sem.run_bind, run_sizeOf' hti, Sem.run_pure]
    simp
  · -- a slice
    rename_i sz b o len cap hk
    rw [hk] at hs
    cases hs with
    | sl e ti hu hti he =>
    rw [sliceAt_of_not_array hu (fun _ _ h => by cases h)]
    obtain ⟨B, k, o', cp, hr, ha, hc, hlen, ho⟩ := hv
    cases ha
    have hmost : maxN len (capBounds cap H).1 ≤ cp := maxN_le hlen (capBounds_spec hH hc).1
    have hlm : len ≤ maxN len (capBounds cap H).1 := le_maxN _ _
    refine bnds_spec (Φ := fun o => OKV E c H w o _) (hf _) hlo hhi hmx fun l h m hb => ?_
    refine sameSz_spec hH (Φ := fun o => OKV E c H w o _) (hf _) hr (fun j off e => by subst e; obtain ⟨g, q, hg, -⟩ := hc; exact ⟨g, hg⟩) fun hsz => ?_
    rw [forceN_eq, forceN_eq]
    have hle := hb.le hlm
    -- the model's own bound
    obtain ⟨m', hb', hmm⟩ : ∃ m', Bnds xlo xhi xmx len cp l h m' ∧ ((xmx = none ∧ m' = cp) ∨ (xmx ≠ none ∧ m' = m)) := by
      rcases hb.hm with ⟨e, -⟩ | ⟨j, e, hm⟩
      · refine ⟨cp, ⟨.inl ⟨e, rfl⟩, ?_, hb.hl⟩, .inl ⟨e, rfl⟩⟩
        rcases hb.hh with h1 | ⟨j, h1, h2⟩
        · exact .inl h1
        · exact .inr ⟨j, h1, by omega⟩
      · exact ⟨m, ⟨.inr ⟨j, e, by omega⟩, hb.hh, hb.hl⟩, .inr ⟨by rw [e]; simp, rfl⟩⟩
    have hle' := hb'.le hlen
    refine OKV.here hH (x := .slice (some ⟨B, if m' = l then o' else o' + l * ti.size, none⟩) (h - l) (m' - l)) ?_ ⟨B, k, if m' = l then o' else o' + l * ti.size, m' - l, hr, rfl, ?_, ?_, ?_⟩
    · simp only [Instr.slice, Sem.run_bind, run_underlying hu, Result.andThen_ok]
      rw [hb'.run]
      simp only [Result.andThen_ok, Sem.run_bind, run_sizeOf' hti, Sem.run_pure]
      congr 2
      split
      · rfl
      · simp [addr_add]
    · rcases hmm with ⟨e, rfl⟩ | ⟨e, rfl⟩
      · cases mx with
        | none => exact subCap_ok hc (by omega) hsz
        | some v => subst e; exact hmx.elim
      · cases mx with
        | none => cases xmx with
          | none => exact absurd rfl e
          | some _ => exact hmx.elim
        | some v => rfl
    · show h - l ≤ m' - l; omega
    · split
      · right; omega
      · left
        have : o' = k + o := by rcases ho with h1 | h1 <;> omega
        subst this
        show k + o + l * ti.size = k + (o + l * ti.size); omega
  · -- a pointer to an array
    rename_i len sz b o hk
    rw [hk] at hs
    cases hs with
    | ptrArr a _ e ti hu hu' hti =>
    rw [sliceAt_of_not_array hu (fun _ _ h => by cases h)]
    obtain ⟨B, k, hr, ha⟩ := hv
    cases ha
    refine sliceArr_ok hH hr hlo hhi hmx fun l h m hb => ?_
    simp only [Instr.slice, Sem.run_bind, run_underlying hu, Result.andThen_ok, asAddr, Sem.run_pure, run_underlying hu']
    rw [hb.run]
    simp only [Result.andThen_ok, Sem.run_bind, run_sizeOf' hti, Sem.run_pure]
  · -- an array's address
    rename_i len sz b o hk
    rw [hk] at hs
    cases hs with
    | arr _ e ti hu hti he =>
    obtain ⟨B, k, hr, ha⟩ := hv
    cases ha
    refine sliceArr_ok hH hr hlo hhi hmx fun l h m hb => ?_
    simp only [Instr.sliceAt, Sem.run_bind, run_underlying hu, Result.andThen_ok, run_sureAddr]
    rw [hb.run]
    simp only [Result.andThen_ok, Sem.run_bind, run_sizeOf' hti, Sem.run_pure]
  · exact trivial

end
end Go.Eng
/- The engine's operations are the model's: numbers, strings. -/
namespace Go.Eng

section
variable {E : Env} {c : Cx} {H : Heap} {w : World}

/-! ### results that are plain -/
theorem mkN_eq (k : IntKind) (n : Nat) (H : Heap) : mkN k n H = .val (.int k (.ofNat n)) H := by cases n <;> rfl
theorem mkNeg_eq (k : IntKind) (n : Nat) (H : Heap) : mkNeg k n H = .val (.int k (.negSucc n)) H := by cases n <;> rfl
theorem mkI_eq (k : IntKind) (n : Int) (H : Heap) : mkI k n H = .val (.int k n) H := by
  cases n with
  | ofNat m => exact mkN_eq k m H
  | negSucc m => exact mkNeg_eq k m H
theorem mkB_eq (b : Bool) (H : Heap) : mkB b H = .val (.bool b) H := by cases b <;> rfl
theorem OKV.int (hH : Hs E c H w) {k : IntKind} {n : Int} {r : Result Value} (hr : r = .ok (.int k n) w) : OKV E c H w (.val (.int k n) H) r := OKV.here hH hr rfl
theorem OKV.bool (hH : Hs E c H w) {b : Bool} {r : Result Value} (hr : r = .ok (.bool b) w) : OKV E c H w (mkB b H) r := by rw [mkB_eq]; exact OKV.here hH hr rfl

theorem orOf_ok (hH : Hs E c H w) (s : Sem Value) : OKV E c H w (orOf H s) (s.run E.P w) := by
  unfold orOf
  split
  · split <;> exact OKV.here hH rfl rfl
  · rename_i k n
    split
    · split <;> exact OKV.here hH rfl rfl
    · split <;> exact OKV.here hH rfl rfl
  · trivial

/-! ### whole numbers -/
theorem kEq_spec {j k : IntKind} (h : kEq j k = true) : j = k := by cases j <;> cases k <;> first | rfl | (simp [kEq, kidx] at h)
theorem kEq_refl (k : IntKind) : kEq k k = true := by cases k <;> rfl
theorem ltI_eq (a b : Int) : ltI a b = decide (a < b) := by
  cases a with
  | ofNat m => cases b with
    | ofNat n => show Nat.blt m n = _; rw [Bool.eq_iff_iff]; simp
    | negSucc n => show false = _; symm; rw [decide_eq_false_iff_not]; simp only [Int.ofNat_eq_natCast, Int.negSucc_eq]; omega
  | negSucc m => cases b with
    | ofNat n => show true = _; symm; rw [decide_eq_true_iff]; simp only [Int.ofNat_eq_natCast, Int.negSucc_eq]; omega
    | negSucc n => show Nat.blt n m = _; rw [Bool.eq_iff_iff]; simp only [Nat.blt_eq, decide_eq_true_eq, Int.negSucc_eq]; omega
theorem eqI_eq (a b : Int) : eqI a b = (a == b) := by
  cases a with
  | ofNat m => cases b with
    | ofNat n => show Nat.beq m n = _; rw [Bool.eq_iff_iff]; simp only [Nat.beq_eq, beq_iff_eq, Int.ofNat.injEq]
    | negSucc n => show false = _; symm; rw [beq_eq_false_iff_ne]; intro h; cases h
  | negSucc m => cases b with
    | ofNat n => show false = _; symm; rw [beq_eq_false_iff_ne]; intro h; cases h
    | negSucc n => show Nat.beq m n = _; rw [Bool.eq_iff_iff]; simp

theorem binGen_ok (hH : Hs E c H w) (op : BinOp) (t : TypeId) (k : IntKind) (a : Int) (j : IntKind) (b : Int) :
    OKV E c H w (binGen op k a j b H) ((Go.binOp op t (.int k a) (.int j b)).run E.P w) := by
  have : Go.binOp op 0 (.int k a) (.int j b) = Go.binOp op t (.int k a) (.int j b) := by cases op <;> rfl
  unfold binGen
  rw [this]
  exact orOf_ok hH _

theorem onNats_spec {Φ : OR → Prop} {op : BinOp} {k : IntKind} {a b : Int} {f : Nat → Nat → OR} (hg : Φ (binGen op k a k b H)) (hk : ∀ m n, a = .ofNat m → b = .ofNat n → Φ (f m n)) :
    Φ (onNats op k a b H f) := by
  cases a with
  | ofNat m => cases b with
    | ofNat n => exact hk m n rfl rfl
    | negSucc n => exact hg
  | negSucc m => cases b <;> exact hg

theorem wrap_small {k : IntKind} {n : Nat} (h : n ≤ klim k) : k.wrap (n : Int) = n := by
  cases k <;> simp only [klim] at h <;> simp [IntKind.wrap, IntKind.bits, IntKind.signed] <;> omega

theorem sameK_spec {Φ : OR → Prop} (hf : ∀ n, Φ (.fail n)) {k j : IntKind} {x : OR} (h : k = j → Φ x) : Φ (sameK k j x) := by
  unfold sameK
  exact boolRec_spec (fun _ => hf _) fun e => h (kEq_spec e)

theorem run_binII (P : Program) (w : World) (t : TypeId) (op : BinOp) (h : op ≠ .shl ∧ op ≠ .shr) (k : IntKind) (a b : Int) :
    (Go.binOp op t (.int k a) (.int k b)).run P w = (match op with
    | .add | .sub | .mul => Op.intArith op k a b
    | .quo | .rem => Op.intDiv op k a b
    | .and | .or | .xor | .andNot => Op.intBits op k a b
    | _ => Op.intCmp op a b).run P w := by
  cases op <;> first | (exact absurd rfl h.1) | (exact absurd rfl h.2) | (simp [Go.binOp])

theorem wrapN_ok (hH : Hs E c H w) {op : BinOp} {t : TypeId} {k : IntKind} {m n s : Nat} (hs : s ≤ klim k → (Go.binOp op t (.int k (.ofNat m)) (.int k (.ofNat n))).run E.P w = .ok (.int k (.ofNat s)) w) :
    OKV E c H w (wrapN op k m n s H) ((Go.binOp op t (.int k (.ofNat m)) (.int k (.ofNat n))).run E.P w) := by
  unfold wrapN
  refine boolRec_spec (Φ := fun o => OKV E c H w o _) (fun _ => binGen_ok hH ..) fun h => ?_
  rw [mkN_eq]
  exact OKV.int hH (hs (by simpa using h))

theorem bits_lt {k : IntKind} {n : Nat} (h : n ≤ klim k) : n < 2 ^ k.bits := by cases k <;> simp only [klim, IntKind.bits] at * <;> omega
theorem toNat_ofInt {k : IntKind} {n : Nat} (h : n ≤ klim k) : (BitVec.ofInt k.bits (n : Int)).toNat = n := by
  rw [BitVec.ofInt_natCast, BitVec.toNat_ofNat, Nat.mod_eq_of_lt (bits_lt h)]
theorem klim_pow (k : IntKind) : ∃ p, klim k = 2 ^ p - 1 := by
  cases k <;> first | exact ⟨7, rfl⟩ | exact ⟨15, rfl⟩ | exact ⟨31, rfl⟩ | exact ⟨63, rfl⟩ | exact ⟨8, rfl⟩ | exact ⟨16, rfl⟩ | exact ⟨32, rfl⟩ | exact ⟨64, rfl⟩
theorem bitN_ok (hH : Hs E c H w) {op : BinOp} {t : TypeId} {k : IntKind} {m n r : Nat} (hop : op = .and ∧ r = m &&& n ∨ op = .or ∧ r = m ||| n ∨ op = .xor ∧ r = m ^^^ n) :
    OKV E c H w (bitN op k m n r H) ((Go.binOp op t (.int k (.ofNat m)) (.int k (.ofNat n))).run E.P w) := by
  unfold bitN
  refine boolRec_spec (Φ := fun o => OKV E c H w o _) (fun _ => binGen_ok hH ..) fun h => ?_
  rw [Bool.and_eq_true] at h
  have hm : m ≤ klim k := by simpa using h.1
  have hn : n ≤ klim k := by simpa using h.2
  obtain ⟨p, hp⟩ := klim_pow k
  have h1 : m < 2 ^ p := by have := Nat.two_pow_pos p; omega
  have h2 : n < 2 ^ p := by have := Nat.two_pow_pos p; omega
  rw [mkN_eq]
  refine OKV.int hH ?_
  rcases hop with ⟨rfl, rfl⟩ | ⟨rfl, rfl⟩ | ⟨rfl, rfl⟩
  · have := Nat.and_lt_two_pow m h2
    rw [run_binII _ _ _ _ ⟨by simp, by simp⟩]
    simp only [Op.intBits, Int.ofNat_eq_natCast, BitVec.toNat_and, toNat_ofInt hm, toNat_ofInt hn, Sem.run_pure]
    rw [wrap_small (by omega)]
  · have := Nat.or_lt_two_pow h1 h2
    rw [run_binII _ _ _ _ ⟨by simp, by simp⟩]
    simp only [Op.intBits, Int.ofNat_eq_natCast, BitVec.toNat_or, toNat_ofInt hm, toNat_ofInt hn, Sem.run_pure]
    rw [wrap_small (by omega)]
  · have := Nat.xor_lt_two_pow h1 h2
    rw [run_binII _ _ _ _ ⟨by simp, by simp⟩]
    simp only [Op.intBits, Int.ofNat_eq_natCast, BitVec.toNat_xor, toNat_ofInt hm, toNat_ofInt hn, Sem.run_pure]
    rw [wrap_small (by omega)]

theorem binII_ok (hH : Hs E c H w) (op : BinOp) (t : TypeId) (k : IntKind) (a : Int) (j : IntKind) (b : Int) :
    OKV E c H w (binII op k a j b H) ((Go.binOp op t (.int k a) (.int j b)).run E.P w) := by
  have hf : ∀ n, OKV E c H w (.fail n) ((Go.binOp op t (.int k a) (.int j b)).run E.P w) := fun _ => trivial
  cases op with
  | add =>
    refine sameK_spec (Φ := fun o => OKV E c H w o _) hf fun e => ?_
    subst e
    refine onNats_spec (Φ := fun o => OKV E c H w o _) (binGen_ok hH ..) fun m n ea eb => ?_
    subst ea eb
    refine wrapN_ok hH fun h => ?_
    rw [run_binII _ _ _ _ ⟨by simp, by simp⟩]
    simp only [Op.intArith, Int.ofNat_eq_natCast, Sem.run_pure]
    have h' : m + n ≤ klim k := h
    rw [show ((m : Int) + n) = ((m + n : Nat) : Int) by omega, wrap_small h']
    rfl
  | sub =>
    refine sameK_spec (Φ := fun o => OKV E c H w o _) hf fun e => ?_
    subst e
    refine onNats_spec (Φ := fun o => OKV E c H w o _) (binGen_ok hH ..) fun m n ea eb => ?_
    subst ea eb
    refine boolRec_spec (Φ := fun o => OKV E c H w o _) (fun _ => binGen_ok hH ..) fun hle => wrapN_ok hH fun h => ?_
    have hle' : n ≤ m := by simpa using hle
    rw [run_binII _ _ _ _ ⟨by simp, by simp⟩]
    simp only [Op.intArith, Int.ofNat_eq_natCast, Sem.run_pure]
    have h' : m - n ≤ klim k := h
    rw [show ((m : Int) - n) = ((m - n : Nat) : Int) by omega, wrap_small h']
    rfl
  | mul =>
    refine sameK_spec (Φ := fun o => OKV E c H w o _) hf fun e => ?_
    subst e
    refine onNats_spec (Φ := fun o => OKV E c H w o _) (binGen_ok hH ..) fun m n ea eb => ?_
    subst ea eb
    refine wrapN_ok hH fun h => ?_
    rw [run_binII _ _ _ _ ⟨by simp, by simp⟩]
    simp only [Op.intArith, Int.ofNat_eq_natCast, Sem.run_pure]
    have h' : m * n ≤ klim k := h
    rw [show ((m : Int) * n) = ((m * n : Nat) : Int) by simp, wrap_small h']
    rfl
  | and =>
    refine sameK_spec (Φ := fun o => OKV E c H w o _) hf fun e => ?_
    subst e
    refine onNats_spec (Φ := fun o => OKV E c H w o _) (binGen_ok hH ..) fun m n ea eb => ?_
    subst ea eb
    exact bitN_ok hH (.inl ⟨rfl, rfl⟩)
  | or =>
    refine sameK_spec (Φ := fun o => OKV E c H w o _) hf fun e => ?_
    subst e
    refine onNats_spec (Φ := fun o => OKV E c H w o _) (binGen_ok hH ..) fun m n ea eb => ?_
    subst ea eb
    exact bitN_ok hH (.inr (.inl ⟨rfl, rfl⟩))
  | xor =>
    refine sameK_spec (Φ := fun o => OKV E c H w o _) hf fun e => ?_
    subst e
    refine onNats_spec (Φ := fun o => OKV E c H w o _) (binGen_ok hH ..) fun m n ea eb => ?_
    subst ea eb
    exact bitN_ok hH (.inr (.inr ⟨rfl, rfl⟩))
  | quo => exact binGen_ok hH ..
  | rem => exact binGen_ok hH ..
  | shl => exact binGen_ok hH ..
  | shr => exact binGen_ok hH ..
  | andNot => exact binGen_ok hH ..
  | eql =>
    refine sameK_spec (Φ := fun o => OKV E c H w o _) hf fun e => ?_
    subst e
    refine OKV.bool hH ?_
    rw [run_binII _ _ _ _ ⟨by simp, by simp⟩, eqI_eq]; rfl
  | neq =>
    refine sameK_spec (Φ := fun o => OKV E c H w o _) hf fun e => ?_
    subst e
    refine OKV.bool hH ?_
    rw [run_binII _ _ _ _ ⟨by simp, by simp⟩, eqI_eq]; rfl
  | lss =>
    refine sameK_spec (Φ := fun o => OKV E c H w o _) hf fun e => ?_
    subst e
    refine OKV.bool hH ?_
    rw [run_binII _ _ _ _ ⟨by simp, by simp⟩, ltI_eq]; rfl
  | leq =>
    refine sameK_spec (Φ := fun o => OKV E c H w o _) hf fun e => ?_
    subst e
    refine OKV.bool hH ?_
    rw [run_binII _ _ _ _ ⟨by simp, by simp⟩, ltI_eq]
    show Result.ok (Value.bool (decide (a ≤ b))) w = _
    congr 2
    rw [Bool.eq_iff_iff]; simp
  | gtr =>
    refine sameK_spec (Φ := fun o => OKV E c H w o _) hf fun e => ?_
    subst e
    refine OKV.bool hH ?_
    rw [run_binII _ _ _ _ ⟨by simp, by simp⟩, ltI_eq]; rfl
  | geq =>
    refine sameK_spec (Φ := fun o => OKV E c H w o _) hf fun e => ?_
    subst e
    refine OKV.bool hH ?_
    rw [run_binII _ _ _ _ ⟨by simp, by simp⟩, ltI_eq]
    show Result.ok (Value.bool (decide (a ≥ b))) w = _
    congr 2
    rw [Bool.eq_iff_iff]; simp

/-! ### strings -/
theorem sEq_eq : ∀ (a b : List UInt8), sEq (a.map UInt8.toNat) (b.map UInt8.toNat) = (a == b)
  | [], [] => rfl
  | [], _ :: _ => rfl
  | _ :: _, [] => rfl
  | x :: a, y :: b => by
    show Bool.rec (motive := fun _ => Bool) false (sEq (a.map UInt8.toNat) (b.map UInt8.toNat)) (Nat.beq x.toNat y.toNat) = _
    rw [sEq_eq a b]
    have : Nat.beq x.toNat y.toNat = (x == y) := by
      rw [Bool.eq_iff_iff]; simp [UInt8.toNat_inj]
    rw [this]
    cases h : x == y
    · simp [List.cons_beq_cons, h]
    · simp [List.cons_beq_cons, h]
theorem sLt_eq : ∀ (a b : List UInt8), sLt (a.map UInt8.toNat) (b.map UInt8.toNat) = Op.bytesLess a b
  | [], [] => rfl
  | [], _ :: _ => rfl
  | _ :: _, [] => rfl
  | x :: a, y :: b => by
    show Bool.rec (motive := fun _ => Bool) (Bool.rec (motive := fun _ => Bool) false (sLt (a.map UInt8.toNat) (b.map UInt8.toNat)) (Nat.beq x.toNat y.toNat)) true (Nat.blt x.toNat y.toNat) = _
    rw [sLt_eq a b]
    have h1 : Nat.beq x.toNat y.toNat = (x == y) := by rw [Bool.eq_iff_iff]; simp [UInt8.toNat_inj]
    have h2 : Nat.blt x.toNat y.toNat = decide (x < y) := by rw [Bool.eq_iff_iff]; simp [UInt8.lt_iff_toNat_lt]
    rw [h1, h2]
    simp only [Op.bytesLess]
    cases decide (x < y) <;> cases x == y <;> rfl
theorem bytesLess_total : ∀ (a b : List UInt8), (Op.bytesLess a b || a == b) = !Op.bytesLess b a
  | [], [] => rfl
  | [], _ :: _ => rfl
  | _ :: _, [] => rfl
  | x :: a, y :: b => by
    have ih := bytesLess_total a b
    simp only [Op.bytesLess, List.cons_beq_cons]
    by_cases h1 : x < y
    · have h2 : ¬ y < x := by rw [UInt8.lt_iff_toNat_lt] at *; omega
      have h3 : (y == x) = false := by rw [beq_eq_false_iff_ne]; intro e; subst e; exact h2 h1
      simp [h1, h2, h3]
    · by_cases h2 : y < x
      · have h3 : (x == y) = false := by rw [beq_eq_false_iff_ne]; intro e; subst e; exact h1 h2
        simp [h1, h2, h3]
      · have h3 : x = y := by rw [UInt8.lt_iff_toNat_lt] at *; exact UInt8.toNat_inj.1 (by omega)
        subst h3
        simpa [h1] using ih

theorem run_strOp {P : Program} {w : World} (op : BinOp) (h : op ≠ .shl ∧ op ≠ .shr) (t : TypeId) (x y : ByteArray) : (Go.binOp op t (.string x) (.string y)).run P w = (Op.stringOp op x y).run P w := by
  cases op <;> first | (exact absurd rfl h.1) | (exact absurd rfl h.2) | rfl

theorem strOp_ok (hH : Hs E c H w) (op : BinOp) (t : TypeId) {a b : List Nat} {x y : ByteArray} (ha : x.data.toList.map UInt8.toNat = a) (hb : y.data.toList.map UInt8.toNat = b) :
    OKV E c H w (strOp op a b H) ((Go.binOp op t (.string x) (.string y)).run E.P w) := by
  subst ha hb
  unfold strOp
  split
  · refine OKV.bool hH ?_
    rw [run_strOp _ ⟨by simp, by simp⟩, sEq_eq]
    simp [Op.stringOp, ByteArray.toList_eq]
  · refine OKV.bool hH ?_
    rw [run_strOp _ ⟨by simp, by simp⟩, sEq_eq]
    simp [Op.stringOp, ByteArray.toList_eq]
  · refine OKV.bool hH ?_
    rw [run_strOp _ ⟨by simp, by simp⟩, sLt_eq]
    simp [Op.stringOp, ByteArray.toList_eq]
  · refine OKV.bool hH ?_
    rw [run_strOp _ ⟨by simp, by simp⟩, sLt_eq]
    simp only [Op.stringOp, ByteArray.toList_eq, Sem.run_pure, bytesLess_total]
  · refine OKV.bool hH ?_
    rw [run_strOp _ ⟨by simp, by simp⟩, sLt_eq]
    simp only [Op.stringOp, ByteArray.toList_eq, Sem.run_pure, bytesLess_total, Bool.not_not]
  · refine OKV.bool hH ?_
    rw [run_strOp _ ⟨by simp, by simp⟩, sLt_eq]
    simp [Op.stringOp, ByteArray.toList_eq]
  · refine slen_spec (Φ := fun o => OKV E c H w o _) (slen_spec (Φ := fun o => OKV E c H w o _) ?_)
    split
    · rename_i h
      have h' : x.size + y.size ≤ 1000000000 := by simpa using h
      refine OKV.here hH (x := .string (x ++ y)) ?_ ⟨_, rfl, by simp⟩
      rw [run_strOp _ ⟨by simp, by simp⟩]
      simp only [Op.stringOp]
      rw [if_neg (by
        have : IntKind.i64.max = 9223372036854775807 := rfl
        rw [this]; omega)]
      rfl
    · trivial
  · trivial

end
end Go.Eng
