/- Pure operations do not look at the heap. -/
import Derived.Test.YtmhehkkbmkmlkaaGreatEngH
import Derived.Orders
namespace Go.Eng

section
variable {Ψ : OR → OR → Prop} {k k' : AV → OR} {d d' : OR}
theorem rget_rel (hd : Ψ d d') {a : AV} (hk : ∀ v, Ψ (k v) (k' v)) : ∀ {i : Nat}, Ψ (rget a i k d) (rget a i k' d') := by
  unfold rget
  suffices ∀ (a : AV) {i : Nat}, Ψ (rget0 a a i k d) (rget0 a a i k' d') from fun {i} => this a
  intro a
  induction a with
  | rnil => intro i; exact hd
  | cat nl nr l r ihl ihr =>
    intro i
    rw [rget_cat, rget_cat]
    split
    · exact ihl
    · exact ihr
  | _ =>
    intro i
    rw [rget0_leaf rfl, rget0_leaf rfl]
    split
    · exact hk _
    · exact hd
theorem rmk_rel {l r : AV} {k k' : AV → OR} (hk : ∀ x, Ψ (k x) (k' x)) : Ψ (rmk l r k) (rmk l r k') := by
  unfold rmk
  simp only [bool_rec]
  split
  · exact hk _
  · split
    · exact hk _
    · rw [forceN_eq, forceN_eq, forceN_eq, forceN_eq]; exact hk _
theorem rtake_rel {a : AV} : ∀ {k k' : AV → OR} {n : Nat}, (∀ x, Ψ (k x) (k' x)) → Ψ (rtake a n k) (rtake a n k') := by
  unfold rtake
  induction a with
  | rnil => intro k k' n hk; exact hk _
  | cat nl nr l r ihl ihr =>
    intro k k' n hk
    rw [rtake_cat, rtake_cat]
    split
    · exact ihl hk
    · split
      · exact hk _
      · exact ihr fun x => rmk_rel hk
  | _ =>
    intro k k' n hk
    rw [rtake0_leaf rfl, rtake0_leaf rfl]
    split <;> exact hk _
theorem rdrop_rel {a : AV} : ∀ {k k' : AV → OR} {n : Nat}, (∀ x, Ψ (k x) (k' x)) → Ψ (rdrop a n k) (rdrop a n k') := by
  unfold rdrop
  induction a with
  | rnil => intro k k' n hk; exact hk _
  | cat nl nr l r ihl ihr =>
    intro k k' n hk
    rw [rdrop_cat, rdrop_cat]
    split
    · exact hk _
    · split
      · exact ihr hk
      · exact ihl fun x => rmk_rel hk
  | _ =>
    intro k k' n hk
    rw [rdrop0_leaf rfl, rdrop0_leaf rfl]
    split <;> exact hk _
theorem rslice_rel (hd : Ψ d d') {a : AV} {lo n : Nat} (hk : ∀ x, Ψ (k x) (k' x)) : Ψ (rslice a lo n k d) (rslice a lo n k' d') := by
  unfold rslice
  rw [bool_rec, bool_rec]
  split
  · exact rdrop_rel fun x => rtake_rel hk
  · exact hd
theorem rover_rel (hd : Ψ d d') {a y : AV} {lo : Nat} (hk : ∀ x, Ψ (k x) (k' x)) : Ψ (rover a lo y k d) (rover a lo y k' d') := by
  unfold rover
  rw [bool_rec, bool_rec]
  split
  · exact rtake_rel fun a => rdrop_rel fun b => rmk_rel fun c => rmk_rel hk
  · exact hd
theorem partK_rel (hf : ∀ n, Ψ (.fail n) (.fail n)) {ty : TK} {r : AV} {o : Nat} (hk : ∀ v, Ψ (k v) (k' v)) : Ψ (partK ty r o k) (partK ty r o k') := by
  unfold partK
  cases ty with
  | bad => exact hf _
  | one => exact rget_rel (hf _) hk
  | agg n => exact rslice_rel (hf _) fun y => hk _
theorem onAgg_rel {x : AV} (hd : Ψ d d') (hk : ∀ r, Ψ (k r) (k' r)) : Ψ (onAgg x k d) (onAgg x k' d') := by
  rw [onAgg_eq, onAgg_eq]; split
  · exact hk _
  · exact hd
theorem onTup_rel {x : AV} (hd : Ψ d d') (hk : ∀ r, Ψ (k r) (k' r)) : Ψ (onTup x k d) (onTup x k' d') := by
  rw [onTup_eq, onTup_eq]; split
  · exact hk _
  · exact hd
theorem boolRec_rel {b : Bool} {x x' y y' : OR} (hx : Ψ x x') (hy : Ψ y y') : Ψ (Bool.rec (motive := fun _ => OR) x y b) (Bool.rec (motive := fun _ => OR) x' y' b) := by cases b <;> assumption
theorem fillK_rel (hf : ∀ n, Ψ (.fail n) (.fail n)) : ∀ {l : List (Nat × Nat × AV)} {r : AV} {k k' : AV → OR}, (∀ v, Ψ (k v) (k' v)) → Ψ (fillK l r k) (fillK l r k')
  | [], _, _, _, hk => hk _
  | (o, n, v) :: l, r, k, k', hk => by
    unfold fillK cellsK
    have hone : ∀ y : AV, Ψ (match Nat.beq (rsize y) n with | true => rover r o y (fun r' => fillK l r' k) (.fail 22) | false => .fail 23) (match Nat.beq (rsize y) n with | true => rover r o y (fun r' => fillK l r' k') (.fail 22) | false => .fail 23) := by
      intro y
      split
      · exact rover_rel (hf _) fun r => fillK_rel hf hk
      · exact hf _
    exact onAgg_rel (boolRec_rel (hf _) (hone _)) fun r => hone _
theorem onBool_rel {x : AV} {k k' : Bool → OR} (hd : Ψ d d') (hk : ∀ b, Ψ (k b) (k' b)) : Ψ (onBool x k d) (onBool x k' d') := by
  rw [onBool_eq, onBool_eq]; split
  · exact hk _
  · exact hd
theorem onInt_rel {x : AV} {k k' : IntKind → Int → OR} (hd : Ψ d d') (hk : ∀ j n, Ψ (k j n) (k' j n)) : Ψ (onInt x k d) (onInt x k' d') := by
  rw [onInt_eq, onInt_eq]; split
  · exact hk _ _
  · exact hd
theorem onStr_rel {x : AV} {k k' : List Nat → OR} (hd : Ψ d d') (hk : ∀ l, Ψ (k l) (k' l)) : Ψ (onStr x k d) (onStr x k' d') := by
  rw [onStr_eq, onStr_eq]; split
  · exact hk _
  · exact hd
theorem onPtr_rel {x : AV} {k k' : Nat → Nat → OR} (hd : Ψ d d') (hk : ∀ b o, Ψ (k b o) (k' b o)) : Ψ (onPtr x k d) (onPtr x k' d') := by
  rw [onPtr_eq, onPtr_eq]; split
  · exact hk _ _
  · exact hd
theorem onSlice_rel {x : AV} {k k' : Nat → Nat → Nat → ACap → OR} {k1 k1' : OR} (hd : Ψ d d') (h1 : Ψ k1 k1') (hk : ∀ b o n c, Ψ (k b o n c) (k' b o n c)) : Ψ (onSlice x k k1 d) (onSlice x k' k1' d') := by
  rw [onSlice_eq, onSlice_eq]; split
  · exact hk _ _ _ _
  · exact h1
  · exact hd
theorem onNat_rel (hf : ∀ n, Ψ (.fail n) (.fail n)) {x : AV} {k k' : Nat → OR} (hk : ∀ n, Ψ (k n) (k' n)) : Ψ (onNat x k) (onNat x k') := by
  unfold onNat
  refine onInt_rel (hf _) fun j n => ?_
  cases n with
  | ofNat m => exact hk m
  | negSucc m => exact hf _
theorem snth_rel (hd : Ψ d d') {k k' : Nat → OR} (hk : ∀ v, Ψ (k v) (k' v)) : ∀ {l : List Nat} {i : Nat}, Ψ (snth l i k d) (snth l i k' d')
  | [], 0 => hd
  | [], _ + 1 => hd
  | x :: l, 0 => hk x
  | x :: l, i + 1 => snth_rel hd hk (l := l) (i := i)
end

/-- the same value, in whatever heap -/
def Ind (o o' : OR) : Prop := ∀ v K, o = .val v K → ∃ K', o' = .val v K'
theorem Ind.fail (n : Nat) (o : OR) : Ind (.fail n) o := fun v K h => by cases h
theorem Ind.val (v : AV) (H H' : Heap) : Ind (.val v H) (.val v H') := fun _ _ h => by cases h; exact ⟨_, rfl⟩

section
variable {E : Env} {H H' : Heap}
theorem ind_mkB (b : Bool) : Ind (mkB b H) (mkB b H') := by rw [mkB_eq, mkB_eq]; exact .val _ _ _
theorem ind_mkI (k : IntKind) (n : Int) : Ind (mkI k n H) (mkI k n H') := by rw [mkI_eq, mkI_eq]; exact .val _ _ _
theorem ind_orOf (s : Sem Value) : Ind (orOf H s) (orOf H' s) := by
  unfold Eng.orOf
  split
  · split <;> exact .val _ _ _
  · split
    · split <;> exact .val _ _ _
    · split <;> exact .val _ _ _
  · exact .fail _ _
theorem ind_ptrTo (b o : Nat) : Ind (ptrTo b o H) (ptrTo b o H') := by unfold ptrTo; rw [forceN_eq, forceN_eq]; exact .val _ _ _
theorem ind_minMax (isMax : Bool) : ∀ (l : List AV) (x : AV), Ind (minMax isMax l x H) (minMax isMax l x H')
  | [], x => .val _ _ _
  | y :: l, x => by
    unfold minMax
    split
    · exact ind_minMax isMax l _
    · exact .fail _ _
theorem ind_opA {op : Op} (h : kindOf E.P op = .pure) {xs : List Src} {l : List AV} {tm : AH} : Ind (opA op E xs l tm H) (opA op E xs l tm H') := by
  have hf : ∀ n, Ind (.fail n) (.fail n) := fun n => .fail n _
  cases op <;> first
    | (simp [kindOf] at h; done)
    | skip
  case move => exact .val _ _ _
  case assign => exact .val _ _ _
  case pick => exact onBool_rel (Ψ := Ind) (hf _) fun b => boolRec_rel (Ψ := Ind) (.val _ _ _) (.val _ _ _)
  case build t ps =>
    show Ind (hBuild E t ps _ H) (hBuild E t ps _ H')
    unfold hBuild
    split
    · exact fillK_rel (Ψ := Ind) hf fun v => .val _ _ _
    · exact hf _
  case nilCheck x =>
    show Ind (hNil _ H) (hNil _ H')
    cases arg xs 0 l tm <;> first | exact .val _ _ _ | exact hf _
  case unOp op t x =>
    show Ind (hUn op _ H) (hUn op _ H')
    unfold hUn
    split
    · exact ind_mkB _
    · exact ind_orOf _
    · exact hf _
  case convert s d x =>
    show Ind (hConv E s d _ H) (hConv E s d _ H')
    unfold hConv
    have h' : (∃ k, convK E.P s d = .int k) ∨ convK E.P s d = .same := by
      unfold kindOf at h
      simp only at h
      split at h <;> first | (cases h; done) | skip
      · rename_i k hk; exact .inl ⟨k, hk⟩
      · rename_i hk; exact .inr hk
    rcases h' with ⟨k, hk⟩ | hk
    · rw [hk]
      refine onInt_rel (Ψ := Ind) (hf _) fun j n => ?_
      cases n with
      | ofNat m => exact boolRec_rel (Ψ := Ind) (ind_mkI _ _) (.val _ _ _)
      | negSucc m => exact ind_mkI _ _
    · rw [hk]
      exact onStr_rel (Ψ := Ind) (hf _) fun l => .val _ _ _
  case sliceToArrayPointer a x =>
    show Ind (hS2ap E a _ H) (hS2ap E a _ H')
    unfold hS2ap
    split
    · split
      · exact .val _ _ _
      · exact hf _
    · exact hf _
  case makeInterface t x => exact boolRec_rel (Ψ := Ind) (hf _) (.val _ _ _)
  case makeFunc fn first cap =>
    show Ind (hMakeFunc fn _ _ H) (hMakeFunc fn _ _ H')
    unfold hMakeFunc
    split
    · exact .val _ _ _
    · exact hf _
  case fieldAddr s x f =>
    show Ind (hFieldAddr E s _ f H) (hFieldAddr E s _ f H')
    unfold hFieldAddr
    refine onPtr_rel (Ψ := Ind) (hf _) fun b o => ?_
    cases fOff E.P s f with
    | none => exact hf _
    | some off => exact ind_ptrTo _ _
  case field s x f =>
    show Ind (hField E s _ f H) (hField E s _ f H')
    unfold hField
    refine onAgg_rel (Ψ := Ind) (hf _) fun r => ?_
    cases fOff E.P s f with
    | none => exact hf _
    | some off => exact partK_rel (Ψ := Ind) hf fun v => .val _ _ _
  case indexAddr t x i =>
    show Ind (hIndexAddr E t _ _ H) (hIndexAddr E t _ _ H')
    unfold hIndexAddr
    refine onNat_rel (Ψ := Ind) hf fun n => ?_
    cases idxK E.P t with
    | arr len sz => exact onPtr_rel (Ψ := Ind) (hf _) fun b o => boolRec_rel (Ψ := Ind) (hf _) (ind_ptrTo _ _)
    | sl sz => exact onSlice_rel (Ψ := Ind) (hf _) (hf _) fun b o n cp => boolRec_rel (Ψ := Ind) (hf _) (ind_ptrTo _ _)
    | str => exact hf _
    | ptrArr len sz => exact hf _
    | other => exact hf _
  case index t x i =>
    show Ind (hIndex E t _ _ H) (hIndex E t _ _ H')
    unfold hIndex
    refine onNat_rel (Ψ := Ind) hf fun n => ?_
    cases idxK E.P t with
    | arr len sz => exact onAgg_rel (Ψ := Ind) (hf _) fun r => boolRec_rel (Ψ := Ind) (hf _) (partK_rel (Ψ := Ind) hf fun v => .val _ _ _)
    | sl sz => exact hf _
    | str => exact onStr_rel (Ψ := Ind) (hf _) fun s => snth_rel (Ψ := Ind) (hf _) fun c => .val _ _ _
    | ptrArr len sz => exact hf _
    | other => exact hf _
  case typeAssert x t a ok =>
    show Ind (hAssert E _ a ok H) (hAssert E _ a ok H')
    unfold hAssert
    split
    · exact hf _
    · split
      · exact .val _ _ _
      · exact .val _ _ _
      · exact hf _
    · split
      · exact .val _ _ _
      · exact hf _
    · exact hf _
  case extract x i => exact onTup_rel (Ψ := Ind) (hf _) fun r => rget_rel (Ψ := Ind) (hf _) fun v => .val _ _ _
  case call c =>
    obtain ⟨cl, args, ts⟩ := c
    cases cl with
    | value f => simp [kindOf] at h
    | invoke r m => simp [kindOf] at h
    | builtin b =>
      show Ind (hBuiltin E b ts (evAll xs l tm []) H) (hBuiltin E b ts (evAll xs l tm []) H')
      generalize evAll xs l tm [] = ys
      cases b <;> first | (simp [kindOf] at h; done) | skip
      all_goals
        cases ys with
        | nil => exact hf _
        | cons y ys => exact ind_minMax _ _ _
end
end Go.Eng
/- Silent operations: a block is laid, whatever the heap. -/
namespace Go.Eng

/-- a block laid by an operation: what it is on the machine, what it is here, and the value that leads to it -/
structure Laid (E : Env) (c : Cx) (w : World) (v : AV) (n : Nat) (x : AH) (r : Result Value) : Prop where
  ex : ∃ obj xv, r = .ok xv (World.push w obj) ∧ real x = true ∧ (∀ (c' : Cx) (w' : World) (B : Nat), c.Le c' → w'.heap[B]? = some obj → Bk E c' w' x B 0) ∧
    (∀ c' : Cx, c.Le c' → c'.rho n = some (w.heap.size, 0) → V c' v xv)
def LaidP (E : Env) (c : Cx) (w : World) (H1 : Heap) (r : Result Value) (o : OR) : Prop := ∀ v K, o = .val v K → H1.next < E.lim ∧ ∃ x, K = newH E H1 x ∧ Laid E c w v H1.next x r

section
variable {E : Env} {c : Cx} {H H1 : Heap} {w : World}
theorem LaidP.fail {r : Result Value} (n : Nat) : LaidP E c w H1 r (.fail n) := fun v K h => by cases h
theorem LaidP.new {r : Result Value} {x : AH} {mk : Nat → AV} (h : Laid E c w (mk H1.next) H1.next x r) : LaidP E c w H1 r (hnew E H1 x fun b H' => .val (mk b) H') := by
  rw [hnew_eq]
  split
  · rename_i hl
    intro v K hv
    cases hv
    exact ⟨hl, x, rfl, h⟩
  · exact .fail _

theorem LaidP.newR {r : Result Value} {e : Nat} {y : AV} {mk : Nat → AV} (h : Nat.beq e E.tbl = false → Laid E c w (mk H1.next) H1.next (.cells false e y) r) : LaidP E c w H1 r (hnewR E H1 e y fun b H' => .val (mk b) H') := by
  unfold hnewR
  cases hb : Nat.beq e E.tbl with
  | true => exact .fail _
  | false => exact LaidP.new (h hb)

theorem wholeB_spec {e : Nat} {r : AV} (hb : wholeB E e r = true) (he : e = E.tbl) : rsize r = E.P.cellsOf e := by
  subst he
  unfold wholeB at hb
  rw [show Nat.beq E.tbl E.tbl = true from Nat.beq_refl _] at hb
  exact Nat.eq_of_beq_eq_true hb
theorem LaidP.newW {r : Result Value} {e : Nat} {y : AV} {mk : Nat → AV} (h : (e = E.tbl → rsize y = E.P.cellsOf e) → Laid E c w (mk H1.next) H1.next (.cells false e y) r) : LaidP E c w H1 r (hnewW E H1 e y fun b H' => .val (mk b) H') := by
  unfold hnewW
  cases hb : wholeB E e y with
  | false => exact .fail _
  | true => exact LaidP.new (h (wholeB_spec hb))

theorem Laid.cells {e : Nat} {r : AV} {cells : Array Value} (hwh : e = E.tbl → cells.size = E.P.cellsOf e) (hs : S c r cells.toList) (h1 : ∀ y ∈ cells.toList, y.oneCell' = true) {v : AV} {n : Nat} {xv : Value} {res : Result Value} (hr : res = .ok xv (World.push w (.cells cells e)))
    (hv : ∀ c' : Cx, c.Le c' → c'.rho n = some (w.heap.size, 0) → V c' v xv) : Laid E c w v n (.cells false e r) res :=
  ⟨_, xv, hr, rfl, fun c' w' B hle hB => ⟨⟨Nat.zero_mod _, fun he => ⟨rfl, fun cs2 fr2 h2 => by rw [hB] at h2; cases h2; exact hwh he⟩⟩, cells, 0, 0, hB, h1, fun _ => .inl rfl, fun _ => rfl, [], cells.toList, [], by simp, rfl, hs.mono hle⟩, hv⟩
theorem Laid.slice {e : Nat} (hne : Nat.beq e E.tbl = false) {r : AV} {cells : Array Value} (hs : S c r cells.toList) (h1 : ∀ y ∈ cells.toList, y.oneCell' = true) {n a m : Nat} (hnm : a ≤ m) {res : Result Value}
    (hr : res = .ok (.slice (some ⟨w.heap.size, 0, none⟩) a m) (World.push w (.cells cells e))) : Laid E c w (.slice n 0 a (.known m)) n (.cells false e r) res :=
  .cells (fun h => absurd h (Nat.ne_of_beq_eq_false hne)) hs h1 hr fun c' _ h => ⟨w.heap.size, 0, 0, m, h, rfl, rfl, hnm, .inl rfl⟩

theorem laid_alloc (hH : Hs E c H w) {t : TypeId} : LaidP E c w H1 ((Instr.alloc t true (.tuple #[])).run E.P w) (hAlloc E t H1) := by
  unfold hAlloc
  refine boolRec_spec (Φ := LaidP E c w H1 _) (fun _ => .fail _) fun hz => ?_
  obtain ⟨i, z, hi, hz, hv, hs, hone, hsz, -⟩ := zOK_spec hH hz
  refine LaidP.new (mk := fun b => .ptr b 0) (.cells (fun _ => by rw [cellsOf_eq hi]; exact hsz) hs hone (xv := .pointer (some ⟨w.heap.size, 0, none⟩)) ?_ fun c' _ h => ⟨w.heap.size, 0, h, by simp⟩)
  simp only [Instr.alloc, Sem.run_bind, run_zeroValue' hi hz, Result.andThen_ok, newVar, newRow, run_newObj, Sem.run_pure]
  rfl
theorem laid_box (hH : Hs E c H w) {t : TypeId} {v : AV} {x : Value} (hv : V c v x) : LaidP E c w H1 ((Instr.box t x).run E.P w) (hBox E t v H1) := by
  unfold hBox
  refine cellsK_spec hH (Φ := LaidP E c w H1 _) (fun _ => .fail _) hv fun r hs hone => ?_
  refine LaidP.newW (mk := fun b => .ptr b 0) fun hne => .cells (fun h => by rw [← hne h, rsize_spec hs, Array.length_toList]) hs hone (xv := .pointer (some ⟨w.heap.size, 0, none⟩)) ?_ fun c' _ h => ⟨w.heap.size, 0, h, by simp⟩
  simp only [Instr.box, Sem.run_bind, newVar, newRow, run_newObj, Result.andThen_ok, Sem.run_pure]
  rfl
theorem laid_buildSlice (hH : Hs E c H w) {t : TypeId} {n : Nat} {ps : Array (Nat × Operand)} {ρ : Operand → Value} {xs : List AV} (hx : SL c xs (ps.toList.map fun p => ρ p.2)) :
    LaidP E c w H1 ((Instr.buildSlice t n (ps.map fun (i, x) => (i, ρ x))).run E.P w) (hBuildSlice E t n ps xs H1) := by
  unfold hBuildSlice
  have hk := idxK_spec E.P t
  split
  · rename_i sz hi hz hle
    rw [hi] at hk
    cases hk with
    | sl e ie hu hie he =>
    rw [he] at hz hle ⊢
    obtain ⟨i, z, hi, hz, -, hzs, hz1, hzsz, -⟩ := zOK_spec hH hz
    rw [hie] at hi; cases hi
    have hx' : SL c xs ((ps.toList.map fun p => (p.1, ρ p.2)).map (·.2)) := by rw [List.map_map]; exact hx
    have hm := placesA_map ie.size (idxs ps)
    have hle' : n * ie.size ≤ 16777216 := by rw [cellsOf_eq hie] at hle; simpa using hle
    have hzn : ((Array.range (n * ie.size)).map (fun i => z.cells[i % z.cells.size]!)).toList = repV z.cells.toList n := by
      rw [← hzsz]; exact range_cells z.cells n
    refine fillK_spec hH (Φ := LaidP E c w H1 _) (fun _ => .fail _) (place := fun i => some (i * ie.size, ie.size)) _ xs (ps.toList.map fun p => (p.1, ρ p.2)) _ ((Array.range (n * ie.size)).map (fun i => z.cells[i % z.cells.size]!))
      (by rw [hm]; simp [idxs, List.map_map, Function.comp_def]) hx' (by rw [hzn]; exact zerosT_spec hzs n) (by rw [hzn]; exact repV_one _ hz1 n) fun r' cells' hfl hs' h1' => ?_
    refine LaidP.newR (mk := fun b => .slice b 0 n (.known n)) fun hne => .slice hne hs' h1' (Nat.le_refl _) ?_
    have hparts : (ps.map fun (i, x) => (i, ρ x)).toList = ps.toList.map fun p => (p.1, ρ p.2) := by simp
    simp only [Instr.buildSlice, Sem.run_bind, run_underlying hu, Result.andThen_ok, run_sizeOf' hie]
    rw [if_neg (by omega)]
    by_cases h0 : n * ie.size = 0
    · have hc : ((Array.range (n * ie.size)).map (fun i => (#[] : Array Value)[i % (#[] : Array Value).size]!)) = ((Array.range (n * ie.size)).map (fun i => z.cells[i % z.cells.size]!)) := by simp [h0]
      simp only [if_pos h0, Sem.run_bind, Sem.run_pure, Result.andThen_ok]
      rw [hc, hparts, hfl]
      rfl
    · simp only [if_neg h0, Sem.run_bind, Sem.run_pure, run_zeroValue' hie hz, Result.andThen_ok]
      rw [hparts, hfl]
      rfl
  · exact .fail _
theorem laid_makeMap {t : TypeId} : LaidP E c w H1 ((Instr.makeMap t none).run E.P w) (hnew E H1 (.map 0 []) fun r H' => .val (.mapv r) H') := by
  refine LaidP.new (mk := fun b => .mapv b) ⟨.map #[] 0, .map (some w.heap.size), rfl, rfl, fun c' w' B hle hB => ⟨rfl, #[], hB, ⟨by simp, by simp, by simp, by simp⟩, rfl⟩, fun c' _ h => ⟨w.heap.size, h, rfl⟩⟩
theorem laid_makeSlice (hH : Hs E c H w) {t : TypeId} {l m : AV} {x y : Value} (hl : V c l x) (hm : V c m y) : LaidP E c w H1 ((Instr.makeSlice t x y).run E.P w) (hMakeSlice E t l m H1) := by
  unfold hMakeSlice
  have hk := idxK_spec E.P t
  split
  · rename_i sz hi hz
    rw [hi] at hk
    cases hk with
    | sl e ie hu hie he =>
    rw [he] at hz ⊢
    rw [Bool.and_eq_true] at hz
    obtain ⟨i, z, hi, hz', -, hzs, hz1, hzsz, -⟩ := zOK_spec hH hz.1
    rw [hie] at hi; cases hi
    have hb : ie.bytes ≤ 1000000 := by
      have := hz.2; rw [bytesOf_eq hie] at this; simpa using this
    refine onNat_spec (Φ := LaidP E c w H1 _) (fun _ => .fail _) fun j a e1 => onNat_spec (Φ := LaidP E c w H1 _) (fun _ => .fail _) fun j' b e2 => ?_
    subst e1 e2
    cases hl.int_inv; cases hm.int_inv
    split
    · rename_i hab
      rw [Bool.and_eq_true] at hab
      have h1 : a ≤ b := by simpa using hab.1
      have h2 : b ≤ 1000000 := by simpa using hab.2
      have hzn : ((Array.range (b * ie.size)).map (fun i => z.cells[i % z.cells.size]!)).toList = repV z.cells.toList b := by
        rw [← hzsz]; exact range_cells z.cells b
      refine LaidP.newR (mk := fun q => .slice q 0 a (.known b)) fun hne => (.slice hne (cells := ((Array.range (b * ie.size)).map (fun i => z.cells[i % z.cells.size]!)))
        (by rw [hzn]; exact zerosT_spec hzs b) (by rw [hzn]; exact repV_one _ hz1 b) h1 ?_)
      have hbb : ie.bytes * b ≤ 1000000000000 := Nat.le_trans (Nat.mul_le_mul hb h2) (by decide)
      have wa : IntKind.i64.wrap (Int.ofNat a) = a := wrap_small (k := .i64) (show a ≤ 9223372036854775807 by omega)
      have wb : IntKind.i64.wrap (Int.ofNat b) = b := wrap_small (k := .i64) (show b ≤ 9223372036854775807 by omega)
      simp only [Instr.makeSlice, Sem.run_bind, run_underlying hu, Result.andThen_ok, asInt, asIntOf, Sem.run_pure, run_typeInfo' hie, wa, wb]
      have hbi : (ie.bytes : Int) * b ≤ 1000000000000 := by
        rw [← Int.natCast_mul]; exact Int.ofNat_le.2 hbb
      have hcond : ((decide ((b : Int) < 0) || decide ((ie.bytes : Int) * b > 2 ^ 48)) || decide ((a : Int) < 0) || decide ((a : Int) > b)) = false := by
        have e48 : (2 : Int) ^ 48 = 281474976710656 := by rfl
        rw [e48]
        simp only [Bool.or_eq_false_iff, decide_eq_false_iff_not]
        omega
      rw [hcond]
      simp only [Bool.false_eq_true, if_false, Sem.run_bind]
      have hroom : (askRoom ((b : Int).toNat * ie.bytes)).run E.P w = .ok () w := by
        unfold askRoom roomBytes
        rw [if_neg (by rw [Int.toNat_natCast, Nat.mul_comm]; have : (2 : Nat) ^ 47 = 140737488355328 := by decide
                       omega)]
        rfl
      rw [Int.toNat_natCast] at *
      by_cases h0 : b * ie.size = 0
      · have hc : ((Array.range (b * ie.size)).map (fun i => (#[] : Array Value)[i % (#[] : Array Value).size]!)) = ((Array.range (b * ie.size)).map (fun i => z.cells[i % z.cells.size]!)) := by simp [h0]
        simp only [hroom, Result.andThen_ok, run_sizeOf' hie, Int.toNat_natCast, if_pos h0, newRow, Sem.run_bind, run_newObj, Sem.run_pure]
        rw [hc]
        rfl
      · simp only [hroom, Result.andThen_ok, run_sizeOf' hie, Int.toNat_natCast, if_neg h0, run_zeroValue' hie hz', newRow, Sem.run_bind, run_newObj, Sem.run_pure]
        rfl
    · exact .fail _
  · exact .fail _

/-- a silent operation, asked earlier in another heap -/
theorem silent_ok (hH : Hs E c H w) {o : Oper} {src : Operand → Src} {ρ : Operand → Value} {l : List AV} {tm : AH} (hk : kindOf E.P o.op = .silent)
    (hs : ∀ x ∈ o.op.operands.toList, V c (ev (src x) l tm) (ρ x)) {v : AV} {K : Heap} (hv : opA o.op E (o.op.operands.toList.map src) l tm H1 = .val v K) :
    H1.next < E.lim ∧ ∃ x, K = newH E H1 x ∧ ∃ r, (execOp ρ o).run E.P w = (match r with | .ok y w' => .ok (.value y) w' | .halt h w' => .halt h w') ∧ Laid E c w v H1.next x r := by
  have hval : ∀ s : Sem Value, ((do pure (.value (← s)) : Sem Next).run E.P w) = (match s.run E.P w with | .ok y w' => .ok (.value y) w' | .halt h w' => .halt h w') := by
    intro s
    simp only [Sem.run_bind]
    cases s.run E.P w <;> rfl
  have hfin : ∀ (s : Sem Value) (q : OR), execOp ρ o = (do pure (.value (← s)) : Sem Next) → opA o.op E (o.op.operands.toList.map src) l tm H1 = q → LaidP E c w H1 (s.run E.P w) q →
      H1.next < E.lim ∧ ∃ x, K = newH E H1 x ∧ ∃ r, (execOp ρ o).run E.P w = (match r with | .ok y w' => .ok (.value y) w' | .halt h w' => .halt h w') ∧ Laid E c w v H1.next x r := by
    intro s q h1 h2 h3
    obtain ⟨q1, x, q2, q3⟩ := h3 v K (by rw [← h2]; exact hv)
    exact ⟨q1, x, q2, s.run E.P w, by rw [h1, hval], q3⟩
  obtain ⟨dst, op, ty, pos, after, guard⟩ := o
  simp only at hk hs hv ⊢
  cases op <;> first | (simp [kindOf] at hk; done) | skip
  case alloc t => exact hfin _ _ rfl rfl (laid_alloc hH)
  case box t x => exact hfin _ _ rfl rfl (laid_box hH (hs x (by simp [Op.operands])))
  case buildSlice t n ps =>
    refine hfin _ _ rfl rfl (laid_buildSlice hH ?_)
    have h := evAll_spec (c := c) (l := l) (tm := tm) (os := ps.toList.map (·.2)) (src := src) (ρ := ρ) fun x hx => hs x (by simpa [Op.operands] using hx)
    rw [List.map_map] at h
    simpa [Op.operands, Function.comp_def] using h
  case makeMap t r =>
    cases r with
    | none => exact hfin _ _ rfl rfl laid_makeMap
    | some _ => cases hv
  case makeSlice t a b => exact hfin _ _ rfl rfl (laid_makeSlice hH (hs a (by simp [Op.operands])) (hs b (by simp [Op.operands])))
  case convert s d x =>
    exfalso
    unfold kindOf at hk
    simp only at hk
    split at hk <;> cases hk
  case call c =>
    exfalso
    obtain ⟨cl, args, ts⟩ := c
    cases cl with
    | value f => simp [kindOf] at hk
    | invoke r m => simp [kindOf] at hk
    | builtin b => cases b <;> simp [kindOf] at hk
end
end Go.Eng
/- Orders of a drawn region. -/
namespace Go.Eng

theorem bit_eq (M t : Nat) : bit M t = M.testBit t := by
  unfold bit
  have e : Nat.land (Nat.shiftRight M t) 1 = (M >>> t) % 2 := Nat.and_one_is_mod _
  rw [e, Nat.testBit_eq_decide_div_mod_eq, ← Nat.shiftRight_eq_div_pow]
  rcases Nat.mod_two_eq_zero_or_one (M >>> t) with h | h <;> rw [h] <;> rfl
theorem bit_or (A B j : Nat) : bit (Nat.lor A B) j = (bit A j || bit B j) := by
  rw [bit_eq, bit_eq, bit_eq]; exact Nat.testBit_or A B j
theorem bit_one (i j : Nat) : bit (Nat.shiftLeft 1 i) j = decide (i = j) := by
  rw [bit_eq]
  show (1 <<< i).testBit j = _
  rw [Nat.one_shiftLeft, Nat.testBit_two_pow]
theorem bit_zero (j : Nat) : bit 0 j = false := by rw [bit_eq]; exact Nat.zero_testBit j
theorem within_spec {a b : Nat} (h : within a b = true) {j : Nat} (hj : bit a j = true) : bit b j = true := by
  have h1 : Nat.lor a b = b := Nat.eq_of_beq_eq_true h
  rw [← h1, bit_or, hj]; rfl

theorem nodup_length : ∀ (n : Nat) (l : List Nat), l.Nodup → (∀ x ∈ l, x < n) → l.length ≤ n
  | 0, l, _, h => by
    cases l with
    | nil => exact Nat.le_refl _
    | cons x l => exact absurd (h x List.mem_cons_self) (by omega)
  | n + 1, l, hn, h => by
    by_cases hm : n ∈ l
    · have h1 := nodup_length n (l.erase n) (hn.erase n) fun x hx => by
        have h2 := h x (List.mem_of_mem_erase hx)
        have h3 : x ≠ n := fun e => by subst e; exact hn.not_mem_erase hx
        omega
      rw [List.length_erase_of_mem hm] at h1
      omega
    · have := nodup_length n l hn fun x hx => by
        have h2 := h x hx
        have h3 : x ≠ n := fun e => hm (e ▸ hx)
        omega
      omega
theorem nodup_sub : ∀ {l D : List Nat}, l.Nodup → (∀ x ∈ l, x ∈ D) → l.length ≤ D.length
  | [], D, _, _ => Nat.zero_le _
  | x :: l, D, hn, h => by
    obtain ⟨h1, h2⟩ := List.nodup_cons.1 hn
    have h3 := nodup_sub (l := l) (D := D.erase x) h2 fun y hy => by
      have hne : y ≠ x := fun e => h1 (e ▸ hy)
      exact (List.mem_erase_of_ne hne).2 (h y (List.mem_cons_of_mem _ hy))
    have hx := h x List.mem_cons_self
    rw [List.length_erase_of_mem hx] at h3
    have : 0 < D.length := List.length_pos_of_mem hx
    simp only [List.length_cons]
    omega
theorem nodup_covers {n : Nat} {l : List Nat} (hn : l.Nodup) (h : ∀ x ∈ l, x < n) (hl : l.length = n) {i : Nat} (hi : i < n) : i ∈ l := by
  apply Classical.byContradiction
  intro hni
  have := nodup_length n (i :: l) (List.nodup_cons.2 ⟨hni, hn⟩) fun x hx => by
    rcases List.mem_cons.1 hx with rfl | hx
    · exact hi
    · exact h x hx
  simp at this
  omega

section
variable {ops : Array Oper} {md : Region.Mode}

theorem topo_spec : ∀ {l : List Nat} {M : Nat}, topoOK md ops M l = true → l.Nodup ∧ (∀ i ∈ l, bit M i = false ∧ i < ops.size)
  | [], _, _ => ⟨List.nodup_nil, fun _ h => by cases h⟩
  | i :: l, M, h => by
    unfold topoOK at h
    rw [Bool.and_eq_true, Bool.and_eq_true] at h
    obtain ⟨h1, h2, h3⟩ := h
    obtain ⟨q1, q2⟩ := topo_spec h3
    have hi : i < ops.size := by
      cases ho : ops[i]? with
      | none => rw [ho] at h1; cases h1
      | some o => exact (Array.getElem?_eq_some_iff.1 ho).1
    refine ⟨List.nodup_cons.2 ⟨fun hm => ?_, q1⟩, fun j hj => ?_⟩
    · have := (q2 i hm).1
      rw [bit_or, bit_one] at this
      simp at this
    · rcases List.mem_cons.1 hj with rfl | hj
      · exact ⟨by simpa using h2, hi⟩
      · have := q2 j hj
        rw [bit_or, Bool.or_eq_false_iff] at this
        exact ⟨this.1.1, this.2⟩
theorem topo_first {D : List Nat} : ∀ {l : List Nat} {M : Nat}, topoOK md ops M l = true → (∀ j, bit M j = true → j ∈ D) → (∃ i ∈ l, i ∉ D) → ∃ i o, i ∉ D ∧ ops[i]? = some o ∧ ∀ e ∈ o.after, Region.binds md e = true → e.on ∈ D
  | [], _, _, _, h => by obtain ⟨i, hi, -⟩ := h; cases hi
  | i :: l, M, h, hM, hex => by
    unfold topoOK at h
    rw [Bool.and_eq_true, Bool.and_eq_true] at h
    obtain ⟨h1, h2, h3⟩ := h
    by_cases hi : i ∈ D
    · refine topo_first h3 (fun j hj => ?_) ?_
      · rw [bit_or, Bool.or_eq_true, bit_one] at hj
        rcases hj with hj | hj
        · exact hM j hj
        · have : i = j := by simpa using hj
          exact this ▸ hi
      · obtain ⟨j, hj, hjd⟩ := hex
        rcases List.mem_cons.1 hj with rfl | hj
        · exact absurd hi hjd
        · exact ⟨j, hj, hjd⟩
    · cases ho : ops[i]? with
      | none => rw [ho] at h1; cases h1
      | some o =>
        rw [ho] at h1
        refine ⟨i, o, hi, ho, fun e he hb => ?_⟩
        have := List.all_eq_true.1 h1 e (by simpa using he)
        rw [hb] at this
        exact hM _ (by simpa using this)

/-- an order that a drawn region may take: each operation behind those that it hangs on -/
inductive Sched (ops : Array Oper) : List Nat → List Nat → Prop
  | nil {D : List Nat} : (∀ i, i < ops.size → i ∈ D) → Sched ops D []
  | cons {D : List Nat} {i : Nat} {o : Oper} {L : List Nat} : i ∉ D → ops[i]? = some o → (∀ e ∈ o.after, Region.binds .any e = true → e.on ∈ D) → Sched ops (i :: D) L → Sched ops D (i :: L)

theorem binds_any {md : Region.Mode} {e : Edge} (h : Region.binds .any e = true) : Region.binds md e = true := by
  unfold Region.binds at h ⊢
  split at h
  · simp at h
  · simp at h
  · rfl

theorem sched_go {T : List Nat} (hT : topoOK md ops 0 T = true) (hcov : ∀ i, i < ops.size → i ∈ T) : ∀ (fuel t : Nat) (listed : Array Bool) (D : List Nat), listed.size = ops.size →
    (∀ i, i < ops.size → (listed.getD i true = true ↔ i ∈ D)) → (∀ i ∈ D, i < ops.size) → D.Nodup → fuel + D.length = ops.size → Sched ops D (Region.linearise.go md ops fuel t listed [])
  | 0, t, listed, D, hs, hl, hd, hn, hf => .nil fun i hi => nodup_covers hn hd (by omega) hi
  | fuel + 1, t, listed, D, hs, hl, hd, hn, hf => by
    simp only [Region.linearise.go]
    change Sched ops D (match (Region.ready md ops listed)[t % (Region.ready md ops listed).length]? with
      | some i => Region.linearise.go md ops fuel (t / (Region.ready md ops listed).length) (listed.setIfInBounds i true) [i]
      | none => [].reverse)
    have hsome : ∃ i, i < ops.size ∧ i ∉ D := by
      apply Classical.byContradiction
      intro h
      have hall : ∀ i, i < ops.size → i ∈ D := fun i hi => Classical.byContradiction fun h2 => h ⟨i, hi, h2⟩
      have h1 : (List.range ops.size).length ≤ D.length := nodup_sub List.nodup_range fun i hi => hall i (List.mem_range.1 hi)
      simp at h1
      omega
    obtain ⟨i0, hi0, hi0d⟩ := hsome
    obtain ⟨i1, o1, h1, h2, h3⟩ := topo_first (D := D) hT (fun j hj => by rw [bit_zero] at hj; cases hj) ⟨i0, hcov i0 hi0, hi0d⟩
    have hi1 : i1 < ops.size := (Array.getElem?_eq_some_iff.1 h2).1
    have hgetT : ∀ j, j ∈ D → listed.getD j false = true := fun j hj => by
      have h4 := (hl j (hd j hj)).2 hj
      have h5 : j < listed.size := by rw [hs]; exact hd j hj
      simp [h5] at h4 ⊢
      exact h4
    have hready : i1 ∈ Region.ready md ops listed := by
      refine mem_ready.2 ⟨?_, o1, h2, fun e he hb => hgetT _ (h3 e he hb)⟩
      cases h4 : listed.getD i1 true with
      | false => rfl
      | true => exact absurd ((hl i1 hi1).1 h4) h1
    have hne : (Region.ready md ops listed) ≠ [] := fun h => by rw [h] at hready; cases hready
    have hlt : t % (Region.ready md ops listed).length < (Region.ready md ops listed).length := Nat.mod_lt _ (List.length_pos_iff.2 hne)
    rw [List.getElem?_eq_getElem hlt]
    have hmem := List.getElem_mem hlt
    generalize (Region.ready md ops listed)[t % (Region.ready md ops listed).length] = i at hmem
    obtain ⟨q1, o, q2, q3⟩ := mem_ready.1 hmem
    have hi : i < ops.size := (Array.getElem?_eq_some_iff.1 q2).1
    have hid : i ∉ D := fun h => by rw [(hl i hi).2 h] at q1; cases q1
    simp only
    rw [linearise_go_acc, List.reverse_singleton, List.singleton_append]
    refine .cons hid q2 (fun e he hb => ?_) (sched_go hT hcov fuel _ _ (i :: D) (by simpa using hs) (fun j hj => ?_) (fun j hj => ?_) (List.nodup_cons.2 ⟨hid, hn⟩) (by simp; omega))
    · have h4 := q3 e he (binds_any hb)
      have h5 : e.on < listed.size := by
        rcases Nat.lt_or_ge e.on listed.size with h | h
        · exact h
        · simp [Array.getElem?_eq_none h] at h4
      refine (hl e.on (by rw [← hs]; exact h5)).1 ?_
      simp [h5] at h4 ⊢
      exact h4
    · by_cases e : i = j
      · subst e
        have : i < listed.size := by rw [hs]; exact hi
        simp [this]
      · have h4 := getD_set_ne (listed := listed) true e
        rw [h4, hl j hj, List.mem_cons]
        constructor
        · exact .inr
        · rintro (h | h)
          · exact absurd h.symm e
          · exact h
    · rcases List.mem_cons.1 hj with rfl | h
      · exact hi
      · exact hd j h

theorem not_departs {ops : Array Oper} (h : Region.departs ops = false) {o : Oper} {i : Nat} (ho : ops[i]? = some o) {e : Edge} (he : e ∈ o.after) : Region.binds .any e = true := by
  unfold Region.departs at h
  rw [Array.any_eq_false] at h
  obtain ⟨hi, hh⟩ := Array.getElem?_eq_some_iff.1 ho
  have h1 := h i hi
  rw [hh] at h1
  have h2 : (o.after.any fun e => !Region.binds .any e) = false := by simpa using h1
  rw [Array.any_eq_false] at h2
  obtain ⟨j, hj, hje⟩ := Array.mem_iff_getElem.1 he
  have h3 := h2 j hj
  rw [hje] at h3
  simpa using h3

/-- whatever is drawn -/
theorem sched_schedule {ops : Array Oper} (h : ordersOK ops = true) (mixed : Bool) (t : Nat) : Sched ops [] (Region.schedule mixed ops t) := by
  unfold ordersOK at h
  rw [Bool.and_eq_true] at h
  have hlin : ∀ (md : Region.Mode) (T : List Nat) (t : Nat), topoOK md ops 0 T = true → (∀ i, i < ops.size → i ∈ T) → Sched ops [] (Region.linearise md ops t) := by
    intro md T t hT hc
    refine sched_go hT hc ops.size t _ [] (by simp) (fun i hi => ?_) (fun i hi => by cases hi) List.nodup_nil (by simp)
    simp [hi]
  have hany : ∀ {l : List Nat} {M : Nat}, topoOK .text ops M l = true → topoOK .any ops M l = true := by
    intro l
    induction l with
    | nil => intro M _; rfl
    | cons i l ih =>
      intro M hh
      unfold topoOK at hh ⊢
      rw [Bool.and_eq_true, Bool.and_eq_true] at hh ⊢
      obtain ⟨h1, h2, h3⟩ := hh
      refine ⟨?_, h2, ih h3⟩
      cases ho : ops[i]? with
      | none => rw [ho] at h1; cases h1
      | some o =>
        rw [ho] at h1
        simp only at h1 ⊢
        rw [List.all_eq_true] at h1 ⊢
        intro e he
        have := h1 e he
        cases hb : Region.binds .any e with
        | false => rfl
        | true => rw [binds_any (md := .text) hb] at this; exact this
  have hcov : ∀ i, i < ops.size → i ∈ List.range ops.size := fun i hi => List.mem_range.2 hi
  unfold Region.schedule
  split
  · exact hlin .any _ _ (hany h.1) hcov
  · rename_i hc
    have hdep : Region.departs ops = true := by
      cases hd : Region.departs ops with
      | true => rfl
      | false => rw [hd] at hc; simp at hc
    have h2 := h.2
    rw [hdep] at h2
    simp only [Bool.and_eq_true] at h2
    obtain ⟨hn, hb⟩ := topo_spec h2.1
    split
    · exact hlin .text _ _ h.1 hcov
    · exact hlin .gc _ _ h2.1 fun i hi => nodup_covers hn (fun x hx => (hb x hx).2) (Nat.eq_of_beq_eq_true h2.2) hi
end
end Go.Eng
/- Drawn regions: what is looked at by the text alone. -/
namespace Go.Eng

theorem bitsOf_mem : ∀ {l : List Nat} {t : Nat}, t ∈ l → bit (bitsOf l) t = true
  | [], t, h => absurd h List.not_mem_nil
  | x :: l, t, h => by
    show bit (Nat.lor (Nat.shiftLeft 1 x) (bitsOf l)) t = true
    rw [bit_or, bit_one]
    rcases List.mem_cons.1 h with rfl | h
    · simp
    · rw [bitsOf_mem h]; simp
theorem tmpsOf_mem : ∀ {l : List Operand} {t : Nat}, Operand.tmp t ∈ l → t ∈ tmpsOf l
  | [], t, h => absurd h List.not_mem_nil
  | x :: l, t, h => by
    rcases List.mem_cons.1 h with rfl | h
    · exact List.mem_cons_self
    · have ih := tmpsOf_mem h
      cases x with
      | tmp u => exact List.mem_cons_of_mem _ ih
      | const v => exact ih
      | global g => exact ih
      | func f => exact ih

/-- an operation of the region, as it was prepared -/
def IsD (P : Program) (ops : Array Oper) (bef : Array Nat) (x : DOp) : Prop := ∃ o, ops[x.i]? = some o ∧ x = dop P ops.toList bef x.i o
theorem dops_mem {P : Program} {all : List Oper} {bef : Array Nat} : ∀ {l : List Oper} {i : Nat} {x : DOp}, x ∈ dops P all bef l i → ∃ j o, l[j]? = some o ∧ x = dop P all bef (i + j) o
  | [], _, _, h => by cases h
  | o :: l, i, x, h => by
    rcases List.mem_cons.1 h with rfl | h
    · exact ⟨0, o, rfl, rfl⟩
    · obtain ⟨j, o', h1, h2⟩ := dops_mem (l := l) h
      exact ⟨j + 1, o', by simpa using h1, by rw [h2]; congr 1; omega⟩
theorem isD_of_mem {P : Program} {ops : Array Oper} {bef : Array Nat} {x : DOp} (h : x ∈ dops P ops.toList bef ops.toList 0) : IsD P ops bef x := by
  obtain ⟨j, o, h1, h2⟩ := dops_mem h
  subst h2
  have e : (dop P ops.toList bef (0 + j) o).i = j := by simp [dop]
  refine ⟨o, ?_, ?_⟩
  · rw [e, ← Array.getElem?_toList]; exact h1
  · rw [e, Nat.zero_add]
theorem mem_of_isD {P : Program} {ops : Array Oper} {bef : Array Nat} {x : DOp} (h : IsD P ops bef x) : x ∈ dops P ops.toList bef ops.toList 0 := by
  obtain ⟨o, h1, h2⟩ := h
  have key : ∀ (l : List Oper) (i j : Nat) (o : Oper), l[j]? = some o → dop P ops.toList bef (i + j) o ∈ dops P ops.toList bef l i := by
    intro l
    induction l with
    | nil => intro i j o h; simp at h
    | cons q l ih =>
      intro i j o h
      cases j with
      | zero =>
        simp only [List.getElem?_cons_zero, Option.some.injEq] at h
        subst h
        exact List.mem_cons_self
      | succ j =>
        simp only [List.getElem?_cons_succ] at h
        have := ih (i + 1) j o h
        rw [show i + (j + 1) = i + 1 + j by omega]
        exact List.mem_cons_of_mem _ this
  have := key ops.toList 0 x.i o (by rw [Array.getElem?_toList]; exact h1)
  rw [Nat.zero_add] at this
  rw [h2]; exact this
theorem IsD.same {P : Program} {ops : Array Oper} {bef : Array Nat} {x y : DOp} (hx : IsD P ops bef x) (hy : IsD P ops bef y) (h : x.i = y.i) : x = y := by
  obtain ⟨o, h1, h2⟩ := hx
  obtain ⟨o', h1', h2'⟩ := hy
  rw [h] at h1 h2
  rw [h1] at h1'
  cases h1'
  rw [h2, ← h2']
theorem pickAll_mem {all : List DOp} : ∀ {l : List Nat} {x : DOp}, x ∈ pickAll all l → x ∈ all
  | [], _, h => by cases h
  | i :: l, x, h => by
    unfold pickAll at h
    split at h
    · rename_i y hy
      rcases List.mem_cons.1 h with rfl | h
      · exact List.mem_of_getElem? hy
      · exact pickAll_mem h
    · exact pickAll_mem h

/-- newest first: each behind those that it comes behind, and once -/
def OrdL : List DOp → Prop
  | [] => True
  | x :: xs => (∀ j, bit x.anc j = true → ∃ y ∈ xs, y.i = j) ∧ (∀ y ∈ xs, y.i ≠ x.i) ∧ OrdL xs
theorem ordL_of : ∀ (l xs : List DOp) (M : Nat), orderOK M l = true → (∀ j, bit M j = true ↔ ∃ y ∈ xs, y.i = j) → OrdL xs → OrdL (l.reverse ++ xs)
  | [], xs, M, _, _, h => h
  | x :: l, xs, M, h, hM, hx => by
    unfold orderOK at h
    rw [Bool.and_eq_true, Bool.and_eq_true] at h
    obtain ⟨h1, h2, h3⟩ := h
    rw [List.reverse_cons, List.append_assoc]
    refine ordL_of l (x :: xs) _ h3 (fun j => ?_) ⟨fun j hj => (hM j).1 (within_spec h1 hj), fun y hy e => ?_, hx⟩
    · rw [bit_or, bit_one, Bool.or_eq_true, hM j]
      constructor
      · rintro (⟨y, hy, e⟩ | h)
        · exact ⟨y, List.mem_cons_of_mem _ hy, e⟩
        · exact ⟨x, List.mem_cons_self, by simpa using h⟩
      · rintro ⟨y, hy, e⟩
        rcases List.mem_cons.1 hy with rfl | hy
        · exact .inr (by simpa using e)
        · exact .inl ⟨y, hy, e⟩
    · have := (hM x.i).2 ⟨y, hy, e⟩
      rw [this] at h2; cases h2
theorem OrdL.tail : ∀ {l xs : List DOp}, OrdL (l ++ xs) → OrdL xs
  | [], _, h => h
  | _ :: _, _, h => OrdL.tail h.2.2
theorem OrdL.nodup : ∀ {l : List DOp}, OrdL l → (l.map (·.i)).Nodup
  | [], _ => List.nodup_nil
  | x :: l, h => List.nodup_cons.2 ⟨fun hm => by
      obtain ⟨y, hy, e⟩ := List.mem_map.1 hm
      exact h.2.1 y hy e, OrdL.nodup h.2.2⟩

theorem behind_spec : ∀ {l1 l2 : List DOp} {x : DOp}, behindOK (l1 ++ x :: l2) = true → isHeavy x = true → ∀ y ∈ l2, bit y.anc x.i = true
  | [], l2, x, h, hx, y, hy => by
    simp only [List.nil_append, behindOK, Bool.and_eq_true, hx, Bool.not_true, Bool.false_or] at h
    exact List.all_eq_true.1 h.1 y hy
  | z :: l1, l2, x, h, hx, y, hy => by
    simp only [List.cons_append, behindOK, Bool.and_eq_true] at h
    exact behind_spec h.2 hx y hy

theorem apart1_spec {x : DOp} : ∀ {l : List DOp}, apart1 x l = true → ∀ y ∈ l, ∀ t, y.o.dst = some t →
    (bit x.reads t = true → x.i = y.i ∨ bit x.anc y.i = true ∨ bit y.anc x.i = true) ∧ (x.o.dst = some t → x.i = y.i)
  | [], _, y, hy, _, _ => absurd hy List.not_mem_nil
  | z :: l, h, y, hy, t, ht => by
    unfold apart1 at h
    rw [Bool.and_eq_true] at h
    rcases List.mem_cons.1 hy with rfl | hy
    · have h1 := h.1
      rw [ht] at h1
      simp only [Bool.and_eq_true] at h1
      refine ⟨fun hr => ?_, fun hd => ?_⟩
      · have h2 := h1.1
        rw [hr] at h2
        simp only [Bool.not_true, Bool.false_or, Bool.or_eq_true] at h2
        rcases h2 with h2 | h2 | h2
        · exact .inl (Nat.eq_of_beq_eq_true h2)
        · exact .inr (.inl h2)
        · exact .inr (.inr h2)
      · have h2 := h1.2
        rw [hd] at h2
        simpa using h2
    · exact apart1_spec h.2 y hy t ht
theorem apart_spec {all : List DOp} : ∀ {l : List DOp}, apartOK all l = true → ∀ x ∈ l, ∀ y ∈ all, ∀ t, y.o.dst = some t →
    (bit x.reads t = true → x.i = y.i ∨ bit x.anc y.i = true ∨ bit y.anc x.i = true) ∧ (x.o.dst = some t → x.i = y.i)
  | [], _, x, hx => absurd hx List.not_mem_nil
  | z :: l, h, x, hx => by
    unfold apartOK at h
    rw [Bool.and_eq_true] at h
    rcases List.mem_cons.1 hx with rfl | hx
    · exact apart1_spec h.1
    · exact apart_spec h.2 x hx

theorem edgeBits_spec {bef : Array Nat} {j : Nat} : ∀ {l : List Edge}, bit (edgeBits bef l) j = true → ∃ e ∈ l, Region.binds .any e = true ∧ (e.on = j ∨ bit (bef.getD e.on 0) j = true)
  | [], h => by simp [edgeBits, bit_zero] at h
  | e :: l, h => by
    unfold edgeBits at h
    split at h
    · rename_i hb
      rw [bit_or, bit_or, bit_one, Bool.or_eq_true, Bool.or_eq_true] at h
      rcases h with (h | h) | h
      · exact ⟨e, List.mem_cons_self, hb, .inl (by simpa using h)⟩
      · exact ⟨e, List.mem_cons_self, hb, .inr h⟩
      · obtain ⟨e', h1, h2⟩ := edgeBits_spec h
        exact ⟨e', List.mem_cons_of_mem _ h1, h2⟩
    · obtain ⟨e', h1, h2⟩ := edgeBits_spec h
      exact ⟨e', List.mem_cons_of_mem _ h1, h2⟩
theorem anc_spec {bef : Array Nat} : ∀ {l : List DOp}, ancOK bef l = true → ∀ x ∈ l, ∀ j, bit x.anc j = true → ∃ e ∈ x.o.after.toList, Region.binds .any e = true ∧ (e.on = j ∨ bit (bef.getD e.on 0) j = true)
  | [], _, x, hx, _, _ => absurd hx List.not_mem_nil
  | z :: l, h, x, hx, j, hj => by
    unfold ancOK at h
    rw [Bool.and_eq_true] at h
    rcases List.mem_cons.1 hx with rfl | hx
    · exact edgeBits_spec (within_spec h.1 hj)
    · exact anc_spec h.2 x hx j hj

/-- all of it -/
structure DrawnOK (P : Program) (ops : Array Oper) (bef : Array Nat) (c : List DOp) : Prop where
  orders : ordersOK ops = true
  isD : ∀ x ∈ c, IsD P ops bef x
  anc : ∀ x, IsD P ops bef x → ∀ j, bit x.anc j = true → ∃ e ∈ x.o.after.toList, Region.binds .any e = true ∧ (e.on = j ∨ bit (bef.getD e.on 0) j = true)
  ord : OrdL c.reverse
  behind : ∀ l1 x l2, c = l1 ++ x :: l2 → isHeavy x = true → ∀ y ∈ l2, bit y.anc x.i = true
  apart : ∀ x y, IsD P ops bef x → IsD P ops bef y → ∀ t, y.o.dst = some t → (bit x.reads t = true → x.i = y.i ∨ bit x.anc y.i = true ∨ bit y.anc x.i = true) ∧ (x.o.dst = some t → x.i = y.i)
  covers : ∀ i, i < ops.size → ∃ x ∈ c, x.i = i
theorem drawn_spec {P : Program} {M d nt : Nat} {ops : Array Oper} {ps : List DP} (h : drawn P M d nt ops = some ps) : ∃ c, ps = dprep M d nt ops.toList c [] ∧ DrawnOK P ops (Region.before ops) c := by
  unfold drawn at h
  simp only at h
  split at h
  · rename_i hc
    cases h
    simp only [Bool.and_eq_true] at hc
    obtain ⟨h1, h2, h3, h4, h5, h6⟩ := hc
    refine ⟨_, rfl, h1, fun x hx => isD_of_mem (pickAll_mem hx), fun x hx => anc_spec h2 x (mem_of_isD hx), ?_, fun l1 x l2 e hx => ?_, fun x y hx hy => apart_spec h5 x (mem_of_isD hx) y (mem_of_isD hy), ?_⟩
    · have := ordL_of _ [] 0 h3 (fun j => by rw [bit_zero]; simp) trivial
      simpa using this
    · rw [e] at h4
      exact behind_spec h4 hx
    · have hord : OrdL (pickAll (dops P ops.toList (Region.before ops) ops.toList 0) (canon (dops P ops.toList (Region.before ops) ops.toList 0) ((dops P ops.toList (Region.before ops) ops.toList 0).filter isHeavy) ((dops P ops.toList (Region.before ops) ops.toList 0).filter isHeavy) 0)).reverse := by
        have := ordL_of _ [] 0 h3 (fun j => by rw [bit_zero]; simp) trivial
        simpa using this
      intro i hi
      have hn := hord.nodup
      have hl := Nat.eq_of_beq_eq_true h6
      have hmem := nodup_covers (n := ops.size) hn (fun j hj => ?_) (by simpa using hl) hi
      · obtain ⟨x, hx, e⟩ := List.mem_map.1 hmem
        exact ⟨x, List.mem_reverse.1 hx, e⟩
      · obtain ⟨x, hx, e⟩ := List.mem_map.1 hj
        obtain ⟨o, ho, -⟩ := isD_of_mem (pickAll_mem (List.mem_reverse.1 hx))
        rw [← e]
        exact (Array.getElem?_eq_some_iff.1 ho).1
  · cases h
end Go.Eng
/- Drawn regions: blocks laid ahead; operands. -/
namespace Go.Eng

section
variable {E : Env} {c : Cx} {H : Heap} {w : World}

/-- a block is laid here ahead of the machine -/
theorem Hs.lay (hH : Hs E c H w) (hlim : H.next < E.lim) (x : AH) : Hs E c (newH E H x) w := by
  have hg : ∀ b', b' < E.lim → hget E (newH E H x) b' = if b' = H.next then x else hget E H b' := fun b' hb' => hget_newH hH.limD H hlim hb' x
  have hold : ∀ b' X, c.rho b' = some X → hget E (newH E H x) b' = hget E H b' := fun b' X hr => by
    have h := hH.rlt b' X hr
    rw [hg b' (hH.lim h), if_neg (by omega)]
  have hnx : (newH E H x).next = H.next + 1 := rfl
  refine ⟨hH.limD, hH.N, hH.sig, by rw [hnx]; omega, fun b hb hr => ?_, fun b X hr => by rw [hnx]; have := hH.rlt b X hr; omega, fun b B k hb hr h1 => ?_, fun b b' B k k' hb hb' hr hr' h1 h2 => ?_, hH.base, hH.cap, hH.glt, hH.olt, hH.own⟩
  · rw [hg b hb] at hr
    rw [hnx]
    split at hr
    · omega
    · have := hH.dom b hb hr; omega
  · rw [hold b _ h1] at hr ⊢
    exact hH.blk b B k (hH.rlt b _ h1) hr h1
  · rw [hold b _ h1] at hr
    rw [hold b' _ h2] at hr'
    exact hH.inj b b' B k k' (hH.rlt b _ h1) (hH.rlt b' _ h2) hr hr' h1 h2
theorem Ext.lay (hH : Hs E c H w) (hlim : H.next < E.lim) (x : AH) : Ext E c H w c (newH E H x) w :=
  ⟨.refl c, Nat.le_refl _, fun _ _ _ => rfl, fun _ _ h => h, rfl, rfl, rfl, Nat.le_succ _, Nat.le_refl _, fun _ _ => rfl, [H.next], rfl, fun b hb hn => by
    rw [hget_newH hH.limD H hlim hb x, if_neg (by simpa using hn)]⟩

/-- the machine lays it too -/
theorem Hs.adopt (hH : Hs E c H w) {b : Nat} {x : AH} {obj : Obj} (hb : b < H.next) (hr : c.rho b = none) (hg : hget E H b = x)
    (hx : ∀ (c' : Cx) (w' : World) (B : Nat), c.Le c' → w'.heap[B]? = some obj → Bk E c' w' x B 0) : Hs E (c.at b w.heap.size 0) H (World.push w obj) := by
  have hle : c.Le (c.at b w.heap.size 0) := Cx.at_le hr
  have hsz : (World.push w obj).heap.size = w.heap.size + 1 := Array.size_push _
  have hoth : ∀ B', B' < w.heap.size → (World.push w obj).heap[B']? = w.heap[B']? := fun B' h => push_old _ _ h
  have hmm : ∀ Bm, MapMono w (World.push w obj) Bm := fun Bm ents clock he => (MapMono.of_eq (hoth Bm (by
    have := (Array.getElem?_eq_some_iff.1 he).1; exact this))) ents clock he
  have hrkk : ∀ Bm, RowKeep w (World.push w obj) Bm := fun Bm cs e fr he => (RowKeep.of_eq (hoth Bm (by
    have := (Array.getElem?_eq_some_iff.1 he).1; exact this))) cs e fr he
  have hat : ∀ b', b' ≠ b → (c.at b w.heap.size 0).rho b' = c.rho b' := fun b' e => by simp [Cx.at, e]
  have hatn : (c.at b w.heap.size 0).rho b = some (w.heap.size, 0) := by simp [Cx.at]
  refine ⟨hH.limD, by rw [hsz]; have := hH.N; show c.N ≤ _; omega, hH.sig, hH.next, hH.dom, fun b' X hX => ?_, fun b' B' k' hb' hr' h1 => ?_, fun b1 b2 B1 k1 k2 hb1 hb2 hr1 hr2 e1 e2 => ?_, fun b' B' k' h1 => ?_, hH.cap, hH.glt, hH.olt, fun j g b sz h1 h2 => own_mono hle hrkk (hH.own j g b sz h1 h2)⟩
  · by_cases e : b' = b
    · subst e; exact hb
    · rw [hat b' e] at hX; exact hH.rlt b' X hX
  · by_cases e : b' = b
    · subst e
      rw [hatn] at h1; cases h1
      rw [hg]
      exact hx _ _ _ hle (push_new _ _)
    · rw [hat b' e] at h1
      exact (hH.blk b' B' k' hb' hr' h1).mono hle (hoth B' (hH.base b' B' k' h1).2) hmm
  · by_cases ea : b1 = b <;> by_cases eb : b2 = b
    · rw [ea, eb]
    · subst ea
      rw [hatn] at e1; rw [hat b2 eb] at e2
      have := (hH.base b2 B1 k2 e2).2
      simp at e1; omega
    · subst eb
      rw [hatn] at e2; rw [hat b1 ea] at e1
      have := (hH.base b1 B1 k1 e1).2
      simp at e2; omega
    · rw [hat b1 ea] at e1; rw [hat b2 eb] at e2
      exact hH.inj b1 b2 B1 k1 k2 hb1 hb2 hr1 hr2 e1 e2
  · by_cases e : b' = b
    · subst e
      rw [hatn] at h1; cases h1
      exact ⟨hH.N, by rw [hsz]; omega⟩
    · rw [hat b' e] at h1
      have := hH.base b' B' k' h1
      exact ⟨this.1, by rw [hsz]; omega⟩
theorem Ext.adopt {c0 : Cx} {H0 : Heap} {w0 : World} (he : Ext E c0 H0 w0 c H w) {b : Nat} {obj : Obj} (hr : c.rho b = none) (hb : H0.next ≤ b) : Ext E c0 H0 w0 (c.at b w.heap.size 0) H (World.push w obj) := by
  have hsz : (World.push w obj).heap.size = w.heap.size + 1 := Array.size_push _
  refine ⟨he.le.trans (Cx.at_le hr), by rw [hsz]; have := he.size; omega, fun B hB hn => (push_old _ _ (Nat.lt_of_lt_of_le hB he.size)).trans (he.keep B hB hn), ?_, he.tape, he.os, he.output, he.next, he.ncap, fun b' hb' => ?_, he.log⟩
  · rintro B hB ⟨b', k', h3⟩
    by_cases e : b' = b
    · subst e
      simp [Cx.at] at h3
      have := he.size
      omega
    · refine he.im B hB ⟨b', k', ?_⟩
      simpa [Cx.at, e] using h3
  · rw [← he.rhoOld b' hb']
    have : b' ≠ b := by omega
    simp [Cx.at, this]

/-- what is alike is as good -/
theorem Hs.alike {K : Heap} (hK : Alike E H K) (h : Hs E c K w) : Hs E c H w :=
  ⟨h.limD, h.N, h.sig, by rw [← hK.next]; exact h.next, fun b hb hr => by rw [← hK.next]; exact h.dom b hb (by rw [hK.get]; exact hr), fun b X hX => by rw [← hK.next]; exact h.rlt b X hX,
   fun b B k hb hr h1 => by rw [← hK.get]; exact h.blk b B k (by rw [hK.next]; exact hb) (by rw [hK.get]; exact hr) h1,
   fun b b' B k k' hb hb' hr hr' h1 h2 => h.inj b b' B k k' (by rw [hK.next]; exact hb) (by rw [hK.next]; exact hb') (by rw [hK.get]; exact hr) (by rw [hK.get]; exact hr') h1 h2,
   h.base, fun j lo hi hj => h.cap j lo hi (by rw [hK.caps]; exact hj), fun j g hg => by rw [← hK.ncap]; exact h.glt j g hg, fun j g hg => by rw [← hK.ncap]; exact h.olt j g hg, h.own⟩
theorem Ext.alike {c' : Cx} {w' : World} {K : Heap} (hK : Alike E H K) (h : Ext E c H w c' K w') : Ext E c H w c' H w' :=
  ⟨h.le, h.size, h.keep, h.im, h.tape, h.os, h.output, Nat.le_refl _, Nat.le_refl _, h.rhoOld, [], rfl, fun _ _ _ => rfl⟩
end

/-! ### the guard -/
def GYes (gd : Option (Src × Bool)) (l : List AV) (tm : AH) : Prop := ∀ A B : Res, guardR gd l tm A B = A
def GNo (gd : Option (Src × Bool)) (l : List AV) (tm : AH) : Prop := ∀ A B : Res, guardR gd l tm A B = B
theorem guard_cases (gd : Option (Src × Bool)) (l : List AV) (tm : AH) : GYes gd l tm ∨ GNo gd l tm ∨ ∀ A B : Res, ∃ n, guardR gd l tm A B = .fail n := by
  cases gd with
  | none => exact .inl fun _ _ => rfl
  | some p =>
    obtain ⟨s, want⟩ := p
    have e : ∀ A B : Res, guardR (some (s, want)) l tm A B = onBoolTup (ev s l tm) (fun b => match b, want with | true, true => A | false, false => A | _, _ => B) (fun _ => B) (.fail 206) := fun _ _ => rfl
    cases hq : ev s l tm <;> first
      | (right; right; intro A B; refine ⟨206, ?_⟩; rw [e, hq]; rfl)
      | skip
    · rename_i q
      cases q <;> cases want
      · left; intro A B; rw [e, hq]; rfl
      · right; left; intro A B; rw [e, hq]; rfl
      · right; left; intro A B; rw [e, hq]; rfl
      · left; intro A B; rw [e, hq]; rfl
    · right; left; intro A B; rw [e, hq]; rfl

theorem guard_spec' {Φ : Res → Prop} (hf : ∀ n, Φ (.fail n)) {c : Cx} {M d nt : Nat} {ks : List (Option Nat)} {l : List AV} {tm : AH} {a : Act} {o : Oper} {ops : Array Oper}
    (hsrc : ∀ t, t ∈ gdOf ops.toList o → V c (ev (srcOf M d nt ks (.tmp t)) l tm) (a.eval (.tmp t)))
    {yes no : Res} (hy : Region.wanted o (yielded ops a.tmps) = true → Φ yes) (hn : Region.wanted o (yielded ops a.tmps) = false → Φ no) :
    Φ (guardR (prepOp M d nt ops.toList ks o).gd l tm yes no) := by
  unfold prepOp
  simp only
  cases hg : o.guard with
  | none => exact hy (by simp [Region.wanted, hg])
  | some g =>
    obtain ⟨j, want⟩ := g
    simp only
    have hbad : Φ (guardR (some (Src.bad, want)) l tm yes no) := hf _
    cases hj : ops.toList[j]? with
    | none => exact hbad
    | some o' =>
      simp only
      cases ht' : o'.dst with
      | none => exact hbad
      | some t =>
        simp only
        have hj' : ops[j]? = some o' := by rw [← Array.getElem?_toList]; exact hj
        have hv := hsrc t (by unfold gdOf; rw [hg]; simp only [hj, ht']; exact List.mem_singleton.2 rfl)
        show Φ (onBoolTup (ev (srcOf M d nt ks (.tmp t)) l tm) _ _ _)
        rw [onBoolTup_eq]
        generalize ev (srcOf M d nt ks (.tmp t)) l tm = q at hv
        split
        · rename_i b
          have hb : a.tmps.getD t undef = .bool b := hv.bool_inv
          have hyd : yielded ops a.tmps j = some b := by
            unfold yielded
            simp only [hj', Option.bind_some, ht']
            rw [Array.getD_eq_getD_getElem?] at hb
            cases h2 : a.tmps[t]? with
            | none => rw [h2] at hb; cases hb
            | some y => rw [h2] at hb; simp only [Option.getD_some] at hb; subst hb; rfl
          have hw : Region.wanted o (yielded ops a.tmps) = (b == want) := by
            simp [Region.wanted, hg, hyd]
          cases b <;> cases want
          · exact hy (by rw [hw]; rfl)
          · exact hn (by rw [hw]; rfl)
          · exact hn (by rw [hw]; rfl)
          · exact hy (by rw [hw]; rfl)
        · rename_i y
          obtain ⟨cs, e, -⟩ := hv
          have e' : a.tmps.getD t undef = .tuple cs := by simpa [Act.eval] using e
          have hyd : yielded ops a.tmps j = none := by
            unfold yielded
            simp only [hj', Option.bind_some, ht']
            rw [Array.getD_eq_getD_getElem?] at e'
            cases h2 : a.tmps[t]? with
            | none => rfl
            | some y => rw [h2] at e'; simp only [Option.getD_some] at e'; subst e'; rfl
          exact hn (by simp [Region.wanted, hg, hyd])
        · exact hf _
end Go.Eng
